/- The walk of the law SumsFew. -/
import Derived.Test.YtecokglofocgiaaLawF
import Derived.Test.YtecokglofocgiaaOpen
namespace Go.Proofs.Ytecokglofocgiaa
set_option linter.unusedVariables false
set_option linter.unusedSimpArgs false
open Go.RowKit

/-- the positions, each once -/
def once (n : Nat) : List Nat → List Nat
  | l => l.foldl (fun acc x => if x % n ∈ acc then acc else acc ++ [x % n]) []
theorem once_snoc (n : Nat) (l : List Nat) (k : Nat) (h : k < l.length) : once n (l.take (k + 1)) = if l[k] % n ∈ once n (l.take k) then once n (l.take k) else once n (l.take k) ++ [l[k] % n] := by
  unfold once; rw [List.take_succ_eq_append_getElem h, List.foldl_append]; rfl
theorem once_inv (n : Nat) (hn : 0 < n) (l : List Nat) (k : Nat) : (once n (l.take k)).Nodup ∧ (∀ p ∈ once n (l.take k), p < n) ∧ (once n (l.take k)).length ≤ k := by
  induction k with
  | zero => simp [once]
  | succ k ih =>
    by_cases h : k < l.length
    · rw [once_snoc n l k h]
      by_cases hm : l[k] % n ∈ once n (l.take k)
      · rw [if_pos hm]; exact ⟨ih.1, ih.2.1, by omega⟩
      · rw [if_neg hm]
        refine ⟨?_, ?_, by rw [List.length_append]; simp; omega⟩
        · rw [List.nodup_append]
          refine ⟨ih.1, by simp, ?_⟩
          intro a ha b hb
          simp at hb
          subst hb
          intro e
          subst e
          exact hm ha
        · intro p hp
          rw [List.mem_append] at hp
          rcases hp with hp | hp
          · exact ih.2.1 p hp
          · simp at hp; subst hp; exact Nat.mod_lt _ hn
    · have e1 : l.take (k + 1) = l := List.take_of_length_le (by omega)
      have e2 : l.take k = l := List.take_of_length_le (by omega)
      rw [e2] at ih
      rw [e1]
      exact ⟨ih.1, ih.2.1, by omega⟩

/-- which places have been seen -/
def boolV (b : Bool) : Value := .bool b
def seenV (n : Nat) (acc : List Nat) : List Value := (List.range n).map fun p => boolV (decide (p ∈ acc))
theorem seenV_get (n : Nat) (acc : List Nat) (p : Nat) (h : p < n) : (seenV n acc)[p]? = some (.bool (decide (p ∈ acc))) := by simp [seenV, h, boolV]
theorem seenV_set (n : Nat) (acc : List Nat) (p : Nat) : (seenV n acc).set p (.bool true) = seenV n (acc ++ [p]) := by
  apply List.ext_getElem?
  intro i
  rw [List.getElem?_set]
  by_cases hi : i < n
  · rw [seenV_get _ _ _ hi, seenV_get _ _ _ hi]
    by_cases h : p = i
    · subst h; simp [seenV, hi]
    · rw [if_neg h]; simp [Ne.symm h]
  · rw [List.getElem?_eq_none (by simp [seenV]; omega), List.getElem?_eq_none (by simp [seenV]; omega)]
    split
    · rw [if_neg (by simp [seenV]; omega)]
    · rfl
theorem infoBool : (Try.prog.info? 4).map (fun i => (i.zero, i.size, i.bytes)) = some (some (.bool false), 1, 1) := by kernel_rfl

/-- what is detected -/
theorem few_seen (l : List Nat) (n : Nat) (hn : n ≤ 2260) (hd : l.Nodup) (hp : ∀ p ∈ l, p < n) (h0 : l.length ≠ 0) (h : ¬ (3 < l.length ∧ l.length % 2 = 0)) : crcBits 0 (errL l n) ≠ 0 := by
  by_cases ho : l.length % 2 = 1
  · exact odd_seen _ (by rw [parL_err l n hp]; simp [ho])
  · obtain ⟨i, j, rfl⟩ : ∃ i j, l = [i, j] := by
      have h2 : l.length = 2 := by omega
      match l, h2 with
      | [i, j], _ => exact ⟨i, j, rfl⟩
    have hne : i ≠ j := by simp at hd; exact hd
    have hi := hp i (by simp)
    have hj := hp j (by simp)
    have hlen : (errL [i, j] n).length = n := by simp [errL]
    have hiff : ∀ k, (errL [i, j] n)[k]? = some true ↔ k = i ∨ k = j := fun k => by
      rw [errL_true, errB_nodup _ hd]
      simp
      omega
    rcases Nat.lt_or_gt_of_ne hne with h1 | h1
    · exact two_seen _ i j h1 (by omega) (by omega) hiff
    · exact two_seen _ j i h1 (by omega) (by omega) fun k => (hiff k).trans Or.comm

theorem made_false (n : Nat) : (madeCells (Value.bool false).cells (n * 1)).toList = seenV n [] := by
  apply List.ext_getElem?
  intro i
  by_cases hi : i < n
  · rw [seenV_get _ _ _ hi]
    simp [madeCells, Value.cells, hi, Nat.mod_one]
  · rw [List.getElem?_eq_none (by simp [madeCells, Value.cells]; omega), List.getElem?_eq_none (by simp [seenV]; omega)]

set_option maxHeartbeats 2000000 in
set_option maxRecDepth 100000 in
theorem walk_SumsFew (W : World) (A1 : Option Addr) (b : List UInt8) (c1 : Nat) (h1 : RdB W A1 b) (hc1 : b.length ≤ c1) (hs1 : c1 ≤ 140737488351232)
    (A2 : Option Addr) (l : List Nat) (c2 : Nat) (h2 : RdN .u16 W A2 l ∧ ∀ m ∈ l, m < 65536) (hc2 : l.length ≤ c2) (hs2 : c2 ≤ 140737488351232) :
    Calls Try.prog 8 #[.slice A1 b.length c1, .slice A2 l.length c2] W fun e w' => e = .returned (.bool true) ∧ Below W.heap.size W w' := by
  obtain ⟨h2, hwf⟩ := h2
  by_cases hl : b.length > 280
  · go_enter Try.func8, Try.ntmps8
    go_wp2_with (first | (go_at_call 9; (with_reducible refine (lives_any _).mono ?_); rintro e w1 ⟨rfl, hB⟩) | fail)
    go_ret
    exact ⟨rfl, hB⟩
  by_cases hl2 : l.length > 40
  · go_enter Try.func8, Try.ntmps8
    go_wp2_with (first | (go_at_call 9; (with_reducible refine (lives_any _).mono ?_); rintro e w1 ⟨rfl, hB⟩) | fail)
    go_ret
    exact ⟨rfl, hB⟩
  obtain ⟨n, hn⟩ : ∃ n, n = 8 * (b.length + 2) := ⟨_, rfl⟩
  have e0 : 8 * ((b.length : Int) + 2) = (n : Int) := by omega
  have hn1 : 16 ≤ n := by omega
  have hn2 : n ≤ 2256 := by omega
  have HN := Lib.hid hn
  clear hn
  obtain ⟨i0, hi0, hz0, hz1, hz2⟩ := info_parts infoBool
  have hby : i0.bytes * n ≤ 281474976710656 := by rw [hz2]; omega
  go_enter Try.func8, Try.ntmps8
  go_wp2_with (first
    | ((with_reducible refine at_dst 26 rfl ?_)
       refine wpList_make_full _ rfl (.tmp 25) (.tmp 25) 43 rfl W.heap.size 4 i0 (.bool false) 1 Try.underlying43 hi0 hz0 hz1 .i64 .i64 n n n rfl rfl rfl rfl hby (by simp only [maxLen]; omega) (Nat.le_refl _) ?_
       intro w2 hown2 hg2)
    | fail)
  have hB2 : Below W.heap.size W w2 := (Below.refl _ _).grown hg2 (Nat.le_refl _) (by simp)
  rw [made_false] at hown2
  obtain ⟨A3, c3, e3, hS⟩ := Row.of_own hown2
  injection e3 with e3 e4 e5
  subst e3
  subst e5
  clear hown2 hg2 hby hi0 hz0 hz1 hz2
  have hgs := (Row.lt hS W.heap.size rfl).2
  have HWF := Lib.hid hwf
  clear hwf e4
  go_loopw [6, 8, 9] (fun v i _ wr => ∃ k : Nat, k ≤ l.length ∧ i = .int .i64 k ∧ (∃ A c, v = .slice A (once n (l.take k)).length c ∧ RowI wr W.heap.size A c (once n (l.take k)) ∧ Apart A (some ⟨W.heap.size, 0, none⟩)) ∧
      Row wr W.heap.size 4 1 (some ⟨W.heap.size, 0, none⟩) n n (seenV n (once n (l.take k))) ∧ Below W.heap.size W wr) (fun _ i _ _ => l.length - (intOf i).toNat)
  case atStart => exact ⟨0, by omega, rfl, ⟨none, 0, rfl, Row.nil _ _ _ _, Apart.none _⟩, hS, hB2⟩
  case round =>
    clear hS hB2 hgs
    obtain ⟨k, hk, rfl, ⟨A, c, rfl, hR, hap⟩, hS, hB⟩ := hrel
    by_cases hlt : k < l.length
    · obtain ⟨ad, e, hc⟩ := (h2.below hB).get hlt
      subst e
      have hx := HWF.out _ (List.getElem_mem hlt)
      have hsn := once_snoc n l k hlt
      have hlen := (once_inv n (by omega) l k).2.2
      have hxn : l[k] % n < n := Nat.mod_lt _ (by omega)
      generalize l[k] = x at *
      have e1 : (x : Int) % (n : Int) = ((x % n : Nat) : Int) := by simp
      have e2 : Int.tmod (x : Int) (n : Int) = ((x % n : Nat) : Int) := by rw [Int.tmod_eq_emod_of_nonneg (by omega)]; exact e1
      generalize x % n = p at *
      generalize once n (l.take k) = acc at *
      have hcell := Row.cell hS (seenV_get n acc p hxn)
      have hfr := Row.free hS p
      have hsz := hB.size
      by_cases hm : p ∈ acc
      · rw [if_pos hm] at hsn
        rw [decide_eq_true hm] at hcell
        have HS := Lib.hid hsn
        clear hsn hm
        go_wp2
        go_roundw
        case rel => exact ⟨k + 1, by omega, by go_num, ⟨A, c, by rw [HS.out], by rw [HS.out]; exact hR, hap⟩, by rw [HS.out]; exact hS, hB⟩
        case measure => simp [intOf]; omega
      · rw [if_neg hm] at hsn
        rw [decide_eq_false hm] at hcell
        have hS2 := Row.set hS p (.bool true)
        rw [seenV_set] at hS2
        have hlt2 := Row.lt hR
        have hR2 : RowI (wr.setCell ⟨W.heap.size, p, none⟩ (.bool true)) W.heap.size A c acc := Row.setOther hR (p := ⟨W.heap.size, p, none⟩) (fun j hj e => hap j hj (by simp [e])) _
        have hB3 : Below W.heap.size W (wr.setCell ⟨W.heap.size, p, none⟩ (.bool true)) := hB.setCell (p := ⟨W.heap.size, p, none⟩) (Nat.le_refl _) _
        have hal : (acc ++ [p]).length ≤ 1000 := by simp; omega
        generalize hacc : acc ++ [p] = acc2 at *
        have HS := Lib.hid hsn
        have HA := Lib.hid hacc
        have HM := Lib.hid hm
        clear hsn hm hacc hlt2
        go_wp2_with (first
          | ((with_reducible refine at_dst 51 rfl ?_)
             refine append_int rfl (.tmp 48) (.tmp 50) rfl W.heap.size A acc.length c acc rfl rfl (Row.alloc hR2 _) wr.heap.size p rfl (by rw [show wr.heap.size = (wr.setCell ⟨W.heap.size, p, none⟩ (.bool true)).heap.size by simp [World.setCell], cell_of_row _ _ _ _ _ _ (heap_alloc_new _ _)]; simp) acc2 HA.out.symm (by omega) W (below_alloc hB3 _) (by simp [World.setCell]; omega) ?_
             intro A4 c4 w4 h4 hg4 hB4 hsz4 hA4)
          | fail)
        have hgs := (Row.lt hS W.heap.size rfl).2
        have hS4 := Row.kept (Row.alloc hS2 _) hg4 (fun j hj e => hap j e hj)
        have hap4 : Apart A4 (some ⟨W.heap.size, 0, none⟩) := by
          rcases hA4 with rfl | rfl
          · exact hap
          · intro j hj e
            simp [World.setCell] at hj e
            omega
        go_roundw
        case rel => exact ⟨k + 1, by omega, by go_num, ⟨A4, c4, by rw [HS.out], by rw [HS.out]; exact h4, hap4⟩, by rw [HS.out]; exact hS4, hB4⟩
        case measure => simp [intOf]; omega
    · obtain rfl : k = l.length := by omega
      rw [List.take_length] at *
      have hinv := once_inv n (by omega) l l.length
      rw [List.take_length] at hinv
      have hpos : ∀ p ∈ once n l, p < 8 * (b.length + 2) := fun p hp => by have := hinv.2.1 p hp; have := HN.out; omega
      have hzero : (once n l).length = 0 → crcBits 0 (errL (once n l) (8 * (b.length + 2))) = 0 := fun h => by
        rw [List.length_eq_zero_iff.1 h]
        exact crcBits_err_nil _
      have hfew : (once n l).length ≠ 0 → crcBits 0 (errL (once n l) (8 * (b.length + 2))) = 0 → 3 < (once n l).length ∧ (once n l).length % 2 = 0 := fun h hz => by
        by_cases hq : 3 < (once n l).length ∧ (once n l).length % 2 = 0
        · exact hq
        · exact absurd hz (few_seen _ _ (by have := HN.out; omega) hinv.1 hpos h hq)
      have hlen := hinv.2.2
      have hch := changed_any A1 b c1 A (once n l) c wr (h1.below hB) (Row.rd hR) (by omega) (by omega) (fun k h => hpos _ (List.getElem_mem h))
      have hck := fun A' c' w' => check_flips b (once n l) A' c' w'
      have hfl : (flips (b ++ fcs b) (once n l)).length ≤ 282 := by rw [flips_len]; simp [fcs]; omega
      clear hS hR
      generalize flips (b ++ fcs b) (once n l) = sl at *
      generalize crcBits 0 (errL (once n l) (8 * (b.length + 2))) = Z at *
      generalize once n l = q at *
      have HZ := Lib.hid hzero
      have HF := Lib.hid hfew
      have HCH := Lib.hid hch
      have HCK := Lib.hid hck
      clear hzero hfew hch hck hpos hinv
      by_cases h0 : q.length = 0
      · have e3 : ((q.length : Int) == 0) = true := by rw [h0]; rfl
        have hz := HZ.out h0
        have H0 := Lib.hid h0
        clear h0
        go_wp2_with fail
        refine HCH.out.mono ?_
        rintro e w2 ⟨A2, c2, rfl, hR2, hB2⟩
        have hcap := Row.le hR2
        go_wp2_with fail
        refine (HCK.out _ _ _ hR2.rd hcap (by omega)).mono ?_
        rintro e w3 ⟨h3, hB3⟩
        rcases h3 with ⟨_, A3, k3, rfl⟩ | ⟨h4, _⟩
        · go_wp2_with (first | (go_at_call 9; (with_reducible refine (lives_any _).mono ?_); rintro e w4 ⟨rfl, hB4⟩) | fail)
          go_ret
          exact ⟨rfl, below_then hB (below_then hB2 (below_then hB3 hB4))⟩
        · exact absurd hz h4
      · have e3 : ((q.length : Int) == 0) = false := by simp; exact fun h => h0 (by rw [h]; rfl)
        have hf := HF.out h0
        have H0 := Lib.hid h0
        have HFF := Lib.hid hf
        clear h0 hf
        go_wp2_with fail
        refine HCH.out.mono ?_
        rintro e w2 ⟨A2, c2, rfl, hR2, hB2⟩
        have hcap := Row.le hR2
        go_wp2_with fail
        refine (HCK.out _ _ _ hR2.rd hcap (by omega)).mono ?_
        rintro e w3 ⟨h3, hB3⟩
        rcases h3 with ⟨h4, A3, k3, rfl⟩ | ⟨_, rfl⟩
        · obtain ⟨f1, f2⟩ := HFF.out h4
          have g1 : (3 : Int) < (q.length : Int) := by omega
          have g2 : (q.length : Int) % 2 = 0 := by omega
          go_wp2_with (first | (go_at_call 9; (with_reducible refine (lives_any _).mono ?_); rintro e w4 ⟨rfl, hB4⟩) | fail)
          go_ret
          exact ⟨rfl, below_then hB (below_then hB2 (below_then hB3 hB4))⟩
        · go_wp2_with (first | (go_at_call 9; (with_reducible refine (lives_any _).mono ?_); rintro e w4 ⟨rfl, hB4⟩) | fail)
          go_ret
          exact ⟨rfl, below_then hB (below_then hB2 (below_then hB3 hB4))⟩
end Go.Proofs.Ytecokglofocgiaa
