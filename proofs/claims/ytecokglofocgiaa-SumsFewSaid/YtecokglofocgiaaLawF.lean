/- The walk of the law SumsBursts. -/
import Derived.Test.YtecokglofocgiaaLawE
namespace Go.Proofs.Ytecokglofocgiaa
set_option linter.unusedVariables false
set_option linter.unusedSimpArgs false
open Go.RowKit

/-- rows of ints -/
def RowI (w : World) (B : Nat) (A : Option Addr) (c : Nat) (l : List Nat) : Prop := Row w B 3 1 A l.length c (l.map intV)
theorem int_one (l : List Nat) : ∀ u ∈ l.map intV, u.oneCell' = true := by
  intro v hv; simp at hv; obtain ⟨b, _, rfl⟩ := hv; rfl
/-- append(l, x) on ints -/
theorem append_int {w : World} {ops : Array Oper} {rest : List Oper} {o : Oper} {a : Act} {Q : Exit → Act → World → Prop} (hgd : o.guard = none) (s x : Operand)
    (ho : o.op = .call { callee := .builtin .append, args := #[s, x], argTypes := #[39, 39] })
    (B : Nat) (A : Option Addr) (n c : Nat) (la : List Nat) (hs : a.eval s = .slice A n c) (hn : n = la.length) (hrow : RowI w B A c la)
    (g : Nat) (v : Nat) (hx : a.eval x = .slice (some ⟨g, 0, none⟩) 1 1) (hr : w.cell? ⟨g, 0, none⟩ = some (.int .i64 (v : Int)))
    (L : List Nat) (hL : L = la ++ [v]) (hlen : L.length ≤ 100000) (w0 : World) (hb : Below B w0 w) (hB : B ≤ w.heap.size)
    (h : ∀ A' c' w', RowI w' B A' c' L → w.grownBy w' (A.map (·.block)) → Below B w0 w' → B ≤ w'.heap.size → (A' = A ∨ A' = some ⟨w.heap.size, 0, none⟩) → wpList Try.prog ops Q rest (a.put o.dst (.slice A' L.length c')) w') :
    wpList Try.prog ops Q (o :: rest) a w := by
  subst hn hL
  rw [List.length_append] at hlen
  refine wpList_append_row hgd s x 39 ho B 3 _ 1 8 Try.underlying39 infoInt rfl A la.length c _ hs hrow (some ⟨g, 0, none⟩) 1 1 [intV v] hx (fun k u hk => ?_) rfl (by intro u hu; simp at hu; subst hu; rfl) (by simp only [maxLen]; simp at hlen; omega) (by simp at hlen; omega) hB ?_
  · cases k with
    | zero => simp at hk; subst hk; exact ⟨_, rfl, hr⟩
    | succ k => simp at hk
  · intro A' c' w' h1 h2 h3
    have h4 : RowI w' B A' c' (la ++ [v]) := by
      unfold RowI
      rw [List.length_append, List.map_append]
      exact h1
    have := h A' c' w' h4 h2 (hb.grown h2 hB (fun k hk => (Row.lt hrow k hk).1)) (Nat.le_trans hB h2.size) h3
    rwa [List.length_append] at this

theorem and_bit (v k : Nat) (h : v < 65536) : bits .and .u16 ((v : Int) / 2 ^ k) 1 = ((v.testBit k).toNat : Int) := by
  have e : (v : Int) / 2 ^ k = ((v / 2 ^ k : Nat) : Int) := by simp
  have hd : v / 2 ^ k ≤ v := Nat.div_le_self _ _
  rw [e, show (1 : Int) = ((1 : Nat) : Int) from rfl, and_u16 _ 1 (by omega) (by omega), Nat.and_one_is_mod, testBit_nat]
/-- the places of a burst -/
def blk (m burst n k : Nat) : List Nat := ((List.range k).filter fun j => burst.testBit j && decide (m + j < n)).map (m + ·)
theorem blk_snoc (m burst n k : Nat) : blk m burst n (k + 1) = blk m burst n k ++ (if (burst.testBit k && decide (m + k < n)) = true then [m + k] else []) := by
  unfold blk
  rw [List.range_succ, List.filter_append, List.map_append]
  congr 1
  by_cases h : (burst.testBit k && decide (m + k < n)) = true
  · rw [if_pos h, List.filter_cons, if_pos h]; rfl
  · rw [if_neg h, List.filter_cons, if_neg h]; rfl
theorem blk_len (m burst n k : Nat) : (blk m burst n k).length ≤ k := by
  unfold blk
  rw [List.length_map]
  exact Nat.le_trans (List.length_filter_le _ _) (by simp)
theorem blk_mem (m burst n k p : Nat) (h : p ∈ blk m burst n k) : m ≤ p ∧ p < m + k ∧ p < n := by
  unfold blk at h
  simp only [List.mem_map, List.mem_filter, List.mem_range, Bool.and_eq_true, decide_eq_true_eq] at h
  obtain ⟨j, ⟨h1, _, h2⟩, rfl⟩ := h
  omega
theorem blk_nodup (m burst n k : Nat) : (blk m burst n k).Nodup := by
  unfold blk
  refine List.Pairwise.map _ (fun a b (h : a ≠ b) => by omega) ?_
  exact List.Pairwise.filter _ List.nodup_range

set_option maxHeartbeats 2000000 in
set_option maxRecDepth 100000 in
theorem walk_SumsBursts (W : World) (A1 : Option Addr) (b : List UInt8) (c1 : Nat) (h1 : RdB W A1 b) (hc1 : b.length ≤ c1) (hs1 : c1 ≤ 140737488351232) (at' : Nat) (hat : at' < 65536) (burst : Nat) (hbu : burst < 65536) :
    Calls Try.prog 7 #[.slice A1 b.length c1, .int .u16 at', .int .u16 burst] W fun e w' => e = .returned (.bool true) ∧ Below W.heap.size W w' := by
  by_cases hl : b.length > 280
  · go_enter Try.func7, Try.ntmps7
    go_wp2_with (first | (go_at_call 9; (with_reducible refine (lives_any _).mono ?_); rintro e w1 ⟨rfl, hB⟩) | fail)
    go_ret
    exact ⟨rfl, hB⟩
  · obtain ⟨n, hn⟩ : ∃ n, n = 8 * (b.length + 2) := ⟨_, rfl⟩
    have e0 : 8 * ((b.length : Int) + 2) = (n : Int) := by omega
    have hn1 : 16 ≤ n := by omega
    have hn2 : n ≤ 2256 := by omega
    have HN := Lib.hid hn
    clear hn
    obtain ⟨m, hm⟩ : ∃ m, m = at' % n := ⟨_, rfl⟩
    have hmn : m < n := by rw [hm]; exact Nat.mod_lt _ (by omega)
    have e1 : (at' : Int) % (n : Int) = (m : Int) := by rw [hm]; simp
    have e2 : Int.tmod (at' : Int) (n : Int) = (m : Int) := by rw [Int.tmod_eq_emod_of_nonneg (by omega)]; exact e1
    clear hm
    go_enter Try.func7, Try.ntmps7
    go_wp2
    go_loopw [8, 9, 10] (fun v i _ wr => ∃ k : Nat, k ≤ 16 ∧ i = .int .i64 k ∧ (∃ A c, v = .slice A (blk m burst n k).length c ∧ RowI wr W.heap.size A c (blk m burst n k)) ∧ Below W.heap.size W wr) (fun _ i _ _ => 16 - (intOf i).toNat)
    case atStart => exact ⟨0, by omega, rfl, ⟨none, 0, rfl, Row.nil _ _ _ _⟩, Below.refl _ _⟩
    case round =>
      obtain ⟨k, hk, rfl, ⟨A, c, rfl, hR⟩, hB⟩ := hrel
      by_cases hlt : k < 16
      · have hsn := blk_snoc m burst n k
        have hlen := blk_len m burst n k
        generalize blk m burst n k = l at *
        have HSN := Lib.hid hsn
        have hsz := hB.size
        clear hsn
        have hbit := and_bit burst k hbu
        cases hb : burst.testBit k with
        | false =>
          rw [hb] at hbit
          replace hbit : bits .and .u16 ((burst : Int) / 2 ^ k) 1 = 0 := hbit
          have hl0 : blk m burst n (k + 1) = l := by rw [HSN.out, hb]; simp
          have HL := Lib.hid hl0
          clear hl0 hb HSN
          go_wp2
          go_roundw
          case rel => exact ⟨k + 1, by omega, by go_num, ⟨A, c, by rw [HL.out], by rw [HL.out]; exact hR⟩, hB⟩
          case measure => simp [intOf]; omega
        | true =>
          rw [hb] at hbit
          replace hbit : bits .and .u16 ((burst : Int) / 2 ^ k) 1 = 1 := hbit
          by_cases hp : m + k < n
          · have hl0 : blk m burst n (k + 1) = l ++ [m + k] := by rw [HSN.out, hb]; simp [hp]
            have hp' : (m : Int) + (k : Int) < (n : Int) := by omega
            generalize el : blk m burst n (k + 1) = l2 at *
            have hl2 : l2.length ≤ 100 := by rw [hl0]; simp; omega
            have HL := Lib.hid hl0
            have EL := Lib.hid el
            clear hl0 hb HSN el hp
            go_wp2_with (first
              | ((with_reducible refine at_dst 44 rfl ?_)
                 refine append_int rfl (.tmp 41) (.tmp 43) rfl W.heap.size A l.length c l rfl rfl (Row.alloc hR _) wr.heap.size (m + k) rfl (by rw [cell_of_row _ _ _ _ _ _ (heap_alloc_new _ _)]; simp) l2 HL.out (by omega) W (hB.alloc hsz _) (by simp; omega) ?_
                 intro A4 c4 w4 h4 hg4 hB4 hsz4 _)
              | fail)
            go_roundw
            case rel => exact ⟨k + 1, by omega, by go_num, ⟨A4, c4, by rw [EL.out], by rw [EL.out]; exact h4⟩, hB4⟩
            case measure => simp [intOf]; omega
          · have hl0 : blk m burst n (k + 1) = l := by rw [HSN.out, hb]; simp [hp]
            have hp' : ¬ ((m : Int) + (k : Int) < (n : Int)) := by omega
            have HL := Lib.hid hl0
            clear hl0 hb HSN hp
            go_wp2
            go_roundw
            case rel => exact ⟨k + 1, by omega, by go_num, ⟨A, c, by rw [HL.out], by rw [HL.out]; exact hR⟩, hB⟩
            case measure => simp [intOf]; omega
      · obtain rfl : k = 16 := by omega
        have hlen := blk_len m burst n 16
        have hpos : ∀ p ∈ blk m burst n 16, p < 8 * (b.length + 2) := fun p hp => by have := (blk_mem _ _ _ _ _ hp).2.2; have := HN.out; omega
        have hzero : (blk m burst n 16).length = 0 → crcBits 0 (errL (blk m burst n 16) (8 * (b.length + 2))) = 0 := fun h => by
          rw [List.length_eq_zero_iff.1 h]
          exact crcBits_err_nil _
        have hone : 0 < (blk m burst n 16).length → crcBits 0 (errL (blk m burst n 16) (8 * (b.length + 2))) ≠ 0 := fun h => by
          refine burst_seen _ m (fun k hk => ?_) ?_
          · have h2 := ((errL_true _ _ _).1 hk).2
            have := blk_mem _ _ _ _ _ (errB_mem _ _ h2)
            omega
          · obtain ⟨p, hp⟩ : ∃ p, p ∈ blk m burst n 16 := ⟨_, List.getElem_mem h⟩
            refine ⟨p, (errL_true _ _ _).2 ⟨hpos p hp, ?_⟩⟩
            rw [errB_nodup _ (blk_nodup _ _ _ _)]
            simpa using hp
        have hch := changed_any A1 b c1 A (blk m burst n 16) c wr (h1.below hB) (Row.rd hR) (by omega) (by omega) (fun k h => hpos _ (List.getElem_mem h))
        have hck := fun A' c' w' => check_flips b (blk m burst n 16) A' c' w'
        have hfl : (flips (b ++ fcs b) (blk m burst n 16)).length ≤ 282 := by rw [flips_len]; simp [fcs]; omega
        generalize flips (b ++ fcs b) (blk m burst n 16) = sl at *
        generalize crcBits 0 (errL (blk m burst n 16) (8 * (b.length + 2))) = Z at *
        generalize blk m burst n 16 = l at *
        have HZ := Lib.hid hzero
        have HO := Lib.hid hone
        have HCH := Lib.hid hch
        have HCK := Lib.hid hck
        clear hzero hone hch hck hpos
        by_cases h0 : l.length = 0
        · have e3 : ((l.length : Int) == 0) = true := by rw [h0]; rfl
          have hz := HZ.out h0
          obtain ⟨k0, hk0⟩ : ∃ k0, k0 = l.length := ⟨_, rfl⟩
          have H0 := Lib.hid h0
          clear h0
          go_wp2_with fail
          refine HCH.out.mono ?_
          rintro e w2 ⟨A2, c2, rfl, hR2, hB2⟩
          have hcap := Row.le hR2
          go_wp2_with fail
          refine (HCK.out _ _ _ hR2.rd hcap (by omega)).mono ?_
          rintro e w3 ⟨h3, hB3⟩
          rcases h3 with ⟨_, A3, k3, rfl⟩ | ⟨h4, _⟩
          · go_wp2_with (first | (go_at_call 9; (with_reducible refine (lives_any _).mono ?_); rintro e w4 ⟨rfl, hB4⟩) | fail)
            go_ret
            exact ⟨rfl, below_then hB (below_then hB2 (below_then hB3 hB4))⟩
          · exact absurd hz h4
        · have e3 : ((l.length : Int) == 0) = false := by simp; exact fun h => h0 (by rw [h]; rfl)
          have hz := HO.out (by omega)
          have H0 := Lib.hid h0
          clear h0
          go_wp2_with fail
          refine HCH.out.mono ?_
          rintro e w2 ⟨A2, c2, rfl, hR2, hB2⟩
          have hcap := Row.le hR2
          go_wp2_with fail
          refine (HCK.out _ _ _ hR2.rd hcap (by omega)).mono ?_
          rintro e w3 ⟨h3, hB3⟩
          rcases h3 with ⟨h4, _⟩ | ⟨_, rfl⟩
          · exact absurd h4 hz
          · go_wp2_with (first | (go_at_call 9; (with_reducible refine (lives_any _).mono ?_); rintro e w4 ⟨rfl, hB4⟩) | fail)
            go_ret
            exact ⟨rfl, below_then hB (below_then hB2 (below_then hB3 hB4))⟩
end Go.Proofs.Ytecokglofocgiaa
