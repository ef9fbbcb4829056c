/- Package frames: stuffed, Join, Frame. -/
import Derived.Test.YthbbmpelldglmaaDoorBits
import Derived.Test.YthbbmpelldglmaaDoorScan
import Derived.StillTailTactics
import Derived.Deep.QuietTactic
import Derived.BigQuiet
import Derived.Deep.RegionHeld3
namespace Go.Proofs.YthbbmpelldglmaaDoor
set_option linter.unusedVariables false
set_option linter.unusedSimpArgs false
open Go.RowKit

set_option maxHeartbeats 1000000 in
set_option maxRecDepth 100000 in
theorem stuffed_any (A : Option Addr) (l : List UInt8) (c : Nat) (w : World) (hA : RdB w A l) (hl : l.length ≤ 100000) :
    Calls Tryd.prog 79 #[.slice A l.length c] w fun e w' => ∃ A', e = .returned (.slice A' (stuff l).length (stuff l).length) ∧ RowB w' w.heap.size A' (stuff l).length (stuff l) ∧ Below w.heap.size w w' := by
  obtain ⟨n, hn⟩ : ∃ n, n = l.length + l.length / 5 := ⟨_, rfl⟩
  have h1 : Int.tdiv (l.length : Int) 5 = (l.length : Int) / 5 := Int.tdiv_eq_ediv_of_nonneg (by omega)
  have h8 : (l.length : Int) + (l.length : Int) / 5 = (n : Int) := by omega
  have hn2 : n ≤ 200000 := by omega
  have HN := Lib.hid hn
  clear hn
  go_enter Tryd.func79, Tryd.ntmps79
  go_wp2_with (first
    | ((with_reducible refine at_dst 13 rfl ?_)
       refine make_bytes0 rfl (.const (.int .i64 0)) (.tmp 12) rfl .i64 .i64 n n rfl rfl rfl (by omega) ?_
       intro w2 hS hB2)
    | fail)
  go_loopw [3, 4, 6, 16] (fun v o _ i wr => ∃ k : Nat, k ≤ l.length ∧ i = .int .i64 k ∧ ∃ p, p = stRun (l.take k) ∧ o = .int .i64 p.1 ∧ (∃ A2 c2, v = .slice A2 p.2.length c2 ∧ RowB wr w.heap.size A2 c2 p.2) ∧ Below w.heap.size w wr) (fun _ _ _ i _ => l.length - (intOf i).toNat)
  case atStart => exact ⟨0, by omega, rfl, (0, []), rfl, rfl, ⟨_, _, rfl, hS⟩, hB2⟩
  case round =>
    clear hS hB2
    obtain ⟨k, hk, rfl, p, hp, rfl, ⟨A2, c2, rfl, hR⟩, hB⟩ := hrel
    have hinv := stRun_inv l k
    rw [← hp] at hinv
    by_cases hlt : k < l.length
    · have hsn := stRun_snoc l k hlt
      rw [← hp] at hsn
      obtain ⟨ad, e, hc⟩ := (hA.below hB).get hlt
      subst e
      obtain ⟨o, t⟩ := p
      simp only at hinv hR
      obtain ⟨ho, ht⟩ := hinv
      have hbyte := l[k].toNat_lt
      generalize l[k] = b at *
      have htl : (t ++ [b]).length = t.length + 1 := by simp
      generalize htb : t ++ [b] = tb at *
      have HP := Lib.hid hp
      have HTL := Lib.hid htl
      have htl2 : tb.length ≤ 300000 := by omega
      have ht2 : t.length ≤ 300000 := by omega
      clear hp htl
      by_cases hb0 : b = 0
      · have e : stStep (o, t) b = (0, tb) := by rw [hb0] at htb ⊢; rw [← htb]; simp [stStep]
        rw [e] at hsn
        have HS := Lib.hid hsn
        have HTB := Lib.hid htb
        subst hb0
        clear hsn htb e
        go_wp2_with (first
          | ((with_reducible refine at_dst 23 rfl ?_)
             refine append_bytes rfl (.tmp 20) (.tmp 22) rfl w.heap.size A2 t.length c2 t rfl rfl (Row.alloc hR _) (some ⟨wr.heap.size, 0, none⟩) 1 1 [0] rfl rfl (rd_lit wr [0]) tb HTB.out.symm (by omega) w (below_alloc hB _) (by have := hB.size; simp; omega) ?_
             intro A4 c4 w4 h4 hg4 hB4 hsz4)
          | fail)
        go_roundw
        case rel => exact ⟨k + 1, by omega, by go_num, _, HS.out.symm, rfl, ⟨A4, c4, rfl, h4⟩, hB4⟩
        case measure => simp [intOf]; omega
      · have hne : ((b.toNat : Int) == 0) = false := by simpa using byte_ne (a := b) (b := 0) hb0
        have hne2 : ((b.toNat : Int) = 0) = False := by simpa using hne
        by_cases ho5 : o = 4
        · have e : stStep (o, t) b = (0, tb ++ [0]) := by rw [← htb]; simp [stStep, hb0, ho5]
          rw [e] at hsn
          have HS := Lib.hid hsn
          have HTB := Lib.hid htb
          have HNE := Lib.hid hb0
          subst ho5
          clear hsn htb e hb0
          go_wp2_with (first
            | ((with_reducible refine at_dst 23 rfl ?_)
               refine append_bytes rfl (.tmp 20) (.tmp 22) rfl w.heap.size A2 t.length c2 t rfl rfl (Row.alloc hR _) (some ⟨wr.heap.size, 0, none⟩) 1 1 [b] rfl rfl (rd_lit wr [b]) tb HTB.out.symm (by omega) w (below_alloc hB _) (by have := hB.size; simp; omega) ?_
               intro A4 c4 w4 h4 hg4 hB4 hsz4)
            | ((with_reducible refine at_dst 32 rfl ?_)
               refine append_bytes rfl (.tmp 30) (.tmp 31) rfl w.heap.size A4 tb.length c4 tb rfl rfl (Row.alloc h4 _) (some ⟨w4.heap.size, 0, none⟩) 1 1 [0] rfl rfl (rd_lit w4 [0]) (tb ++ [0]) rfl (by simp; omega) w (below_alloc hB4 _) (by simp; omega) ?_
               intro A5 c5 w5 h5 hg5 hB5 hsz5)
            | fail)
          go_roundw
          case rel => exact ⟨k + 1, by omega, by go_num, _, HS.out.symm, rfl, ⟨A5, c5, by simp, h5⟩, hB5⟩
          case measure => simp [intOf]; omega
        · have e : stStep (o, t) b = (o + 1, tb) := by
            rw [← htb]; simp [stStep, hb0, show ¬ o = 4 from ho5]
          rw [e] at hsn
          have HS := Lib.hid hsn
          have HTB := Lib.hid htb
          have HNE := Lib.hid hb0
          have hq : ((o : Int) + 1 == 5) = false := by simp; omega
          clear hsn htb e hb0
          go_wp2_with (first
            | ((with_reducible refine at_dst 23 rfl ?_)
               refine append_bytes rfl (.tmp 20) (.tmp 22) rfl w.heap.size A2 t.length c2 t rfl rfl (Row.alloc hR _) (some ⟨wr.heap.size, 0, none⟩) 1 1 [b] rfl rfl (rd_lit wr [b]) tb HTB.out.symm (by omega) w (below_alloc hB _) (by have := hB.size; simp; omega) ?_
               intro A4 c4 w4 h4 hg4 hB4 hsz4)
            | fail)
          go_roundw
          case rel => exact ⟨k + 1, by omega, by go_num, _, HS.out.symm, by go_num, ⟨A4, c4, rfl, h4⟩, hB4⟩
          case measure => simp [intOf]; omega
    · obtain rfl : k = l.length := by omega
      rw [List.take_length] at hp
      have hst : p.2 = stuff l := by rw [hp]; rfl
      have hle := Row.le hR
      have hcap := Row.cap_le hR
      rw [hst] at hR hle
      rw [hst]
      clear hp hst
      go_wp2_with (first
        | (go_at_call 62; (with_reducible refine (clip_any _ _ _ _ hle hcap).mono ?_); rintro e w3 ⟨rfl, rfl⟩)
        | fail)
      go_ret
      exact ⟨A2, rfl, Row.clip hR, hB⟩
set_option maxHeartbeats 1000000 in
set_option maxRecDepth 100000 in
theorem join1_any (A : Option Addr) (n c : Nat) (w : World) (h5 : 5 ≤ n) (h280 : n ≤ 280) :
    Calls Tryd.prog 78 #[.slice A n c] w fun e w' => e = .returned (.bool false) ∧ w = w' := by
  go_enter Tryd.func78, Tryd.ntmps78
  go_wp2
  go_ret
  refine ⟨?_, rfl⟩
  show Ending.returned (.bool (decide ((n : Int) < 5) || decide (280 < (n : Int)))) = _
  rw [decide_eq_false (by omega), decide_eq_false (by omega)]
  rfl

def Fits (ss : List (Option Addr × Nat × List UInt8)) : Prop := ∀ s ∈ ss, 5 ≤ s.2.2.length ∧ s.2.2.length ≤ 280

set_option maxHeartbeats 1000000 in
set_option maxRecDepth 100000 in
theorem indexJoin_any (A : Option Addr) (ss : List (Option Addr × Nat × List UInt8)) (c : Nat) (w : World) (hA : RdS w A ss) (hl : ss.length ≤ 1000) (hb : Fits ss) :
    Calls Tryd.prog 125 #[.slice A ss.length c, .func (.func 78) #[] #[]] w fun e w' => e = .returned (.int .i64 (-1)) ∧ w = w' := by
  have HB := Lib.hid hb
  clear hb
  go_enter Tryd.func125, Tryd.ntmps125
  go_wp2
  go_loop [5, 8] (fun _ i => ∃ k : Nat, k ≤ ss.length ∧ i = .int .i64 k) (fun _ i => ss.length - (intOf i).toNat)
  case atStart => exact ⟨0, by omega, rfl⟩
  case round =>
    obtain ⟨k, hk, rfl⟩ := hrel
    by_cases hlt : k < ss.length
    · obtain ⟨⟨ad, e, hc⟩, _⟩ := hA k _ (List.getElem?_eq_getElem hlt)
      subst e
      have hx := HB.out _ (List.getElem_mem hlt)
      generalize ss[k] = x at *
      have HX := Lib.hid hx
      clear hx
      go_wp2_with (first
        | (go_at_call 78; (with_reducible refine (join1_any _ _ _ _ HX.out.1 HX.out.2).mono ?_); rintro e w3 ⟨rfl, rfl⟩)
        | fail)
      go_round
      case rel => exact ⟨k + 1, by omega, by go_num⟩
      case measure => simp [intOf]; omega
    · go_wp2
      go_ret
      exact ⟨rfl, rfl⟩

set_option maxHeartbeats 1000000 in
set_option maxRecDepth 100000 in
theorem containsJoin_any (A : Option Addr) (ss : List (Option Addr × Nat × List UInt8)) (c : Nat) (w : World) (hA : RdS w A ss) (hl : ss.length ≤ 1000) (hb : Fits ss) :
    Calls Tryd.prog 77 #[.slice A ss.length c, .func (.func 78) #[] #[]] w fun e w' => e = .returned (.bool false) ∧ w = w' := by
  have H := Lib.hid (indexJoin_any A ss c w hA hl hb)
  go_enter Tryd.func77, Tryd.ntmps77
  go_wp2_with (first
        | (go_at_call 125; (with_reducible refine H.out.mono ?_); rintro e w3 ⟨rfl, rfl⟩)
        | fail)
  go_ret
  exact ⟨rfl, rfl⟩

/-- the flag's cells are there -/
def Flag (w : World) : Prop := RdB w (some ⟨0, 0, none⟩) flagL
theorem Flag.below {w w' : World} (h : Flag w) (hb : Below w.heap.size w w') : Flag w' := RdB.below h hb
theorem Flag.alloc {w : World} (h : Flag w) (o : Obj) : Flag (w.alloc o) := RdB.alloc h o
def conts (ss : List (Option Addr × Nat × List UInt8)) : List (List UInt8) := ss.map (·.2.2)

theorem RdS.below {w w' : World} {A : Option Addr} {ss : List (Option Addr × Nat × List UInt8)} (h : RdS w A ss) (hb : Below w.heap.size w w') : RdS w' A ss := by
  intro k s hk
  obtain ⟨⟨ad, e, hc⟩, hr⟩ := h k s hk
  exact ⟨⟨ad, e, cell_later hb hc⟩, hr.below hb⟩

set_option maxHeartbeats 2000000 in
set_option maxRecDepth 100000 in
theorem join_any (A : Option Addr) (ss : List (Option Addr × Nat × List UInt8)) (c : Nat) (w : World) (hA : RdS w A ss) (hl : ss.length ≤ 20) (hb : Fits ss) (hF : Flag w) :
    Calls Tryd.prog 18 #[.slice A ss.length c] w fun e w' => ∃ A', e = .returned (.tuple #[.slice A' (joined (conts ss)).length (joined (conts ss)).length, .int .i64 0]) ∧
      RowB w' w.heap.size A' (joined (conts ss)).length (joined (conts ss)) ∧ Below w.heap.size w w' := by
  have H := Lib.hid (containsJoin_any A ss c w hA (by omega) hb)
  have HB := Lib.hid hb
  clear hb
  have hcl : (conts ss).length = ss.length := by simp [conts]
  have hjl : ∀ k, k ≤ ss.length → (joined ((conts ss).take k)).length ≤ 8 + 4500 * k := fun k hk => joined_len (conts ss) (by
    intro d hd
    obtain ⟨s, hs, rfl⟩ := List.mem_map.1 hd
    exact (HB.out s hs).2) k (by omega)
  have HC := Lib.hid hcl
  clear hcl
  go_enter Tryd.func18, Tryd.ntmps18
  go_wp2_with (first
    | (go_at_call 77; (with_reducible refine H.out.mono ?_); rintro e w3 ⟨rfl, rfl⟩)
    | (go_at_call 70; (refine (clone_any (some ⟨0, 0, none⟩) 8 flagL _ hF (by decide)).mono ?_); rintro e w2 ⟨A2, c2, rfl, hR0, hB0⟩)
    | fail)
  go_loopw [4, 6, 13] (fun v _ i wr => ∃ k : Nat, k ≤ ss.length ∧ i = .int .i64 k ∧ (∃ J, J = joined ((conts ss).take k) ∧ ∃ A2 c2, v = .slice A2 J.length c2 ∧ RowB wr w.heap.size A2 c2 J) ∧ Below w.heap.size w wr) (fun _ _ i _ => ss.length - (intOf i).toNat)
  case atStart => exact ⟨0, by omega, rfl, ⟨flagL, rfl, A2, c2, rfl, hR0⟩, hB0⟩
  case round =>
    clear hR0 hB0
    obtain ⟨k, hk, rfl, ⟨J, hJ, A2, c2, rfl, hR⟩, hB⟩ := hrel
    have hJl := hjl k hk
    rw [← hJ] at hJl
    by_cases hlt : k < ss.length
    · obtain ⟨⟨ad, e, hc⟩, hrd⟩ := (hA.below hB) k _ (List.getElem?_eq_getElem hlt)
      subst e
      have hx := HB.out _ (List.getElem_mem hlt)
      have hsn := joined_snoc (conts ss) k (by have := HC.out; omega)
      rw [← hJ, show (conts ss)[k]'(by have := HC.out; omega) = ss[k].2.2 by simp [conts]] at hsn
      have hJl2 := hjl (k + 1) (by omega)
      rw [hsn] at hJl2
      generalize ss[k] = x at *
      obtain ⟨x1, x2, d⟩ := x
      simp only at hc hrd hx hsn hJl2
      have hof := fun w' h => bitsOf_any x1 d x2 w' h (by omega)
      have hblen : (bitsL d).length ≤ 8 * d.length := Nat.le_of_eq (bitsL_len d)
      have hst := fun A c w' h => stuffed_any A (bitsL d) c w' h (by have := bitsL_len d; omega)
      have hsl := stuff_len (bitsL d)
      generalize stuff (bitsL d) = S at *
      generalize hJ2 : J ++ S = J2 at *
      generalize hJ3 : J2 ++ flagL = J3 at *
      have hJ2l : J2.length ≤ 200000 := by rw [← hJ2, List.length_append]; omega
      have hJ3l : J3.length ≤ 200000 := by omega
      generalize bitsL d = bs at *
      have HJ := Lib.hid hJ
      have HJ2 := Lib.hid hJ2
      have HJ3 := Lib.hid hJ3
      have HS := Lib.hid hsn
      have HOF := Lib.hid hof
      have HST := Lib.hid hst
      have HX := Lib.hid hx
      clear hJ hJ2 hJ3 hsn hof hst hx
      have hFr := hF.below hB
      go_wp2
      go_region_held3 (fun w' => True)
        (trivial)
        (first
          | (go_at_call 80; (with_reducible refine (HOF.out _ (RdB.drew hrd)).mono ?_); rintro e w3 ⟨A3, c3, rfl, hR3, hB3⟩)
          | (go_at_call 79; (with_reducible refine (HST.out A3 c3 w3 hR3.rd).mono ?_); rintro e w4 ⟨A4, rfl, hR4, hB4⟩)
          | (refine step_bytes (by rfl) (.tmp 17) (.tmp 20) (by rfl) w.heap.size A2 J.length c2 J (by rfl) rfl (RowB.below (RowB.below (w := wr.drew) hR hB3) hB4) A4 S.length S.length S (by rfl) rfl hR4.rd J2 HJ2.out.symm (by omega) w ((Below.trans hB.drew (hB3.mono hB.size)).trans (hB4.mono (Nat.le_trans hB.size hB3.size))) (Nat.le_trans hB.size (Nat.le_trans hB3.size hB4.size)) ?_
             intro A5 c5 w5 h5 hg5 hB5 hsz5 hA5)
          | (refine step_bytes (by rfl) (.tmp 21) (.tmp 22) (by rfl) w.heap.size A5 J2.length c5 J2 (by rfl) rfl h5 (some ⟨0, 0, none⟩) 8 8 flagL (by rfl) rfl (hF.below hB5) J3 HJ3.out.symm (by omega) w hB5 hsz5 ?_
             intro A6 c6 w6 h6 hg6 hB6 hsz6 hA6)
          | fail)
      all_goals go_wp2
      go_roundw
      case rel => exact ⟨k + 1, by omega, by go_num, ⟨J3, HS.out.symm, A6, c6, rfl, h6⟩, hB6⟩
      case measure => simp [intOf]; omega
    · obtain rfl : k = ss.length := by omega
      have ht : (conts ss).take ss.length = conts ss := List.take_of_length_le (by have := HC.out; omega)
      rw [ht] at hJ
      have hle := Row.le hR
      have hcap := Row.cap_le hR
      subst hJ
      clear ht
      go_wp2_with (first
        | (go_at_call 62; (with_reducible refine (clip_any _ _ _ _ hle hcap).mono ?_); rintro e w3 ⟨rfl, rfl⟩)
        | fail)
      go_ret2
      exact ⟨A2, rfl, Row.clip hR, hB⟩
theorem rdS_one (w : World) (A : Option Addr) (c : Nat) (l : List UInt8) (hA : RdB w A l) :
    RdS (w.alloc (.cells #[.slice A l.length c] 27)) (some ⟨w.heap.size, 0, none⟩) [(A, c, l)] := by
  intro k s hk
  match k, hk with
  | 0, hk =>
    obtain rfl : (A, c, l) = s := by simpa using hk
    exact ⟨⟨_, rfl, by rw [add_lit, cell_of_row _ _ _ _ _ _ (heap_alloc_new _ _)]; rfl⟩, hA.alloc _⟩
  | k + 1, hk => simp at hk

set_option maxHeartbeats 1000000 in
set_option maxRecDepth 100000 in
theorem frame_any (A : Option Addr) (l : List UInt8) (c : Nat) (w : World) (hA : RdB w A l) (h5 : 5 ≤ l.length) (h280 : l.length ≤ 280) (hF : Flag w) :
    Calls Tryd.prog 84 #[.slice A l.length c] w fun e w' => ∃ A', e = .returned (.tuple #[.slice A' (joined [l]).length (joined [l]).length, .int .i64 0]) ∧
      RowB w' w.heap.size A' (joined [l]).length (joined [l]) ∧ Below w.heap.size w w' := by
  have hj := join_any (some ⟨w.heap.size, 0, none⟩) [(A, c, l)] 1 _ (rdS_one w A c l hA) (by simp) (by intro s hs; simp at hs; subst hs; exact ⟨h5, h280⟩) (hF.alloc _)
  have hcs : conts [(A, c, l)] = [l] := rfl
  rw [hcs, show ([(A, c, l)] : List (Option Addr × Nat × List UInt8)).length = 1 from rfl] at hj
  generalize joined [l] = J at *
  have HJ := Lib.hid hj
  clear hj hcs
  go_enter Tryd.func84, Tryd.ntmps84
  go_wp2_with (first
    | (go_at_call 18; (with_reducible refine HJ.out.mono ?_); rintro e w3 ⟨A3, rfl, hR3, hB3⟩)
    | fail)
  go_ret2
  have hs : w.heap.size ≤ (w.alloc (.cells #[.slice A l.length c] 27)).heap.size := by simp
  exact ⟨A3, rfl, Row.mono hR3 hs, ((Below.refl _ _).alloc (Nat.le_refl _) _).trans (hB3.mono hs)⟩
end Go.Proofs.YthbbmpelldglmaaDoor
