/- The walk of the law SumsCheck. -/
import Derived.Test.YtecokglofocgiaaSame
import Derived.Test.YtecokglofocgiaaRefExt
namespace Go.Proofs.Ytecokglofocgiaa
set_option linter.unusedVariables false
set_option linter.unusedSimpArgs false
open Go.RowKit

set_option maxHeartbeats 2000000 in
set_option maxRecDepth 100000 in
theorem walk_SumsCheck (W : World) (A1 : Option Addr) (b : List UInt8) (c1 : Nat) (h1 : RdB W A1 b) (hc1 : b.length ≤ c1) (hs1 : c1 ≤ 140737488351232) :
    Calls Try.prog 5 #[.slice A1 b.length c1] W fun e w' => e = .returned (.bool true) ∧ Below W.heap.size W w' := by
  by_cases hl : b.length > 300
  · go_enter Try.func5, Try.ntmps5
    go_wp2_with (first | (go_at_call 9; (with_reducible refine (lives_any _).mono ?_); rintro e w1 ⟨rfl, hB⟩) | fail)
    go_ret
    exact ⟨rfl, hB⟩
  · by_cases hs : b.length < 2
    · go_enter Try.func5, Try.ntmps5
      go_wp2_with (first
        | (go_at_call 17; (with_reducible refine (check_short _ _ _ _ hs).mono ?_); rintro e w1 ⟨rfl, rfl⟩)
        | (go_at_call 9; (with_reducible refine (lives_any _).mono ?_); rintro e w1 ⟨rfl, hB⟩) | fail)
      go_ret
      exact ⟨rfl, hB⟩
    · obtain ⟨n, hn⟩ : ∃ n, b.length = n + 2 := ⟨b.length - 2, by omega⟩
      have hbn : b[n]? = some (b[n]'(by omega)) := List.getElem?_eq_getElem (by omega)
      have hbn1 : b[n + 1]? = some (b[n + 1]'(by omega)) := List.getElem?_eq_getElem (by omega)
      have hcheck := check_core A1 b n c1 W h1 hn hc1 hs1 _ _ hbn hbn1
      obtain ⟨ad, e, hc0⟩ := h1.get (k := n) (by omega)
      subst e
      obtain ⟨ad', e, hcc⟩ := h1.get (k := n + 1) (by omega)
      injection e with e
      subst e
      rw [add_succ] at hcc
      have hlen : (b.take n).length = n := by rw [List.length_take]; omega
      have hsum := fun w1 (hb : Below W.heap.size W w1) => refsum_any (some ad) (b.take n) c1 w1 ((h1.take n).below hb) (by omega)
      have hbytes := fun (A' : Option Addr) w1 (hb : Below W.heap.size W w1) (hr : RdB w1 A' (b.take n)) => bytes_yes A' (some ad) (b.take n) c1 w1 hr ((h1.take n).below hb) (by omega)
      rw [hlen] at hsum hbytes
      rw [hn] at hc1 hl
      rw [hn]
      have hx := crcSum_lt (b.take n)
      have hlo := (fcs_lo (b.take n)).symm
      have hhi := (fcs_hi (b.take n)).symm
      have hf : fcs (b.take n) = [UInt8.ofNat (crcSum (b.take n) % 256), UInt8.ofNat (crcSum (b.take n) / 256)] := rfl
      generalize UInt8.ofNat (crcSum (b.take n) % 256) = x0 at *
      generalize UInt8.ofNat (crcSum (b.take n) / 256) = x1 at *
      generalize crcSum (b.take n) = x at *
      generalize b[n] = b0 at *
      generalize b[n + 1] = b1 at *
      have HCHECK := Lib.hid hcheck
      have HSUM := Lib.hid hsum
      have HBYTES := Lib.hid hbytes
      have HF := Lib.hid hf
      have HLEN := Lib.hid hlen
      clear hcheck hsum hbytes hf hbn hbn1 hn hs hlen
      by_cases e0 : b0 = x0
      · subst e0
        by_cases e1 : b1 = x1
        · subst e1
          go_enter Try.func5, Try.ntmps5
          go_wp2_with fail
          refine HCHECK.out.mono ?_
          rintro e w1 ⟨h, hB⟩
          rw [if_pos HF.out.symm] at h
          obtain ⟨A', rfl, hR⟩ := h
          replace hc0 := cell_later hB hc0
          replace hcc := cell_later hB hcc
          go_wp2_with fail
          refine (HSUM.out _ hB).mono ?_
          rintro e w2 ⟨rfl, hB2⟩
          replace hc0 := cell_later hB2 hc0
          replace hcc := cell_later hB2 hcc
          replace hR := hR.below hB2
          replace hB2 := below_then hB hB2
          go_wp2_with fail
          refine (HBYTES.out _ _ hB2 hR.rd).mono ?_
          rintro e w3 ⟨rfl, n3, rfl⟩
          go_wp2_with fail
          refine (lives_any _).mono ?_
          rintro e w4 ⟨rfl, hB4⟩
          go_wp2_with fail
          go_ret
          exact ⟨rfl, below_then (below_drewN hB2 n3) hB4⟩
        · have n1 := byte_ne e1
          have n2 := byte_ne' e1
          have hne : ¬ [b0, b1] = fcs (b.take n) := by rw [HF.out]; simp [e1]
          have HNE := Lib.hid hne
          clear hne e1
          go_enter Try.func5, Try.ntmps5
          go_wp2_with fail
          refine HCHECK.out.mono ?_
          rintro e w1 ⟨h, hB⟩
          rw [if_neg HNE.out] at h
          subst h
          replace hc0 := cell_later hB hc0
          replace hcc := cell_later hB hcc
          go_wp2_with fail
          refine (HSUM.out _ hB).mono ?_
          rintro e w2 ⟨rfl, hB2⟩
          replace hc0 := cell_later hB2 hc0
          replace hcc := cell_later hB2 hcc
          replace hB2 := below_then hB hB2
          go_wp2_with fail
          refine (lives_any _).mono ?_
          rintro e w4 ⟨rfl, hB4⟩
          go_wp2_with fail
          go_ret
          exact ⟨rfl, below_then hB2 hB4⟩
      · have n1 := byte_ne e0
        have n2 := byte_ne' e0
        have hne : ¬ [b0, b1] = fcs (b.take n) := by rw [HF.out]; simp [e0]
        have HNE := Lib.hid hne
        clear hne e0
        go_enter Try.func5, Try.ntmps5
        go_wp2_with fail
        refine HCHECK.out.mono ?_
        rintro e w1 ⟨h, hB⟩
        rw [if_neg HNE.out] at h
        subst h
        replace hc0 := cell_later hB hc0
        replace hcc := cell_later hB hcc
        go_wp2_with fail
        refine (HSUM.out _ hB).mono ?_
        rintro e w2 ⟨rfl, hB2⟩
        replace hc0 := cell_later hB2 hc0
        replace hcc := cell_later hB2 hcc
        replace hB2 := below_then hB hB2
        go_wp2_with fail
        refine (lives_any _).mono ?_
        rintro e w4 ⟨rfl, hB4⟩
        go_wp2_with fail
        go_ret
        exact ⟨rfl, below_then hB2 hB4⟩
end Go.Proofs.Ytecokglofocgiaa
