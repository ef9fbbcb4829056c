/- The walks of the laws SumsExtend, SumsBack, SumsCheck. -/
import Derived.Test.YtecokglofocgiaaSame
import Derived.Test.YtecokglofocgiaaRefExt
namespace Go.Proofs.Ytecokglofocgiaa
set_option linter.unusedVariables false
set_option linter.unusedSimpArgs false
open Go.RowKit

set_option maxHeartbeats 1000000 in
set_option maxRecDepth 100000 in
theorem walk_SumsExtend (W : World) (r : Nat) (hr : r < 65536) (A1 : Option Addr) (a : List UInt8) (c1 : Nat) (h1 : RdB W A1 a) (hc1 : a.length ≤ c1) (hs1 : c1 ≤ 140737488351232)
    (A2 : Option Addr) (b : List UInt8) (c2 : Nat) (h2 : RdB W A2 b) (hc2 : b.length ≤ c2) (hs2 : c2 ≤ 140737488351232) :
    Calls Try.prog 3 #[.int .u16 r, .slice A1 a.length c1, .slice A2 b.length c2] W fun e w' => e = .returned (.bool true) ∧ Below W.heap.size W w' := by
  by_cases hl : a.length + b.length > 300
  · go_enter Try.func3, Try.ntmps3
    go_wp2_with (go_at_call 9; (with_reducible refine (lives_any _).mono ?_); rintro e w1 ⟨rfl, hB⟩)
    go_ret
    exact ⟨rfl, hB⟩
  · have hY := crc_lt r a hr
    have hX := crc_lt r (a ++ b) hr
    obtain ⟨ab, hab⟩ : ∃ ab, ab = a ++ b := ⟨_, rfl⟩
    have hlen : ab.length ≤ 300 := by rw [hab, List.length_append]; omega
    rw [← hab] at hX
    have HAB := Lib.hid hab
    clear hab
    go_enter Try.func3, Try.ntmps3
    go_wp2_with (first
      | ((with_reducible refine at_dst 17 rfl ?_)
         refine append_bytes rfl (.const (.slice none 0 0)) (.tmp 16) rfl W.heap.size none 0 0 [] rfl rfl (RowB.nil _ _) A1 a.length c1 a rfl rfl h1 a rfl (by omega) W (Below.refl _ _) (Nat.le_refl _) ?_
         intro A3 c3 w3 h3 hg3 hB3 hsz3
         have h23 := RdB.below h2 hB3)
      | ((with_reducible refine at_dst 19 rfl ?_)
         refine append_bytes rfl (.tmp 17) (.tmp 18) rfl W.heap.size A3 a.length c3 a rfl rfl h3 A2 b.length c2 b rfl rfl h23 ab HAB.out (by omega) W hB3 hsz3 ?_
         intro A4 c4 w4 hall hg4 hB4 hsz4)
      | fail)
    have hE : ∀ w5, Below w4.heap.size w4 w5 → Calls Try.prog 10 #[.int .u16 r, .slice A4 ab.length c4] w5 fun e w' => e = .returned (.int .u16 (crc r ab)) ∧ Below w5.heap.size w5 w' := fun w5 hb => by
      exact extend_any r hr A4 ab c4 w5 (hall.rd.below hb) (by omega)
    have hRE : ∀ w5, Below w4.heap.size w4 w5 → Calls Try.prog 11 #[.int .u16 r, .slice A4 ab.length c4] w5 fun e w' => e = .returned (.int .u16 (crc r ab)) ∧ Below w5.heap.size w5 w' := fun w5 hb => by
      exact refext_any r hr A4 ab c4 w5 (hall.rd.below hb) (by omega)
    have hSu : ∀ w5, Below w4.heap.size w4 w5 → Calls Try.prog 12 #[.slice A4 ab.length c4] w5 fun e w' => e = .returned (.int .u16 (crcSum ab)) ∧ Below w5.heap.size w5 w' := fun w5 hb => by
      exact sum_any A4 ab c4 w5 (hall.rd.below hb) (by omega)
    have hEs : ∀ w5, Below w4.heap.size w4 w5 → Calls Try.prog 10 #[.int .u16 65535, .slice A4 ab.length c4] w5 fun e w' => e = .returned (.int .u16 (crc 65535 ab)) ∧ Below w5.heap.size w5 w' := fun w5 hb => by
      exact extend_any 65535 (by omega) A4 ab c4 w5 (hall.rd.below hb) (by omega)
    have hEa : ∀ w5, Below w4.heap.size w4 w5 → Calls Try.prog 10 #[.int .u16 r, .slice A1 a.length c1] w5 fun e w' => e = .returned (.int .u16 (crc r a)) ∧ Below w5.heap.size w5 w' := fun w5 hb =>
      extend_any r hr A1 a c1 w5 (RdB.below h1 (below_then hB4 hb)) (by omega)
    have hEb : ∀ w5, Below w4.heap.size w4 w5 → Calls Try.prog 10 #[.int .u16 (crc r a), .slice A2 b.length c2] w5 fun e w' => e = .returned (.int .u16 (crc r ab)) ∧ Below w5.heap.size w5 w' := fun w5 hb => by
      rw [HAB.out, crc_append]
      exact extend_any (crc r a) hY A2 b c2 w5 (RdB.below h2 (below_then hB4 hb)) (by omega)
    have hEn : ∀ w5, Calls Try.prog 10 #[.int .u16 r, .slice none 0 0] w5 fun e w' => e = .returned (.int .u16 r) ∧ Below w5.heap.size w5 w' := fun w5 =>
      extend_any r hr none [] 0 w5 (RdB.nil _ _) (by simp)
    have hS := compl_u16 (crc 65535 ab) (crc_lt _ _ (by omega))
    unfold crcSum at *
    generalize crc 65535 ab = T at *
    generalize 65535 - T = V at *
    generalize crc r ab = X at *
    generalize crc r a = Y at *
    have HE := Lib.hid hE
    have HRE := Lib.hid hRE
    have HSu := Lib.hid hSu
    have HEs := Lib.hid hEs
    have HEa := Lib.hid hEa
    have HEb := Lib.hid hEb
    have HEn := Lib.hid hEn
    clear hE hRE hSu hEs hEa hEb hEn hall h3 hg3 hg4
    go_wp2_with fail
    refine (HE.out _ (Below.refl _ _)).mono ?_
    rintro e w5 ⟨rfl, hB5⟩
    go_wp2_with fail
    refine (HRE.out _ hB5).mono ?_
    rintro e w6 ⟨rfl, hB6⟩
    replace hB6 := below_then hB5 hB6
    go_wp2_with fail
    refine (HEa.out _ hB6).mono ?_
    rintro e w7 ⟨rfl, hB7⟩
    replace hB7 := below_then hB6 hB7
    go_wp2_with fail
    refine (HEb.out _ hB7).mono ?_
    rintro e w8 ⟨rfl, hB8⟩
    replace hB8 := below_then hB7 hB8
    go_wp2_with fail
    refine (HEn.out _).mono ?_
    rintro e w9 ⟨rfl, hB9⟩
    replace hB9 := below_then hB8 hB9
    go_wp2_with fail
    refine (HSu.out _ hB9).mono ?_
    rintro e w10 ⟨rfl, hB10⟩
    replace hB10 := below_then hB9 hB10
    go_wp2_with fail
    refine (start_any _).mono ?_
    rintro e w11 ⟨rfl, rfl⟩
    go_wp2_with fail
    refine (HEs.out _ hB10).mono ?_
    rintro e w11 ⟨rfl, hB11⟩
    replace hB11 := below_then hB10 hB11
    go_wp2_with fail
    refine (lives_any _).mono ?_
    rintro e w12 ⟨rfl, hB12⟩
    clear hS HE HRE HSu HEs HEa HEb HEn
    go_wp2_with fail
    go_ret
    exact ⟨rfl, below_then hB4 (below_then hB11 hB12)⟩
end Go.Proofs.Ytecokglofocgiaa
