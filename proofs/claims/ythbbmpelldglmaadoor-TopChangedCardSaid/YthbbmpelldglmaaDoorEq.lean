/- Equality of octets: 'pointcoderef01.Same'. -/
import Derived.Test.YthbbmpelldglmaaDoorSums
import Derived.Deep.QuietTactic
import Derived.BigQuiet
namespace Go.Proofs.YthbbmpelldglmaaDoor
set_option linter.unusedVariables false
set_option linter.unusedSimpArgs false
open Go.RowKit

theorem same_step {a b : List UInt8} (hl : a.length = b.length) {k : Nat} (h : a.take k = b.take k) (hk : k < a.length) (e : a[k] = b[k]'(by omega)) : a.take (k + 1) = b.take (k + 1) := by
  rw [List.take_succ_eq_append_getElem hk, List.take_succ_eq_append_getElem (by omega : k < b.length), h, e]

set_option maxHeartbeats 1000000 in
theorem same_any (A A2 : Option Addr) (a b : List UInt8) (c c2 : Nat) (w : World) (ha : RdB w A a) (hb : RdB w A2 b) (hla : a.length ≤ 140737488351232) :
    Calls Tryd.prog 21 #[.slice A a.length c, .slice A2 b.length c2] w fun e w' => e = .returned (.bool (decide (a = b))) ∧ ∃ n, w' = w.drewN n := by
  by_cases hl : a.length = b.length
  · have HL := Lib.hid hl
    have hbl : b.length ≤ 140737488351232 := by omega
    have h1 : ((a.length : Int) != (b.length : Int)) = false := by rw [hl]; simp
    have h2 : ((a.length : Int) == (b.length : Int)) = true := by rw [hl]; simp
    have h3 : (a.length == b.length) = true := by rw [hl]; simp
    clear hl
    go_enter Tryd.func21, Tryd.ntmps21
    go_wp2
    clear h1 h2 h3
    go_loopw [5] (fun i wr => ∃ k : Nat, k ≤ a.length ∧ i = .int .i64 k ∧ a.take k = b.take k ∧ ∃ n, wr = w.drewN n) (fun i _ => a.length - (intOf i).toNat)
    case atStart => exact ⟨0, by omega, rfl, rfl, 0, rfl⟩
    case round =>
      obtain ⟨k, hk, rfl, ht, n, rfl⟩ := hrel
      by_cases hlt : k < a.length
      · have hltb : k < b.length := by have := HL.out; omega
        obtain ⟨ad, rfl, hc⟩ := ha.get hlt
        obtain ⟨ad2, rfl, hc2⟩ := hb.get hltb
        have HT := Lib.hid ht
        clear ht
        by_cases e : a[k] = b[k]
        · have HE := Lib.hid e
          rw [e] at hc
          clear e
          have q1 : (0 : Int) ≤ (k : Int) := by omega
          have q2 : (k : Int) < (a.length : Int) := by omega
          have q3 : (k : Int) < (b.length : Int) := by omega
          go_wp2
          go_quiet (fail)
          go_wp2
          go_roundw
          case rel => exact ⟨k + 1, by omega, by go_num, same_step HL.out HT.out hlt HE.out, n + nq, rfl⟩
          case measure => simp [intOf]; omega
        · have e1 := byte_ne e
          have e2 := byte_ne' e
          have HE := Lib.hid e
          clear e
          have q1 : (0 : Int) ≤ (k : Int) := by omega
          have q2 : (k : Int) < (a.length : Int) := by omega
          have q3 : (k : Int) < (b.length : Int) := by omega
          go_wp2
          go_quiet (fail)
          go_wp2
          go_ret
          refine ⟨?_, n + nq, World.drewN_drewN _ _ _⟩
          rw [decide_eq_false (fun h => HE.out (by subst h; rfl))]
          rfl
      · go_wp2
        go_ret
        refine ⟨?_, n, rfl⟩
        have hab : a = b := by
          rw [List.take_of_length_le (by omega), List.take_of_length_le (by have := HL.out; omega)] at ht
          exact ht
        rw [decide_eq_true hab]
        rfl
  · have h1 : ((a.length : Int) != (b.length : Int)) = true := by simp; omega
    have h2 : ((a.length : Int) == (b.length : Int)) = false := by simp; omega
    have h3 : (a.length == b.length) = false := by simp; omega
    have hne : a ≠ b := fun h => hl (by rw [h])
    have HN := Lib.hid hne
    clear hl hne
    go_enter Tryd.func21, Tryd.ntmps21
    go_wp2
    go_ret
    exact ⟨by rw [decide_eq_false HN.out]; rfl, 0, rfl⟩
end Go.Proofs.YthbbmpelldglmaaDoor
