/- 'sums.Check' on octets some bits of which are inverted. -/
import Derived.Test.YthbbmpelldglmaaDoorSums
import Derived.Test.YthbbmpelldglmaaDoorFlip
namespace Go.Proofs.YthbbmpelldglmaaDoor
set_option linter.unusedVariables false
set_option linter.unusedSimpArgs false
open Go.RowKit

theorem check_flips (b : List UInt8) (l : List Nat) (A : Option Addr) (c : Nat) (w : World) (hA : RdB w A (flips (b ++ fcs b) l)) (hc : (flips (b ++ fcs b) l).length ≤ c) (hb : b.length ≤ 280) :
    Calls Tryd.prog 54 #[.slice A (flips (b ++ fcs b) l).length c] w fun e w' =>
      ((crcBits 0 (errL l (8 * (b.length + 2))) = 0 ∧ ∃ A' k, e = .returned (.tuple #[.slice A' k k, .int .i64 0])) ∨ (crcBits 0 (errL l (8 * (b.length + 2))) ≠ 0 ∧ e = .returned (.tuple #[.slice none 0 0, .int .i64 10]))) ∧ Below w.heap.size w w' := by
  have hl : (flips (b ++ fcs b) l).length = b.length + 2 := by rw [flips_len, List.length_append]; rfl
  obtain ⟨b0, h0⟩ : ∃ x, (flips (b ++ fcs b) l)[b.length]? = some x := ⟨_, List.getElem?_eq_getElem (by omega)⟩
  obtain ⟨b1, h1⟩ : ∃ x, (flips (b ++ fcs b) l)[b.length + 1]? = some x := ⟨_, List.getElem?_eq_getElem (by omega)⟩
  have h := check_core A _ b.length c w hA hl hc (by omega) b0 b1 h0 h1
  rw [hl]
  refine h.mono ?_
  rintro e w' ⟨h2, h3⟩
  refine ⟨?_, h3⟩
  have hp := flips_prot b l b.length rfl b0 b1 h0 h1
  by_cases hz : crcBits 0 (errL l (8 * (b.length + 2))) = 0
  · rw [if_pos (hp.2 hz)] at h2
    obtain ⟨A', he, _⟩ := h2
    exact .inl ⟨hz, A', b.length, he⟩
  · rw [if_neg (fun h => hz (hp.1 h))] at h2
    exact .inr ⟨hz, h2⟩
end Go.Proofs.YthbbmpelldglmaaDoor
