/- Octets as bits. No program. -/
import Derived.Test.YthbbmpelldglmaaDoorSums
import Derived.Test.YthbbmpelldglmaaDoorDiv
namespace Go.Proofs.YthbbmpelldglmaaDoor
set_option linter.unusedVariables false
set_option linter.unusedSimpArgs false
open Go.RowKit

def bitsB (b : UInt8) : List UInt8 := (sbB b).map b2u
def bitsL (l : List UInt8) : List UInt8 := (sb l).map b2u
theorem bitsB_len (b : UInt8) : (bitsB b).length = 8 := by simp [bitsB, sbB_len]
theorem bitsL_len (l : List UInt8) : (bitsL l).length = 8 * l.length := by simp [bitsL, sb_len]
theorem bitsL_snoc (l : List UInt8) (k : Nat) (h : k < l.length) : bitsL (l.take (k + 1)) = bitsL (l.take k) ++ bitsB l[k] := by
  unfold bitsL; rw [sb_snoc l k h, List.map_append]; rfl
theorem bitsB_snoc (b : UInt8) (j : Nat) (h : j < 8) : (bitsB b).take (j + 1) = (bitsB b).take j ++ [b2u (b.toNat.testBit j)] := by
  unfold bitsB; rw [← List.map_take, sbB_snoc b j h, List.map_append, List.map_take]; rfl
theorem bit_val (b : UInt8) (j : Nat) : ((b2u (b.toNat.testBit j)).toNat : Int) = ((b.toNat / 2 ^ j % 2 : Nat) : Int) := by
  rw [b2u_nat, testBit_nat]
end Go.Proofs.YthbbmpelldglmaaDoor
