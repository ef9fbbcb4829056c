/- The places of a burst; one inverted bit. No program. -/
import Derived.Test.YthbbmpelldglmaaDoorFlip
import Derived.Test.YthbbmpelldglmaaDoorBase
namespace Go.Proofs.YthbbmpelldglmaaDoor
set_option linter.unusedVariables false
set_option linter.unusedSimpArgs false
open Go.RowKit

theorem flip_val (x : UInt8) (m : Nat) (h : m < 8) : bits .xor .u8 (x.toNat : Int) ((2 ^ m : Nat) : Int) = ((x ^^^ UInt8.ofNat (2 ^ m)).toNat : Int) := by
  rw [UInt8.toNat_xor, pow_byte m h, xor_u8 _ _ x.toNat_lt]
  have : 2 ^ m ≤ 2 ^ 7 := Nat.pow_le_pow_right (by decide) (by omega)
  omega

theorem and_bit (v k : Nat) (h : v < 65536) : bits .and .u16 ((v : Int) / 2 ^ k) 1 = ((v.testBit k).toNat : Int) := by
  have e : (v : Int) / 2 ^ k = ((v / 2 ^ k : Nat) : Int) := by simp
  have hd : v / 2 ^ k ≤ v := Nat.div_le_self _ _
  rw [e, show (1 : Int) = ((1 : Nat) : Int) from rfl, and_u16 _ 1 (by omega) (by omega), Nat.and_one_is_mod, testBit_nat]
/-- the places of a burst -/
def blk (m burst n k : Nat) : List Nat := ((List.range k).filter fun j => burst.testBit j && decide (m + j < n)).map (m + ·)
theorem blk_snoc (m burst n k : Nat) : blk m burst n (k + 1) = blk m burst n k ++ (if (burst.testBit k && decide (m + k < n)) = true then [m + k] else []) := by
  unfold blk
  rw [List.range_succ, List.filter_append, List.map_append]
  congr 1
  by_cases h : (burst.testBit k && decide (m + k < n)) = true
  · rw [if_pos h, List.filter_cons, if_pos h]; rfl
  · rw [if_neg h, List.filter_cons, if_neg h]; rfl
theorem blk_len (m burst n k : Nat) : (blk m burst n k).length ≤ k := by
  unfold blk
  rw [List.length_map]
  exact Nat.le_trans (List.length_filter_le _ _) (by simp)
theorem blk_mem (m burst n k p : Nat) (h : p ∈ blk m burst n k) : m ≤ p ∧ p < m + k ∧ p < n := by
  unfold blk at h
  simp only [List.mem_map, List.mem_filter, List.mem_range, Bool.and_eq_true, decide_eq_true_eq] at h
  obtain ⟨j, ⟨h1, _, h2⟩, rfl⟩ := h
  omega
theorem blk_nodup (m burst n k : Nat) : (blk m burst n k).Nodup := by
  unfold blk
  refine List.Pairwise.map _ (fun a b (h : a ≠ b) => by omega) ?_
  exact List.Pairwise.filter _ List.nodup_range
end Go.Proofs.YthbbmpelldglmaaDoor
