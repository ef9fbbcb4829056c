/- What 'pointcodetop.TopChanged' does to the octets. -/
import Derived.Test.YthbbmpelldglmaaDoorBottom
import Derived.Test.YthbbmpelldglmaaDoorChk
import Derived.Test.YthbbmpelldglmaaDoorBlk
import Derived.Test.YthbbmpelldglmaaDoorEq
namespace Go.Proofs.YthbbmpelldglmaaDoor
set_option linter.unusedVariables false
set_option linter.unusedSimpArgs false
open Go.RowKit

theorem held_bad (O : List UInt8) (l : List Nat) (h : O.length ≤ 280) (hz : crcBits 0 (errL l (8 * (O.length + 2))) ≠ 0) : Held (flips (O ++ fcs O) l) none := fun A c w hA hc => by
  refine (check_flips O l A c w hA hc h).mono ?_
  rintro e w' ⟨⟨h1, _⟩ | ⟨_, h2⟩, hB⟩
  · exact absurd h1 hz
  · exact ⟨h2, hB⟩
/-- three inverted bits, or a burst -/
def chg (n a0 a1 a2 burst : Nat) : List Nat := if burst = 0 then [a0 % n, a1 % n, a2 % n] else blk (a0 % n) burst n 16
theorem chg_seen (n a0 a1 a2 burst : Nat) (hn : 0 < n) (h : chg n a0 a1 a2 burst ≠ []) : crcBits 0 (errL (chg n a0 a1 a2 burst) n) ≠ 0 := by
  unfold chg at *
  by_cases hb : burst = 0
  · rw [if_pos hb]
    refine odd_seen _ ?_
    rw [parL_err _ _ (by intro p hp; simp at hp; rcases hp with rfl | rfl | rfl <;> exact Nat.mod_lt _ hn)]
    simp
  · rw [if_neg hb] at h ⊢
    refine burst_seen _ (a0 % n) (fun k hk => ?_) ?_
    · have h2 := (errL_true _ _ _).1 hk
      have := blk_mem _ _ _ _ _ (errB_mem _ _ h2.2)
      omega
    · obtain ⟨p, hp⟩ := List.exists_mem_of_ne_nil _ h
      have hm := blk_mem _ _ _ _ _ hp
      exact ⟨p, (errL_true _ _ _).2 ⟨hm.2.2, by rw [errB_nodup _ (blk_nodup _ _ _ _)]; simpa using hp⟩⟩
theorem chg_same (O : List UInt8) (l : List Nat) (hz : crcBits 0 (errL l (8 * (O.length + 2))) ≠ 0) : flips (O ++ fcs O) l ≠ O ++ fcs O := fun e => by
  have h := flips_crc (O ++ fcs O) l
  rw [e, show (O ++ fcs O).length = O.length + 2 by rw [List.length_append]; rfl] at h
  apply hz
  have h2 := congrArg (fun x => crc 65535 (O ++ fcs O) ^^^ x) h
  simpa [← Nat.xor_assoc] using h2.symm
end Go.Proofs.YthbbmpelldglmaaDoor
