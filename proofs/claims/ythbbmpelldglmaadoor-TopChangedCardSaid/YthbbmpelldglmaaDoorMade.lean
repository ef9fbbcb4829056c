/- The table of the check sequence: what 'made' returns. -/
import Derived.Test.YthbbmpelldglmaaDoorProg
import Derived.Test.YthbbmpelldglmaaDoorBase
import Derived.Test.YthbbmpelldglmaaDoorCrc
namespace Go.Proofs.YthbbmpelldglmaaDoor
set_option linter.unusedVariables false
set_option linter.unusedSimpArgs false
open Go.RowKit

def mTab (k : Nat) : Array Value := ((List.range 16).map fun i => if i < k then Value.int .u16 (crcI 4 i) else Value.int .u16 0).toArray
theorem mTab_size (k : Nat) : (mTab k).size = 16 := by simp [mTab]
theorem mTab_set (k : Nat) : (mTab k).setIfInBounds k (.int .u16 (crcI 4 k)) = mTab (k + 1) := by
  unfold mTab
  rw [List.setIfInBounds_toArray]
  congr 1
  apply List.ext_getElem?
  intro i
  rw [List.getElem?_set]
  simp only [List.getElem?_map, List.length_map, List.length_range]
  by_cases h : k = i
  · subst h
    by_cases h16 : k < 16
    · simp [h16]
    · simp [h16]
  · rw [if_neg h]
    by_cases h16 : i < 16
    · simp only [List.getElem?_range h16, Option.map_some]
      by_cases h3 : i < k
      · rw [if_pos h3, if_pos (by omega)]
      · rw [if_neg h3, if_neg (by omega)]
    · simp [h16]
theorem mTab_get (k : Nat) (h : k < 16) (j : Nat) (hj : j < 16) : (mTab k)[j]? = some (if j < k then .int .u16 (crcI 4 j) else .int .u16 0) := by
  simp [mTab, hj]
theorem mTab_one (k : Nat) : (mTab k).all (·.oneCell') = true := by
  simp only [mTab, Array.all_eq_true]
  intro i hi
  simp only [List.getElem_toArray, List.getElem_map, List.getElem_range]
  split <;> rfl

set_option maxHeartbeats 400000 in
theorem made_any (w : World) : Calls Tryd.prog 111 #[] w fun e w' => e = .returned (.agg (mTab 16)) ∧ Below w.heap.size w w' := by
  go_enter Tryd.func111, Tryd.ntmps111
  go_wp2
  go_loopw [2, 3, 4, 5, 10] (fun a b c i d wr => ∃ k : Nat, k ≤ 16 ∧ i = .int .i64 k ∧ wr.heap[w.heap.size]? = some (.cells (mTab 0) 195 (0, 0)) ∧ wr.heap[w.heap.size + 1]? = some (.cells (mTab k) 195 (0, 0)) ∧ Below w.heap.size w wr)
    (fun _ _ _ i _ _ => 16 - (intOf i).toNat)
  case atStart =>
    refine ⟨0, by omega, rfl, heap_alloc2_old _ _ _, heap_alloc2_new _ _ _, ((Below.refl _ _).alloc (Nat.le_refl _) _).alloc (by simp) _⟩
  case round =>
    obtain ⟨k, hk, rfl, h0, hT, hB⟩ := hrel
    by_cases hlt : k < 16
    · go_wp2
      obtain ⟨wo, rfl⟩ : ∃ wo : World, wo = wr := ⟨_, rfl⟩
      go_loopw [3, 4, 10] (fun b c d w2 => ∃ j : Nat, j ≤ 4 ∧ w2 = wo ∧ d = .int .i64 j ∧ b = .int .u16 (crcI j k)) (fun _ _ d _ => 4 - (intOf d).toNat)
      case atStart => exact ⟨0, by omega, rfl, rfl, rfl⟩
      case round =>
        obtain ⟨j, hj, rfl, rfl, rfl⟩ := hrel
        by_cases hlt2 : j < 4
        · have hb := crcI_lt j k (by omega)
          generalize hr : crcI j k = r at *
          have hn : crcI (j + 1) k = crcZ r := by rw [← hr]; rfl
          have HN := Lib.hid hn
          clear hn hr
          have HA := Lib.hid (and_u16 r 1 hb (by omega))
          have HX := Lib.hid (xor_u16 (r / 2) 33800 (by omega) (by omega))
          go_wp2
          · have ht : (bits BinOp.and IntKind.u16 (r : Int) 1 == 1) = true := by assumption
            have ha := HA.out
            have hone : r &&& 1 = 1 := by
              have := eq_of_beq ht
              rw [show (1 : Int) = ((1 : Nat) : Int) from rfl, ha] at this
              exact_mod_cast this
            go_roundw
            case rel =>
              refine ⟨j + 1, by omega, trivial, by go_num, ?_⟩
              rw [HN.out, crcZ, if_pos hone, ← HX.out]
              rfl
            case measure => simp [intOf]; omega
          · have ht : (bits BinOp.and IntKind.u16 (r : Int) 1 == 1) = false := by assumption
            have ha := HA.out
            have hone : ¬ r &&& 1 = 1 := by
              intro h
              rw [show (1 : Int) = ((1 : Nat) : Int) from rfl, ha, h] at ht
              exact absurd ht (by decide)
            go_roundw
            case rel =>
              refine ⟨j + 1, by omega, trivial, by go_num, ?_⟩
              rw [HN.out, crcZ, if_neg hone]
              rfl
            case measure => simp [intOf]; omega
        · have hj4 : j = 4 := by omega
          subst hj4
          have hcell : wr.cell? ⟨w.heap.size + 1, k, none⟩ = some (.int .u16 0) := by
            rw [cell_of_row _ _ _ _ _ _ hT, mTab_get k hlt k hlt]; simp
          have hfr : wr.frozen? ⟨w.heap.size + 1, k, none⟩ = false := frozen_of_row _ _ _ _ _ hT
          go_wp2
          go_roundw
          case rel =>
            refine ⟨k + 1, by omega, by go_num, ?_, ?_, hB.setCell (by simp) _⟩
            · rw [heap_setCell_other _ _ _ _ (by simp)]; exact h0
            · rw [heap_setCell_same _ _ _ _ _ _ hT, mTab_set]
          case measure => simp [intOf]; omega
    · have hk16 : k = 16 := by omega
      subst hk16
      have hin : (Tryd.prog.info? 195).map (·.size) = some 16 := by kernel_rfl
      have H0 := Lib.hid h0
      have H1 := Lib.hid hT
      clear h0 hT
      go_wp2_with (first
        | ((with_reducible refine at_dst 25 rfl ?_); refine wpList_load_row rfl 195 (.tmp 1) rfl (w.heap.size + 1) rfl 195 (mTab 16) (0, 0) _ H1.out Tryd.underlying195 rfl (by rw [mTab_size]; exact hin) ?_)
        | ((with_reducible refine at_store 195 0 rfl ?_); refine wpList_store_row rfl 195 (.tmp 0) (.tmp 25) rfl w.heap.size (mTab 16) rfl rfl 195 (mTab 0) H0.out (by rw [mTab_size]; exact hin) (by rw [mTab_size, mTab_size]) (mTab_one 16) ?_))
      have hg : (wr.setRow w.heap.size (mTab 16)).heap[w.heap.size]? = some (.cells (mTab 16) 195 (0, 0)) := setRow_heap wr w.heap.size (mTab 0) _ _ _ H0.out
      refine bodyPost_ret (v := .agg (mTab 16)) (results_cell_row rfl _ _ w.heap.size 195 (mTab 16) (0, 0) _ rfl hg Tryd.underlying195 rfl (by rw [mTab_size]; exact hin)) rfl ⟨rfl, ?_⟩
      exact hB.trans ⟨rfl, rfl, rfl, by simp, fun k hk => setRow_other _ _ _ _ (by omega)⟩
end Go.Proofs.YthbbmpelldglmaaDoor
