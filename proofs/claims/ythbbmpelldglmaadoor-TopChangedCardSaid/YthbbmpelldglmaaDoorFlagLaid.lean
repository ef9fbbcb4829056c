/- The listed variable 'frames.flag': what the condition gives the walks; the door's own heap meets it. -/
import Derived.Test.YthbbmpelldglmaaDoorRows
import Derived.Test.YthbbmpelldglmaaDoorFrames
import Derived.Test.YthbbmpelldglmaaDoorOpenS
import Derived.LaidMore
import Derived.OpenShut
namespace Go.Proofs.YthbbmpelldglmaaDoor
set_option linter.unusedVariables false
set_option linter.unusedSimpArgs false
open Go.ChangeShapes Go.WideShapes Go.ChangeAt Go.RowKit

theorem gFlag : Tryd.prog.globalNamed "pointcode/frames.flag" = some 0 := by kernel_rfl
theorem tFlag : (Tryd.prog.globals[0]?).map (·.type) = some 150 := by kernel_rfl
theorem flag_of_laid {W : World} (h : laidMetH Tryd.prog [("pointcode/frames.flag", Rows.laid_pointcode_frames_flag)] W) : Flag W := by
  rw [MakeChecks.laidMetH_plain _ _ _ (by kernel_rfl)] at h
  obtain ⟨ps, ⟨g0, t0, cs0, f0, p0, q0, hg0, ht0, hv0, hd0, _⟩, _, _⟩ := h
  obtain rfl := Option.some.inj (gFlag.symm.trans hg0)
  obtain rfl := Option.some.inj (tFlag.symm.trans ht0)
  obtain ⟨xs, m, _, hx, hl, hn, hel⟩ := DataW.trod_array Tryd.underlying150 hd0
  have c1 : Tryd.prog.cellsOf 5 = 1 := by kernel_rfl
  have c8 : Tryd.prog.cellsOf 150 = 8 := by kernel_rfl
  rw [c8] at hl
  have hxs : flagL.map (fun b => (DataW.lit (.int .u8 (b.toNat : Int)) : DataW Unit)) = xs.map (·.1) := by
    have := congrArg Prod.fst hx
    simp only [Rows.laid_pointcode_frames_flag, DataW.agg.injEq] at this
    exact this
  intro k v hv
  refine ⟨_, rfl, ?_⟩
  have hk : k < flagL.length := by
    have := (List.getElem?_eq_some_iff.1 hv).1
    simpa using this
  have hk8 : k < 8 := hk
  obtain ⟨c, hc⟩ : ∃ c, cs0.toList[k]? = some c := ⟨_, List.getElem?_eq_getElem (by omega)⟩
  obtain ⟨y, hy⟩ : ∃ y, xs[k]? = some y := ⟨_, List.getElem?_eq_getElem (by omega)⟩
  have h1 := hel k hk8
  rw [c1, Nat.mul_one, take_one _ k c hc, hy] at h1
  obtain ⟨a, e1, e2, _⟩ := DataW.trod_int Tryd.underlying5 h1
  simp at e1
  have h2 : (xs.map (·.1))[k]? = some y.1 := by rw [List.getElem?_map, hy]; rfl
  rw [← hxs, List.getElem?_map, List.getElem?_eq_getElem hk] at h2
  simp only [Option.map_some, Option.some.injEq] at h2
  rw [e2] at h2
  simp only [DataW.lit.injEq, Lit.int.injEq, true_and] at h2
  rw [List.getElem?_map, List.getElem?_eq_getElem hk] at hv
  simp only [Option.map_some, Option.some.injEq] at hv
  rw [add_lit]
  have h3 := World.var?_cell hg0 hv0 k
  rw [h3, ← Array.getElem?_toList, hc, e1, ← h2, ← hv]
  rfl
theorem flag_door (os : Os) (args : Array Value) : laidMetH Tryd.prog [("pointcode/frames.flag", Rows.laid_pointcode_frames_flag)] ((World.doorLaid Tryd.prog 24 os).forCall (fun _ _ => 0) ⟨#[], args, []⟩).memory :=
  laidMetH_of_parts3 (fuel := 8) (laidMet_of_run' 8 (by kernel_rfl) (by kernel_rfl)) (by kernel_rfl) (by kernel_rfl)
end Go.Proofs.YthbbmpelldglmaaDoor
