/- For every unit, every three positions and every burst TopChanged returns true and leaves its arguments as they are; the card ties the flag's eight bits to the program's text; no other condition. -/
import Derived.Test.YthbbmpelldglmaaDoorRows
import Derived.Test.YthbbmpelldglmaaDoorCards
import Derived.Test.YthbbmpelldglmaaDoorTie
import Derived.Test.YthbbmpelldglmaaDoorTopC
import Derived.Test.YthbbmpelldglmaaDoorFlagLaid
import Derived.WalkKit
import Derived.ProofKit
import Derived.OpenShut
import Derived.ShutString
import Derived.ChangeOld
import Derived.Below
import Derived.SizedLaws
import Derived.LaidMore
import Derived.Stop.Joined
import Derived.SevenTiedAt
namespace Go.Proofs.YthbbmpelldglmaaDoor
open Go.ChangeShapes Go.WideShapes Go.ChangeAt Go.RowKit
set_option linter.unusedVariables false
set_option linter.unusedSimpArgs false

set_option maxRecDepth 100000 in
/-- a unit as plain data, opened -/
theorem open_u {H : Type} {enc : TypeId × Value → H} {W : World} {r : Reach} {b0 : Nat} {v : Value} {d : DataW H} {p : List MemPlace} (hv : Value.okWide Tryd.prog W r b0 41 v)
    (h : DataW.Trod enc Tryd.prog W 0 (fun _ => true) true 41 v d p) :
    ∃ (vb vf vk vs vz : Nat) (A : Option Addr) (l : List UInt8) (c : Nat) (ys : List (DataW H × List MemPlace)) (y : DataW H × List MemPlace), v = uArg vb vf vk vs vz A l c ∧ vb < 256 ∧ vf < 256 ∧ vk < 256 ∧ vs < 256 ∧ vz < 65536 ∧ RdB W A l ∧ l.length ≤ c ∧ d = .agg (ys.map (·.1)) ∧ ys[5]? = some y ∧ (c = 0 ∨ c ∈ y.1.weights Tryd.prog 27) := by
  obtain ⟨l, ys, n, rfl, hl, hy, hd, hf⟩ := open_aggN Tryd.underlying41 (by kernel_rfl) (by kernel_rfl) hv h
  simp at hl hy
  obtain ⟨c0, c1, c2, c3, c4, c5, rfl⟩ := list6 hl
  obtain ⟨y0, y1, y2, y3, y4, y5, rfl⟩ := list6 hy
  · skip
    obtain ⟨a0, rfl, w0⟩ := num_of Tryd.underlying5 (hf 0 _ _ _ rfl rfl rfl)
    obtain ⟨a1, rfl, w1⟩ := num_of Tryd.underlying5 (hf 1 _ _ _ rfl rfl rfl)
    obtain ⟨a2, rfl, w2⟩ := num_of Tryd.underlying5 (hf 2 _ _ _ rfl rfl rfl)
    obtain ⟨a3, rfl, w3⟩ := num_of Tryd.underlying5 (hf 3 _ _ _ rfl rfl rfl)
    obtain ⟨a4, rfl, w4⟩ := num_of Tryd.underlying22 (hf 4 _ _ _ rfl rfl rfl)
    obtain ⟨A, l, c, rfl, h5, h6, h7⟩ := open_bytes (hf 5 _ _ _ rfl rfl rfl)
    obtain ⟨b0, q0, rfl⟩ := nat_of_u8 w0
    obtain ⟨b1, q1, rfl⟩ := nat_of_u8 w1
    obtain ⟨b2, q2, rfl⟩ := nat_of_u8 w2
    obtain ⟨b3, q3, rfl⟩ := nat_of_u8 w3
    obtain ⟨b4, q4, rfl⟩ := nat_of_u16 w4
    exact ⟨b0, b1, b2, b3, b4, A, l, c, _, _, rfl, q0, q1, q2, q3, q4, h5, h6, hd, rfl, h7⟩
set_option maxRecDepth 100000 in
/-- three numbers, opened -/
theorem open_three {H : Type} {enc : TypeId × Value → H} {W : World} {r : Reach} {b0 : Nat} {v : Value} {d : DataW H} {p : List MemPlace} (hv : Value.okWide Tryd.prog W r b0 42 v)
    (h : DataW.Trod enc Tryd.prog W 0 (fun _ => true) true 42 v d p) :
    ∃ a0 a1 a2 : Nat, v = .agg #[.int .u16 a0, .int .u16 a1, .int .u16 a2] ∧ a0 < 65536 ∧ a1 < 65536 ∧ a2 < 65536 := by
  obtain ⟨cs, rfl⟩ : ∃ cs, v = .agg cs := by
    simp only [Value.okWide, Tryd.underlying42] at hv
    obtain ⟨cs, h1, _⟩ := hv
    exact ⟨cs, h1⟩
  obtain ⟨ys, n, hl, hy, _, hf⟩ := open_arrN (b0 := b0) Tryd.underlying42 (by kernel_rfl) cs rfl h
  rw [show Tryd.prog.cellsOf 42 = 3 from by kernel_rfl] at hl
  obtain ⟨l⟩ := cs
  obtain ⟨c0, c1, c2, rfl⟩ := list3 hl
  obtain ⟨y0, y1, y2, rfl⟩ := list3 hy
  · skip
    obtain ⟨a0, rfl, w0⟩ := num_of Tryd.underlying22 (hf 0 _ _ (by decide) rfl rfl)
    obtain ⟨a1, rfl, w1⟩ := num_of Tryd.underlying22 (hf 1 _ _ (by decide) rfl rfl)
    obtain ⟨a2, rfl, w2⟩ := num_of Tryd.underlying22 (hf 2 _ _ (by decide) rfl rfl)
    obtain ⟨b0, q0, rfl⟩ := nat_of_u16 w0
    obtain ⟨b1, q1, rfl⟩ := nat_of_u16 w1
    obtain ⟨b2, q2, rfl⟩ := nat_of_u16 w2
    exact ⟨b0, b1, b2, rfl, q0, q1, q2⟩

set_option maxRecDepth 100000 in
theorem lifted_TopChanged (os : Os) (started : os.Started) (H : Type) (enc : TypeId × Value → H) :
    ReturnsInHanded {} Tryd.checked os 4 .any (fun w args => (Rows.topChangedSpec.pre enc Tryd.prog Tryd.f4 [] false w args ∧ laidMetH Tryd.prog [("pointcode/frames.flag", Rows.laid_pointcode_frames_flag)] w) ∧ sizedMet enc Tryd.prog Tryd.f4 (OpenSpec.ofChange Rows.topChangedSpec) false w args)
      (Rows.topChangedSpec.post enc Tryd.prog Tryd.f4 false true false false) := by
  refine returnsInHanded_of_change_and (C := Tryd.checked) (X := fun w _ => laidMetH Tryd.prog [("pointcode/frames.flag", Rows.laid_pointcode_frames_flag)] w) (fun _ _ _ hh h => h.of_heap hh) (show ownKnob Tryd.prog.godebug = none from by kernel_rfl) started (by kernel_rfl) Tryd.func4
    (ChangeSpec.witness_shaped (enc := enc) (C := Tryd.checked) (os := os) (X := fun w _ => laidMetH Tryd.prog [("pointcode/frames.flag", Rows.laid_pointcode_frames_flag)] w) false (World.doorLaid Tryd.prog 24 os) #[.agg #[.int .u8 0, .int .u8 0, .int .u8 0, .int .u8 0, .int .u16 0, .slice none 0 0], .agg #[.int .u16 0, .int .u16 0, .int .u16 0], .int .u16 0] 8 rfl (World.shaped_of_RefB (by kernel_rfl) (by kernel_rfl)) (by kernel_rfl) (by kernel_rfl) (by kernel_rfl) (flag_door os _)) ?_
  intro W base args ds gs before hval0 hW hcnd hsz0 hL _
  have hFl := flag_of_laid hL
  have hsz : (DataW.weightsEach Tryd.prog (Tryd.f4.params.toList ++ Rows.topChangedSpec.plain.varTypes Tryd.prog) (ds ++ gs)).all (· ≤ reachBytes) = true := hsz0
  have hval : ∀ (j : Nat) t v, Tryd.f4.params[j]? = some t → args[j]? = some v → Value.okWide Tryd.prog W .any base t v := hval0
  have hW' := hW
  obtain ⟨p, q, hA0, hV, rfl, hfz, hnd⟩ := hW
  have hA : DataW.TrodAll enc Tryd.prog W 0 (fun _ => true) true Tryd.f4.params.toList args.toList ds p := hA0
  rw [Tryd.params4] at hA hval hsz
  obtain ⟨v0, vs0, d0, ds0, p0, q0, hargs, rfl, rfl, h0, r0⟩ := trodAll_cons hA
  obtain ⟨v1, vs1, d1, ds1, p1, q1, rfl, rfl, rfl, h1, r1⟩ := trodAll_cons r0
  obtain ⟨v2, vs2, d2, ds2, p2, q2, rfl, rfl, rfl, h2, r2⟩ := trodAll_cons r1
  obtain ⟨rfl, rfl, rfl⟩ := trodAll_nil r2
  obtain rfl : args = #[v0, v1, v2] := by cases args; simp_all
  obtain ⟨rfl, rfl⟩ := trodVars_none hV
  have k0 := h0
  have k1 := h1
  have k2 := h2
  have lt0 : ∀ x ∈ p0, x.block < W.heap.size := by obtain ⟨m, hm⟩ := k0; exact DataW.trod_lt m _ _ _ hm
  have lt1 : ∀ x ∈ p1, x.block < W.heap.size := by obtain ⟨m, hm⟩ := k1; exact DataW.trod_lt m _ _ _ hm
  have lt2 : ∀ x ∈ p2, x.block < W.heap.size := by obtain ⟨m, hm⟩ := k2; exact DataW.trod_lt m _ _ _ hm
  obtain ⟨vb, vf, vk, vs, vz, A, l, c, ys, y, rfl, hb, hf, hk, hs, hz, hrd, hlc, hd, hy, hcw⟩ := open_u (hval 0 41 v0 rfl rfl) h0
  obtain ⟨a0, a1, a2, rfl, ha0, ha1, ha2⟩ := open_three (hval 1 42 v1 rfl rfl) h1
  obtain ⟨b2, rfl, rfl, rfl, w2⟩ := open_int Tryd.underlying22 (hval 2 22 v2 rfl rfl) h2
  obtain ⟨bu, hbu, e2⟩ := nat_of_u16 w2
  subst e2
  subst hd
  have hcb : c ≤ 140737488351232 := by
    rcases hcw with rfl | hcw
    · omega
    · have := sized_field hsz (j := 0) (t := 41) (i := 5) rfl rfl Tryd.underlying41 rfl (by rw [List.getElem?_map, hy]; rfl) hcw
      simp only [reachBytes] at this
      omega
  clear hA0 hval0 hsz0 h0 h1 h2
  refine (walk_TopChanged W hFl vb vf vk vs vz A l c hrd (by omega) hb hf hk hs hz a0 a1 a2 bu ha0 ha1 ha2 hbu).mono fun e W' ⟨he, bel⟩ => ?_
  subst he
  exact ⟨_, rfl, _, _, _, [], _, [], hW', trodAll_mk1 (shut_bool Tryd.underlying4 _), (trodAll_cons_mk (Below.trod (show laidOutB Tryd.prog = true from by kernel_rfl) (by kernel_rfl) (of_decide_eq_true (by kernel_rfl)) k0 bel lt0) (trodAll_cons_mk (Below.trod (show laidOutB Tryd.prog = true from by kernel_rfl) (by kernel_rfl) (of_decide_eq_true (by kernel_rfl)) k1 bel lt1) (trodAll_cons_mk (Below.trod (show laidOutB Tryd.prog = true from by kernel_rfl) (by kernel_rfl) (of_decide_eq_true (by kernel_rfl)) k2 bel lt2) trodAll_mk0))), rfl, bel.frame _, fun h => by cases h⟩

theorem row_TopChanged : Rows.TopChangedSaid :=
  OpenClaim.holds_of_wide 4 Tryd.f4 rfl rfl rfl rfl rfl rfl rfl ⟨rfl, rfl, rfl, rfl, rfl⟩ rfl rfl rfl rfl rfl (by kernel_rfl) Tryd.func4 (by kernel_rfl)
    (of_decide_eq_true (by kernel_rfl)) (by unfold Func.isWrapper; first | (rw [if_pos (by decide +kernel)]; kernel_rfl) | (rw [if_neg (by decide +kernel)]; exact ⟨rfl, rfl⟩))
    (fun os started H enc _ => lifted_TopChanged os started H enc)

theorem proved_TopChanged : Rows.TopChangedCardSaid :=
  Claim7.holds_tied_plain_at .later [] [.widerDeep] true (true, "f3b0ef59bc09cde9920d5d3f06c05051dc88fd17f8576795e8d692310cdf09b4") true
    row_TopChanged (fun _ h => by cases h) (by kernel_rfl) (fun _ h => by cases h) topChanged_row_tie rfl ⟨rfl, rfl⟩ (by kernel_rfl) rfl
    (fun f fn hf hfn => by
      obtain rfl : f = 4 := Option.some.inj ((show Tryd.prog.funcNamed "pointcode/pointcodetop.TopChanged" = some 4 by kernel_rfl).symm.trans hf) |>.symm
      obtain rfl : fn = Tryd.f4 := (Option.some.inj (Tryd.func4.symm.trans hfn)).symm
      exact ⟨by kernel_rfl, fun j t ht => by
        rw [Tryd.params4] at ht
        have hm : t ∈ [41, 42, 22] := by simpa using Array.mem_of_getElem? ht
        have hall : ([41, 42, 22].all fun u => !Tryd.prog.wantsStandIn u) = true := by kernel_rfl
        exact (show Tryd.prog.wantsStandIn t = false by simpa using List.all_eq_true.1 hall t hm)⟩)
    (by kernel_rfl)

#print axioms proved_TopChanged
end Go.Proofs.YthbbmpelldglmaaDoor
