/- Package frames: the scanner reads bits: read, each, Feed, New, Errors. -/
import Derived.Test.YthbbmpelldglmaaDoorScanner
namespace Go.Proofs.YthbbmpelldglmaaDoor
set_option linter.unusedVariables false
set_option linter.unusedSimpArgs false
open Go.RowKit

set_option maxHeartbeats 2000000 in
set_option maxRecDepth 100000 in
theorem read_any (B g : Nat) (s t : Sc) (b : UInt8) (w : World) (h : ScanAt w B g s) (hst : Step s b t) (hm : s.many ≤ 4000000000) (ho : s.ones ≤ 4000000000) (hf : s.found.length ≤ 1000000) :
    Calls Tryd.prog 128 #[.pointer (some ⟨g, 0, none⟩), .int .u8 (b.toNat : Int)] w fun e w' => e = .returned (.tuple #[]) ∧ ScanAt w' B g t ∧ Below B w w' := by
  obtain ⟨Ak, ck, Af, cf, ss, h⟩ := h
  have c3 := h.cell 3
  have f3 := h.free 3
  have hge := h.ge
  simp only [scCells, List.getElem?_toArray, List.getElem?_cons_succ, List.getElem?_cons_zero] at c3
  cases hst with
  | one h7 =>
    have h1 := h.put { s with ones := s.ones + 1 } Ak 3 (.int .i64 ((s.ones + 1 : Nat) : Int)) rfl rfl rfl
    have hb1 : Below B w (w.setCell ⟨g, 3, none⟩ (.int .i64 ((s.ones + 1 : Nat) : Int))) := (Below.refl B w).setCell (p := ⟨g, 3, none⟩) hge _
    have he : ((s.ones + 1 : Nat) : Int) = (s.ones : Int) + 1 := by omega
    rw [he] at h1 hb1
    have h7' : ((s.ones : Int) + 1 == 7) = false := by simp; omega
    have hk := keep_any B g { s with ones := s.ones + 1 } 1 _ ⟨_, _, _, _, _, h1⟩ hm
    rw [show ((1 : UInt8).toNat : Int) = 1 from rfl] at hk
    have HK := Lib.hid hk
    clear hk he h h1
    go_enter Tryd.func128, Tryd.ntmps128
    go_wp2_with (first
      | (go_at_call 166; (with_reducible refine HK.out.mono ?_)
         rintro e w2 ⟨rfl, ⟨A2, k2, F2, cf2, s2, h2⟩, hB2⟩
         have d3 := h2.cell 3
         have d1 := h2.cell 1
         simp only [scCells, Sc.keep, List.getElem?_toArray, List.getElem?_cons_succ, List.getElem?_cons_zero] at d3 d1)
      | fail)
    (try simp only [Exit.inBlock, Exit.then])
    refine bodyPost_ret (results_none rfl _ _ _) rfl ?_
    exact ⟨rfl, ⟨_, _, _, _, _, h2⟩, hb1.trans hB2⟩
  | zero h5 h6 =>
    have h1 := h.put { s with ones := 0 } Ak 3 (.int .i64 0) rfl rfl rfl
    have hb1 : Below B w (w.setCell ⟨g, 3, none⟩ (.int .i64 0)) := (Below.refl B w).setCell (p := ⟨g, 3, none⟩) hge _
    have h5' : ((s.ones : Int) == 5) = false := by simp; omega
    have h6' : ((s.ones : Int) == 6) = false := by simp; omega
    have hk := keep_any B g { s with ones := 0 } 0 _ ⟨_, _, _, _, _, h1⟩ hm
    rw [show ((0 : UInt8).toNat : Int) = 0 from rfl] at hk
    have HK := Lib.hid hk
    clear hk h h1
    go_enter Tryd.func128, Tryd.ntmps128
    go_wp2_with (first
      | (go_at_call 166; (with_reducible refine HK.out.mono ?_)
         rintro e w2 ⟨rfl, h2, hB2⟩)
      | fail)
    go_end0
    exact ⟨rfl, h2, hb1.trans hB2⟩
  | gone h5 =>
    have h1 := h.put { s with ones := 0 } Ak 3 (.int .i64 0) rfl rfl rfl
    have hb1 : Below B w (w.setCell ⟨g, 3, none⟩ (.int .i64 0)) := (Below.refl B w).setCell (p := ⟨g, 3, none⟩) hge _
    rw [h5] at c3
    clear h
    go_enter Tryd.func128, Tryd.ntmps128
    go_wp2
    go_end0
    exact ⟨rfl, ⟨_, _, _, _, _, h1⟩, hb1⟩
  | fin f h6 hend =>
    have h1 := h.put { s with ones := 0 } Ak 3 (.int .i64 0) rfl rfl rfl
    have hb1 : Below B w (w.setCell ⟨g, 3, none⟩ (.int .i64 0)) := (Below.refl B w).setCell (p := ⟨g, 3, none⟩) hge _
    rw [h6] at c3
    have hk : Calls Tryd.prog 167 #[.pointer (some ⟨g, 0, none⟩)] (w.setCell ⟨g, 3, none⟩ (.int .i64 0)) fun e w' => e = .returned (.tuple #[]) ∧ ScanAt w' B g (s.done f) ∧ Below B (w.setCell ⟨g, 3, none⟩ (.int .i64 0)) w' := by
      rcases hend with ⟨hs, rfl⟩ | ⟨hh, d, hmd, hd5, hd280, hkt, rfl⟩
      · exact end_skip B g { s with ones := 0 } _ ⟨_, _, _, _, _, h1⟩ hm rfl hs
      · exact end_found B g { s with ones := 0 } d _ ⟨_, _, _, _, _, h1⟩ hmd rfl hh hd5 hd280 hkt hf
    have HK := Lib.hid hk
    clear hk h h1
    go_enter Tryd.func128, Tryd.ntmps128
    go_wp2_with (first
      | (go_at_call 167; (with_reducible refine HK.out.mono ?_)
         rintro e w2 ⟨rfl, h2, hB2⟩)
      | fail)
    go_end0
    exact ⟨rfl, h2, hb1.trans hB2⟩
/-- the octets lie below B -/
def Low (B : Nat) (A : Option Addr) : Prop := ∀ ad, A = some ad → ad.block < B
theorem RdB.low {w w' : World} {B : Nat} {A : Option Addr} {l : List UInt8} (h : RdB w A l) (hl : Low B A) (hb : Below B w w') : RdB w' A l := fun k v hv => by
  obtain ⟨ad, e, hc⟩ := h k v hv
  refine ⟨ad, e, ?_⟩
  rw [← hc]
  exact hb.cell (by rw [add_block]; exact hl ad e)
theorem run_head {s u : Sc} {l : List UInt8} {k : Nat} (hr : Run s (l.drop k) u) (hk : k < l.length) : ∃ t, Step s l[k] t ∧ Run t (l.drop (k + 1)) u := by
  rw [List.drop_eq_getElem_cons hk] at hr
  cases hr with
  | cons h1 h2 => exact ⟨_, h1, h2⟩
theorem run_done {s u : Sc} {l : List UInt8} {k : Nat} (hr : Run s (l.drop k) u) (hk : l.length ≤ k) : s = u := by
  rw [List.drop_of_length_le hk] at hr
  cases hr
  rfl

set_option maxHeartbeats 2000000 in
set_option maxRecDepth 100000 in
theorem each_any (B g : Nat) (s u : Sc) (A : Option Addr) (l : List UInt8) (c : Nat) (w : World) (h : ScanAt w B g s) (hr : Run s l u) (hA : RdB w A l) (hlow : Low B A) (hl : l.length ≤ 900000)
    (hm : s.many ≤ 1000000) (ho : s.ones ≤ 1000000) (hf : s.found.length ≤ 10000) :
    Calls Tryd.prog 127 #[.slice A l.length c, .func (.func 128) #[.pointer (some ⟨g, 0, none⟩)] #[]] w fun e w' => e = .returned (.tuple #[]) ∧ ScanAt w' B g u ∧ Below B w w' := by
  have HR := Lib.hid hr
  clear hr
  go_enter Tryd.func127, Tryd.ntmps127
  go_wp2
  go_loopw [5, 8] (fun _ i wr => ∃ k : Nat, k ≤ l.length ∧ i = .int .i64 k ∧ (∃ t : Sc, Hid (Run t (l.drop k) u) ∧ ScanAt wr B g t ∧ t.many ≤ 1000000 + k ∧ t.ones ≤ 1000000 + k ∧ t.found.length ≤ 10000 + k) ∧ Below B w wr) (fun _ i _ => l.length - (intOf i).toNat)
  case atStart => exact ⟨0, by omega, rfl, ⟨s, HR, h, by omega, by omega, by omega⟩, Below.refl _ _⟩
  case round =>
    clear h HR
    obtain ⟨k, hk, rfl, ⟨t, HT, hS, hm1, ho1, hf1⟩, hB⟩ := hrel
    by_cases hlt : k < l.length
    · obtain ⟨t2, hst, hr2⟩ := run_head HT.out hlt
      obtain ⟨ad, e, hc⟩ := (hA.low hlow hB).get hlt
      subst e
      have hms := hst.many
      have hread := read_any B g t t2 l[k] wr hS hst (by omega) (by omega) (by omega)
      generalize l[k] = b at *
      have HRD := Lib.hid hread
      have HR2 := Lib.hid hr2
      have HMS := Lib.hid hms
      clear hread hr2 hst hms
      go_wp2_with (first
        | (go_at_call 128; (with_reducible refine HRD.out.mono ?_)
           rintro e w2 ⟨rfl, h2, hB2⟩)
        | fail)
      have hms := HMS.out
      go_roundw
      case rel => exact ⟨k + 1, by omega, by go_num, ⟨t2, HR2, h2, by omega, by omega, by omega⟩, hB.trans hB2⟩
      case measure => simp [intOf]; omega
    · obtain rfl : t = u := run_done HT.out (by omega)
      go_wp2
      go_end0
      exact ⟨rfl, hS, hB⟩
set_option maxHeartbeats 400000 in
set_option maxRecDepth 100000 in
theorem clipS_any (A : Option Addr) (n c : Nat) (w : World) (h : n ≤ c) (hc : c ≤ maxLen) :
    Calls Tryd.prog 129 #[.slice A n c] w fun e w' => e = .returned (.slice A n n) ∧ w = w' := by
  unfold maxLen at hc
  go_enter Tryd.func129, Tryd.ntmps129
  go_wp2
  go_ret
  exact ⟨rfl, rfl⟩

theorem ScIs.emptied {w : World} {B g : Nat} {s : Sc} {Ak Af : Option Addr} {ck cf : Nat} {ss : List (Option Addr × Nat × List UInt8)} (h : ScIs w B g s Ak ck Af cf ss) :
    ScIs (w.setCell ⟨g, 6, none⟩ (.slice none 0 0)) B g { s with found := [] } Ak ck none 0 [] := by
  exact {
    obj := by rw [heap_setCell_same _ _ _ _ _ _ h.obj]; rfl
    ge := h.ge
    kept := RowB.other h.kept (fun j hj e => h.kg (by rw [hj, e])) _
    kg := h.kg
    rows := Row.nil _ _ _ _
    fg := by simp
    fk := Apart.none _
    elems := fun x hx => by cases hx
    found := rfl }
theorem ScIs.rdS {w : World} {B g : Nat} {s : Sc} {Ak Af : Option Addr} {ck cf : Nat} {ss : List (Option Addr × Nat × List UInt8)} (h : ScIs w B g s Ak ck Af cf ss) (v : Value) : RdS (w.setCell ⟨g, 6, none⟩ v) Af ss := by
  intro k x hk
  have hx := List.mem_of_getElem? hk
  have h2 := Row.setOther h.rows (p := ⟨g, 6, none⟩) (fun j hj e => h.fg (by rw [hj, e])) v
  refine ⟨?_, RowB.rd (RowB.other (h.elems x hx).1 (fun j hj e => (h.elems x hx).2.1 (by rw [hj, e])) v)⟩
  exact h2.rd k (sliceV x) (by rw [List.getElem?_map, hk]; rfl)

set_option maxHeartbeats 2000000 in
set_option maxRecDepth 100000 in
theorem feed_any (B g : Nat) (s u : Sc) (A : Option Addr) (l : List UInt8) (c : Nat) (w : World) (h : ScanAt w B g s) (hr : Run s l u) (hA : RdB w A l) (hlow : Low B A) (hl : l.length ≤ 900000)
    (hm : s.many ≤ 1000000) (ho : s.ones ≤ 1000000) (hf : s.found.length ≤ 10000) :
    Calls Tryd.prog 82 #[.pointer (some ⟨g, 0, none⟩), .slice A l.length c] w fun e w' => ∃ Af ss, e = .returned (.tuple #[.slice Af ss.length ss.length, .int .i64 0]) ∧ RdS w' Af ss ∧ (∀ x ∈ ss, x.2.2.length ≤ x.2.1) ∧ conts ss = u.found ∧
      ScanAt w' B g { u with found := [] } ∧ Below B w w' := by
  have hck := bitsCheck_any A l c w hA (by omega) hr.bits
  have hea := each_any B g s u A l c w h hr hA hlow hl hm ho hf
  obtain ⟨Ak, ck, Af, cf, ss, h⟩ := h
  have c0 := h.cell 0
  have hge := h.ge
  simp only [scCells, List.getElem?_toArray, List.getElem?_cons_succ, List.getElem?_cons_zero] at c0
  have HC := Lib.hid hck
  have HE := Lib.hid hea
  clear hck hea hr hA h
  go_enter Tryd.func82, Tryd.ntmps82
  go_wp2_with (first
    | (go_at_call 103; (with_reducible refine HC.out.mono ?_); rintro e w2 ⟨rfl, rfl⟩)
    | (go_at_call 127; (with_reducible refine HE.out.mono ?_)
       rintro e w2 ⟨rfl, ⟨A2, k2, F2, cf2, s2, h2⟩, hB2⟩
       have d6 := h2.cell 6
       have f6 := h2.free 6
       have hle := Row.le h2.rows
       have hcap := Row.cap_le h2.rows
       simp only [scCells, List.getElem?_toArray, List.getElem?_cons_succ, List.getElem?_cons_zero] at d6)
    | (go_at_call 129; (with_reducible refine (clipS_any _ _ _ _ hle hcap).mono ?_); rintro e w3 ⟨rfl, rfl⟩)
    | fail)
  go_ret2
  exact ⟨F2, s2, rfl, h2.rdS _, fun x hx => Row.le (h2.elems x hx).1, h2.found, ⟨_, _, _, _, _, h2.emptied⟩, hB2.setCell (p := ⟨g, 6, none⟩) hge _⟩

set_option maxHeartbeats 2000000 in
set_option maxRecDepth 100000 in
theorem errors_any (B g : Nat) (s : Sc) (w : World) (h : ScanAt w B g s) :
    Calls Tryd.prog 81 #[.pointer (some ⟨g, 0, none⟩)] w fun e w' => e = .returned (.int .i64 0) ∧ w = w' := by
  obtain ⟨Ak, ck, Af, cf, ss, h⟩ := h
  have c2 := h.cell 2
  simp only [scCells, List.getElem?_toArray, List.getElem?_cons_succ, List.getElem?_cons_zero] at c2
  clear h
  go_enter Tryd.func81, Tryd.ntmps81
  go_wp2
  go_ret
  exact ⟨rfl, rfl⟩

set_option maxHeartbeats 2000000 in
set_option maxRecDepth 100000 in
theorem new_any (w : World) :
    Calls Tryd.prog 20 #[] w fun e w' => e = .returned (.pointer (some ⟨w.heap.size, 0, none⟩)) ∧ ScanAt w' w.heap.size w.heap.size fresh0 ∧ Below w.heap.size w w' := by
  go_enter Tryd.func20, Tryd.ntmps20
  go_wp2
  go_ret
  refine ⟨rfl, ⟨none, 0, none, 0, [], ?_⟩, (Below.refl _ _).alloc (Nat.le_refl _) _⟩
  exact {
    obj := heap_alloc_new _ _
    ge := Nat.le_refl _
    kept := Row.nil _ _ _ _
    kg := by simp
    rows := Row.nil _ _ _ _
    fg := by simp
    fk := Apart.none _
    elems := fun x hx => by cases hx
    found := rfl }
end Go.Proofs.YthbbmpelldglmaaDoor
