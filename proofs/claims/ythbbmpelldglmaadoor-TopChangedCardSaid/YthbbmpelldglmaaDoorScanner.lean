/- Package frames: the scanner. -/
import Derived.Test.YthbbmpelldglmaaDoorFrames
namespace Go.Proofs.YthbbmpelldglmaaDoor
set_option linter.unusedVariables false
set_option linter.unusedSimpArgs false
open Go.RowKit

def sliceV (x : Option Addr × Nat × List UInt8) : Value := .slice x.1 x.2.2.length x.2.1
def scCells (s : Sc) (Ak : Option Addr) (ck : Nat) (Af : Option Addr) (nf cf : Nat) : Array Value :=
  #[.bool true, .bool s.h, .int .i64 0, .int .i64 s.ones, .int .i64 s.many, .slice Ak s.kept.length ck, .slice Af nf cf]
/-- one content that has been found lies apart from what the scanner writes -/
def Elem (w : World) (B g : Nat) (Ak Af : Option Addr) (x : Option Addr × Nat × List UInt8) : Prop :=
  RowB w B x.1 x.2.1 x.2.2 ∧ x.1.map (·.block) ≠ some g ∧ Apart x.1 Ak ∧ Apart x.1 Af
/-- the scanner's object at block g -/
structure ScIs (w : World) (B g : Nat) (s : Sc) (Ak : Option Addr) (ck : Nat) (Af : Option Addr) (cf : Nat) (ss : List (Option Addr × Nat × List UInt8)) : Prop where
  obj : w.heap[g]? = some (.cells (scCells s Ak ck Af ss.length cf) 156 (0, 0))
  ge : B ≤ g
  kept : RowB w B Ak ck s.kept
  kg : Ak.map (·.block) ≠ some g
  rows : Row w B 27 1 Af ss.length cf (ss.map sliceV)
  fg : Af.map (·.block) ≠ some g
  fk : Apart Af Ak
  elems : ∀ x ∈ ss, Elem w B g Ak Af x
  found : conts ss = s.found
def ScanAt (w : World) (B g : Nat) (s : Sc) : Prop := ∃ Ak ck Af cf ss, ScIs w B g s Ak ck Af cf ss

section
variable {w w' : World} {B g : Nat} {s : Sc} {Ak Af : Option Addr} {ck cf : Nat} {ss : List (Option Addr × Nat × List UInt8)}
theorem ScIs.cell (h : ScIs w B g s Ak ck Af cf ss) (k : Nat) : w.cell? ⟨g, k, none⟩ = (scCells s Ak ck Af ss.length cf)[k]? := by
  rw [cell_of_row _ _ _ _ _ _ h.obj]
theorem ScIs.free (h : ScIs w B g s Ak ck Af cf ss) (k : Nat) : w.frozen? ⟨g, k, none⟩ = false := frozen_of_row _ _ _ _ _ h.obj
theorem ScIs.lt (h : ScIs w B g s Ak ck Af cf ss) : g < w.heap.size := (Array.getElem?_eq_some_iff.1 h.obj).1
/-- the object's cells are written -/
theorem ScIs.put (h : ScIs w B g s Ak ck Af cf ss) (t : Sc) (Ak' : Option Addr) (k : Nat) (v : Value) (hk : t.kept = s.kept) (hf : t.found = s.found)
    (hc : (scCells s Ak ck Af ss.length cf).setIfInBounds k v = scCells t Ak ck Af ss.length cf) : ScIs (w.setCell ⟨g, k, none⟩ v) B g t Ak ck Af cf ss where
  obj := by rw [heap_setCell_same _ _ _ _ _ _ h.obj, hc]
  ge := h.ge
  kept := by rw [hk]; exact RowB.other h.kept (fun j hj e => h.kg (by rw [hj, e])) v
  kg := h.kg
  rows := Row.setOther h.rows (p := ⟨g, k, none⟩) (fun j hj e => h.fg (by rw [hj, e])) v
  fg := h.fg
  fk := h.fk
  elems := fun x hx => ⟨RowB.other (h.elems x hx).1 (fun j hj e => (h.elems x hx).2.1 (by rw [hj, e])) v, (h.elems x hx).2⟩
  found := by rw [hf]; exact h.found
/-- memory above has turned -/
theorem ScIs.below (h : ScIs w B g s Ak ck Af cf ss) (hb : Below w.heap.size w w') : ScIs w' B g s Ak ck Af cf ss where
  obj := (hb.block g h.lt).trans h.obj
  ge := h.ge
  kept := RowB.below h.kept hb
  kg := h.kg
  rows := Row.below h.rows hb
  fg := h.fg
  fk := h.fk
  elems := fun x hx => ⟨RowB.below (h.elems x hx).1 hb, (h.elems x hx).2⟩
  found := h.found
theorem ScIs.objGrown {row : Option Nat} (h : ScIs w B g s Ak ck Af cf ss) {w4 : World} (hg : w.grownBy w4 row) (hne : row ≠ some g) : w4.heap[g]? = some (.cells (scCells s Ak ck Af ss.length cf) 156 (0, 0)) :=
  (hg.block g h.lt (fun e => hne e.symm)).trans h.obj
/-- another row of kept bits -/
theorem ScIs.keptNew (h : ScIs w B g s Ak ck Af cf ss) {w4 : World} {A4 : Option Addr} {c4 : Nat} {t : List UInt8} (hg : w.grownBy w4 (Ak.map (·.block))) (hA : A4 = Ak ∨ A4 = some ⟨w.heap.size, 0, none⟩) (ht : RowB w4 B A4 c4 t) :
    ScIs (w4.setCell ⟨g, 5, none⟩ (.slice A4 t.length c4)) B g { s with kept := t } A4 c4 Af cf ss := by
  have hgA : A4.map (·.block) ≠ some g := by
    rcases hA with rfl | rfl
    · exact h.kg
    · have := h.lt; simp; omega
  exact {
    obj := by rw [heap_setCell_same _ _ _ _ _ _ (h.objGrown hg h.kg)]; rfl
    ge := h.ge
    kept := RowB.other ht (fun j hj e => hgA (by rw [hj, e])) _
    kg := hgA
    rows := Row.setOther (Row.kept h.rows hg (fun j hj e => h.fk j hj e)) (p := ⟨g, 5, none⟩) (fun j hj e => h.fg (by rw [hj, e])) _
    fg := h.fg
    fk := by
      rcases hA with rfl | rfl
      · exact h.fk
      · intro j hj e
        have := (Row.lt h.rows j hj).2
        simp at e
        omega
    elems := fun x hx => ⟨RowB.other (RowB.kept (h.elems x hx).1 hg (h.elems x hx).2.2.1) (fun j hj e => (h.elems x hx).2.1 (by rw [hj, e])) _, (h.elems x hx).2.1, Apart.grown (h.elems x hx).2.2.1 (h.elems x hx).1 hA, (h.elems x hx).2.2.2⟩
    found := h.found }
theorem Row.none_ {E : TypeId} {sz : Nat} {A : Option Addr} {n c : Nat} {xs : List Value} (h : Row w B E sz A n c xs) : Row w B E sz A 0 c [] := by
  refine ⟨by simp, ?_⟩
  rcases h.2 with ⟨a, b, c⟩ | ⟨g, cur, a, b, c, d, e, f, _⟩
  · exact .inl ⟨a, rfl, c⟩
  · exact .inr ⟨g, cur, a, b, c, by omega, e, f, by simp⟩
theorem ScIs.drew (h : ScIs w B g s Ak ck Af cf ss) : ScIs w.drew B g s Ak ck Af cf ss :=
  ⟨h.obj, h.ge, h.kept, h.kg, h.rows, h.fg, h.fk, h.elems, h.found⟩
/-- no kept bits -/
theorem ScIs.cleared (h : ScIs w B g s Ak ck Af cf ss) : ScIs (w.setCell ⟨g, 5, none⟩ (.slice Ak 0 ck)) B g { s with kept := [] } Ak ck Af cf ss := by
  exact {
    obj := by rw [heap_setCell_same _ _ _ _ _ _ h.obj]; rfl
    ge := h.ge
    kept := RowB.other (l := []) (Row.none_ h.kept) (fun j hj e => h.kg (by rw [hj, e])) _
    kg := h.kg
    rows := Row.setOther h.rows (p := ⟨g, 5, none⟩) (fun j hj e => h.fg (by rw [hj, e])) _
    fg := h.fg
    fk := h.fk
    elems := fun x hx => ⟨RowB.other (h.elems x hx).1 (fun j hj e => (h.elems x hx).2.1 (by rw [hj, e])) _, (h.elems x hx).2⟩
    found := h.found }
theorem ScIs.ended (h : ScIs w B g s Ak ck Af cf ss) (ho : s.ones = 0) :
    ScIs (((w.setCell ⟨g, 1, none⟩ (.bool false)).setCell ⟨g, 4, none⟩ (.int .i64 0)).setCell ⟨g, 5, none⟩ (.slice Ak 0 ck)).drew B g (s.done s.found) Ak ck Af cf ss := by
  have h1 := h.put { s with h := false } Ak 1 (.bool false) rfl rfl rfl
  have h2 := h1.put { s with h := false, many := 0 } Ak 4 (.int .i64 0) rfl rfl rfl
  have h3 := h2.cleared.drew
  have e : s.done s.found = { s with h := false, many := 0, kept := [] } := by
    obtain ⟨a, b, c, d, f⟩ := s
    simp only at ho
    subst ho
    rfl
  rw [e]
  exact h3
/-- a content more -/
theorem ScIs.foundNew (h : ScIs w B g s Ak ck Af cf ss) {w4 : World} {A4 : Option Addr} {c4 : Nat} {x : Option Addr × Nat × List UInt8} (hg : w.grownBy w4 (Af.map (·.block))) (hA : A4 = Af ∨ A4 = some ⟨w.heap.size, 0, none⟩)
    (hr : Row w4 B 27 1 A4 (ss.length + 1) c4 (ss.map sliceV ++ [sliceV x])) (he : Elem w B g Ak Af x) :
    ScIs (w4.setCell ⟨g, 6, none⟩ (.slice A4 (ss.length + 1) c4)) B g { s with found := s.found ++ [x.2.2] } Ak ck A4 c4 (ss ++ [x]) := by
  have hgA : A4.map (·.block) ≠ some g := by
    rcases hA with rfl | rfl
    · exact h.fg
    · have := h.lt; simp; omega
  have hel : ∀ y, Elem w B g Ak Af y → Elem (w4.setCell ⟨g, 6, none⟩ (.slice A4 (ss.length + 1) c4)) B g Ak A4 y := fun y hy =>
    ⟨RowB.other (RowB.kept hy.1 hg hy.2.2.2) (fun j hj e => hy.2.1 (by rw [hj, e])) _, hy.2.1, hy.2.2.1, Apart.grown hy.2.2.2 hy.1 hA⟩
  exact {
    obj := by rw [heap_setCell_same _ _ _ _ _ _ (h.objGrown hg h.fg)]; simp [scCells]
    ge := h.ge
    kept := RowB.other (RowB.kept h.kept hg h.fk.symm) (fun j hj e => h.kg (by rw [hj, e])) _
    kg := h.kg
    rows := by
      have := Row.setOther hr (p := ⟨g, 6, none⟩) (fun j hj e => hgA (by rw [hj, e])) (.slice A4 (ss.length + 1) c4)
      simpa using this
    fg := hgA
    fk := by
      rcases hA with rfl | rfl
      · exact h.fk
      · intro j hj e
        have := (Row.lt h.kept j e).2
        simp at hj
        omega
    elems := fun y hy => by
      rcases List.mem_append.1 hy with hy | hy
      · exact hel y (h.elems y hy)
      · simp at hy; subst hy; exact hel _ he
    found := by rw [← h.found]; simp [conts] }
end

set_option maxHeartbeats 1000000 in
set_option maxRecDepth 100000 in
theorem keep_any (B g : Nat) (s : Sc) (b : UInt8) (w : World) (h : ScanAt w B g s) (hm : s.many ≤ 4000000000) :
    Calls Tryd.prog 166 #[.pointer (some ⟨g, 0, none⟩), .int .u8 (b.toNat : Int)] w fun e w' => e = .returned (.tuple #[]) ∧ ScanAt w' B g (s.keep b) ∧ Below B w w' := by
  obtain ⟨Ak, ck, Af, cf, ss, h⟩ := h
  have c4 := h.cell 4
  have c5 := h.cell 5
  have f4 := h.free 4
  have f5 := h.free 5
  simp only [scCells, List.getElem?_toArray, List.getElem?_cons_succ, List.getElem?_cons_zero] at c4 c5
  have h2 := h.put { s with many := s.many + 1 } Ak 4 (.int .i64 ((s.many + 1 : Nat) : Int)) rfl rfl rfl
  have hb2 : Below B w (w.setCell ⟨g, 4, none⟩ (.int .i64 ((s.many + 1 : Nat) : Int))) := (Below.refl B w).setCell (p := ⟨g, 4, none⟩) h.ge _
  have hsz : (w.setCell ⟨g, 4, none⟩ (.int .i64 ((s.many + 1 : Nat) : Int))).heap.size = w.heap.size := by simp [World.setCell]
  have hlt := h.lt
  have hge := h.ge
  have he : ((s.many + 1 : Nat) : Int) = (s.many : Int) + 1 := by omega
  rw [he] at h2 hb2 hsz
  by_cases hl : s.kept.length < 2247
  · have hk : s.keep b = { s with many := s.many + 1, kept := s.kept ++ [b] } := by simp [Sc.keep, longest, hl]
    rw [hk]
    obtain ⟨t, ht⟩ : ∃ t, t = s.kept ++ [b] := ⟨_, rfl⟩
    have htl : t.length ≤ 2247 := by rw [ht]; simp; omega
    rw [← ht]
    have HT := Lib.hid ht
    have HK := Lib.hid hk
    have h3 := h2.below ((Below.refl _ _).alloc (Nat.le_refl _) (.cells #[.int .u8 (b.toNat : Int)] 5))
    clear ht hk he
    go_enter Tryd.func166, Tryd.ntmps166
    go_wp2_with (first
      | ((with_reducible refine at_dst 24 rfl ?_)
         refine append_bytes2 rfl (.tmp 21) (.tmp 23) rfl B Ak s.kept.length ck s.kept rfl rfl (Row.alloc h2.kept _) (some ⟨w.heap.size, 0, none⟩) 1 1 [b] rfl rfl (rd_lit_at _ w.heap.size hsz.symm [b]) t HT.out (by omega) w (Below.alloc hb2 (by omega) _) (by simp; omega) ?_
         intro A6 c6 w6 h6 hg6 hB6 hsz6 hA6
         have ob := h3.objGrown hg6 h3.kg
         have f6 : w6.frozen? ⟨g, 5, none⟩ = false := frozen_of_row _ _ _ _ _ ob
         have c6' : w6.cell? ⟨g, 5, none⟩ = some (.slice Ak s.kept.length ck) := by rw [cell_of_row _ _ _ _ _ _ ob]; rfl)
      | fail)
    go_end0
    exact ⟨rfl, ⟨_, _, _, _, _, h3.keptNew hg6 hA6 h6⟩, hB6.setCell (p := ⟨g, 5, none⟩) hge _⟩
  · have hk : s.keep b = { s with many := s.many + 1 } := by simp [Sc.keep, longest, hl]
    rw [hk]
    clear hk he
    go_enter Tryd.func166, Tryd.ntmps166
    go_wp2
    go_end0
    exact ⟨rfl, ⟨_, _, _, _, _, h2⟩, hb2⟩
theorem below_three {w : World} {B g : Nat} {a b c : Nat} {x y z : Value} (hge : B ≤ g) {v : World} (hb : Below B v w) : Below B v (((w.setCell ⟨g, a, none⟩ x).setCell ⟨g, b, none⟩ y).setCell ⟨g, c, none⟩ z).drew :=
  (((hb.setCell (p := ⟨g, a, none⟩) hge x).setCell (p := ⟨g, b, none⟩) hge y).setCell (p := ⟨g, c, none⟩) hge z).drew

set_option maxHeartbeats 2000000 in
set_option maxRecDepth 100000 in
theorem end_skip (B g : Nat) (s : Sc) (w : World) (h : ScanAt w B g s) (hm : s.many ≤ 4000000000) (ho : s.ones = 0) (hs : s.h = true ∨ s.many ≤ 7) :
    Calls Tryd.prog 167 #[.pointer (some ⟨g, 0, none⟩)] w fun e w' => e = .returned (.tuple #[]) ∧ ScanAt w' B g (s.done s.found) ∧ Below B w w' := by
  obtain ⟨Ak, ck, Af, cf, ss, h⟩ := h
  have c1 := h.cell 1
  have c4 := h.cell 4
  have c5 := h.cell 5
  have f1 := h.free 1
  have f4 := h.free 4
  have f5 := h.free 5
  have hge := h.ge
  have hle := Row.le h.kept
  have hcap := Row.cap_le h.kept
  unfold maxLen at hcap
  simp only [scCells, List.getElem?_toArray, List.getElem?_cons_succ, List.getElem?_cons_zero] at c1 c4 c5
  have hend := h.ended ho
  have hbel : Below B w (((w.setCell ⟨g, 1, none⟩ (.bool false)).setCell ⟨g, 4, none⟩ (.int .i64 0)).setCell ⟨g, 5, none⟩ (.slice Ak 0 ck)).drew := below_three hge (Below.refl _ _)
  have HE := Lib.hid hend
  have HO := Lib.hid ho
  clear hend ho h
  by_cases hh : s.h = true
  · rw [hh] at c1
    have HH := Lib.hid hh
    clear hh hs
    by_cases h7 : s.many ≤ 7
    · go_enter Tryd.func167, Tryd.ntmps167
      go_wp2
      go_region
      all_goals go_wp2
      go_end0
      exact ⟨rfl, ⟨_, _, _, _, _, HE.out⟩, hbel⟩
    · have h7' : (7 : Int) < (s.many : Int) := by omega
      go_enter Tryd.func167, Tryd.ntmps167
      go_wp2
      go_region
      all_goals go_wp2
      go_end0
      exact ⟨rfl, ⟨_, _, _, _, _, HE.out⟩, hbel⟩
  · have h7 : s.many ≤ 7 := by
      rcases hs with hs | hs
      · exact absurd hs hh
      · exact hs
    have hh2 : s.h = false := by simpa using hh
    rw [hh2] at c1
    clear hh hh2 hs
    go_enter Tryd.func167, Tryd.ntmps167
    go_wp2
    go_region
    all_goals go_wp2
    go_end0
    exact ⟨rfl, ⟨_, _, _, _, _, HE.out⟩, hbel⟩
theorem infoSlice : (Tryd.prog.info? 27).map (fun i => (i.zero, i.size, i.bytes)) = some (some (.slice none 0 0), 1, 24) := by kernel_rfl

set_option maxHeartbeats 2000000 in
set_option maxRecDepth 100000 in
theorem end_found (B g : Nat) (s : Sc) (d : List UInt8) (w : World) (h : ScanAt w B g s) (hm : s.many = 8 * d.length + 7) (ho : s.ones = 0) (hs : s.h = false) (h5 : 5 ≤ d.length) (h280 : d.length ≤ 280) (hk : s.kept.take (8 * d.length) = bitsL d) (hf : s.found.length ≤ 1000000) :
    Calls Tryd.prog 167 #[.pointer (some ⟨g, 0, none⟩)] w fun e w' => e = .returned (.tuple #[]) ∧ ScanAt w' B g (s.done (s.found ++ [d])) ∧ Below B w w' := by
  obtain ⟨Ak, ck, Af, cf, ss, h⟩ := h
  have c1 := h.cell 1
  have c4 := h.cell 4
  have c5 := h.cell 5
  have hge := h.ge
  have hle := Row.le h.kept
  have hcap := Row.cap_le h.kept
  unfold maxLen at hcap
  simp only [scCells, List.getElem?_toArray, List.getElem?_cons_succ, List.getElem?_cons_zero] at c1 c4 c5
  rw [hs] at c1
  have hssl : ss.length = s.found.length := by rw [← h.found]; simp [conts]
  have hkl : 8 * d.length ≤ s.kept.length := by
    have := congrArg List.length hk
    rw [List.length_take, bitsL_len] at this
    omega
  have hrd : RdB w Ak (bitsL d) := by
    rw [← hk]
    exact RdB.take (RowB.rd h.kept) _
  obtain ⟨n, hn⟩ : ∃ n, n = 8 * d.length := ⟨_, rfl⟩
  have hoct := octets_any Ak d n ck w hrd (by omega) (by omega) hn (by omega)
  have e1 : (s.many : Int) = (n : Int) + 7 := by omega
  rw [e1] at c4
  have hss : ss.length ≤ 1000000 := by omega
  have hn1 : 40 ≤ n := by omega
  have hn2 : n ≤ 2240 := by omega
  have hn3 : (n : Int) % 8 = 0 := by omega
  have hn4 : Int.tmod (n : Int) 8 = 0 := by rw [Int.tmod_eq_emod_of_nonneg (by omega)]; exact hn3
  have hn5 : (n : Int) ≤ (ck : Int) := by omega
  have hn6 : ((n : Int) == 0) = false := by simp; omega
  have HO := Lib.hid hoct
  have HN := Lib.hid hn
  have HK := Lib.hid hk
  have HM := Lib.hid hm
  have HE1 := Lib.hid e1
  have HSS := Lib.hid hssl
  have HKL := Lib.hid hkl
  clear hoct hn hk hm e1 hssl hrd hkl
  go_enter Tryd.func167, Tryd.ntmps167
  go_wp2_with (first
    | (go_at_call 197; (with_reducible refine HO.out.mono ?_)
       rintro e w3 ⟨A3, rfl, hR3, hB3⟩
       have h3 := h.below hB3
       have d6 := h3.cell 6
       have hx3 : Elem w3 B g Ak Af (A3, d.length, d) := ⟨Row.mono hR3 (by have := h.lt; omega), fun e => by have := (Row.lt hR3 g e).1; have := h.lt; omega, fun j hj e => by have := (Row.lt hR3 j hj).1; have := (Row.lt h.kept j e).2; omega, fun j hj e => by have := (Row.lt hR3 j hj).1; have := (Row.lt h.rows j e).2; omega⟩
       simp only [scCells, List.getElem?_toArray, List.getElem?_cons_succ, List.getElem?_cons_zero] at d6
       have h4 := h3.below ((Below.refl _ _).alloc (Nat.le_refl _) (.cells #[.slice A3 d.length d.length] 27)))
    | ((with_reducible refine at_dst 28 rfl ?_)
       refine wpList_append_row rfl (.tmp 25) (.tmp 27) 147 rfl B 27 _ 1 24 Tryd.underlying147 infoSlice rfl Af ss.length cf (ss.map sliceV) rfl h4.rows (some ⟨w3.heap.size, 0, none⟩) 1 1 [sliceV (A3, d.length, d)] rfl (fun k v hk => ⟨_, rfl, by rw [add_lit, cell_of_row _ _ _ _ _ _ (heap_alloc_new _ _)]; simpa [sliceV] using hk⟩) rfl (by intro v hv; simp at hv; subst hv; rfl) (by simp only [maxLen]; omega) (by omega) (by have := h4.lt; omega) ?_
       intro A5 c5 w5 h5 hg5 hA5
       have ob := h4.objGrown hg5 h4.fg
       have f6 : w5.frozen? ⟨g, 6, none⟩ = false := frozen_of_row _ _ _ _ _ ob
       have c6 : w5.cell? ⟨g, 6, none⟩ = some (.slice Af ss.length cf) := by rw [cell_of_row _ _ _ _ _ _ ob]; rfl)
    | fail)
  have h6 := h4.foundNew hg5 hA5 h5 ⟨Row.alloc hx3.1 _, hx3.2⟩
  have hB5 : Below B w (w5.setCell ⟨g, 6, none⟩ (.slice A5 (ss.length + 1) c5)) := by
    have hB3' := hB3.mono (show B ≤ w.heap.size by have := h.lt; omega)
    have hB4 := hB3'.alloc (by have := h3.lt; omega) (.cells #[.slice A3 d.length d.length] 27)
    exact (hB4.grown hg5 (by have := h4.lt; omega) (fun k hk => (Row.lt h4.rows k hk).1)).setCell (p := ⟨g, 6, none⟩) hge _
  clear h5 hg5 hA5 ob hR3 hx3
  generalize w5.setCell ⟨g, 6, none⟩ (.slice A5 (ss.length + 1) c5) = w6 at *
  have f1 := h6.free 1
  have f4 := h6.free 4
  have f5 := h6.free 5
  have g1 := h6.cell 1
  have g4 := h6.cell 4
  have g5 := h6.cell 5
  simp only [scCells, List.getElem?_toArray, List.getElem?_cons_succ, List.getElem?_cons_zero] at g1 g4 g5
  have hend := h6.ended ho
  have hbel := below_three (a := 1) (b := 4) (c := 5) (x := .bool false) (y := .int .i64 0) (z := .slice Ak 0 ck) hge hB5
  have HE := Lib.hid hend
  clear hend h h3 h4 h6 c1 c4 c6 f6 ho hs d6
  go_region
  all_goals go_wp2
  all_goals go_end0
  all_goals exact ⟨rfl, ⟨_, _, _, _, _, HE.out⟩, hbel⟩
end Go.Proofs.YthbbmpelldglmaaDoor
