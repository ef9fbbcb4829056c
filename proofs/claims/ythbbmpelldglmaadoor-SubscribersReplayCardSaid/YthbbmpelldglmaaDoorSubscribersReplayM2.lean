/- Package subscribers: the fields of a record. -/
import Derived.Test.YthbbmpelldglmaaDoorSubscribersReplayM1
import Derived.Deep.RegionHeld3
import Derived.Lib.SmallJoins
import Derived.Deep.RegionLaw
import Derived.Test.YthbbmpelldglmaaDoorProg
import Derived.Shelf.Strings.SlTrimAscii
import Derived.StillTailTactics
import Derived.Deep.QuietTactic
import Derived.BigQuiet
namespace Go.Proofs.YthbbmpelldglmaaDoor
set_option linter.unusedVariables false
set_option linter.unusedSimpArgs false
open Go.RowKit

set_option maxHeartbeats 4000000 in
set_option maxRecDepth 100000 in
theorem homeFields_any (h : HomeR) (w : World) (hok : h.ok = true) (hg : h.Go) :
    Calls Tryd.prog 88 #[h.val] w fun e w' => ∃ A' c', e = .returned (.slice A' h.fields.length c') ∧ RowB w' w.heap.size A' c' h.fields ∧ Below w.heap.size w w' := by
  have hlen := HomeR.ok_len hok
  obtain ⟨id, number, at_, move, barred, waiting⟩ := h
  obtain ⟨hat, hmv⟩ := hg
  simp only at hlen hat hmv
  unfold HomeR.val HomeR.cells HomeR.fields
  simp only
  obtain ⟨L1, hL1⟩ : ∃ L, L = textB id := ⟨_, rfl⟩
  obtain ⟨L2, hL2⟩ : ∃ L, L = L1 ++ textB number := ⟨_, rfl⟩
  obtain ⟨L3, hL3⟩ : ∃ L, L = L2 ++ pairB at_ := ⟨_, rfl⟩
  obtain ⟨L4, hL4⟩ : ∃ L, L = L3 ++ longB move := ⟨_, rfl⟩
  obtain ⟨L5, hL5⟩ : ∃ L, L = L4 ++ [flagsB barred waiting] := ⟨_, rfl⟩
  have e5 : textB id ++ textB number ++ pairB at_ ++ longB move ++ [flagsB barred waiting] = L5 := by rw [hL5, hL4, hL3, hL2, hL1]
  have n1 : L1.length ≤ 16 := by rw [hL1, textB_len]; omega
  have n2 : L2.length ≤ 32 := by rw [hL2, List.length_append, textB_len]; omega
  have n3 : L3.length ≤ 34 := by rw [hL3, List.length_append, pairB_len]; omega
  have n4 : L4.length ≤ 38 := by rw [hL4, List.length_append, longB_len]; omega
  have n5 : L5.length ≤ 39 := by rw [hL5, List.length_append]; simp; omega
  rw [e5]
  have h1 : ∀ w', (Below w.heap.size w w' ∧ w'.heap[w.heap.size]? = some (.cells #[encStr id, encStr number, .int .u16 (at_ : Int), .int .u32 (move : Int), .bool barred, .bool waiting] 63)) → Calls Tryd.prog 134 #[.slice none 0 0, encStr id] w' fun e w2 => ∃ A' c', e = .returned (.slice A' L1.length c') ∧ RowB w2 (w.heap.size + 1) A' c' L1 ∧ Chg (blk none) w' w2 ∧ NewIn w' (blk none) (blk A') := fun w' hs => by
    have := text_any (w.heap.size + 1) none [] 0 id w' (RowB.nil _ _) (lt_of_held hs) (by simp) (by omega)
    rw [List.nil_append, ← hL1] at this; exact this
  have h2 : ∀ A c w', (Below w.heap.size w w' ∧ w'.heap[w.heap.size]? = some (.cells #[encStr id, encStr number, .int .u16 (at_ : Int), .int .u32 (move : Int), .bool barred, .bool waiting] 63)) → RowB w' (w.heap.size + 1) A c L1 → Calls Tryd.prog 134 #[.slice A L1.length c, encStr number] w' fun e w2 => ∃ A' c', e = .returned (.slice A' L2.length c') ∧ RowB w2 (w.heap.size + 1) A' c' L2 ∧ Chg (blk A) w' w2 ∧ NewIn w' (blk A) (blk A') := fun A c w' hs hr => by
    have := text_any (w.heap.size + 1) A L1 c number w' hr (lt_of_held hs) (by omega) (by omega)
    rw [← hL2] at this; exact this
  have h3 : ∀ A c w', (Below w.heap.size w w' ∧ w'.heap[w.heap.size]? = some (.cells #[encStr id, encStr number, .int .u16 (at_ : Int), .int .u32 (move : Int), .bool barred, .bool waiting] 63)) → RowB w' (w.heap.size + 1) A c L2 → Calls Tryd.prog 132 #[.slice A L2.length c, .int .u16 at_] w' fun e w2 => ∃ A' c', e = .returned (.slice A' L3.length c') ∧ RowB w2 (w.heap.size + 1) A' c' L3 ∧ Chg (blk A) w' w2 ∧ NewIn w' (blk A) (blk A') := fun A c w' hs hr => by
    have := pair_any (w.heap.size + 1) A L2 c at_ w' hr (lt_of_held hs) (by omega) (by omega)
    rw [← hL3] at this; exact this
  have h4 : ∀ A c w', (Below w.heap.size w w' ∧ w'.heap[w.heap.size]? = some (.cells #[encStr id, encStr number, .int .u16 (at_ : Int), .int .u32 (move : Int), .bool barred, .bool waiting] 63)) → RowB w' (w.heap.size + 1) A c L3 → Calls Tryd.prog 133 #[.slice A L3.length c, .int .u32 move] w' fun e w2 => ∃ A' c', e = .returned (.slice A' L4.length c') ∧ RowB w2 (w.heap.size + 1) A' c' L4 ∧ Chg (blk A) w' w2 ∧ NewIn w' (blk A) (blk A') := fun A c w' hs hr => by
    have := long_any (w.heap.size + 1) A L3 c move w' hr (lt_of_held hs) (by omega) (by omega)
    rw [← hL4] at this; exact this
  have H1 := Lib.hid h1
  have H2 := Lib.hid h2
  have H3 := Lib.hid h3
  have H4 := Lib.hid h4
  have HL5 := Lib.hid hL5
  clear h1 h2 h3 h4 hL1 hL2 hL3 hL4 hL5 e5
  have ho := heap_alloc_new w (.cells #[encStr id, encStr number, .int .u16 (at_ : Int), .int .u32 (move : Int), .bool barred, .bool waiting] 63)
  have b0 := ((Below.refl w.heap.size w).alloc (Nat.le_refl _) (.cells #[encStr id, encStr number, .int .u16 (at_ : Int), .int .u32 (move : Int), .bool barred, .bool waiting] 63)).drew
  have h0 := fun w' : World => RowB.nil w' (w.heap.size + 1)
  have y0 : ∀ w' : World, w'.heap[w.heap.size]? = some (.cells #[encStr id, encStr number, .int .u16 (at_ : Int), .int .u32 (move : Int), .bool barred, .bool waiting] 63) → w'.cell? ⟨w.heap.size, 0, none⟩ = some (encStr id) := fun w' e => cell_of_row _ _ 0 _ _ _ e
  have y1 : ∀ w' : World, w'.heap[w.heap.size]? = some (.cells #[encStr id, encStr number, .int .u16 (at_ : Int), .int .u32 (move : Int), .bool barred, .bool waiting] 63) → w'.cell? ⟨w.heap.size, 1, none⟩ = some (encStr number) := fun w' e => cell_of_row _ _ 1 _ _ _ e
  have y2 : ∀ w' : World, w'.heap[w.heap.size]? = some (.cells #[encStr id, encStr number, .int .u16 (at_ : Int), .int .u32 (move : Int), .bool barred, .bool waiting] 63) → w'.cell? ⟨w.heap.size, 2, none⟩ = some (.int .u16 (at_ : Int)) := fun w' e => cell_of_row _ _ 2 _ _ _ e
  have y3 : ∀ w' : World, w'.heap[w.heap.size]? = some (.cells #[encStr id, encStr number, .int .u16 (at_ : Int), .int .u32 (move : Int), .bool barred, .bool waiting] 63) → w'.cell? ⟨w.heap.size, 3, none⟩ = some (.int .u32 (move : Int)) := fun w' e => cell_of_row _ _ 3 _ _ _ e
  have y4 : ∀ w' : World, w'.heap[w.heap.size]? = some (.cells #[encStr id, encStr number, .int .u16 (at_ : Int), .int .u32 (move : Int), .bool barred, .bool waiting] 63) → w'.cell? ⟨w.heap.size, 4, none⟩ = some (.bool barred) := fun w' e => cell_of_row _ _ 4 _ _ _ e
  have y5 : ∀ w' : World, w'.heap[w.heap.size]? = some (.cells #[encStr id, encStr number, .int .u16 (at_ : Int), .int .u32 (move : Int), .bool barred, .bool waiting] 63) → w'.cell? ⟨w.heap.size, 5, none⟩ = some (.bool waiting) := fun w' e => cell_of_row _ _ 5 _ _ _ e
  cases barred <;> cases waiting
  · go_enter Tryd.func88, Tryd.ntmps88
    go_wp2
    go_region_held3 (fun w' => Below w.heap.size w w' ∧ w'.heap[w.heap.size]? = some (.cells #[encStr id, encStr number, .int .u16 (at_ : Int), .int .u32 (move : Int), .bool false, .bool false] 63))
      (first | exact ⟨b0, ho⟩ | exact keepS hS1 (by assumption) (by simp [blk]) | exact keepS hS2 (by assumption) (fun i hi => (Row.blk_lt h1 i hi).1) | exact keepS hS3 (by assumption) (fun i hi => (Row.blk_lt h2 i hi).1) | exact keepS hS4 (by assumption) (fun i hi => (Row.blk_lt h3 i hi).1) | exact keepS (Chg.of_row hg5) (by assumption) (fun i hi => (Row.blk_lt h4 i hi).1) | exact keepA (by assumption) | fail)
      (first
        | (go_at_call 134; (with_reducible refine (H1.out _ (by assumption)).mono ?_); rintro e w1 ⟨A1, c1, rfl, h1, hS1, hN1⟩; (first | (have hlit := (Lit1.newD (w.alloc _) (w.heap.size + 1) (by simp) (flagsB false false)).step hS1 hN1) | (have hlit := hlit.step hS1 hN1) | skip))
        | (go_at_call 134; (with_reducible refine (H2.out A1 c1 _ (by assumption) (by first | exact h1 | exact RowB.alloc h1 _)).mono ?_); rintro e w2 ⟨A2, c2, rfl, h2, hS2, hN2⟩; (first | (have hlit := (Lit1.new h1 (flagsB false false)).step hS2 hN2) | (have hlit := hlit.step hS2 hN2) | skip))
        | (go_at_call 132; (with_reducible refine (H3.out A2 c2 _ (by assumption) (by first | exact h2 | exact RowB.alloc h2 _)).mono ?_); rintro e w3 ⟨A3, c3, rfl, h3, hS3, hN3⟩; (first | (have hlit := (Lit1.new h2 (flagsB false false)).step hS3 hN3) | (have hlit := hlit.step hS3 hN3) | skip))
        | (go_at_call 133; (with_reducible refine (H4.out A3 c3 _ (by assumption) (by first | exact h3 | exact RowB.alloc h3 _)).mono ?_); rintro e w4 ⟨A4, c4, rfl, h4, hS4, hN4⟩; (first | (have hlit := (Lit1.new h3 (flagsB false false)).step hS4 hN4) | (have hlit := hlit.step hS4 hN4) | skip))
        | (refine step_bytes (by rfl) (.tmp 23) (.tmp 25) (by rfl) (w.heap.size + 1) A4 L4.length c4 L4 (by rfl) rfl (by first | exact h4 | exact RowB.alloc h4 _) _ _ _ [flagsB false false] rfl rfl (by first | exact hlit.rd | exact rd_lit _ _) L5 HL5.out (by omega) _ (Below.refl _ _) (lt_of_held (by assumption)) ?_
           intro A5 c5 w5 h5 hg5 hS5 hsz5 hA5)
        | fail)
    all_goals go_wp2
    all_goals go_ret
    all_goals exact ⟨A5, c5, rfl, Row.mono h5 (by omega), (‹Below w.heap.size w w5 ∧ w5.heap[w.heap.size]? = some (.cells #[encStr id, encStr number, .int .u16 (at_ : Int), .int .u32 (move : Int), .bool false, .bool false] 63)›).1⟩
  · go_enter Tryd.func88, Tryd.ntmps88
    go_wp2
    go_region_held3 (fun w' => Below w.heap.size w w' ∧ w'.heap[w.heap.size]? = some (.cells #[encStr id, encStr number, .int .u16 (at_ : Int), .int .u32 (move : Int), .bool false, .bool true] 63))
      (first | exact ⟨b0, ho⟩ | exact keepS hS1 (by assumption) (by simp [blk]) | exact keepS hS2 (by assumption) (fun i hi => (Row.blk_lt h1 i hi).1) | exact keepS hS3 (by assumption) (fun i hi => (Row.blk_lt h2 i hi).1) | exact keepS hS4 (by assumption) (fun i hi => (Row.blk_lt h3 i hi).1) | exact keepS (Chg.of_row hg5) (by assumption) (fun i hi => (Row.blk_lt h4 i hi).1) | exact keepA (by assumption) | fail)
      (first
        | (go_at_call 134; (with_reducible refine (H1.out _ (by assumption)).mono ?_); rintro e w1 ⟨A1, c1, rfl, h1, hS1, hN1⟩; (first | (have hlit := (Lit1.newD (w.alloc _) (w.heap.size + 1) (by simp) (flagsB false true)).step hS1 hN1) | (have hlit := hlit.step hS1 hN1) | skip))
        | (go_at_call 134; (with_reducible refine (H2.out A1 c1 _ (by assumption) (by first | exact h1 | exact RowB.alloc h1 _)).mono ?_); rintro e w2 ⟨A2, c2, rfl, h2, hS2, hN2⟩; (first | (have hlit := (Lit1.new h1 (flagsB false true)).step hS2 hN2) | (have hlit := hlit.step hS2 hN2) | skip))
        | (go_at_call 132; (with_reducible refine (H3.out A2 c2 _ (by assumption) (by first | exact h2 | exact RowB.alloc h2 _)).mono ?_); rintro e w3 ⟨A3, c3, rfl, h3, hS3, hN3⟩; (first | (have hlit := (Lit1.new h2 (flagsB false true)).step hS3 hN3) | (have hlit := hlit.step hS3 hN3) | skip))
        | (go_at_call 133; (with_reducible refine (H4.out A3 c3 _ (by assumption) (by first | exact h3 | exact RowB.alloc h3 _)).mono ?_); rintro e w4 ⟨A4, c4, rfl, h4, hS4, hN4⟩; (first | (have hlit := (Lit1.new h3 (flagsB false true)).step hS4 hN4) | (have hlit := hlit.step hS4 hN4) | skip))
        | (refine step_bytes (by rfl) (.tmp 23) (.tmp 25) (by rfl) (w.heap.size + 1) A4 L4.length c4 L4 (by rfl) rfl (by first | exact h4 | exact RowB.alloc h4 _) _ _ _ [flagsB false true] rfl rfl (by first | exact hlit.rd | exact rd_lit _ _) L5 HL5.out (by omega) _ (Below.refl _ _) (lt_of_held (by assumption)) ?_
           intro A5 c5 w5 h5 hg5 hS5 hsz5 hA5)
        | fail)
    all_goals go_wp2
    all_goals go_ret
    all_goals exact ⟨A5, c5, rfl, Row.mono h5 (by omega), (‹Below w.heap.size w w5 ∧ w5.heap[w.heap.size]? = some (.cells #[encStr id, encStr number, .int .u16 (at_ : Int), .int .u32 (move : Int), .bool false, .bool true] 63)›).1⟩
  · go_enter Tryd.func88, Tryd.ntmps88
    go_wp2
    go_region_held3 (fun w' => Below w.heap.size w w' ∧ w'.heap[w.heap.size]? = some (.cells #[encStr id, encStr number, .int .u16 (at_ : Int), .int .u32 (move : Int), .bool true, .bool false] 63))
      (first | exact ⟨b0, ho⟩ | exact keepS hS1 (by assumption) (by simp [blk]) | exact keepS hS2 (by assumption) (fun i hi => (Row.blk_lt h1 i hi).1) | exact keepS hS3 (by assumption) (fun i hi => (Row.blk_lt h2 i hi).1) | exact keepS hS4 (by assumption) (fun i hi => (Row.blk_lt h3 i hi).1) | exact keepS (Chg.of_row hg5) (by assumption) (fun i hi => (Row.blk_lt h4 i hi).1) | exact keepA (by assumption) | fail)
      (first
        | (go_at_call 134; (with_reducible refine (H1.out _ (by assumption)).mono ?_); rintro e w1 ⟨A1, c1, rfl, h1, hS1, hN1⟩; (first | (have hlit := (Lit1.newD (w.alloc _) (w.heap.size + 1) (by simp) (flagsB true false)).step hS1 hN1) | (have hlit := hlit.step hS1 hN1) | skip))
        | (go_at_call 134; (with_reducible refine (H2.out A1 c1 _ (by assumption) (by first | exact h1 | exact RowB.alloc h1 _)).mono ?_); rintro e w2 ⟨A2, c2, rfl, h2, hS2, hN2⟩; (first | (have hlit := (Lit1.new h1 (flagsB true false)).step hS2 hN2) | (have hlit := hlit.step hS2 hN2) | skip))
        | (go_at_call 132; (with_reducible refine (H3.out A2 c2 _ (by assumption) (by first | exact h2 | exact RowB.alloc h2 _)).mono ?_); rintro e w3 ⟨A3, c3, rfl, h3, hS3, hN3⟩; (first | (have hlit := (Lit1.new h2 (flagsB true false)).step hS3 hN3) | (have hlit := hlit.step hS3 hN3) | skip))
        | (go_at_call 133; (with_reducible refine (H4.out A3 c3 _ (by assumption) (by first | exact h3 | exact RowB.alloc h3 _)).mono ?_); rintro e w4 ⟨A4, c4, rfl, h4, hS4, hN4⟩; (first | (have hlit := (Lit1.new h3 (flagsB true false)).step hS4 hN4) | (have hlit := hlit.step hS4 hN4) | skip))
        | (refine step_bytes (by rfl) (.tmp 23) (.tmp 25) (by rfl) (w.heap.size + 1) A4 L4.length c4 L4 (by rfl) rfl (by first | exact h4 | exact RowB.alloc h4 _) _ _ _ [flagsB true false] rfl rfl (by first | exact hlit.rd | exact rd_lit _ _) L5 HL5.out (by omega) _ (Below.refl _ _) (lt_of_held (by assumption)) ?_
           intro A5 c5 w5 h5 hg5 hS5 hsz5 hA5)
        | fail)
    all_goals go_wp2
    all_goals go_ret
    all_goals exact ⟨A5, c5, rfl, Row.mono h5 (by omega), (‹Below w.heap.size w w5 ∧ w5.heap[w.heap.size]? = some (.cells #[encStr id, encStr number, .int .u16 (at_ : Int), .int .u32 (move : Int), .bool true, .bool false] 63)›).1⟩
  · go_enter Tryd.func88, Tryd.ntmps88
    go_wp2
    go_region_held3 (fun w' => Below w.heap.size w w' ∧ w'.heap[w.heap.size]? = some (.cells #[encStr id, encStr number, .int .u16 (at_ : Int), .int .u32 (move : Int), .bool true, .bool true] 63))
      (first | exact ⟨b0, ho⟩ | exact keepS hS1 (by assumption) (by simp [blk]) | exact keepS hS2 (by assumption) (fun i hi => (Row.blk_lt h1 i hi).1) | exact keepS hS3 (by assumption) (fun i hi => (Row.blk_lt h2 i hi).1) | exact keepS hS4 (by assumption) (fun i hi => (Row.blk_lt h3 i hi).1) | exact keepS (Chg.of_row hg5) (by assumption) (fun i hi => (Row.blk_lt h4 i hi).1) | exact keepA (by assumption) | fail)
      (first
        | (go_at_call 134; (with_reducible refine (H1.out _ (by assumption)).mono ?_); rintro e w1 ⟨A1, c1, rfl, h1, hS1, hN1⟩; (first | (have hlit := (Lit1.newD (w.alloc _) (w.heap.size + 1) (by simp) (flagsB true true)).step hS1 hN1) | (have hlit := hlit.step hS1 hN1) | skip))
        | (go_at_call 134; (with_reducible refine (H2.out A1 c1 _ (by assumption) (by first | exact h1 | exact RowB.alloc h1 _)).mono ?_); rintro e w2 ⟨A2, c2, rfl, h2, hS2, hN2⟩; (first | (have hlit := (Lit1.new h1 (flagsB true true)).step hS2 hN2) | (have hlit := hlit.step hS2 hN2) | skip))
        | (go_at_call 132; (with_reducible refine (H3.out A2 c2 _ (by assumption) (by first | exact h2 | exact RowB.alloc h2 _)).mono ?_); rintro e w3 ⟨A3, c3, rfl, h3, hS3, hN3⟩; (first | (have hlit := (Lit1.new h2 (flagsB true true)).step hS3 hN3) | (have hlit := hlit.step hS3 hN3) | skip))
        | (go_at_call 133; (with_reducible refine (H4.out A3 c3 _ (by assumption) (by first | exact h3 | exact RowB.alloc h3 _)).mono ?_); rintro e w4 ⟨A4, c4, rfl, h4, hS4, hN4⟩; (first | (have hlit := (Lit1.new h3 (flagsB true true)).step hS4 hN4) | (have hlit := hlit.step hS4 hN4) | skip))
        | (refine step_bytes (by rfl) (.tmp 23) (.tmp 25) (by rfl) (w.heap.size + 1) A4 L4.length c4 L4 (by rfl) rfl (by first | exact h4 | exact RowB.alloc h4 _) _ _ _ [flagsB true true] rfl rfl (by first | exact hlit.rd | exact rd_lit _ _) L5 HL5.out (by omega) _ (Below.refl _ _) (lt_of_held (by assumption)) ?_
           intro A5 c5 w5 h5 hg5 hS5 hsz5 hA5)
        | fail)
    all_goals go_wp2
    all_goals go_ret
    all_goals exact ⟨A5, c5, rfl, Row.mono h5 (by omega), (‹Below w.heap.size w w5 ∧ w5.heap[w.heap.size]? = some (.cells #[encStr id, encStr number, .int .u16 (at_ : Int), .int .u32 (move : Int), .bool true, .bool true] 63)›).1⟩
end Go.Proofs.YthbbmpelldglmaaDoor
/- Package subscribers: the fields of a Visit record. -/
namespace Go.Proofs.YthbbmpelldglmaaDoor
set_option linter.unusedVariables false
set_option linter.unusedSimpArgs false
open Go.RowKit

theorem keepD {w W : World} {o : Obj} (h : Below w.heap.size w W ∧ W.heap[w.heap.size]? = some o) : Below w.heap.size w W.drew ∧ W.drew.heap[w.heap.size]? = some o := ⟨h.1.drew, h.2⟩

set_option maxHeartbeats 4000000 in
set_option maxRecDepth 100000 in
theorem visitFields_any (v : VisitR) (w : World) (hok : v.ok = true) (hg : v.Go) :
    Calls Tryd.prog 137 #[v.val] w fun e w' => ∃ A' c', e = .returned (.slice A' v.fields.length c') ∧ RowB w' w.heap.size A' c' v.fields ∧ Below w.heap.size w w' := by
  have hlen := VisitR.ok_len hok
  obtain ⟨id, number, home, move, area, roam⟩ := v
  obtain ⟨hat, hmv, har⟩ := hg
  simp only at hlen hat hmv har
  unfold VisitR.val VisitR.cells VisitR.fields
  simp only
  obtain ⟨L1, hL1⟩ : ∃ L, L = textB id := ⟨_, rfl⟩
  obtain ⟨L2, hL2⟩ : ∃ L, L = L1 ++ textB number := ⟨_, rfl⟩
  obtain ⟨L3, hL3⟩ : ∃ L, L = L2 ++ pairB home := ⟨_, rfl⟩
  obtain ⟨L4, hL4⟩ : ∃ L, L = L3 ++ longB move := ⟨_, rfl⟩
  obtain ⟨L5, hL5⟩ : ∃ L, L = L4 ++ pairB area := ⟨_, rfl⟩
  obtain ⟨L6, hL6⟩ : ∃ L, L = L5 ++ textB roam := ⟨_, rfl⟩
  have e6 : textB id ++ textB number ++ pairB home ++ longB move ++ pairB area ++ textB roam = L6 := by rw [hL6, hL5, hL4, hL3, hL2, hL1]
  have n1 : L1.length ≤ 16 := by rw [hL1, textB_len]; omega
  have n2 : L2.length ≤ 32 := by rw [hL2, List.length_append, textB_len]; omega
  have n3 : L3.length ≤ 34 := by rw [hL3, List.length_append, pairB_len]; omega
  have n4 : L4.length ≤ 38 := by rw [hL4, List.length_append, longB_len]; omega
  have n5 : L5.length ≤ 40 := by rw [hL5, List.length_append, pairB_len]; omega
  have n6 : L6.length ≤ 56 := by rw [hL6, List.length_append, textB_len]; omega
  rw [e6]
  have h1 : ∀ w', (Below w.heap.size w w' ∧ w'.heap[w.heap.size]? = some (.cells #[encStr id, encStr number, .int .u16 (home : Int), .int .u32 (move : Int), .int .u16 (area : Int), encStr roam] 172)) → Calls Tryd.prog 134 #[.slice none 0 0, encStr id] w' fun e w2 => ∃ A' c', e = .returned (.slice A' L1.length c') ∧ RowB w2 (w.heap.size + 1) A' c' L1 ∧ Chg (blk none) w' w2 ∧ NewIn w' (blk none) (blk A') := fun w' hs => by
    have := text_any (w.heap.size + 1) none [] 0 id w' (RowB.nil _ _) (lt_of_held hs) (by simp) (by omega)
    rw [List.nil_append, ← hL1] at this; exact this
  have h2 : ∀ A c w', (Below w.heap.size w w' ∧ w'.heap[w.heap.size]? = some (.cells #[encStr id, encStr number, .int .u16 (home : Int), .int .u32 (move : Int), .int .u16 (area : Int), encStr roam] 172)) → RowB w' (w.heap.size + 1) A c L1 → Calls Tryd.prog 134 #[.slice A L1.length c, encStr number] w' fun e w2 => ∃ A' c', e = .returned (.slice A' L2.length c') ∧ RowB w2 (w.heap.size + 1) A' c' L2 ∧ Chg (blk A) w' w2 ∧ NewIn w' (blk A) (blk A') := fun A c w' hs hr => by
    have := text_any (w.heap.size + 1) A L1 c number w' hr (lt_of_held hs) (by omega) (by omega)
    rw [← hL2] at this; exact this
  have h3 : ∀ A c w', (Below w.heap.size w w' ∧ w'.heap[w.heap.size]? = some (.cells #[encStr id, encStr number, .int .u16 (home : Int), .int .u32 (move : Int), .int .u16 (area : Int), encStr roam] 172)) → RowB w' (w.heap.size + 1) A c L2 → Calls Tryd.prog 132 #[.slice A L2.length c, .int .u16 home] w' fun e w2 => ∃ A' c', e = .returned (.slice A' L3.length c') ∧ RowB w2 (w.heap.size + 1) A' c' L3 ∧ Chg (blk A) w' w2 ∧ NewIn w' (blk A) (blk A') := fun A c w' hs hr => by
    have := pair_any (w.heap.size + 1) A L2 c home w' hr (lt_of_held hs) (by omega) (by omega)
    rw [← hL3] at this; exact this
  have h4 : ∀ A c w', (Below w.heap.size w w' ∧ w'.heap[w.heap.size]? = some (.cells #[encStr id, encStr number, .int .u16 (home : Int), .int .u32 (move : Int), .int .u16 (area : Int), encStr roam] 172)) → RowB w' (w.heap.size + 1) A c L3 → Calls Tryd.prog 133 #[.slice A L3.length c, .int .u32 move] w' fun e w2 => ∃ A' c', e = .returned (.slice A' L4.length c') ∧ RowB w2 (w.heap.size + 1) A' c' L4 ∧ Chg (blk A) w' w2 ∧ NewIn w' (blk A) (blk A') := fun A c w' hs hr => by
    have := long_any (w.heap.size + 1) A L3 c move w' hr (lt_of_held hs) (by omega) (by omega)
    rw [← hL4] at this; exact this
  have h5 : ∀ A c w', (Below w.heap.size w w' ∧ w'.heap[w.heap.size]? = some (.cells #[encStr id, encStr number, .int .u16 (home : Int), .int .u32 (move : Int), .int .u16 (area : Int), encStr roam] 172)) → RowB w' (w.heap.size + 1) A c L4 → Calls Tryd.prog 132 #[.slice A L4.length c, .int .u16 area] w' fun e w2 => ∃ A' c', e = .returned (.slice A' L5.length c') ∧ RowB w2 (w.heap.size + 1) A' c' L5 ∧ Chg (blk A) w' w2 ∧ NewIn w' (blk A) (blk A') := fun A c w' hs hr => by
    have := pair_any (w.heap.size + 1) A L4 c area w' hr (lt_of_held hs) (by omega) (by omega)
    rw [← hL5] at this; exact this
  have h6 : ∀ A c w', (Below w.heap.size w w' ∧ w'.heap[w.heap.size]? = some (.cells #[encStr id, encStr number, .int .u16 (home : Int), .int .u32 (move : Int), .int .u16 (area : Int), encStr roam] 172)) → RowB w' (w.heap.size + 1) A c L5 → Calls Tryd.prog 134 #[.slice A L5.length c, encStr roam] w' fun e w2 => ∃ A' c', e = .returned (.slice A' L6.length c') ∧ RowB w2 (w.heap.size + 1) A' c' L6 ∧ Chg (blk A) w' w2 ∧ NewIn w' (blk A) (blk A') := fun A c w' hs hr => by
    have := text_any (w.heap.size + 1) A L5 c roam w' hr (lt_of_held hs) (by omega) (by omega)
    rw [← hL6] at this; exact this
  have H1 := Lib.hid h1
  have H2 := Lib.hid h2
  have H3 := Lib.hid h3
  have H4 := Lib.hid h4
  have H5 := Lib.hid h5
  have H6 := Lib.hid h6
  clear h1 h2 h3 h4 h5 h6 hL1 hL2 hL3 hL4 hL5 hL6 e6
  have ho := heap_alloc_new w (.cells #[encStr id, encStr number, .int .u16 (home : Int), .int .u32 (move : Int), .int .u16 (area : Int), encStr roam] 172)
  have b0 := ((Below.refl w.heap.size w).alloc (Nat.le_refl _) (.cells #[encStr id, encStr number, .int .u16 (home : Int), .int .u32 (move : Int), .int .u16 (area : Int), encStr roam] 172)).drew
  have y0 : ∀ w' : World, w'.heap[w.heap.size]? = some (.cells #[encStr id, encStr number, .int .u16 (home : Int), .int .u32 (move : Int), .int .u16 (area : Int), encStr roam] 172) → w'.cell? ⟨w.heap.size, 0, none⟩ = some (encStr id) := fun w' e => cell_of_row _ _ 0 _ _ _ e
  have y1 : ∀ w' : World, w'.heap[w.heap.size]? = some (.cells #[encStr id, encStr number, .int .u16 (home : Int), .int .u32 (move : Int), .int .u16 (area : Int), encStr roam] 172) → w'.cell? ⟨w.heap.size, 1, none⟩ = some (encStr number) := fun w' e => cell_of_row _ _ 1 _ _ _ e
  have y2 : ∀ w' : World, w'.heap[w.heap.size]? = some (.cells #[encStr id, encStr number, .int .u16 (home : Int), .int .u32 (move : Int), .int .u16 (area : Int), encStr roam] 172) → w'.cell? ⟨w.heap.size, 2, none⟩ = some (.int .u16 (home : Int)) := fun w' e => cell_of_row _ _ 2 _ _ _ e
  have y3 : ∀ w' : World, w'.heap[w.heap.size]? = some (.cells #[encStr id, encStr number, .int .u16 (home : Int), .int .u32 (move : Int), .int .u16 (area : Int), encStr roam] 172) → w'.cell? ⟨w.heap.size, 3, none⟩ = some (.int .u32 (move : Int)) := fun w' e => cell_of_row _ _ 3 _ _ _ e
  have y4 : ∀ w' : World, w'.heap[w.heap.size]? = some (.cells #[encStr id, encStr number, .int .u16 (home : Int), .int .u32 (move : Int), .int .u16 (area : Int), encStr roam] 172) → w'.cell? ⟨w.heap.size, 4, none⟩ = some (.int .u16 (area : Int)) := fun w' e => cell_of_row _ _ 4 _ _ _ e
  have y5 : ∀ w' : World, w'.heap[w.heap.size]? = some (.cells #[encStr id, encStr number, .int .u16 (home : Int), .int .u32 (move : Int), .int .u16 (area : Int), encStr roam] 172) → w'.cell? ⟨w.heap.size, 5, none⟩ = some (encStr roam) := fun w' e => cell_of_row _ _ 5 _ _ _ e
  go_enter Tryd.func137, Tryd.ntmps137
  go_wp2
  go_region_held3 (fun w' => Below w.heap.size w w' ∧ w'.heap[w.heap.size]? = some (.cells #[encStr id, encStr number, .int .u16 (home : Int), .int .u32 (move : Int), .int .u16 (area : Int), encStr roam] 172))
    (first | exact ⟨b0, ho⟩ | exact keepS hS1 (by assumption) (by simp [blk]) | exact keepS hS2 (by assumption) (fun i hi => (Row.blk_lt h1 i hi).1) | fail)
    (first | (go_at_call 134; (with_reducible refine (H1.out _ (by assumption)).mono ?_); rintro e w1 ⟨A1, c1, rfl, h1, hS1, hN1⟩) | (go_at_call 134; (with_reducible refine (H2.out A1 c1 _ (by assumption) (by first | exact h1 | exact RowB.drew h1)).mono ?_); rintro e w2 ⟨A2, c2, rfl, h2, hS2, hN2⟩) | fail)
  go_wp2
  go_region_held3 (fun w' => Below w.heap.size w w' ∧ w'.heap[w.heap.size]? = some (.cells #[encStr id, encStr number, .int .u16 (home : Int), .int .u32 (move : Int), .int .u16 (area : Int), encStr roam] 172))
    (first | exact keepD (by assumption) | exact keepS hS3 (by assumption) (fun i hi => (Row.blk_lt h2 i hi).1) | exact keepS hS4 (by assumption) (fun i hi => (Row.blk_lt h3 i hi).1) | exact keepS hS5 (by assumption) (fun i hi => (Row.blk_lt h4 i hi).1) | exact keepS hS6 (by assumption) (fun i hi => (Row.blk_lt h5 i hi).1) | fail)
    (first | (go_at_call 132; (with_reducible refine (H3.out A2 c2 _ (by assumption) (by first | exact h2 | exact RowB.drew h2)).mono ?_); rintro e w3 ⟨A3, c3, rfl, h3, hS3, hN3⟩) | (go_at_call 133; (with_reducible refine (H4.out A3 c3 _ (by assumption) (by first | exact h3 | exact RowB.drew h3)).mono ?_); rintro e w4 ⟨A4, c4, rfl, h4, hS4, hN4⟩) | (go_at_call 132; (with_reducible refine (H5.out A4 c4 _ (by assumption) (by first | exact h4 | exact RowB.drew h4)).mono ?_); rintro e w5 ⟨A5, c5, rfl, h5, hS5, hN5⟩) | (go_at_call 134; (with_reducible refine (H6.out A5 c5 _ (by assumption) (by first | exact h5 | exact RowB.drew h5)).mono ?_); rintro e w6 ⟨A6, c6, rfl, h6, hS6, hN6⟩) | fail)
  all_goals go_wp2
  all_goals go_ret
  all_goals exact ⟨A6, c6, rfl, Row.mono h6 (by omega), (‹Below w.heap.size w w6 ∧ w6.heap[w.heap.size]? = some (.cells #[encStr id, encStr number, .int .u16 (home : Int), .int .u32 (move : Int), .int .u16 (area : Int), encStr roam] 172)›).1⟩
end Go.Proofs.YthbbmpelldglmaaDoor
/- Package subscribers: the store in memory; an entry of its log. -/
namespace Go.Proofs.YthbbmpelldglmaaDoor
set_option linter.unusedVariables false
set_option linter.unusedSimpArgs false
open Go.RowKit

def stObj (m1 m2 m3 m4 : Value) (A : Option Addr) (n c dur : Nat) : Obj := .cells #[m1, m2, m3, m4, .slice A n c, .int .i64 (dur : Int)] 161 (0, 0)
theorem stObj_cell {w : World} {g : Nat} {m1 m2 m3 m4 : Value} {A : Option Addr} {n c dur : Nat} (h : w.heap[g]? = some (stObj m1 m2 m3 m4 A n c dur)) (k : Nat) : w.cell? ⟨g, k, none⟩ = #[m1, m2, m3, m4, .slice A n c, .int .i64 (dur : Int)][k]? := Go.Joins.cell_of_block h k
theorem stObj_free {w : World} {g : Nat} {m1 m2 m3 m4 : Value} {A : Option Addr} {n c dur : Nat} (h : w.heap[g]? = some (stObj m1 m2 m3 m4 A n c dur)) (k : Nat) : w.frozen? ⟨g, k, none⟩ = false := Go.Joins.unfrozen_of_block h k
theorem stObj_set4 {w : World} {g : Nat} {m1 m2 m3 m4 : Value} {A A' : Option Addr} {n n' c c' dur : Nat} (h : w.heap[g]? = some (stObj m1 m2 m3 m4 A n c dur)) : (w.setCell ⟨g, 4, none⟩ (.slice A' n' c')).heap[g]? = some (stObj m1 m2 m3 m4 A' n' c' dur) := Go.Joins.block_setCell h _
/-- a row of octets does not lie in the store's own block -/
theorem stObj_apart {w : World} {g B : Nat} {m1 m2 m3 m4 : Value} {A A2 : Option Addr} {n c dur c2 : Nat} {l : List UInt8} (h : w.heap[g]? = some (stObj m1 m2 m3 m4 A n c dur)) (hr : RowB w B A2 c2 l) : g ∉ blk A2 := fun hi => by
  rw [mem_blk] at hi
  rcases hr.2 with ⟨rfl, _⟩ | ⟨g', cur, rfl, _, hg, _⟩
  · simp at hi
  · simp at hi; subst hi
    rw [h] at hg
    simp [stObj] at hg

set_option maxHeartbeats 4000000 in
set_option maxRecDepth 100000 in
theorem entry_any (w : World) (g : Nat) (m1 m2 m3 m4 : Value) (A : Option Addr) (c dur : Nat) (log : List UInt8) (ho : w.heap[g]? = some (stObj m1 m2 m3 m4 A log.length c dur)) (hlog : RowB w 0 A c log) (hll : log.length ≤ 100000000)
    (kind : UInt8) (Af : Option Addr) (fl : List UInt8) (cf : Nat) (hf : RdB w Af fl) (hfl : fl.length ≤ 1000) :
    Calls Tryd.prog 87 #[.pointer (some ⟨g, 0, none⟩), .int .u8 (kind.toNat : Int), .slice Af fl.length cf] w fun e w' => e = .returned (.tuple #[]) ∧
      ∃ A' c', w'.heap[g]? = some (stObj m1 m2 m3 m4 A' (log ++ entryB kind fl).length c' dur) ∧ RowB w' 0 A' c' (log ++ entryB kind fl) ∧ Chg (g :: blk A) w w' ∧ NewIn w (blk A) (blk A') := by
  obtain ⟨b0, hb0⟩ : ∃ b, b = pairB (1 + fl.length) := ⟨_, rfl⟩
  obtain ⟨b1, hb1⟩ : ∃ b, b = b0 ++ [kind] := ⟨_, rfl⟩
  obtain ⟨b2, hb2⟩ : ∃ b, b = b1 ++ fl := ⟨_, rfl⟩
  have n0 : b0.length ≤ 2 := by rw [hb0]; exact Nat.le_refl _
  have n1 : b1.length ≤ 3 := by rw [hb1, List.length_append]; simp; omega
  have n2 : b2.length ≤ 1003 := by rw [hb2, List.length_append]; omega
  have eb : entryB kind fl = b2 ++ fcs b2 := by unfold entryB bodyB; rw [hb2, hb1, hb0]
  have hpair := fun w' => pair_any w.heap.size none [] 0 (1 + fl.length) w' (RowB.nil _ _)
  rw [List.nil_append, ← hb0] at hpair
  have hadd := fun A c w h => add_any A b2 c w h (by omega)
  rw [eb]
  obtain ⟨e3, he3⟩ : ∃ b, b = b2 ++ fcs b2 := ⟨_, rfl⟩
  have n3 : e3.length ≤ 1005 := by rw [he3, List.length_append, fcs_len]; omega
  obtain ⟨L, hL⟩ : ∃ b, b = log ++ e3 := ⟨_, rfl⟩
  have nL : L.length ≤ 100001005 := by rw [hL, List.length_append]; omega
  rw [← he3] at hadd ⊢
  rw [← hL]
  have q1 : IntKind.u16.wrap (1 + (fl.length : Int)) = 1 + (fl.length : Int) := by rw [wrap_u16]; omega
  simp only [show ((1 + fl.length : Nat) : Int) = 1 + (fl.length : Int) by omega, List.length_nil] at hpair
  have HP := Lib.hid hpair
  have HA := Lib.hid hadd
  have HB1 := Lib.hid hb1
  have HB2 := Lib.hid hb2
  have HL := Lib.hid hL
  have HLOG := Lib.hid hlog
  have hglt : g < w.heap.size := (Array.getElem?_eq_some_iff.1 ho).1
  have hblt := Row.blk_lt hlog
  clear hb0 hb1 hb2 eb hpair hadd he3 hL hlog
  go_enter Tryd.func87, Tryd.ntmps87
  go_wp2_with (first
    | (go_at_call 132; (with_reducible refine (HP.out _ (Nat.le_refl _) (by omega) (by omega)).mono ?_); rintro e w1 ⟨A1, c1, rfl, h1, hS1, hN1⟩; have hB1 := Chg.none hS1)
    | ((with_reducible refine at_dst 15 rfl ?_)
       refine append_bytes rfl (.tmp 12) (.tmp 14) rfl w.heap.size A1 b0.length c1 b0 rfl rfl (Row.alloc h1 _) (some ⟨w1.heap.size, 0, none⟩) 1 1 [kind] rfl rfl (rd_lit w1 [kind]) b1 HB1.out (by omega) w (below_alloc hB1 _) (by have := hB1.size; simp; omega) ?_
       intro A2 c2 w2 h2 hg2 hB2 hsz2)
    | ((with_reducible refine at_dst 17 rfl ?_)
       refine append_bytes rfl (.tmp 15) (.tmp 16) rfl w.heap.size A2 b1.length c2 b1 rfl rfl h2 Af fl.length cf fl rfl rfl (hf.below hB2) b2 HB2.out (by omega) w hB2 hsz2 ?_
       intro A3 c3 w3 h3 hg3 hB3 hsz3)
    | fail)
  have o3 := (hB3.block g hglt).trans ho
  have k4 : w3.cell? ⟨g, 4, none⟩ = some (.slice A log.length c) := stObj_cell o3 4
  have l3 := HLOG.out.below hB3
  have HO3 := Lib.hid o3
  have H3R := Lib.hid h3.rd
  go_region_law (first
      | (go_simp; go_at_call 17; (with_reducible refine (HA.out A3 c3 _ (RdB.drew H3R.out)).mono ?_); rintro e w4 ⟨A4, rfl, h4, hB4⟩
         have o4 := (hB4.block g (by have := hB3.size; simp; omega)).trans HO3.out
         have k4' : w4.cell? ⟨g, 4, none⟩ = some (.slice A log.length c) := stObj_cell o4 4
         have l4 := RowB.below (RowB.drew l3) hB4
         have HO4 := Lib.hid o4
         clear o4)
      | (refine step_bytes (by rfl) (.tmp 22) (.tmp 24) (by rfl) 0 A log.length c log (by rfl) rfl l4 A4 e3.length e3.length e3 (by rfl) rfl h4.rd L HL.out (by omega) w4 (Below.refl _ _) (Nat.zero_le _) ?_
         intro A5 c5 w5 h5 hg5 hB5 hsz5 hA5
         have o5 := (Chg.of_row hg5).heap HO4.out (stObj_apart HO4.out l4)
         have k5 : w5.cell? ⟨g, 4, none⟩ = some (.slice A log.length c) := stObj_cell o5 4
         have f5 : w5.frozen? ⟨g, 4, none⟩ = false := stObj_free o5 4
         have HO5 := Lib.hid o5
         clear o5)
      | fail)
  all_goals go_wp2
  all_goals go_end0
  all_goals
    have hs4 : w.heap.size ≤ w4.heap.size := Nat.le_trans hB3.size hB4.size
    exact ⟨rfl, A5, c5, stObj_set4 HO5.out, RowB.other h5 (fun j hj e => stObj_apart HO5.out h5 (mem_blk.2 (by rw [hj, e]))) _, ((((Chg.of_below (g :: blk A) hB3).drew).then_ (Chg.of_below _ hB4)).then_ ((Chg.of_row hg5).mono (fun i hi => List.mem_cons_of_mem _ hi))).setCell (p := ⟨g, 4, none⟩) (List.mem_cons_self ..) _, (NewIn.row hA5).later hs4⟩
end Go.Proofs.YthbbmpelldglmaaDoor
/- The library's strings.Trim in this program: its functions are those of the shelf's contract, number for number. -/
namespace Go.Proofs.YthbbmpelldglmaaDoor
set_option linter.unusedVariables false
set_option linter.unusedSimpArgs false
open Go.Shelf

def laysTrimRen : Go.Shelf.Ren := ⟨fun | 160 => 159 | 232 => 178 | 231 => 177 | 227 => 179 | 234 => 181 | 233 => 180 | 236 => 183 | 235 => 182 | 228 => 203 | 271 => 206 | 151 => 205 | 197 => 204 | 120 => 225 | 152 => 224 | 260 => 223 | 137 => 232 | 119 => 233 | 224 => 234 | 225 => 235 | 217 => 237 | 266 => 238 | n => n, fun | 9 => 9 | 4 => 4 | 3 => 3 | 5 => 5 | 117 => 294 | 116 => 293 | 0 => 0 | 124 => 297 | 21 => 21 | 105 => 313 | 46 => 146 | 119 => 337 | 139 => 340 | 138 => 339 | n => n, fun | 3 => 2 | 4 => 3 | n => n⟩
theorem laysTrim : Lays.n160 Tryd.prog laysTrimRen where
  mixed := by kernel_rfl
  f119 := Tryd.func233.trans (congrArg some (by kernel_rfl))
  f120 := Tryd.func225.trans (congrArg some (by kernel_rfl))
  f137 := Tryd.func232.trans (congrArg some (by kernel_rfl))
  f151 := Tryd.func205.trans (congrArg some (by kernel_rfl))
  f152 := Tryd.func224.trans (congrArg some (by kernel_rfl))
  f160 := Tryd.func159.trans (congrArg some (by kernel_rfl))
  f197 := Tryd.func204.trans (congrArg some (by kernel_rfl))
  f217 := Tryd.func237.trans (congrArg some (by kernel_rfl))
  f224 := Tryd.func234.trans (congrArg some (by kernel_rfl))
  f225 := Tryd.func235.trans (congrArg some (by kernel_rfl))
  f227 := Tryd.func179.trans (congrArg some (by kernel_rfl))
  f228 := Tryd.func203.trans (congrArg some (by kernel_rfl))
  f231 := Tryd.func177.trans (congrArg some (by kernel_rfl))
  f232 := Tryd.func178.trans (congrArg some (by kernel_rfl))
  f233 := Tryd.func180.trans (congrArg some (by kernel_rfl))
  f234 := Tryd.func181.trans (congrArg some (by kernel_rfl))
  f235 := Tryd.func182.trans (congrArg some (by kernel_rfl))
  f236 := Tryd.func183.trans (congrArg some (by kernel_rfl))
  f260 := Tryd.func223.trans (congrArg some (by kernel_rfl))
  f266 := Tryd.func238.trans (congrArg some (by kernel_rfl))
  f271 := Tryd.func206.trans (congrArg some (by kernel_rfl))
  t0 := Tryd.underlying0
  a0 := Tryd.isAgg0
  z0 := Tryd.sizeOf0
  v0 := Tryd.zeroValue0
  t3 := Tryd.underlying3
  a3 := Tryd.isAgg3
  z3 := Tryd.sizeOf3
  v3 := Tryd.zeroValue3
  t4 := Tryd.underlying4
  a4 := Tryd.isAgg4
  z4 := Tryd.sizeOf4
  v4 := Tryd.zeroValue4
  t5 := Tryd.underlying5
  a5 := Tryd.isAgg5
  z5 := Tryd.sizeOf5
  v5 := Tryd.zeroValue5
  t9 := Tryd.underlying9
  a9 := Tryd.isAgg9
  z9 := Tryd.sizeOf9
  v9 := Tryd.zeroValue9
  t21 := Tryd.underlying21
  a21 := Tryd.isAgg21
  z21 := Tryd.sizeOf21
  v21 := Tryd.zeroValue21
  t46 := Tryd.underlying146
  a46 := Tryd.isAgg146
  z46 := Tryd.sizeOf146
  v46 := Tryd.zeroValue146
  t105 := Tryd.underlying313
  a105 := Tryd.isAgg313
  z105 := Tryd.sizeOf313
  v105 := Tryd.zeroValue313
  t116 := Tryd.underlying293
  a116 := Tryd.isAgg293
  z116 := Tryd.sizeOf293
  t117 := Tryd.underlying294
  a117 := Tryd.isAgg294
  z117 := Tryd.sizeOf294
  v117 := Tryd.zeroValue294
  t119 := Tryd.underlying337
  a119 := Tryd.isAgg337
  z119 := Tryd.sizeOf337
  t124 := Tryd.underlying297
  a124 := Tryd.isAgg297
  z124 := Tryd.sizeOf297
  v124 := Tryd.zeroValue297
  t138 := Tryd.underlying339
  a138 := Tryd.isAgg339
  z138 := Tryd.sizeOf339
  v138 := Tryd.zeroValue339
  t139 := Tryd.underlying340
  a139 := Tryd.isAgg340
  z139 := Tryd.sizeOf340
  v139 := Tryd.zeroValue340
  g3 := by kernel_rfl
  g4 := by kernel_rfl
end Go.Proofs.YthbbmpelldglmaaDoor
/- Digits; numbers; valid records. -/
namespace Go.Proofs.YthbbmpelldglmaaDoor
set_option linter.unusedVariables false
set_option linter.unusedSimpArgs false
open Go.RowKit Go.Shelf

def digitL : List UInt8 := [48, 49, 50, 51, 52, 53, 54, 55, 56, 57]
theorem digit_mem (b : UInt8) : digitL.contains b = decide (48 ≤ b.toNat ∧ b.toNat ≤ 57) := by
  have h : ∀ n : Fin 256, digitL.contains (UInt8.ofNat n.val) = decide (48 ≤ (UInt8.ofNat n.val).toNat ∧ (UInt8.ofNat n.val).toNat ≤ 57) := by decide +kernel
  have := h ⟨b.toNat, b.toNat_lt⟩
  simpa using this
theorem dropWhile_nil {α : Type} (p : α → Bool) (l : List α) : l.dropWhile p = [] ↔ l.all p = true := by
  induction l with
  | nil => simp
  | cons a r ih =>
    rw [List.dropWhile_cons]
    cases h : p a <;> simp [h, ih]
theorem trim_nil (l : List UInt8) : Lib.trimS l digitL = [] ↔ isDig l = true := by
  have hp : (fun b : UInt8 => digitL.contains b) = fun b => decide (48 ≤ b.toNat ∧ b.toNat ≤ 57) := funext digit_mem
  unfold Lib.trimS Lib.trimLeftS Lib.trimRightS isDig
  rw [hp]
  constructor
  · intro h
    rw [dropWhile_nil, List.all_reverse] at h
    rw [List.all_eq_true] at h ⊢
    intro b hb
    by_cases hd : decide (48 ≤ b.toNat ∧ b.toNat ≤ 57) = true
    · exact hd
    · -- the last octet that is no digit is not dropped
      exfalso
      have h1 : ∃ x ∈ l.reverse.dropWhile (fun b => decide (48 ≤ b.toNat ∧ b.toNat ≤ 57)), ¬ decide (48 ≤ x.toNat ∧ x.toNat ≤ 57) = true := by
        have hne : l.reverse.dropWhile (fun b : UInt8 => decide (48 ≤ b.toNat ∧ b.toNat ≤ 57)) ≠ [] := fun e => by
          rw [dropWhile_nil, List.all_eq_true] at e
          exact hd (e b (by simpa using hb))
        refine ⟨_, List.head_mem hne, ?_⟩
        have := List.head_dropWhile_not (fun b : UInt8 => decide (48 ≤ b.toNat ∧ b.toNat ≤ 57)) hne
        rw [this]; simp
      obtain ⟨x, hx, hnx⟩ := h1
      exact hnx (h x hx)
  · intro h
    have : l.reverse.dropWhile (fun b : UInt8 => decide (48 ≤ b.toNat ∧ b.toNat ≤ 57)) = [] := by
      rw [dropWhile_nil, List.all_reverse]; exact h
    rw [this]
    rfl

theorem trim_any (s : List UInt8) (w : World) (hs : s.length ≤ 9223372036854775807) :
    Calls Tryd.prog 159 #[encStr s, .string ⟨#[48, 49, 50, 51, 52, 53, 54, 55, 56, 57]⟩] w fun e w' => e = .returned (encStr (Lib.trimS s digitL)) ∧ Below w.heap.size w w' := by
  have h := Any.strings_Trim_laid laysTrim (by kernel_rfl) ⟨s.toArray⟩ ⟨#[48, 49, 50, 51, 52, 53, 54, 55, 56, 57]⟩ w (by simpa [ByteArray.size] using hs) (by decide) (ascii_of_all (by decide))
  exact h

set_option maxHeartbeats 1000000 in
theorem isDigits_any (s : List UInt8) (w : World) (hs : s.length ≤ 9223372036854775807) :
    Calls Tryd.prog 119 #[encStr s] w fun e w' => e = .returned (.bool (decide (s.length ≤ 15) && isDig s)) ∧ Below w.heap.size w w' := by
  have ht := trim_any s w hs
  have hn := trim_nil s
  generalize Lib.trimS s digitL = r at *
  by_cases hl : s.length ≤ 15
  · rw [decide_eq_true hl]
    cases hd : isDig s with
    | true =>
      obtain rfl := hn.2 hd
      have HT := Lib.hid ht
      clear ht hn hd
      go_enter Tryd.func119, Tryd.ntmps119
      go_wp2_with (first
        | (go_at_call 159; (with_reducible refine HT.out.mono ?_); rintro e w1 ⟨rfl, hB⟩)
        | fail)
      go_ret
      exact ⟨rfl, hB⟩
    | false =>
      have hr : r ≠ [] := fun e => by have := hn.1 e; rw [hd] at this; cases this
      obtain ⟨x, r, rfl⟩ := List.exists_cons_of_ne_nil hr
      have HT := Lib.hid ht
      clear ht hn hd hr
      go_enter Tryd.func119, Tryd.ntmps119
      go_wp2_with (first
        | (go_at_call 159; (with_reducible refine HT.out.mono ?_); rintro e w1 ⟨rfl, hB⟩)
        | fail)
      go_ret
      exact ⟨rfl, hB⟩
  · rw [decide_eq_false hl]
    have hl' : ¬ ((s.length : Int) ≤ 15) := by omega
    clear ht hn
    go_enter Tryd.func119, Tryd.ntmps119
    go_wp2
    go_ret
    exact ⟨rfl, Below.refl _ _⟩

set_option maxHeartbeats 1000000 in
theorem number_any_ (s : List UInt8) (w : World) (hs : s.length ≤ 9223372036854775807) :
    Calls Tryd.prog 131 #[encStr s] w fun e w' => e = .returned (.bool (isNum s)) ∧ Below w.heap.size w w' := by
  cases s with
  | nil =>
    go_enter Tryd.func131, Tryd.ntmps131
    go_wp2
    go_ret
    exact ⟨rfl, Below.refl _ _⟩
  | cons x s =>
    have h := fun w => isDigits_any (x :: s) w hs
    have e : isNum (x :: s) = (decide ((x :: s).length ≤ 15) && isDig (x :: s)) := by
      unfold isNum
      have : decide (1 ≤ (x :: s).length ∧ (x :: s).length ≤ 15) = decide ((x :: s).length ≤ 15) := by
        rw [decide_eq_decide]; simp
      rw [this]
    rw [e]
    generalize (decide ((x :: s).length ≤ 15) && isDig (x :: s)) = b at *
    have HT := Lib.hid h
    clear h e hs
    go_enter Tryd.func131, Tryd.ntmps131
    go_wp2_with (first
      | (go_at_call 119; (with_reducible refine (HT.out _).mono ?_); rintro e w1 ⟨rfl, hB⟩)
      | fail)
    go_ret
    exact ⟨rfl, hB⟩
theorem no_digit {s : List UInt8} (h : ¬ s.length ≤ 9223372036854775807) : isNum s = false := by
  unfold isNum; rw [decide_eq_false (by omega)]; rfl

set_option maxHeartbeats 2000000 in
set_option maxRecDepth 100000 in
theorem homeValid_any (h : HomeR) (w : World) (hg : h.Go) (h1 : h.id.length ≤ 9223372036854775807) (h2 : h.number.length ≤ 9223372036854775807) :
    Calls Tryd.prog 86 #[h.val] w fun e w' => e = .returned (.bool h.ok) ∧ Below w.heap.size w w' := by
  obtain ⟨id, number, at_, move, barred, waiting⟩ := h
  obtain ⟨hat, hmv⟩ := hg
  simp only at hat hmv h1 h2
  unfold HomeR.val HomeR.cells HomeR.ok
  simp only
  have hn1 := fun w => number_any_ id w h1
  have hn2 := fun w => number_any_ number w h2
  have ho := heap_alloc_new w (.cells #[encStr id, encStr number, .int .u16 (at_ : Int), .int .u32 (move : Int), .bool barred, .bool waiting] 63)
  have HO := Lib.hid ho
  have hb0 := (Below.refl w.heap.size w).alloc (Nat.le_refl _) (.cells #[encStr id, encStr number, .int .u16 (at_ : Int), .int .u32 (move : Int), .bool barred, .bool waiting] 63)
  generalize isNum id = b1 at *
  generalize isNum number = b2 at *
  have HN1 := Lib.hid hn1
  have HN2 := Lib.hid hn2
  clear hn1 hn2 ho h1 h2
  cases b1 with
  | false =>
    go_enter Tryd.func86, Tryd.ntmps86
    go_wp2_with (first
      | (go_at_call 131; (with_reducible refine (HN1.out _).mono ?_); rintro e w1 ⟨rfl, hB1⟩)
      | fail)
    go_ret
    exact ⟨rfl, below_then hb0 hB1⟩
  | true =>
    cases b2 with
    | false =>
      go_enter Tryd.func86, Tryd.ntmps86
      go_wp2_with (first
        | (go_at_call 131; (with_reducible refine (HN1.out _).mono ?_); rintro e w1 ⟨rfl, hB1⟩
           have o1 := (hB1.block w.heap.size (by simp)).trans HO.out
           have y1 : w1.cell? ⟨w.heap.size, 1, none⟩ = some (encStr number) := cell_of_row _ _ 1 _ _ _ o1
           clear o1)
        | (go_at_call 131; (with_reducible refine (HN2.out _).mono ?_); rintro e w2 ⟨rfl, hB2⟩)
        | fail)
      go_ret
      exact ⟨rfl, below_then (below_then hb0 hB1) hB2⟩
    | true =>
      by_cases ha : at_ ≤ 16383
      · have ha' : (at_ : Int) ≤ 16383 := by omega
        rw [decide_eq_true ha]
        clear ha
        go_enter Tryd.func86, Tryd.ntmps86
        go_wp2_with (first
          | (go_at_call 131; (with_reducible refine (HN1.out _).mono ?_); rintro e w1 ⟨rfl, hB1⟩
             have o1 := (hB1.block w.heap.size (by simp)).trans HO.out
             have y1 : w1.cell? ⟨w.heap.size, 1, none⟩ = some (encStr number) := cell_of_row _ _ 1 _ _ _ o1
             have O1 := Lib.hid o1
             clear o1)
          | (go_at_call 131; (with_reducible refine (HN2.out _).mono ?_); rintro e w2 ⟨rfl, hB2⟩
             have y2 : w2.cell? ⟨w.heap.size, 2, none⟩ = some (.int .u16 (at_ : Int)) := cell_of_row _ _ 2 _ _ _ ((hB2.block w.heap.size (by have := hB1.size; simp at this; omega)).trans O1.out))
          | fail)
        go_ret
        exact ⟨rfl, below_then (below_then hb0 hB1) hB2⟩
      · have ha' : ¬ ((at_ : Int) ≤ 16383) := by omega
        rw [decide_eq_false ha]
        clear ha
        go_enter Tryd.func86, Tryd.ntmps86
        go_wp2_with (first
          | (go_at_call 131; (with_reducible refine (HN1.out _).mono ?_); rintro e w1 ⟨rfl, hB1⟩
             have o1 := (hB1.block w.heap.size (by simp)).trans HO.out
             have y1 : w1.cell? ⟨w.heap.size, 1, none⟩ = some (encStr number) := cell_of_row _ _ 1 _ _ _ o1
             have O1 := Lib.hid o1
             clear o1)
          | (go_at_call 131; (with_reducible refine (HN2.out _).mono ?_); rintro e w2 ⟨rfl, hB2⟩
             have y2 : w2.cell? ⟨w.heap.size, 2, none⟩ = some (.int .u16 (at_ : Int)) := cell_of_row _ _ 2 _ _ _ ((hB2.block w.heap.size (by have := hB1.size; simp at this; omega)).trans O1.out))
          | fail)
        go_ret
        refine ⟨?_, below_then (below_then hb0 hB1) hB2⟩
        show Ending.returned (.bool (decide ((at_ : Int) ≤ 16383))) = _
        rw [decide_eq_false (by omega)]
        rfl
end Go.Proofs.YthbbmpelldglmaaDoor
/- Valid Visit records. -/
namespace Go.Proofs.YthbbmpelldglmaaDoor
set_option linter.unusedVariables false
set_option linter.unusedSimpArgs false
open Go.RowKit Go.Shelf

set_option maxHeartbeats 4000000 in
set_option maxRecDepth 100000 in
theorem visitValid_any (v : VisitR) (w : World) (hg : v.Go) (h1 : v.id.length ≤ 9223372036854775807) (h2 : v.number.length ≤ 9223372036854775807) (h3 : v.roam.length ≤ 9223372036854775807) :
    Calls Tryd.prog 136 #[v.val] w fun e w' => e = .returned (.bool v.ok) ∧ Below w.heap.size w w' := by
  obtain ⟨id, number, home, move, area, roam⟩ := v
  obtain ⟨hat, hmv, har⟩ := hg
  simp only at hat hmv har h1 h2 h3
  unfold VisitR.val VisitR.cells VisitR.ok
  simp only
  have hn1 := fun w => number_any_ id w h1
  have hn2 := fun w => number_any_ number w h2
  have hn3 := fun w => number_any_ roam w h3
  have ho := heap_alloc_new w (.cells #[encStr id, encStr number, .int .u16 (home : Int), .int .u32 (move : Int), .int .u16 (area : Int), encStr roam] 172)
  have HO := Lib.hid ho
  have hb0 := (Below.refl w.heap.size w).alloc (Nat.le_refl _) (.cells #[encStr id, encStr number, .int .u16 (home : Int), .int .u32 (move : Int), .int .u16 (area : Int), encStr roam] 172)
  generalize isNum id = b1 at *
  generalize isNum number = b2 at *
  generalize isNum roam = b3 at *
  have HN1 := Lib.hid hn1
  have HN2 := Lib.hid hn2
  have HN3 := Lib.hid hn3
  clear hn1 hn2 hn3 ho h1 h2 h3
  cases b1 with
  | false =>
    go_enter Tryd.func136, Tryd.ntmps136
    go_wp2_with (first
      | (go_at_call 131; (with_reducible refine (HN1.out _).mono ?_); rintro e w1 ⟨rfl, hB1⟩
         have o1 := (hB1.block w.heap.size (by simp)).trans HO.out
         have y1 : w1.cell? ⟨w.heap.size, 1, none⟩ = some (encStr number) := cell_of_row _ _ 1 _ _ _ o1
         have O1 := Lib.hid o1
         clear o1)
      | (go_at_call 131; (with_reducible refine (HN2.out _).mono ?_); rintro e w2 ⟨rfl, hB2⟩
         have o2 := (hB2.block w.heap.size (by have := hB1.size; simp at this; omega)).trans O1.out
         have y2 : w2.cell? ⟨w.heap.size, 2, none⟩ = some (.int .u16 (home : Int)) := cell_of_row _ _ 2 _ _ _ o2
         have y5 : w2.cell? ⟨w.heap.size, 5, none⟩ = some (encStr roam) := cell_of_row _ _ 5 _ _ _ o2
         clear o2)
      | (go_at_call 131; (with_reducible refine (HN3.out _).mono ?_); rintro e w3 ⟨rfl, hB3⟩)
      | fail)
    go_ret
    exact ⟨rfl, below_then hb0 hB1⟩
  | true =>
    cases b2 with
    | false =>
      go_enter Tryd.func136, Tryd.ntmps136
      go_wp2_with (first
        | (go_at_call 131; (with_reducible refine (HN1.out _).mono ?_); rintro e w1 ⟨rfl, hB1⟩
           have o1 := (hB1.block w.heap.size (by simp)).trans HO.out
           have y1 : w1.cell? ⟨w.heap.size, 1, none⟩ = some (encStr number) := cell_of_row _ _ 1 _ _ _ o1
           have O1 := Lib.hid o1
           clear o1)
        | (go_at_call 131; (with_reducible refine (HN2.out _).mono ?_); rintro e w2 ⟨rfl, hB2⟩
           have o2 := (hB2.block w.heap.size (by have := hB1.size; simp at this; omega)).trans O1.out
           have y2 : w2.cell? ⟨w.heap.size, 2, none⟩ = some (.int .u16 (home : Int)) := cell_of_row _ _ 2 _ _ _ o2
           have y5 : w2.cell? ⟨w.heap.size, 5, none⟩ = some (encStr roam) := cell_of_row _ _ 5 _ _ _ o2
           clear o2)
        | (go_at_call 131; (with_reducible refine (HN3.out _).mono ?_); rintro e w3 ⟨rfl, hB3⟩)
        | fail)
      go_ret
      exact ⟨rfl, below_then (below_then hb0 hB1) hB2⟩
    | true =>
      by_cases ha : 1 ≤ home
      · have ha' : 1 ≤ (home : Int) := by omega
        by_cases hb : home ≤ 16383
        · have hb' : (home : Int) ≤ 16383 := by omega
          rw [decide_eq_true (And.intro ha hb)]
          clear ha hb
          cases roam with
          | nil =>
            go_enter Tryd.func136, Tryd.ntmps136
            go_wp2_with (first
              | (go_at_call 131; (with_reducible refine (HN1.out _).mono ?_); rintro e w1 ⟨rfl, hB1⟩
                 have o1 := (hB1.block w.heap.size (by simp)).trans HO.out
                 have y1 : w1.cell? ⟨w.heap.size, 1, none⟩ = some (encStr number) := cell_of_row _ _ 1 _ _ _ o1
                 have O1 := Lib.hid o1
                 clear o1)
              | (go_at_call 131; (with_reducible refine (HN2.out _).mono ?_); rintro e w2 ⟨rfl, hB2⟩
                 have o2 := (hB2.block w.heap.size (by have := hB1.size; simp at this; omega)).trans O1.out
                 have y2 : w2.cell? ⟨w.heap.size, 2, none⟩ = some (.int .u16 (home : Int)) := cell_of_row _ _ 2 _ _ _ o2
                 have y5 : w2.cell? ⟨w.heap.size, 5, none⟩ = some (encStr []) := cell_of_row _ _ 5 _ _ _ o2
                 clear o2)
              | (go_at_call 131; (with_reducible refine (HN3.out _).mono ?_); rintro e w3 ⟨rfl, hB3⟩)
              | fail)
            go_ret
            exact ⟨rfl, below_then (below_then hb0 hB1) hB2⟩
          | cons x r =>
            go_enter Tryd.func136, Tryd.ntmps136
            go_wp2_with (first
              | (go_at_call 131; (with_reducible refine (HN1.out _).mono ?_); rintro e w1 ⟨rfl, hB1⟩
                 have o1 := (hB1.block w.heap.size (by simp)).trans HO.out
                 have y1 : w1.cell? ⟨w.heap.size, 1, none⟩ = some (encStr number) := cell_of_row _ _ 1 _ _ _ o1
                 have O1 := Lib.hid o1
                 clear o1)
              | (go_at_call 131; (with_reducible refine (HN2.out _).mono ?_); rintro e w2 ⟨rfl, hB2⟩
                 have o2 := (hB2.block w.heap.size (by have := hB1.size; simp at this; omega)).trans O1.out
                 have y2 : w2.cell? ⟨w.heap.size, 2, none⟩ = some (.int .u16 (home : Int)) := cell_of_row _ _ 2 _ _ _ o2
                 have y5 : w2.cell? ⟨w.heap.size, 5, none⟩ = some (encStr (x :: r)) := cell_of_row _ _ 5 _ _ _ o2
                 clear o2)
              | (go_at_call 131; (with_reducible refine (HN3.out _).mono ?_); rintro e w3 ⟨rfl, hB3⟩)
              | fail)
            go_ret
            exact ⟨rfl, below_then (below_then (below_then hb0 hB1) hB2) hB3⟩
        · have hb' : ¬ ((home : Int) ≤ 16383) := by omega
          rw [decide_eq_false (fun h => hb h.2)]
          clear ha hb
          go_enter Tryd.func136, Tryd.ntmps136
          go_wp2_with (first
            | (go_at_call 131; (with_reducible refine (HN1.out _).mono ?_); rintro e w1 ⟨rfl, hB1⟩
               have o1 := (hB1.block w.heap.size (by simp)).trans HO.out
               have y1 : w1.cell? ⟨w.heap.size, 1, none⟩ = some (encStr number) := cell_of_row _ _ 1 _ _ _ o1
               have O1 := Lib.hid o1
               clear o1)
            | (go_at_call 131; (with_reducible refine (HN2.out _).mono ?_); rintro e w2 ⟨rfl, hB2⟩
               have o2 := (hB2.block w.heap.size (by have := hB1.size; simp at this; omega)).trans O1.out
               have y2 : w2.cell? ⟨w.heap.size, 2, none⟩ = some (.int .u16 (home : Int)) := cell_of_row _ _ 2 _ _ _ o2
               have y5 : w2.cell? ⟨w.heap.size, 5, none⟩ = some (encStr roam) := cell_of_row _ _ 5 _ _ _ o2
               clear o2)
            | (go_at_call 131; (with_reducible refine (HN3.out _).mono ?_); rintro e w3 ⟨rfl, hB3⟩)
            | fail)
          go_ret
          exact ⟨rfl, below_then (below_then hb0 hB1) hB2⟩
      · have ha' : ¬ (1 ≤ (home : Int)) := by omega
        rw [decide_eq_false (fun h => ha h.1)]
        clear ha
        go_enter Tryd.func136, Tryd.ntmps136
        go_wp2_with (first
          | (go_at_call 131; (with_reducible refine (HN1.out _).mono ?_); rintro e w1 ⟨rfl, hB1⟩
             have o1 := (hB1.block w.heap.size (by simp)).trans HO.out
             have y1 : w1.cell? ⟨w.heap.size, 1, none⟩ = some (encStr number) := cell_of_row _ _ 1 _ _ _ o1
             have O1 := Lib.hid o1
             clear o1)
          | (go_at_call 131; (with_reducible refine (HN2.out _).mono ?_); rintro e w2 ⟨rfl, hB2⟩
             have o2 := (hB2.block w.heap.size (by have := hB1.size; simp at this; omega)).trans O1.out
             have y2 : w2.cell? ⟨w.heap.size, 2, none⟩ = some (.int .u16 (home : Int)) := cell_of_row _ _ 2 _ _ _ o2
             have y5 : w2.cell? ⟨w.heap.size, 5, none⟩ = some (encStr roam) := cell_of_row _ _ 5 _ _ _ o2
             clear o2)
          | (go_at_call 131; (with_reducible refine (HN3.out _).mono ?_); rintro e w3 ⟨rfl, hB3⟩)
          | fail)
        go_ret
        exact ⟨rfl, below_then (below_then hb0 hB1) hB2⟩
end Go.Proofs.YthbbmpelldglmaaDoor
/- Package subscribers: what a store holds. -/
namespace Go.Proofs.YthbbmpelldglmaaDoor
set_option linter.unusedVariables false
set_option linter.unusedSimpArgs false
open Go.RowKit

/-- a store as plain data; 'puts' bounds the entries of its maps -/
structure St where
  homes : List HomeR
  visits : List VisitR
  log : List UInt8
  dur : Nat
  puts : Nat
/-- the map f tells of each element x of l, at kf x, vf x -/
def Tells {α : Type} (f : List UInt8 → Option Value) (l : List α) (kf : α → List UInt8) (vf : α → Value) : Prop := ∀ k v, f k = some v ↔ ∃ x ∈ l, kf x = k ∧ vf x = v
theorem Tells.none {α : Type} (kf : α → List UInt8) (vf : α → Value) : Tells (fun _ => none) ([] : List α) kf vf := fun k v => by simp
def roamers (l : List VisitR) : List VisitR := l.filter fun v => !v.roam.isEmpty
/-- the four maps -/
structure Maps4 (w : World) (b1 b2 b3 b4 : Nat) (S : St) : Prop where
  nodup : b1 ≠ b2 ∧ b1 ≠ b3 ∧ b1 ≠ b4 ∧ b2 ≠ b3 ∧ b2 ≠ b4 ∧ b3 ≠ b4
  homes : ∃ f, MapIs Tryd.prog 9 w b1 S.puts f ∧ Tells f S.homes HomeR.id HomeR.val
  visits : ∃ f, MapIs Tryd.prog 9 w b2 S.puts f ∧ Tells f S.visits VisitR.id VisitR.val
  numbers : ∃ f, MapIs Tryd.prog 9 w b3 S.puts f ∧ Tells f S.homes HomeR.number fun h => encStr h.id
  roams : ∃ f, MapIs Tryd.prog 9 w b4 S.puts f ∧ Tells f (roamers S.visits) VisitR.roam fun v => encStr v.id
/-- what holds of every store -/
structure St.Fit (S : St) : Prop where
  hs : S.homes.Pairwise fun a b => a.id < b.id
  hn : S.homes.Pairwise fun a b => a.number ≠ b.number
  hok : ∀ h ∈ S.homes, h.ok = true ∧ h.Go
  vs : S.visits.Pairwise fun a b => a.id < b.id
  vr : (roamers S.visits).Pairwise fun a b => a.roam ≠ b.roam
  vok : ∀ v ∈ S.visits, v.ok = true ∧ v.Go
/-- a store whose maps are made -/
structure StM (w : World) (g b1 b2 b3 b4 : Nat) (A : Option Addr) (c : Nat) (S : St) : Prop where
  obj : w.heap[g]? = some (stObj (.map (some b1)) (.map (some b2)) (.map (some b3)) (.map (some b4)) A S.log.length c S.dur)
  log : RowB w 0 A c S.log
  maps : Maps4 w b1 b2 b3 b4 S
/-- a store whose maps are not made yet -/
structure StN (w : World) (g : Nat) (A : Option Addr) (c : Nat) (S : St) : Prop where
  obj : w.heap[g]? = some (stObj (.map none) (.map none) (.map none) (.map none) A S.log.length c S.dur)
  log : RowB w 0 A c S.log
  homes : S.homes = []
  visits : S.visits = []
/-- the store at block g, with its blocks -/
def StAt (w : World) (g : Nat) (F : List Nat) (S : St) : Prop :=
  (∃ b1 b2 b3 b4 A c, F = g :: b1 :: b2 :: b3 :: b4 :: blk A ∧ StM w g b1 b2 b3 b4 A c S) ∨ (∃ A c, F = g :: blk A ∧ StN w g A c S)

theorem Maps4.chg {w w' : World} {b1 b2 b3 b4 : Nat} {S : St} {F : List Nat} (h : Maps4 w b1 b2 b3 b4 S) (hc : Chg F w w') (h1 : b1 ∉ F) (h2 : b2 ∉ F) (h3 : b3 ∉ F) (h4 : b4 ∉ F) : Maps4 w' b1 b2 b3 b4 S := by
  obtain ⟨hn, ⟨f1, m1, t1⟩, ⟨f2, m2, t2⟩, ⟨f3, m3, t3⟩, ⟨f4, m4, t4⟩⟩ := h
  exact ⟨hn, ⟨f1, m1.chg hc h1, t1⟩, ⟨f2, m2.chg hc h2, t2⟩, ⟨f3, m3.chg hc h3, t3⟩, ⟨f4, m4.chg hc h4, t4⟩⟩
theorem Maps4.lt {w : World} {b1 b2 b3 b4 : Nat} {S : St} (h : Maps4 w b1 b2 b3 b4 S) : b1 < w.heap.size ∧ b2 < w.heap.size ∧ b3 < w.heap.size ∧ b4 < w.heap.size := by
  obtain ⟨hn, ⟨f1, m1, t1⟩, ⟨f2, m2, t2⟩, ⟨f3, m3, t3⟩, ⟨f4, m4, t4⟩⟩ := h
  exact ⟨m1.lt, m2.lt, m3.lt, m4.lt⟩
theorem StM.chg {w w' : World} {g b1 b2 b3 b4 : Nat} {A : Option Addr} {c : Nat} {S : St} {F : List Nat} (h : StM w g b1 b2 b3 b4 A c S) (hc : Chg F w w') (hF : ∀ i ∈ g :: b1 :: b2 :: b3 :: b4 :: blk A, i ∉ F) : StM w' g b1 b2 b3 b4 A c S where
  obj := hc.heap h.obj (hF g (by simp))
  log := Row.chg h.log hc (fun k e => hF k (by simp [mem_blk.2 e]))
  maps := h.maps.chg hc (hF b1 (by simp)) (hF b2 (by simp)) (hF b3 (by simp)) (hF b4 (by simp))
theorem StN.chg {w w' : World} {g : Nat} {A : Option Addr} {c : Nat} {S : St} {F : List Nat} (h : StN w g A c S) (hc : Chg F w w') (hF : ∀ i ∈ g :: blk A, i ∉ F) : StN w' g A c S where
  obj := hc.heap h.obj (hF g (by simp))
  log := Row.chg h.log hc (fun k e => hF k (by simp [mem_blk.2 e]))
  homes := h.homes
  visits := h.visits
/-- the store stays while other blocks change -/
theorem StAt.chg {w w' : World} {g : Nat} {F F2 : List Nat} {S : St} (h : StAt w g F S) (hc : Chg F2 w w') (hF : ∀ i ∈ F, i ∉ F2) : StAt w' g F S := by
  rcases h with ⟨b1, b2, b3, b4, A, c, rfl, h⟩ | ⟨A, c, rfl, h⟩
  · exact .inl ⟨b1, b2, b3, b4, A, c, rfl, h.chg hc hF⟩
  · exact .inr ⟨A, c, rfl, h.chg hc hF⟩
theorem StAt.below {w w' : World} {g : Nat} {F : List Nat} {S : St} (h : StAt w g F S) (hb : Below w.heap.size w w') : StAt w' g F S := h.chg (Chg.of_below [] hb) (by simp)
theorem StAt.lt {w : World} {g : Nat} {F : List Nat} {S : St} (h : StAt w g F S) : ∀ i ∈ F, i < w.heap.size := by
  rcases h with ⟨b1, b2, b3, b4, A, c, rfl, h⟩ | ⟨A, c, rfl, h⟩
  · intro i hi
    have hl := h.maps.lt
    simp only [List.mem_cons] at hi
    rcases hi with rfl | rfl | rfl | rfl | rfl | hi
    · exact (Array.getElem?_eq_some_iff.1 h.obj).1
    · exact hl.1
    · exact hl.2.1
    · exact hl.2.2.1
    · exact hl.2.2.2
    · exact (Row.blk_lt h.log i hi).2
  · intro i hi
    simp only [List.mem_cons] at hi
    rcases hi with rfl | hi
    · exact (Array.getElem?_eq_some_iff.1 h.obj).1
    · exact (Row.blk_lt h.log i hi).2

set_option maxHeartbeats 1000000 in
/-- 'New' -/
theorem storeNew_any (w : World) :
    Calls Tryd.prog 24 #[] w fun e w' => e = .returned (.pointer (some ⟨w.heap.size, 0, none⟩)) ∧ StAt w' w.heap.size [w.heap.size] ⟨[], [], [], 0, 0⟩ ∧ Below w.heap.size w w' := by
  go_enter Tryd.func24, Tryd.ntmps24
  go_wp2
  go_ret
  refine ⟨rfl, .inr ⟨none, 0, rfl, ?_, RowB.nil _ _, rfl, rfl⟩, (Below.refl _ _).alloc (Nat.le_refl _) _⟩
  exact heap_alloc_new _ _

theorem wpList_makeMap {P : Program} {w : World} {ops : Array Oper} {rest : List Oper} {o : Oper} {a : Act} {Q : Exit → Act → World → Prop} (hg : o.guard = none) (t : TypeId) (ho : o.op = .makeMap t none)
    (h : ∀ w', w' = w.alloc (.map #[] 0) → wpList P ops Q rest (a.put o.dst (.map (some w.heap.size))) w') : wpList P ops Q (o :: rest) a w := by
  refine wpList_plain hg fun K' hK' => ?_
  unfold Oper.wp
  simp [execOp, ho, run_makeMap, Result.andThen]
  exact hK' _ _ (h _ rfl)

set_option maxHeartbeats 2000000 in
set_option maxRecDepth 100000 in
/-- 'ready' -/
theorem ready_any (w : World) (g : Nat) (F : List Nat) (S : St) (h : StAt w g F S) :
    Calls Tryd.prog 85 #[.pointer (some ⟨g, 0, none⟩)] w fun e w' => e = .returned (.tuple #[]) ∧ ∃ b1 b2 b3 b4 A c, StM w' g b1 b2 b3 b4 A c S ∧ Chg F w w' ∧ NewIn w F (g :: b1 :: b2 :: b3 :: b4 :: blk A) := by
  have q1 : ∀ (w : World) (b : Nat), (binOp .eql 157 (.map (some b)) (.map none)).run Tryd.prog w = .ok (.bool false) w := fun w b => run_eql_map_nil w _ _ _ (some b) Tryd.underlying157
  have q2 : ∀ w : World, (binOp .eql 157 (.map none) (.map none)).run Tryd.prog w = .ok (.bool true) w := fun w => run_eql_map_nil w _ _ _ none Tryd.underlying157
  have hmm := @run_makeMap Tryd.prog
  rcases h with ⟨b1, b2, b3, b4, A, c, rfl, h⟩ | ⟨A, c, rfl, h⟩
  · have k0 : w.cell? ⟨g, 0, none⟩ = some (.map (some b1)) := stObj_cell h.obj 0
    have H := Lib.hid h
    clear h
    go_enter Tryd.func85, Tryd.ntmps85
    go_wp2
    refine bodyPost_end (results_none (by rfl) _ _ _) (by rfl) ?_
    exact ⟨rfl, b1, b2, b3, b4, A, c, H.out, Chg.refl _ _, NewIn.refl _ _⟩
  · have hlt : g < w.heap.size := (Array.getElem?_eq_some_iff.1 h.obj).1
    have hap := stObj_apart h.obj h.log
    have k0 : w.cell? ⟨g, 0, none⟩ = some (.map none) := stObj_cell h.obj 0
    have HO := Lib.hid h.obj
    have HLOG := Lib.hid h.log
    have HV := Lib.hid (And.intro h.homes h.visits)
    have HAP := Lib.hid hap
    clear h hmm hap
    go_enter Tryd.func85, Tryd.ntmps85
    go_wp2_with (first
      | ((with_reducible refine at_dst 9 rfl ?_)
         refine wpList_makeMap rfl 157 rfl ?_
         intro w1 hw1
         have HW1 := Lib.hid hw1
         have HO1 := Lib.hid (show w1.heap[g]? = some (stObj (.map none) (.map none) (.map none) (.map none) A S.log.length c S.dur) by rw [hw1]; exact (Below.heap_alloc _ _ _ hlt).trans HO.out)
         clear hw1 k0)
      | ((with_reducible refine at_dst 10 rfl ?_)
         refine wpList_makeMap rfl 158 rfl ?_
         intro w2 hw2
         have HW2 := Lib.hid hw2
         have o2 : w2.heap[g]? = some (stObj (.map none) (.map none) (.map none) (.map none) A S.log.length c S.dur) := by rw [hw2]; exact (Below.heap_alloc _ _ _ (Array.getElem?_eq_some_iff.1 HO1.out).1).trans HO1.out
         have HO2 := Lib.hid o2
         have k0 : w2.cell? ⟨g, 0, none⟩ = some (.map none) := stObj_cell o2 0
         have k1 : w2.cell? ⟨g, 1, none⟩ = some (.map none) := stObj_cell o2 1
         have f0 := stObj_free o2 0
         have f1 := stObj_free o2 1
         clear hw2 o2)
      | ((with_reducible refine at_dst 17 rfl ?_)
         refine wpList_makeMap rfl 159 rfl ?_
         intro w3 hw3
         have HW3 := Lib.hid hw3
         have o3 : w3.heap[g]? = some (stObj (.map (some w.heap.size)) (.map (some w1.heap.size)) (.map none) (.map none) A S.log.length c S.dur) := by
           have e1 := Go.Joins.block_setCell (i := 0) HO2.out (.map (some w.heap.size))
           have e2 := Go.Joins.block_setCell (i := 1) e1 (.map (some w1.heap.size))
           rw [hw3]
           exact (Below.heap_alloc _ _ _ (Array.getElem?_eq_some_iff.1 e2).1).trans e2
         have HO3 := Lib.hid o3
         clear hw3 o3 k0 k1 f0 f1)
      | ((with_reducible refine at_dst 18 rfl ?_)
         refine wpList_makeMap rfl 159 rfl ?_
         intro w4 hw4
         have HW4 := Lib.hid hw4
         have o4 : w4.heap[g]? = some (stObj (.map (some w.heap.size)) (.map (some w1.heap.size)) (.map none) (.map none) A S.log.length c S.dur) := by rw [hw4]; exact (Below.heap_alloc _ _ _ (Array.getElem?_eq_some_iff.1 HO3.out).1).trans HO3.out
         have HO4 := Lib.hid o4
         have k2 : w4.cell? ⟨g, 2, none⟩ = some (.map none) := stObj_cell o4 2
         have k3 : w4.cell? ⟨g, 3, none⟩ = some (.map none) := stObj_cell o4 3
         have f2 := stObj_free o4 2
         have f3 := stObj_free o4 3
         clear hw4 o4)
      | fail)
    have e1 := Go.Joins.block_setCell (i := 2) HO4.out (.map (some w2.heap.size))
    have e2 := Go.Joins.block_setCell (i := 3) e1 (.map (some w3.heap.size))
    have z1 : w1.heap.size = w.heap.size + 1 := by rw [HW1.out]; simp
    have z2 : w2.heap.size = w.heap.size + 2 := by rw [HW2.out]; simp; omega
    have z3 : w3.heap.size = w.heap.size + 3 := by rw [HW3.out]; simp [World.setCell]; omega
    have c01 : Chg [g] w w1 := by rw [HW1.out]; exact (Chg.refl _ _).alloc _
    have c12 : Chg [g] w1 w2 := by rw [HW2.out]; exact (Chg.refl _ _).alloc _
    have c23 : Chg [g] w2 w3 := by rw [HW3.out]; exact (((Chg.refl _ _).setCell (p := ⟨g, 0, none⟩) (by simp) _).setCell (p := ⟨g, 1, none⟩) (by simp) _).alloc _
    have c34 : Chg [g] w3 w4 := by rw [HW4.out]; exact (Chg.refl _ _).alloc _
    have c4W := (((Chg.refl [g] w4).setCell (p := ⟨g, 2, none⟩) (by simp) (.map (some w2.heap.size))).setCell (p := ⟨g, 3, none⟩) (by simp) (.map (some w3.heap.size)))
    have m1 : MapIs Tryd.prog 9 w1 w.heap.size S.puts fun _ => none := by rw [HW1.out]; exact (MapIs.made w _ _).mono (Nat.zero_le _)
    have m2 : MapIs Tryd.prog 9 w2 w1.heap.size S.puts fun _ => none := by rw [HW2.out]; exact (MapIs.made w1 _ _).mono (Nat.zero_le _)
    have m3 : MapIs Tryd.prog 9 w3 w2.heap.size S.puts fun _ => none := by
      rw [HW3.out]
      have := (MapIs.made (((w2.setCell ⟨g, 0, none⟩ (.map (some w.heap.size))).setCell ⟨g, 1, none⟩ (.map (some w1.heap.size)))) Tryd.prog 9).mono (Nat.zero_le S.puts)
      simpa [World.setCell] using this
    have m4 : MapIs Tryd.prog 9 w4 w3.heap.size S.puts fun _ => none := by rw [HW4.out]; exact (MapIs.made w3 _ _).mono (Nat.zero_le _)
    have cW := (((c01.then_ c12).then_ c23).then_ c34).then_ c4W
    go_end0
    refine ⟨rfl, w.heap.size, w1.heap.size, w2.heap.size, w3.heap.size, A, c, ⟨e2, Row.chg HLOG.out cW (fun k e => by simp; rintro rfl; exact HAP.out (mem_blk.2 e)), ⟨by omega, ?_, ?_, ?_, ?_⟩⟩, cW.mono (by simp), ?_⟩
    · rw [HV.out.1]; exact ⟨_, m1.chg (((c12.then_ c23).then_ c34).then_ c4W) (by simp; omega), Tells.none _ _⟩
    · rw [HV.out.2]; exact ⟨_, m2.chg ((c23.then_ c34).then_ c4W) (by simp; omega), Tells.none _ _⟩
    · rw [HV.out.1]; exact ⟨_, m3.chg (c34.then_ c4W) (by simp; omega), Tells.none _ _⟩
    · rw [HV.out.2]; exact ⟨_, m4.chg c4W (by simp; omega), Tells.none _ _⟩
    · intro i hi
      simp only [List.mem_cons] at hi ⊢
      rcases hi with rfl | rfl | rfl | rfl | rfl | hi
      · exact .inl (.inl rfl)
      · exact .inr (Nat.le_refl _)
      · exact .inr (by omega)
      · exact .inr (by omega)
      · exact .inr (by omega)
      · exact .inl (.inr hi)
end Go.Proofs.YthbbmpelldglmaaDoor
/- The division of polynomials bit by bit, and the register: no program. -/
namespace Go.Proofs.YthbbmpelldglmaaDoor
set_option linter.unusedVariables false
set_option linter.unusedSimpArgs false

/-- a bit as an octet -/
def b2u (b : Bool) : UInt8 := if b then 1 else 0
theorem b2u_xor (a b : Bool) : (b2u a + b2u b) % 2 = b2u (a ^^ b) := by cases a <;> cases b <;> decide
theorem b2u_nat (b : Bool) : (b2u b).toNat = b.toNat := by cases b <;> rfl
theorem b2u_one (b : Bool) : b2u b = 1 ↔ b = true := by cases b <;> simp [b2u]
theorem testBit_nat (v k : Nat) : v / 2 ^ k % 2 = (v.testBit k).toNat := by
  rw [Nat.testBit_eq_decide_div_mod_eq]
  rcases Nat.mod_two_eq_zero_or_one (v / 2 ^ k) with h | h <;> simp [h]

/-- the bits of an octet, of octets -/
def sbB (b : UInt8) : List Bool := (List.range 8).map fun k => b.toNat.testBit k
def sb (l : List UInt8) : List Bool := l.flatMap sbB
theorem sbB_len (b : UInt8) : (sbB b).length = 8 := by simp [sbB]
theorem sb_len (l : List UInt8) : (sb l).length = 8 * l.length := by
  induction l with
  | nil => rfl
  | cons b l ih => simp only [sb, List.flatMap_cons, List.length_append, sbB_len, List.length_cons] at *; omega
theorem sb_snoc (l : List UInt8) (k : Nat) (h : k < l.length) : sb (l.take (k + 1)) = sb (l.take k) ++ sbB l[k] := by
  unfold sb; rw [List.take_succ_eq_append_getElem h, List.flatMap_append]; simp
theorem sbB_snoc (b : UInt8) (j : Nat) (h : j < 8) : (sbB b).take (j + 1) = (sbB b).take j ++ [b.toNat.testBit j] := by
  rw [List.take_succ_eq_append_getElem (by rw [sbB_len]; exact h)]
  congr 1
  simp [sbB]

/-- the register behind a bit -/
def bitStep (r : Nat) (b : Bool) : Nat := crcZ (r ^^^ b.toNat)
def crcBits (r : Nat) (S : List Bool) : Nat := S.foldl bitStep r
theorem bool_lt (b : Bool) : b.toNat < 2 := by cases b <;> decide
theorem bitStep_lt (r : Nat) (b : Bool) (h : r < 65536) : bitStep r b < 65536 :=
  crcZ_lt _ (Nat.xor_lt_two_pow (n := 16) h (by have := bool_lt b; omega))
theorem crcBits_lt (r : Nat) (S : List Bool) (h : r < 65536) : crcBits r S < 65536 := by
  induction S generalizing r with
  | nil => exact h
  | cons b l ih => exact ih _ (bitStep_lt r b h)
theorem crcBits_snoc (r : Nat) (S : List Bool) (k : Nat) (h : k < S.length) : crcBits r (S.take (k + 1)) = bitStep (crcBits r (S.take k)) S[k] := by
  unfold crcBits; rw [List.take_succ_eq_append_getElem h, List.foldl_append]; rfl
theorem range_succ' (n : Nat) (f : Nat → Bool) : (List.range (n + 1)).map f = f 0 :: (List.range n).map (fun k => f (k + 1)) := by
  rw [List.range_succ_eq_map]; simp [Function.comp_def]
theorem crcBits_low (n r m : Nat) (h : m < 2 ^ n) : crcBits r ((List.range n).map fun k => m.testBit k) = crcI n (r ^^^ m) := by
  induction n generalizing r m with
  | zero =>
    obtain rfl : m = 0 := by simpa using h
    simp [crcBits, crcI]
  | succ n ih =>
    rw [range_succ']
    have e : (fun k => m.testBit (k + 1)) = fun k => (m / 2).testBit k := by funext k; rw [Nat.testBit_succ]
    rw [e]
    show crcBits (bitStep r (m.testBit 0)) _ = _
    rw [ih _ _ (by rw [Nat.pow_succ] at h; omega), crcI_succ']
    congr 1
    have hm : m = (m.testBit 0).toNat ^^^ (2 * (m / 2)) := by
      apply Nat.eq_of_testBit_eq
      intro i
      rw [Nat.testBit_xor]
      cases i with
      | zero => cases hb : m.testBit 0 <;> simp
      | succ i =>
        rw [Nat.testBit_succ, Nat.testBit_succ, Nat.testBit_succ]
        have h1 : (m.testBit 0).toNat / 2 = 0 := by have := bool_lt (m.testBit 0); omega
        have h2 : 2 * (m / 2) / 2 = m / 2 := by omega
        rw [h1, h2, Nat.zero_testBit, Bool.false_xor]
    conv => rhs; rw [hm]
    rw [← Nat.xor_assoc, crcZ_xor, crcZ_even]
    rfl
theorem crcB_bits (r : Nat) (b : UInt8) : crcBits r (sbB b) = crcB r b := crcBits_low 8 r b.toNat (by have := b.toNat_lt; omega)
theorem crc_bits (r : Nat) (l : List UInt8) : crcBits r (sb l) = crc r l := by
  induction l generalizing r with
  | nil => rfl
  | cons b l ih =>
    show crcBits r (sbB b ++ sb l) = _
    unfold crcBits at *
    rw [List.foldl_append]
    have := crcB_bits r b
    unfold crcBits at this
    rw [this, ih]; rfl

/-- the coefficients behind i steps of the division, if the register is R then -/
def stB (S : Nat → Bool) (i R j : Nat) : Bool := !decide (j < i) && (S j ^^ R.testBit (j - i))
def stL (S : Nat → Bool) (N i R : Nat) : List Bool := (List.range N).map (stB S i R)
theorem stL_len (S : Nat → Bool) (N i R : Nat) : (stL S N i R).length = N := by simp [stL]
theorem stL_get (S : Nat → Bool) (N i R j : Nat) (h : j < N) : (stL S N i R)[j]? = some (stB S i R j) := by simp [stL, h]
/-- between: the first i + k places are those of the next step -/
def midB (S : Nat → Bool) (i R k j : Nat) : Bool := if j < i + k then stB S (i + 1) (bitStep R (S i)) j else stB S i R j
def midL (S : Nat → Bool) (N i R k : Nat) : List Bool := (List.range N).map (midB S i R k)
theorem midL_len (S : Nat → Bool) (N i R k : Nat) : (midL S N i R k).length = N := by simp [midL]
theorem midL_get (S : Nat → Bool) (N i R k j : Nat) (h : j < N) : (midL S N i R k)[j]? = some (midB S i R k j) := by simp [midL, h]
theorem midL_zero (S : Nat → Bool) (N i R : Nat) (h : (S i ^^ R.testBit 0) = true) : midL S N i R 0 = stL S N i R := by
  apply List.map_congr_left
  intro j _
  unfold midB
  by_cases hj : j < i + 0
  · rw [if_pos hj]; have h1 : j < i := hj; simp [stB, h1, Nat.lt_succ_of_lt h1]
  · rw [if_neg hj]

theorem bitStep_div (R : Nat) (b : Bool) : bitStep R b = (R / 2) ^^^ ((b ^^ R.testBit 0).toNat * 33800) := by
  unfold bitStep
  rw [crcZ_eq, xor_half, xor_par]
  have h1 : b.toNat / 2 = 0 := by have := bool_lt b; omega
  rw [h1, Nat.xor_zero]
  congr 2
  rw [Nat.testBit_zero]
  rcases Nat.mod_two_eq_zero_or_one R with h | h <;> cases b <;> simp [h]
theorem testBit_big (R j : Nat) (h : R < 65536) (hj : 16 ≤ j) : R.testBit j = false :=
  Nat.testBit_lt_two_pow (Nat.lt_of_lt_of_le h (Nat.pow_le_pow_right (n := 2) (by decide) hj))

theorem stL_skip (S : Nat → Bool) (N i R : Nat) (h : (S i ^^ R.testBit 0) = false) : stL S N (i + 1) (bitStep R (S i)) = stL S N i R := by
  apply List.map_congr_left
  intro j _
  unfold stB
  rw [bitStep_div, h]
  rcases Nat.lt_trichotomy j i with h1 | h1 | h1
  · simp [h1]; omega
  · subst h1; simpa using h
  · have e1 : ¬ j < i + 1 := by omega
    have e2 : ¬ j < i := by omega
    simp only [e1, e2]
    obtain ⟨d, rfl⟩ : ∃ d, j = i + 1 + d := ⟨j - (i + 1), by omega⟩
    rw [show i + 1 + d - (i + 1) = d by omega, show i + 1 + d - i = d + 1 by omega, Nat.testBit_succ]
    simp

def polyB (j : Nat) : Bool := j == 0 || j == 5 || j == 12 || j == 16
theorem poly_test (k : Nat) (h : k < 17) (h0 : 0 < k) : (33800 : Nat).testBit (k - 1) = polyB (16 - k) := by
  have : ∀ k, k < 17 → 0 < k → (33800 : Nat).testBit (k - 1) = polyB (16 - k) := by decide
  exact this k h h0
theorem mid_step (S : Nat → Bool) (i R k : Nat) (hk : k < 17) (h : (S i ^^ R.testBit 0) = true) :
    (midB S i R k (i + k) ^^ polyB (16 - k)) = stB S (i + 1) (bitStep R (S i)) (i + k) := by
  unfold midB
  rw [if_neg (by omega)]
  unfold stB
  rw [bitStep_div, h]
  rcases Nat.eq_zero_or_pos k with rfl | h0
  · have h' : (S (i + 0) ^^ R.testBit (i + 0 - i)) = true := by rw [Nat.add_zero, Nat.sub_self]; exact h
    rw [h']; simp [polyB]
  · have e1 : ¬ i + k < i := by omega
    have e2 : ¬ i + k < i + 1 := by omega
    obtain ⟨d, rfl⟩ : ∃ d, k = d + 1 := ⟨k - 1, by omega⟩
    simp only [e1, e2]
    rw [show i + (d + 1) - i = d + 1 by omega, show i + (d + 1) - (i + 1) = d by omega, Nat.testBit_xor, Nat.testBit_succ]
    have := poly_test (d + 1) hk h0
    simp at this
    simp [this]
theorem midL_set (S : Nat → Bool) (N i R k : Nat) (hk : k < 17) (h : (S i ^^ R.testBit 0) = true) :
    (midL S N i R k).set (i + k) (midB S i R k (i + k) ^^ polyB (16 - k)) = midL S N i R (k + 1) := by
  rw [mid_step S i R k hk h]
  apply List.ext_getElem?
  intro j
  rw [List.getElem?_set, midL_len]
  by_cases hj : j < N
  · rw [midL_get _ _ _ _ _ _ hj, midL_get _ _ _ _ _ _ hj]
    by_cases he : i + k = j
    · subst he
      simp [hj, midB]
    · rw [if_neg he]
      unfold midB
      by_cases h1 : j < i + k
      · rw [if_pos h1, if_pos (by omega)]
      · rw [if_neg h1, if_neg (by omega)]
  · have l1 := midL_len S N i R k
    have l2 := midL_len S N i R (k + 1)
    rw [List.getElem?_eq_none (by omega), List.getElem?_eq_none (by omega)]
    split
    · rw [if_neg (by omega)]
    · rfl
theorem midL_end (S : Nat → Bool) (N i R : Nat) (hR : R < 65536) (h : (S i ^^ R.testBit 0) = true) : midL S N i R 17 = stL S N (i + 1) (bitStep R (S i)) := by
  apply List.map_congr_left
  intro j _
  unfold midB
  by_cases hj : j < i + 17
  · rw [if_pos hj]
  · rw [if_neg hj]
    unfold stB
    have e1 : ¬ j < i := by omega
    have e2 : ¬ j < i + 1 := by omega
    simp only [e1, e2]
    rw [testBit_big R (j - i) hR (by omega), testBit_big _ (j - (i + 1)) (bitStep_lt R (S i) hR) (by omega)]

/-- the first loop: the register is added to the first 16 places -/
def preB (S : Nat → Bool) (r k j : Nat) : Bool := S j ^^ (decide (j < k) && r.testBit j)
def preL (S : Nat → Bool) (N r k : Nat) : List Bool := (List.range N).map (preB S r k)
theorem preL_len (S : Nat → Bool) (N r k : Nat) : (preL S N r k).length = N := by simp [preL]
theorem preL_get (S : Nat → Bool) (N r k j : Nat) (h : j < N) : (preL S N r k)[j]? = some (preB S r k j) := by simp [preL, h]
theorem preL_set (S : Nat → Bool) (N r k : Nat) : (preL S N r k).set k (preB S r k k ^^ r.testBit k) = preL S N r (k + 1) := by
  apply List.ext_getElem?
  intro j
  rw [List.getElem?_set, preL_len]
  by_cases hj : j < N
  · rw [preL_get _ _ _ _ _ hj, preL_get _ _ _ _ _ hj]
    by_cases he : k = j
    · subst he
      simp [hj, preB]
    · rw [if_neg he]
      unfold preB
      by_cases h1 : j < k
      · simp [h1, show j < k + 1 by omega]
      · simp [h1, show ¬ j < k + 1 by omega]
  · have l1 := preL_len S N r k
    have l2 := preL_len S N r (k + 1)
    rw [List.getElem?_eq_none (by omega), List.getElem?_eq_none (by omega)]
    split
    · rw [if_neg (by omega)]
    · rfl
theorem preL_end (S : Nat → Bool) (N r : Nat) (hr : r < 65536) : preL S N r 16 = stL S N 0 r := by
  apply List.map_congr_left
  intro j _
  unfold preB stB
  by_cases hj : j < 16
  · simp [hj]
  · simp [hj, testBit_big r j hr (by omega)]

/-- the message, then zeros -/
def msg (B : List Bool) (j : Nat) : Bool := B.getD j false
theorem preL_zero (B : List Bool) (r : Nat) : preL (msg B) (B.length + 16) r 0 = B ++ List.replicate 16 false := by
  apply List.ext_getElem?
  intro j
  by_cases hj : j < B.length + 16
  · rw [preL_get _ _ _ _ _ hj]
    unfold preB msg
    by_cases h : j < B.length
    · rw [List.getElem?_append_left h]
      simp [List.getD, List.getElem?_eq_getElem h]
    · rw [List.getElem?_append_right (by omega)]
      rw [List.getElem?_replicate, if_pos (by omega)]
      simp [List.getD, List.getElem?_eq_none (Nat.le_of_not_lt h)]
  · rw [List.getElem?_eq_none (by rw [preL_len]; omega), List.getElem?_eq_none (by simp; omega)]

def valB (l : List Bool) : Nat := l.foldr (fun b v => b.toNat + 2 * v) 0
theorem valB_low (n R : Nat) : valB ((List.range n).map fun m => R.testBit m) = R % 2 ^ n := by
  induction n generalizing R with
  | zero => simp [valB, Nat.mod_one]
  | succ n ih =>
    rw [range_succ']
    have e : (fun k => R.testBit (k + 1)) = fun k => (R / 2).testBit k := by funext k; rw [Nat.testBit_succ]
    rw [e]
    show (R.testBit 0).toNat + 2 * valB _ = _
    rw [ih, Nat.pow_succ]
    have h1 : (R.testBit 0).toNat = R % 2 := by
      rw [Nat.testBit_zero]; rcases Nat.mod_two_eq_zero_or_one R with h | h <;> simp [h]
    rw [h1, Nat.mul_comm (2 ^ n) 2, Nat.mod_mul]
theorem stL_drop (B : List Bool) (R : Nat) : (stL (msg B) (B.length + 16) B.length R).drop B.length = (List.range 16).map fun m => R.testBit m := by
  apply List.ext_getElem?
  intro j
  rw [List.getElem?_drop]
  by_cases hj : j < 16
  · rw [stL_get _ _ _ _ _ (by omega)]
    unfold stB msg
    simp [List.getD, List.getElem?_eq_none (show B.length ≤ B.length + j by omega), hj]
  · rw [List.getElem?_eq_none (by rw [stL_len]; omega), List.getElem?_eq_none (by simp; omega)]
theorem valB_end (B : List Bool) (R : Nat) (h : R < 65536) : valB ((stL (msg B) (B.length + 16) B.length R).drop B.length) = R := by
  rw [stL_drop, valB_low]; omega

end Go.Proofs.YthbbmpelldglmaaDoor
/- Octets as bits. No program. -/
namespace Go.Proofs.YthbbmpelldglmaaDoor
set_option linter.unusedVariables false
set_option linter.unusedSimpArgs false
open Go.RowKit

def bitsB (b : UInt8) : List UInt8 := (sbB b).map b2u
def bitsL (l : List UInt8) : List UInt8 := (sb l).map b2u
theorem bitsB_len (b : UInt8) : (bitsB b).length = 8 := by simp [bitsB, sbB_len]
theorem bitsL_len (l : List UInt8) : (bitsL l).length = 8 * l.length := by simp [bitsL, sb_len]
theorem bitsL_snoc (l : List UInt8) (k : Nat) (h : k < l.length) : bitsL (l.take (k + 1)) = bitsL (l.take k) ++ bitsB l[k] := by
  unfold bitsL; rw [sb_snoc l k h, List.map_append]; rfl
theorem bitsB_snoc (b : UInt8) (j : Nat) (h : j < 8) : (bitsB b).take (j + 1) = (bitsB b).take j ++ [b2u (b.toNat.testBit j)] := by
  unfold bitsB; rw [← List.map_take, sbB_snoc b j h, List.map_append, List.map_take]; rfl
theorem bit_val (b : UInt8) (j : Nat) : ((b2u (b.toNat.testBit j)).toNat : Int) = ((b.toNat / 2 ^ j % 2 : Nat) : Int) := by
  rw [b2u_nat, testBit_nat]
end Go.Proofs.YthbbmpelldglmaaDoor
/- Package bits: Check, digits, Of, value, Octets. -/
namespace Go.Proofs.YthbbmpelldglmaaDoor
set_option linter.unusedVariables false
set_option linter.unusedSimpArgs false
open Go.RowKit

theorem made_zero (n : Nat) : (madeCells (Value.int .u8 0).cells (n * 1)).toList = (List.replicate n (0 : UInt8)).map byteV := by
  apply List.ext_getElem?
  intro i
  by_cases hi : i < n
  · simp [madeCells, Value.cells, hi, Nat.mod_one, byteV]
  · rw [List.getElem?_eq_none (by simp [madeCells, Value.cells]; omega), List.getElem?_eq_none (by simp; omega)]

section
variable {w : World} {ops : Array Oper} {rest : List Oper} {o : Oper} {a : Act} {Q : Exit → Act → World → Prop}
/-- make([]byte, 0, n) -/
theorem make_bytes0 (hg : o.guard = none) (l c : Operand) (hop : o.op = Op.makeSlice 27 l c) (kl kc : IntKind) (C : Int) (n : Nat) (hl : a.eval l = .int kl 0) (hc : a.eval c = .int kc C) (hC : C = (n : Int)) (hn : n ≤ 140737488351232)
    (hK : ∀ w', RowB w' w.heap.size (some ⟨w.heap.size, 0, none⟩) n [] → Below w.heap.size w w' → wpList Tryd.prog ops Q rest (a.put o.dst (.slice (some ⟨w.heap.size, 0, none⟩) 0 n)) w') : wpList Tryd.prog ops Q (o :: rest) a w := by
  obtain ⟨i0, hi0, hz0, hz1, hz2⟩ := info_parts infoByte
  refine wpList_make_own w hg l c 27 hop w.heap.size 5 i0 (.int .u8 0) 1 Tryd.underlying27 hi0 hz0 hz1 kl kc C n hl hc hC (by rw [hz2]; omega) (by simp only [maxLen]; omega) (Nat.le_refl _) ?_
  intro w' h1 h2
  obtain ⟨A3, c3, e3, hS⟩ := Row.of_own h1
  injection e3 with e3 e4 e5
  subst e3
  subst e5
  exact hK w' hS ((Below.refl _ _).grown h2 (Nat.le_refl _) (by simp))
/-- make([]byte, n) -/
theorem make_bytes (hg : o.guard = none) (l c : Operand) (hop : o.op = Op.makeSlice 27 l c) (kl kc : IntKind) (L C : Int) (n : Nat) (hl : a.eval l = .int kl L) (hc : a.eval c = .int kc C) (hL : L = (n : Int)) (hC : C = (n : Int)) (hn : n ≤ 140737488351232)
    (hK : ∀ w', RowB w' w.heap.size (some ⟨w.heap.size, 0, none⟩) n (List.replicate n 0) → Below w.heap.size w w' → wpList Tryd.prog ops Q rest (a.put o.dst (.slice (some ⟨w.heap.size, 0, none⟩) n n)) w') : wpList Tryd.prog ops Q (o :: rest) a w := by
  obtain ⟨i0, hi0, hz0, hz1, hz2⟩ := info_parts infoByte
  refine wpList_make_full w hg l c 27 hop w.heap.size 5 i0 (.int .u8 0) 1 Tryd.underlying27 hi0 hz0 hz1 kl kc L C n hl hc hL hC (by rw [hz2]; omega) (by simp only [maxLen]; omega) (Nat.le_refl _) ?_
  intro w' h1 h2
  obtain ⟨A3, c3, e3, hS⟩ := Row.of_own h1
  injection e3 with e3 e4 e5
  subst e3
  subst e5
  rw [made_zero] at hS
  refine hK w' ?_ ((Below.refl _ _).grown h2 (Nat.le_refl _) (by simp))
  unfold RowB
  rw [List.length_replicate]
  exact hS
end

/-- the first k bits, and noughts -/
def digL (b : UInt8) (k : Nat) : List UInt8 := (bitsB b).take k ++ List.replicate (8 - k) 0
theorem digL_zero (b : UInt8) : digL b 0 = List.replicate 8 0 := by simp [digL]
theorem digL_eight (b : UInt8) : digL b 8 = bitsB b := by simp [digL, List.take_of_length_le, bitsB_len]
theorem digL_len (b : UInt8) (k : Nat) (h : k ≤ 8) : (digL b k).length = 8 := by simp [digL, bitsB_len]; omega
theorem digL_set (b : UInt8) (k : Nat) (h : k < 8) : (digL b k).set k (b2u (b.toNat.testBit k)) = digL b (k + 1) := by
  have hl : ((bitsB b).take k).length = k := by rw [List.length_take, bitsB_len]; omega
  obtain ⟨m, hm⟩ : ∃ m, 8 - k = m + 1 := ⟨7 - k, by omega⟩
  unfold digL
  rw [List.set_append_right _ _ (by omega), hl, hm, List.replicate_succ, Nat.sub_self, List.set_cons_zero, bitsB_snoc b k h, List.append_assoc, show 8 - (k + 1) = m by omega]
  rfl

set_option maxHeartbeats 1000000 in
set_option maxRecDepth 100000 in
theorem digits_any (b : UInt8) (w : World) :
    Calls Tryd.prog 126 #[.int .u64 (b.toNat : Int), .int .i64 8] w fun e w' => ∃ A', e = .returned (.slice A' 8 8) ∧ RowB w' w.heap.size A' 8 (bitsB b) ∧ Below w.heap.size w w' := by
  go_enter Tryd.func126, Tryd.ntmps126
  go_wp2_with (first
    | ((with_reducible refine at_dst 8 rfl ?_)
       refine make_bytes rfl (.tmp 7) (.tmp 7) rfl .i64 .i64 8 8 8 rfl rfl rfl rfl (by omega) ?_
       intro w2 hS hB2)
    | fail)
  have hS0 : RowB w2 w.heap.size (some ⟨w.heap.size, 0, none⟩) 8 (digL b 0) := by rw [digL_zero]; exact hS
  clear hS
  go_loopw [10] (fun i wr => ∃ k : Nat, k ≤ 8 ∧ i = .int .i64 k ∧ RowB wr w.heap.size (some ⟨w.heap.size, 0, none⟩) 8 (digL b k) ∧ Below w.heap.size w wr) (fun i _ => 8 - (intOf i).toNat)
  case atStart => exact ⟨0, by omega, rfl, hS0, hB2⟩
  case round =>
    clear hS0 hB2
    obtain ⟨k, hk, rfl, hR, hB⟩ := hrel
    by_cases hlt : k < 8
    · have hf := Row.free hR k
      have hv : ((b2u (b.toNat.testBit k)).toNat : Int) = (b.toNat : Int) / 2 ^ k % 2 := by rw [bit_val]; simp
      have hset := RowB.set hR k (b2u (b.toNat.testBit k))
      rw [digL_set b k hlt, hv] at hset
      have hcell := RowB.at_ hR (k := k) (by rw [digL_len b k hk]; omega)
      have hB3 := hB.setCell (p := ⟨w.heap.size, k, none⟩) (Nat.le_refl _) (.int .u8 ((b.toNat : Int) / 2 ^ k % 2))
      have hand : bits .and .u64 ((b.toNat : Int) / 2 ^ k) 1 = (b.toNat : Int) / 2 ^ k % 2 := by
        have e : (b.toNat : Int) / 2 ^ k = ((b.toNat / 2 ^ k : Nat) : Int) := by simp
        have hb := b.toNat_lt
        have hle : b.toNat / 2 ^ k ≤ b.toNat := Nat.div_le_self _ _
        rw [e, show (1 : Int) = ((1 : Nat) : Int) from rfl, (bits_nat .u64 64 (by decide) (fun n h0 h1 => by rw [wrap_u64]; omega) (b.toNat / 2 ^ k) 1 (by omega) (by omega)).1, Nat.and_one_is_mod]
        simp
      clear hv
      go_wp2
      go_roundw
      case rel => exact ⟨k + 1, by omega, by go_num, hset, hB3⟩
      case measure => simp [intOf]; omega
    · obtain rfl : k = 8 := by omega
      rw [digL_eight] at hR
      go_wp2
      go_ret
      exact ⟨_, rfl, hR, hB⟩

set_option maxHeartbeats 1000000 in
set_option maxRecDepth 100000 in
theorem bitsOf_any (A : Option Addr) (l : List UInt8) (c : Nat) (w : World) (hA : RdB w A l) (hl : l.length ≤ 1000000) :
    Calls Tryd.prog 80 #[.slice A l.length c] w fun e w' => ∃ A' c', e = .returned (.slice A' (bitsL l).length c') ∧ RowB w' w.heap.size A' c' (bitsL l) ∧ Below w.heap.size w w' := by
  obtain ⟨n, hn⟩ : ∃ n, n = 8 * l.length := ⟨_, rfl⟩
  have h8 : (8 : Int) * (l.length : Int) = (n : Int) := by omega
  have hn2 : n ≤ 8000000 := by omega
  have HN := Lib.hid hn
  clear hn
  go_enter Tryd.func80, Tryd.ntmps80
  go_wp2_with (first
    | ((with_reducible refine at_dst 9 rfl ?_)
       refine make_bytes0 rfl (.const (.int .i64 0)) (.tmp 8) rfl .i64 .i64 n n rfl rfl rfl (by omega) ?_
       intro w2 hS hB2)
    | fail)
  go_loopw [3, 5, 12] (fun v _ i wr => ∃ k : Nat, k ≤ l.length ∧ i = .int .i64 k ∧ (∃ A2 c2, v = .slice A2 (bitsL (l.take k)).length c2 ∧ RowB wr w.heap.size A2 c2 (bitsL (l.take k))) ∧ Below w.heap.size w wr) (fun _ _ i _ => l.length - (intOf i).toNat)
  case atStart => exact ⟨0, by omega, rfl, ⟨_, _, rfl, hS⟩, hB2⟩
  case round =>
    clear hS hB2
    obtain ⟨k, hk, rfl, ⟨A2, c2, rfl, hR⟩, hB⟩ := hrel
    have hlen := bitsL_len (l.take k)
    rw [List.length_take] at hlen
    by_cases hlt : k < l.length
    · have hsn := bitsL_snoc l k hlt
      obtain ⟨ad, e, hc⟩ := (hA.below hB).get hlt
      subst e
      have hdig := fun w' => digits_any l[k] w'
      have hl8 := bitsB_len l[k]
      have hbyte := l[k].toNat_lt
      generalize l[k] = b at *
      generalize bitsB b = d at *
      generalize bitsL (l.take k) = t at *
      have ht : t.length ≤ 8000000 := by omega
      have HS := Lib.hid hsn
      have HD := Lib.hid hdig
      have HL := Lib.hid hlen
      clear hsn hdig hlen
      go_wp2_with (first
        | (go_at_call 126; (with_reducible refine (HD.out _).mono ?_); rintro e w3 ⟨A3, rfl, hR3, hB3⟩; have hRl := RowB.below hR hB3; have hBl := hB.trans (hB3.mono hB.size))
        | ((with_reducible refine at_dst 20 rfl ?_)
           refine append_bytes rfl (.tmp 16) (.tmp 19) rfl w.heap.size A2 t.length c2 t rfl rfl hRl A3 8 8 d rfl hl8.symm hR3.rd (t ++ d) rfl (by rw [List.length_append]; omega) w hBl (by have := hBl.size; omega) ?_
           intro A4 c4 w4 h4 hg4 hB4 hsz4)
        | fail)
      go_roundw
      case rel => exact ⟨k + 1, by omega, by go_num, ⟨A4, c4, by rw [HS.out, List.length_append, hl8], by rw [HS.out]; exact h4⟩, hB4⟩
      case measure => simp [intOf]; omega
    · obtain rfl : k = l.length := by omega
      rw [List.take_length] at hR
      rw [List.take_length]
      go_wp2
      go_ret
      exact ⟨A2, c2, rfl, hR, hB⟩

/-- the bits are 0 and 1 -/
theorem bitsL_le (l : List UInt8) : ∀ b ∈ bitsL l, b.toNat ≤ 1 := by
  intro b hb
  unfold bitsL at hb
  obtain ⟨x, _, rfl⟩ := List.mem_map.1 hb
  cases x <;> decide

set_option maxHeartbeats 1000000 in
set_option maxRecDepth 100000 in
theorem bitsCheck1_any (b : UInt8) (w : World) (h : b.toNat ≤ 1) :
    Calls Tryd.prog 150 #[.int .u8 (b.toNat : Int)] w fun e w' => e = .returned (.bool false) ∧ w = w' := by
  go_enter Tryd.func150, Tryd.ntmps150
  go_wp2
  go_ret
  refine ⟨?_, rfl⟩
  show Ending.returned (.bool (decide (1 < (b.toNat : Int)))) = _
  rw [decide_eq_false (by omega)]

set_option maxHeartbeats 1000000 in
set_option maxRecDepth 100000 in
theorem indexBits_any (A : Option Addr) (l : List UInt8) (c : Nat) (w : World) (hA : RdB w A l) (hl : l.length ≤ 1048576) (hb : ∀ b ∈ l, b.toNat ≤ 1) :
    Calls Tryd.prog 173 #[.slice A l.length c, .func (.func 150) #[] #[]] w fun e w' => e = .returned (.int .i64 (-1)) ∧ w = w' := by
  have HB := Lib.hid hb
  clear hb
  go_enter Tryd.func173, Tryd.ntmps173
  go_wp2
  go_loop [5, 8] (fun _ i => ∃ k : Nat, k ≤ l.length ∧ i = .int .i64 k) (fun _ i => l.length - (intOf i).toNat)
  case atStart => exact ⟨0, by omega, rfl⟩
  case round =>
    obtain ⟨k, hk, rfl⟩ := hrel
    by_cases hlt : k < l.length
    · obtain ⟨ad, e, hc⟩ := hA.get hlt
      subst e
      have hx := HB.out _ (List.getElem_mem hlt)
      generalize l[k] = x at *
      have HX := Lib.hid hx
      clear hx
      go_wp2_with (first
        | (go_at_call 150; (with_reducible refine (bitsCheck1_any x _ HX.out).mono ?_); rintro e w3 ⟨rfl, rfl⟩)
        | fail)
      go_round
      case rel => exact ⟨k + 1, by omega, by go_num⟩
      case measure => simp [intOf]; omega
    · go_wp2
      go_ret
      exact ⟨rfl, rfl⟩

set_option maxHeartbeats 1000000 in
set_option maxRecDepth 100000 in
theorem containsBits_any (A : Option Addr) (l : List UInt8) (c : Nat) (w : World) (hA : RdB w A l) (hl : l.length ≤ 1048576) (hb : ∀ b ∈ l, b.toNat ≤ 1) :
    Calls Tryd.prog 149 #[.slice A l.length c, .func (.func 150) #[] #[]] w fun e w' => e = .returned (.bool false) ∧ w = w' := by
  have H := Lib.hid (indexBits_any A l c w hA hl hb)
  go_enter Tryd.func149, Tryd.ntmps149
  go_wp2_with (first
        | (go_at_call 173; (with_reducible refine H.out.mono ?_); rintro e w3 ⟨rfl, rfl⟩)
        | fail)
  go_ret
  exact ⟨rfl, rfl⟩

set_option maxHeartbeats 1000000 in
set_option maxRecDepth 100000 in
theorem bitsCheck_any (A : Option Addr) (l : List UInt8) (c : Nat) (w : World) (hA : RdB w A l) (hl : l.length ≤ 1048576) (hb : ∀ b ∈ l, b.toNat ≤ 1) :
    Calls Tryd.prog 103 #[.slice A l.length c] w fun e w' => e = .returned (.int .i64 0) ∧ w = w' := by
  have H := Lib.hid (containsBits_any A l c w hA hl hb)
  go_enter Tryd.func103, Tryd.ntmps103
  go_wp2_with (first
        | (go_at_call 149; (with_reducible refine H.out.mono ?_); rintro e w3 ⟨rfl, rfl⟩)
        | fail)
  go_ret
  exact ⟨rfl, rfl⟩

theorem bitsB_get (b : UInt8) (k : Nat) (h : k < 8) : (bitsB b)[k]? = some (b2u (b.toNat.testBit k)) := by
  simp [bitsB, sbB, h]
theorem val_step : ∀ b, b < 256 → ∀ k, k < 8 → b % 2 ^ k ||| (b / 2 ^ k % 2) * 2 ^ k = b % 2 ^ (k + 1) := by decide +kernel

set_option maxHeartbeats 1000000 in
set_option maxRecDepth 100000 in
theorem value_any (A : Option Addr) (b : UInt8) (c : Nat) (w : World) (hA : RdB w A (bitsB b)) :
    Calls Tryd.prog 209 #[.slice A 8 c] w fun e w' => e = .returned (.int .u64 (b.toNat : Int)) ∧ w = w' := by
  go_enter Tryd.func209, Tryd.ntmps209
  go_wp2
  go_loop [3, 4, 5, 8] (fun v _ _ i => ∃ k : Nat, k ≤ 8 ∧ i = .int .i64 k ∧ ∃ y : Nat, y = b.toNat % 2 ^ k ∧ v = .int .u64 y) (fun _ _ _ i => 8 - (intOf i).toNat)
  case atStart => exact ⟨0, by omega, rfl, 0, by simp [Nat.mod_one], rfl⟩
  case round =>
    obtain ⟨k, hk, rfl, y, hy, rfl⟩ := hrel
    have hb := b.toNat_lt
    by_cases hlt : k < 8
    · obtain ⟨ad, e, hc⟩ := hA.get (k := k) (by rw [bitsB_len]; omega)
      subst e
      have hx : (bitsB b)[k]'(by rw [bitsB_len]; omega) = b2u (b.toNat.testBit k) := by
        have := bitsB_get b k hlt
        rw [List.getElem?_eq_getElem (by rw [bitsB_len]; omega)] at this
        simpa using this
      rw [hx, bit_val] at hc
      have hst := val_step b.toNat hb k hlt
      rw [← hy] at hst
      have hyb : y < 2 ^ 8 := by rw [hy]; exact Nat.lt_of_le_of_lt (Nat.mod_le _ _) hb
      generalize b.toNat / 2 ^ k % 2 = x at *
      have HY := Lib.hid hy
      have HS := Lib.hid hst
      clear hx hy hst
      have hx1 : x * 2 ^ k < 2 ^ 64 := by
        have := HS.out
        have h1 : x * 2 ^ k ≤ y ||| x * 2 ^ k := Nat.right_le_or
        have h2 : b.toNat % 2 ^ (k + 1) ≤ b.toNat := Nat.mod_le _ _
        omega
      have hx2 : x < 2 ^ 64 := Nat.lt_of_le_of_lt (Nat.le_mul_of_pos_right _ (Nat.two_pow_pos k)) hx1
      have e1 : IntKind.u64.wrap (x : Int) = (x : Int) := by rw [wrap_u64]; omega
      have e2 : IntKind.u64.wrap ((x : Int) * 2 ^ k) = ((x * 2 ^ k : Nat) : Int) := by
        rw [show (x : Int) * 2 ^ k = ((x * 2 ^ k : Nat) : Int) by simp, wrap_u64]; omega
      have e3 : bits .or .u64 (y : Int) ((x * 2 ^ k : Nat) : Int) = ((y ||| x * 2 ^ k : Nat) : Int) :=
        (bits_nat .u64 64 (by decide) (fun n h0 h1 => by rw [wrap_u64]; omega) y (x * 2 ^ k) (by omega) hx1).2
      have E2 := Lib.hid e2
      have E3 := Lib.hid e3
      clear e1 e2 e3
      go_wp2
      go_round
      case rel => exact ⟨k + 1, by omega, by go_num, _, rfl, by rw [E2.out, E3.out, HS.out]⟩
      case measure => simp [intOf]; omega
    · obtain rfl : k = 8 := by omega
      rw [Nat.mod_eq_of_lt (by omega)] at hy
      subst hy
      go_wp2
      go_ret
      exact ⟨rfl, rfl⟩
theorem bitsL_drop (l : List UInt8) (k : Nat) (h : k < l.length) : ((bitsL l).drop (8 * k)).take 8 = bitsB l[k] := by
  have h1 : l = l.take k ++ l[k] :: l.drop (k + 1) := by simp
  have h2 : bitsL l = bitsL (l.take k) ++ (bitsB l[k] ++ bitsL (l.drop (k + 1))) := by
    unfold bitsL sb bitsB
    conv => lhs; rw [h1]
    rw [List.flatMap_append, List.flatMap_cons, List.map_append, List.map_append]
  have h3 : (bitsL (l.take k)).length = 8 * k := by rw [bitsL_len, List.length_take]; omega
  rw [h2, List.drop_append_of_le_length (by omega), List.drop_of_length_le (by omega), List.nil_append, List.take_append_of_le_length (by rw [bitsB_len]; omega), List.take_of_length_le (by rw [bitsB_len]; omega)]

set_option maxHeartbeats 1000000 in
set_option maxRecDepth 100000 in
theorem octets_any (A : Option Addr) (l : List UInt8) (n c : Nat) (w : World) (hA : RdB w A (bitsL l)) (hl : l.length ≤ 100000) (h0 : 0 < l.length) (hn : n = 8 * l.length) (hc : n ≤ c) :
    Calls Tryd.prog 197 #[.slice A n c] w fun e w' => ∃ A', e = .returned (.tuple #[.slice A' l.length l.length, .int .i64 0]) ∧ RowB w' w.heap.size A' l.length l ∧ Below w.heap.size w w' := by
  have hlen := bitsL_len l
  have H := bitsCheck_any A (bitsL l) c w hA (by omega) (bitsL_le l)
  rw [hlen, ← hn] at H
  replace H := Lib.hid H
  have hm : (n : Int) % 8 = 0 := by omega
  have hd : (n : Int) / 8 = (l.length : Int) := by omega
  have hm2 : Int.tmod (n : Int) 8 = 0 := by rw [Int.tmod_eq_emod_of_nonneg (by omega)]; exact hm
  have hd2 : Int.tdiv (n : Int) 8 = (l.length : Int) := by rw [Int.tdiv_eq_ediv_of_nonneg (by omega)]; exact hd
  have HN := Lib.hid hn
  have HLEN := Lib.hid hlen
  have hn2 : n ≤ 800000 := by omega
  clear hn hlen
  go_enter Tryd.func197, Tryd.ntmps197
  go_wp2_with (first
    | (go_at_call 103; (with_reducible refine H.out.mono ?_); rintro e w3 ⟨rfl, rfl⟩)
    | ((with_reducible refine at_dst 19 rfl ?_)
       refine make_bytes rfl (.tmp 18) (.tmp 18) rfl .i64 .i64 l.length l.length l.length rfl rfl rfl rfl (by omega) ?_
       intro w2 hS hB2)
    | fail)
  go_loopw [6, 22] (fun _ i wr => ∃ k : Nat, k ≤ l.length ∧ i = .int .i64 k ∧ (∃ t, t = l.take k ++ List.replicate (l.length - k) 0 ∧ RowB wr w.heap.size (some ⟨w.heap.size, 0, none⟩) l.length t) ∧ Below w.heap.size w wr) (fun _ i _ => l.length - (intOf i).toNat)
  case atStart => exact ⟨0, by omega, rfl, ⟨_, by simp, hS⟩, hB2⟩
  case round =>
    clear hS hB2
    obtain ⟨k, hk, rfl, ⟨t, ht, hR⟩, hB⟩ := hrel
    by_cases hlt : k < l.length
    · have hf := Row.free hR k
      have htl : t.length = l.length := by rw [ht]; simp; omega
      have hset := RowB.set hR k l[k]
      have hts : t.set k l[k] = l.take (k + 1) ++ List.replicate (l.length - (k + 1)) 0 := by
        have hl2 : (l.take k).length = k := by rw [List.length_take]; omega
        obtain ⟨m, hm⟩ : ∃ m, l.length - k = m + 1 := ⟨l.length - k - 1, by omega⟩
        rw [ht, List.set_append_right _ _ (by omega), hl2, hm, List.replicate_succ, Nat.sub_self, List.set_cons_zero, List.take_succ_eq_append_getElem hlt, List.append_assoc, show l.length - (k + 1) = m by omega]
        rfl
      have hcell := RowB.at_ hR (k := k) (by omega)
      have hB3 := hB.setCell (p := ⟨w.heap.size, k, none⟩) (Nat.le_refl _) (.int .u8 (l[k].toNat : Int))
      have hdr : ∃ ad, A = some ad := by
        obtain ⟨ad, e, _⟩ := hA.get (k := 0) (by have := HLEN.out; omega)
        exact ⟨ad, e⟩
      obtain ⟨ad, rfl⟩ := hdr
      have hsub : RdB wr (some (ad.add (8 * k))) (bitsB l[k]) := by
        rw [← bitsL_drop l k hlt]
        exact ((hA.below hB).drop (8 * k)).take 8
      have hval := fun c => value_any (some (ad.add (8 * k))) l[k] c wr hsub
      have hby := l[k].toNat_lt
      generalize l[k] = b at *
      generalize t.set k b = t2 at *
      have HV := Lib.hid hval
      have HT := Lib.hid hts
      have HT0 := Lib.hid ht
      clear hval hts ht hsub
      have q1 : (8 : Int) * (k : Int) ≤ 8 * ((k : Int) + 1) := by omega
      have q2 : (8 : Int) * ((k : Int) + 1) ≤ (n : Int) := by omega
      have e8 : 8 * (k + 1) - 8 * k = 8 := by omega
      have e9 : (b.toNat : Int) % 256 = (b.toNat : Int) := by omega
      go_wp2_with (first
        | (go_at_call 209; rw [e8]; (with_reducible refine (HV.out _).mono ?_); rintro e w3 ⟨rfl, rfl⟩)
        | fail)
      go_roundw
      case rel => exact ⟨k + 1, by omega, by go_num, ⟨t2, HT.out, hset⟩, hB3⟩
      case measure => simp [intOf]; omega
    · obtain rfl : k = l.length := by omega
      have ht2 : t = l := by rw [ht]; simp
      clear ht
      rw [ht2] at hR
      clear ht2 hm hd hm2 hd2
      go_wp2
      go_ret2
      exact ⟨_, rfl, hR, hB⟩
end Go.Proofs.YthbbmpelldglmaaDoor
