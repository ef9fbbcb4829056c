/- Package subscribers: the fields of a record. -/
import Derived.Test.YthbbmpelldglmaaGreatDoorSubscribersPlayM1
import Derived.Deep.RegionHeld3
import Derived.Lib.SmallJoins
import Derived.Deep.RegionLaw
import Derived.Test.YthbbmpelldglmaaGreatDoorProg
import Derived.Shelf.Strings.SlTrimAscii
import Derived.StillTailTactics
import Derived.Deep.QuietTactic
import Derived.BigQuiet
import Derived.Shelf.Small.Strs
import Derived.Shelf.SlSortCmp.NoneTotal
import Derived.Sort.OwnSorted
namespace Go.Proofs.YthbbmpelldglmaaGreatDoor
set_option linter.unusedVariables false
set_option linter.unusedSimpArgs false
open Go.RowKit

set_option maxHeartbeats 4000000 in
set_option maxRecDepth 100000 in
theorem homeFields_any (h : HomeR) (w : World) (hok : h.ok = true) (hg : h.Go) :
    Calls Tryz.prog 47 #[h.val] w fun e w' => ∃ A' c', e = .returned (.slice A' h.fields.length c') ∧ RowB w' w.heap.size A' c' h.fields ∧ Below w.heap.size w w' := by
  have hlen := HomeR.ok_len hok
  obtain ⟨id, number, at_, move, barred, waiting⟩ := h
  obtain ⟨hat, hmv⟩ := hg
  simp only at hlen hat hmv
  unfold HomeR.val HomeR.cells HomeR.fields
  simp only
  obtain ⟨L1, hL1⟩ : ∃ L, L = textB id := ⟨_, rfl⟩
  obtain ⟨L2, hL2⟩ : ∃ L, L = L1 ++ textB number := ⟨_, rfl⟩
  obtain ⟨L3, hL3⟩ : ∃ L, L = L2 ++ pairB at_ := ⟨_, rfl⟩
  obtain ⟨L4, hL4⟩ : ∃ L, L = L3 ++ longB move := ⟨_, rfl⟩
  obtain ⟨L5, hL5⟩ : ∃ L, L = L4 ++ [flagsB barred waiting] := ⟨_, rfl⟩
  have e5 : textB id ++ textB number ++ pairB at_ ++ longB move ++ [flagsB barred waiting] = L5 := by rw [hL5, hL4, hL3, hL2, hL1]
  have n1 : L1.length ≤ 16 := by rw [hL1, textB_len]; omega
  have n2 : L2.length ≤ 32 := by rw [hL2, List.length_append, textB_len]; omega
  have n3 : L3.length ≤ 34 := by rw [hL3, List.length_append, pairB_len]; omega
  have n4 : L4.length ≤ 38 := by rw [hL4, List.length_append, longB_len]; omega
  have n5 : L5.length ≤ 39 := by rw [hL5, List.length_append]; simp; omega
  rw [e5]
  have h1 : ∀ w', (Below w.heap.size w w' ∧ w'.heap[w.heap.size]? = some (.cells #[encStr id, encStr number, .int .u16 (at_ : Int), .int .u32 (move : Int), .bool barred, .bool waiting] 52)) → Calls Tryz.prog 61 #[.slice none 0 0, encStr id] w' fun e w2 => ∃ A' c', e = .returned (.slice A' L1.length c') ∧ RowB w2 (w.heap.size + 1) A' c' L1 ∧ Chg (blk none) w' w2 ∧ NewIn w' (blk none) (blk A') := fun w' hs => by
    have := text_any (w.heap.size + 1) none [] 0 id w' (RowB.nil _ _) (lt_of_held hs) (by simp) (by omega)
    rw [List.nil_append, ← hL1] at this; exact this
  have h2 : ∀ A c w', (Below w.heap.size w w' ∧ w'.heap[w.heap.size]? = some (.cells #[encStr id, encStr number, .int .u16 (at_ : Int), .int .u32 (move : Int), .bool barred, .bool waiting] 52)) → RowB w' (w.heap.size + 1) A c L1 → Calls Tryz.prog 61 #[.slice A L1.length c, encStr number] w' fun e w2 => ∃ A' c', e = .returned (.slice A' L2.length c') ∧ RowB w2 (w.heap.size + 1) A' c' L2 ∧ Chg (blk A) w' w2 ∧ NewIn w' (blk A) (blk A') := fun A c w' hs hr => by
    have := text_any (w.heap.size + 1) A L1 c number w' hr (lt_of_held hs) (by omega) (by omega)
    rw [← hL2] at this; exact this
  have h3 : ∀ A c w', (Below w.heap.size w w' ∧ w'.heap[w.heap.size]? = some (.cells #[encStr id, encStr number, .int .u16 (at_ : Int), .int .u32 (move : Int), .bool barred, .bool waiting] 52)) → RowB w' (w.heap.size + 1) A c L2 → Calls Tryz.prog 64 #[.slice A L2.length c, .int .u16 at_] w' fun e w2 => ∃ A' c', e = .returned (.slice A' L3.length c') ∧ RowB w2 (w.heap.size + 1) A' c' L3 ∧ Chg (blk A) w' w2 ∧ NewIn w' (blk A) (blk A') := fun A c w' hs hr => by
    have := pair_any (w.heap.size + 1) A L2 c at_ w' hr (lt_of_held hs) (by omega) (by omega)
    rw [← hL3] at this; exact this
  have h4 : ∀ A c w', (Below w.heap.size w w' ∧ w'.heap[w.heap.size]? = some (.cells #[encStr id, encStr number, .int .u16 (at_ : Int), .int .u32 (move : Int), .bool barred, .bool waiting] 52)) → RowB w' (w.heap.size + 1) A c L3 → Calls Tryz.prog 66 #[.slice A L3.length c, .int .u32 move] w' fun e w2 => ∃ A' c', e = .returned (.slice A' L4.length c') ∧ RowB w2 (w.heap.size + 1) A' c' L4 ∧ Chg (blk A) w' w2 ∧ NewIn w' (blk A) (blk A') := fun A c w' hs hr => by
    have := long_any (w.heap.size + 1) A L3 c move w' hr (lt_of_held hs) (by omega) (by omega)
    rw [← hL4] at this; exact this
  have H1 := Lib.hid h1
  have H2 := Lib.hid h2
  have H3 := Lib.hid h3
  have H4 := Lib.hid h4
  have HL5 := Lib.hid hL5
  clear h1 h2 h3 h4 hL1 hL2 hL3 hL4 hL5 e5
  have ho := heap_alloc_new w (.cells #[encStr id, encStr number, .int .u16 (at_ : Int), .int .u32 (move : Int), .bool barred, .bool waiting] 52)
  have b0 := ((Below.refl w.heap.size w).alloc (Nat.le_refl _) (.cells #[encStr id, encStr number, .int .u16 (at_ : Int), .int .u32 (move : Int), .bool barred, .bool waiting] 52)).drew
  have h0 := fun w' : World => RowB.nil w' (w.heap.size + 1)
  have y0 : ∀ w' : World, w'.heap[w.heap.size]? = some (.cells #[encStr id, encStr number, .int .u16 (at_ : Int), .int .u32 (move : Int), .bool barred, .bool waiting] 52) → w'.cell? ⟨w.heap.size, 0, none⟩ = some (encStr id) := fun w' e => cell_of_row _ _ 0 _ _ _ e
  have y1 : ∀ w' : World, w'.heap[w.heap.size]? = some (.cells #[encStr id, encStr number, .int .u16 (at_ : Int), .int .u32 (move : Int), .bool barred, .bool waiting] 52) → w'.cell? ⟨w.heap.size, 1, none⟩ = some (encStr number) := fun w' e => cell_of_row _ _ 1 _ _ _ e
  have y2 : ∀ w' : World, w'.heap[w.heap.size]? = some (.cells #[encStr id, encStr number, .int .u16 (at_ : Int), .int .u32 (move : Int), .bool barred, .bool waiting] 52) → w'.cell? ⟨w.heap.size, 2, none⟩ = some (.int .u16 (at_ : Int)) := fun w' e => cell_of_row _ _ 2 _ _ _ e
  have y3 : ∀ w' : World, w'.heap[w.heap.size]? = some (.cells #[encStr id, encStr number, .int .u16 (at_ : Int), .int .u32 (move : Int), .bool barred, .bool waiting] 52) → w'.cell? ⟨w.heap.size, 3, none⟩ = some (.int .u32 (move : Int)) := fun w' e => cell_of_row _ _ 3 _ _ _ e
  have y4 : ∀ w' : World, w'.heap[w.heap.size]? = some (.cells #[encStr id, encStr number, .int .u16 (at_ : Int), .int .u32 (move : Int), .bool barred, .bool waiting] 52) → w'.cell? ⟨w.heap.size, 4, none⟩ = some (.bool barred) := fun w' e => cell_of_row _ _ 4 _ _ _ e
  have y5 : ∀ w' : World, w'.heap[w.heap.size]? = some (.cells #[encStr id, encStr number, .int .u16 (at_ : Int), .int .u32 (move : Int), .bool barred, .bool waiting] 52) → w'.cell? ⟨w.heap.size, 5, none⟩ = some (.bool waiting) := fun w' e => cell_of_row _ _ 5 _ _ _ e
  cases barred <;> cases waiting
  · go_enter Tryz.func47, Tryz.ntmps47
    go_wp2
    go_region_held3 (fun w' => Below w.heap.size w w' ∧ w'.heap[w.heap.size]? = some (.cells #[encStr id, encStr number, .int .u16 (at_ : Int), .int .u32 (move : Int), .bool false, .bool false] 52))
      (first | exact ⟨b0, ho⟩ | exact keepS hS1 (by assumption) (by simp [blk]) | exact keepS hS2 (by assumption) (fun i hi => (Row.blk_lt h1 i hi).1) | exact keepS hS3 (by assumption) (fun i hi => (Row.blk_lt h2 i hi).1) | exact keepS hS4 (by assumption) (fun i hi => (Row.blk_lt h3 i hi).1) | exact keepS (Chg.of_row hg5) (by assumption) (fun i hi => (Row.blk_lt h4 i hi).1) | exact keepA (by assumption) | fail)
      (first
        | (go_at_call 61; (with_reducible refine (H1.out _ (by assumption)).mono ?_); rintro e w1 ⟨A1, c1, rfl, h1, hS1, hN1⟩; (first | (have hlit := (Lit1.newD (w.alloc _) (w.heap.size + 1) (by simp) (flagsB false false)).step hS1 hN1) | (have hlit := hlit.step hS1 hN1) | skip))
        | (go_at_call 61; (with_reducible refine (H2.out A1 c1 _ (by assumption) (by first | exact h1 | exact RowB.alloc h1 _)).mono ?_); rintro e w2 ⟨A2, c2, rfl, h2, hS2, hN2⟩; (first | (have hlit := (Lit1.new h1 (flagsB false false)).step hS2 hN2) | (have hlit := hlit.step hS2 hN2) | skip))
        | (go_at_call 64; (with_reducible refine (H3.out A2 c2 _ (by assumption) (by first | exact h2 | exact RowB.alloc h2 _)).mono ?_); rintro e w3 ⟨A3, c3, rfl, h3, hS3, hN3⟩; (first | (have hlit := (Lit1.new h2 (flagsB false false)).step hS3 hN3) | (have hlit := hlit.step hS3 hN3) | skip))
        | (go_at_call 66; (with_reducible refine (H4.out A3 c3 _ (by assumption) (by first | exact h3 | exact RowB.alloc h3 _)).mono ?_); rintro e w4 ⟨A4, c4, rfl, h4, hS4, hN4⟩; (first | (have hlit := (Lit1.new h3 (flagsB false false)).step hS4 hN4) | (have hlit := hlit.step hS4 hN4) | skip))
        | (refine step_bytes (by rfl) (.tmp 23) (.tmp 25) (by rfl) (w.heap.size + 1) A4 L4.length c4 L4 (by rfl) rfl (by first | exact h4 | exact RowB.alloc h4 _) _ _ _ [flagsB false false] rfl rfl (by first | exact hlit.rd | exact rd_lit _ _) L5 HL5.out (by omega) _ (Below.refl _ _) (lt_of_held (by assumption)) ?_
           intro A5 c5 w5 h5 hg5 hS5 hsz5 hA5)
        | fail)
    all_goals go_wp2
    all_goals go_ret
    all_goals exact ⟨A5, c5, rfl, Row.mono h5 (by omega), (‹Below w.heap.size w w5 ∧ w5.heap[w.heap.size]? = some (.cells #[encStr id, encStr number, .int .u16 (at_ : Int), .int .u32 (move : Int), .bool false, .bool false] 52)›).1⟩
  · go_enter Tryz.func47, Tryz.ntmps47
    go_wp2
    go_region_held3 (fun w' => Below w.heap.size w w' ∧ w'.heap[w.heap.size]? = some (.cells #[encStr id, encStr number, .int .u16 (at_ : Int), .int .u32 (move : Int), .bool false, .bool true] 52))
      (first | exact ⟨b0, ho⟩ | exact keepS hS1 (by assumption) (by simp [blk]) | exact keepS hS2 (by assumption) (fun i hi => (Row.blk_lt h1 i hi).1) | exact keepS hS3 (by assumption) (fun i hi => (Row.blk_lt h2 i hi).1) | exact keepS hS4 (by assumption) (fun i hi => (Row.blk_lt h3 i hi).1) | exact keepS (Chg.of_row hg5) (by assumption) (fun i hi => (Row.blk_lt h4 i hi).1) | exact keepA (by assumption) | fail)
      (first
        | (go_at_call 61; (with_reducible refine (H1.out _ (by assumption)).mono ?_); rintro e w1 ⟨A1, c1, rfl, h1, hS1, hN1⟩; (first | (have hlit := (Lit1.newD (w.alloc _) (w.heap.size + 1) (by simp) (flagsB false true)).step hS1 hN1) | (have hlit := hlit.step hS1 hN1) | skip))
        | (go_at_call 61; (with_reducible refine (H2.out A1 c1 _ (by assumption) (by first | exact h1 | exact RowB.alloc h1 _)).mono ?_); rintro e w2 ⟨A2, c2, rfl, h2, hS2, hN2⟩; (first | (have hlit := (Lit1.new h1 (flagsB false true)).step hS2 hN2) | (have hlit := hlit.step hS2 hN2) | skip))
        | (go_at_call 64; (with_reducible refine (H3.out A2 c2 _ (by assumption) (by first | exact h2 | exact RowB.alloc h2 _)).mono ?_); rintro e w3 ⟨A3, c3, rfl, h3, hS3, hN3⟩; (first | (have hlit := (Lit1.new h2 (flagsB false true)).step hS3 hN3) | (have hlit := hlit.step hS3 hN3) | skip))
        | (go_at_call 66; (with_reducible refine (H4.out A3 c3 _ (by assumption) (by first | exact h3 | exact RowB.alloc h3 _)).mono ?_); rintro e w4 ⟨A4, c4, rfl, h4, hS4, hN4⟩; (first | (have hlit := (Lit1.new h3 (flagsB false true)).step hS4 hN4) | (have hlit := hlit.step hS4 hN4) | skip))
        | (refine step_bytes (by rfl) (.tmp 23) (.tmp 25) (by rfl) (w.heap.size + 1) A4 L4.length c4 L4 (by rfl) rfl (by first | exact h4 | exact RowB.alloc h4 _) _ _ _ [flagsB false true] rfl rfl (by first | exact hlit.rd | exact rd_lit _ _) L5 HL5.out (by omega) _ (Below.refl _ _) (lt_of_held (by assumption)) ?_
           intro A5 c5 w5 h5 hg5 hS5 hsz5 hA5)
        | fail)
    all_goals go_wp2
    all_goals go_ret
    all_goals exact ⟨A5, c5, rfl, Row.mono h5 (by omega), (‹Below w.heap.size w w5 ∧ w5.heap[w.heap.size]? = some (.cells #[encStr id, encStr number, .int .u16 (at_ : Int), .int .u32 (move : Int), .bool false, .bool true] 52)›).1⟩
  · go_enter Tryz.func47, Tryz.ntmps47
    go_wp2
    go_region_held3 (fun w' => Below w.heap.size w w' ∧ w'.heap[w.heap.size]? = some (.cells #[encStr id, encStr number, .int .u16 (at_ : Int), .int .u32 (move : Int), .bool true, .bool false] 52))
      (first | exact ⟨b0, ho⟩ | exact keepS hS1 (by assumption) (by simp [blk]) | exact keepS hS2 (by assumption) (fun i hi => (Row.blk_lt h1 i hi).1) | exact keepS hS3 (by assumption) (fun i hi => (Row.blk_lt h2 i hi).1) | exact keepS hS4 (by assumption) (fun i hi => (Row.blk_lt h3 i hi).1) | exact keepS (Chg.of_row hg5) (by assumption) (fun i hi => (Row.blk_lt h4 i hi).1) | exact keepA (by assumption) | fail)
      (first
        | (go_at_call 61; (with_reducible refine (H1.out _ (by assumption)).mono ?_); rintro e w1 ⟨A1, c1, rfl, h1, hS1, hN1⟩; (first | (have hlit := (Lit1.newD (w.alloc _) (w.heap.size + 1) (by simp) (flagsB true false)).step hS1 hN1) | (have hlit := hlit.step hS1 hN1) | skip))
        | (go_at_call 61; (with_reducible refine (H2.out A1 c1 _ (by assumption) (by first | exact h1 | exact RowB.alloc h1 _)).mono ?_); rintro e w2 ⟨A2, c2, rfl, h2, hS2, hN2⟩; (first | (have hlit := (Lit1.new h1 (flagsB true false)).step hS2 hN2) | (have hlit := hlit.step hS2 hN2) | skip))
        | (go_at_call 64; (with_reducible refine (H3.out A2 c2 _ (by assumption) (by first | exact h2 | exact RowB.alloc h2 _)).mono ?_); rintro e w3 ⟨A3, c3, rfl, h3, hS3, hN3⟩; (first | (have hlit := (Lit1.new h2 (flagsB true false)).step hS3 hN3) | (have hlit := hlit.step hS3 hN3) | skip))
        | (go_at_call 66; (with_reducible refine (H4.out A3 c3 _ (by assumption) (by first | exact h3 | exact RowB.alloc h3 _)).mono ?_); rintro e w4 ⟨A4, c4, rfl, h4, hS4, hN4⟩; (first | (have hlit := (Lit1.new h3 (flagsB true false)).step hS4 hN4) | (have hlit := hlit.step hS4 hN4) | skip))
        | (refine step_bytes (by rfl) (.tmp 23) (.tmp 25) (by rfl) (w.heap.size + 1) A4 L4.length c4 L4 (by rfl) rfl (by first | exact h4 | exact RowB.alloc h4 _) _ _ _ [flagsB true false] rfl rfl (by first | exact hlit.rd | exact rd_lit _ _) L5 HL5.out (by omega) _ (Below.refl _ _) (lt_of_held (by assumption)) ?_
           intro A5 c5 w5 h5 hg5 hS5 hsz5 hA5)
        | fail)
    all_goals go_wp2
    all_goals go_ret
    all_goals exact ⟨A5, c5, rfl, Row.mono h5 (by omega), (‹Below w.heap.size w w5 ∧ w5.heap[w.heap.size]? = some (.cells #[encStr id, encStr number, .int .u16 (at_ : Int), .int .u32 (move : Int), .bool true, .bool false] 52)›).1⟩
  · go_enter Tryz.func47, Tryz.ntmps47
    go_wp2
    go_region_held3 (fun w' => Below w.heap.size w w' ∧ w'.heap[w.heap.size]? = some (.cells #[encStr id, encStr number, .int .u16 (at_ : Int), .int .u32 (move : Int), .bool true, .bool true] 52))
      (first | exact ⟨b0, ho⟩ | exact keepS hS1 (by assumption) (by simp [blk]) | exact keepS hS2 (by assumption) (fun i hi => (Row.blk_lt h1 i hi).1) | exact keepS hS3 (by assumption) (fun i hi => (Row.blk_lt h2 i hi).1) | exact keepS hS4 (by assumption) (fun i hi => (Row.blk_lt h3 i hi).1) | exact keepS (Chg.of_row hg5) (by assumption) (fun i hi => (Row.blk_lt h4 i hi).1) | exact keepA (by assumption) | fail)
      (first
        | (go_at_call 61; (with_reducible refine (H1.out _ (by assumption)).mono ?_); rintro e w1 ⟨A1, c1, rfl, h1, hS1, hN1⟩; (first | (have hlit := (Lit1.newD (w.alloc _) (w.heap.size + 1) (by simp) (flagsB true true)).step hS1 hN1) | (have hlit := hlit.step hS1 hN1) | skip))
        | (go_at_call 61; (with_reducible refine (H2.out A1 c1 _ (by assumption) (by first | exact h1 | exact RowB.alloc h1 _)).mono ?_); rintro e w2 ⟨A2, c2, rfl, h2, hS2, hN2⟩; (first | (have hlit := (Lit1.new h1 (flagsB true true)).step hS2 hN2) | (have hlit := hlit.step hS2 hN2) | skip))
        | (go_at_call 64; (with_reducible refine (H3.out A2 c2 _ (by assumption) (by first | exact h2 | exact RowB.alloc h2 _)).mono ?_); rintro e w3 ⟨A3, c3, rfl, h3, hS3, hN3⟩; (first | (have hlit := (Lit1.new h2 (flagsB true true)).step hS3 hN3) | (have hlit := hlit.step hS3 hN3) | skip))
        | (go_at_call 66; (with_reducible refine (H4.out A3 c3 _ (by assumption) (by first | exact h3 | exact RowB.alloc h3 _)).mono ?_); rintro e w4 ⟨A4, c4, rfl, h4, hS4, hN4⟩; (first | (have hlit := (Lit1.new h3 (flagsB true true)).step hS4 hN4) | (have hlit := hlit.step hS4 hN4) | skip))
        | (refine step_bytes (by rfl) (.tmp 23) (.tmp 25) (by rfl) (w.heap.size + 1) A4 L4.length c4 L4 (by rfl) rfl (by first | exact h4 | exact RowB.alloc h4 _) _ _ _ [flagsB true true] rfl rfl (by first | exact hlit.rd | exact rd_lit _ _) L5 HL5.out (by omega) _ (Below.refl _ _) (lt_of_held (by assumption)) ?_
           intro A5 c5 w5 h5 hg5 hS5 hsz5 hA5)
        | fail)
    all_goals go_wp2
    all_goals go_ret
    all_goals exact ⟨A5, c5, rfl, Row.mono h5 (by omega), (‹Below w.heap.size w w5 ∧ w5.heap[w.heap.size]? = some (.cells #[encStr id, encStr number, .int .u16 (at_ : Int), .int .u32 (move : Int), .bool true, .bool true] 52)›).1⟩
end Go.Proofs.YthbbmpelldglmaaGreatDoor
/- Package subscribers: the fields of a Visit record. -/
namespace Go.Proofs.YthbbmpelldglmaaGreatDoor
set_option linter.unusedVariables false
set_option linter.unusedSimpArgs false
open Go.RowKit

theorem keepD {w W : World} {o : Obj} (h : Below w.heap.size w W ∧ W.heap[w.heap.size]? = some o) : Below w.heap.size w W.drew ∧ W.drew.heap[w.heap.size]? = some o := ⟨h.1.drew, h.2⟩

set_option maxHeartbeats 4000000 in
set_option maxRecDepth 100000 in
theorem visitFields_any (v : VisitR) (w : World) (hok : v.ok = true) (hg : v.Go) :
    Calls Tryz.prog 48 #[v.val] w fun e w' => ∃ A' c', e = .returned (.slice A' v.fields.length c') ∧ RowB w' w.heap.size A' c' v.fields ∧ Below w.heap.size w w' := by
  have hlen := VisitR.ok_len hok
  obtain ⟨id, number, home, move, area, roam⟩ := v
  obtain ⟨hat, hmv, har⟩ := hg
  simp only at hlen hat hmv har
  unfold VisitR.val VisitR.cells VisitR.fields
  simp only
  obtain ⟨L1, hL1⟩ : ∃ L, L = textB id := ⟨_, rfl⟩
  obtain ⟨L2, hL2⟩ : ∃ L, L = L1 ++ textB number := ⟨_, rfl⟩
  obtain ⟨L3, hL3⟩ : ∃ L, L = L2 ++ pairB home := ⟨_, rfl⟩
  obtain ⟨L4, hL4⟩ : ∃ L, L = L3 ++ longB move := ⟨_, rfl⟩
  obtain ⟨L5, hL5⟩ : ∃ L, L = L4 ++ pairB area := ⟨_, rfl⟩
  obtain ⟨L6, hL6⟩ : ∃ L, L = L5 ++ textB roam := ⟨_, rfl⟩
  have e6 : textB id ++ textB number ++ pairB home ++ longB move ++ pairB area ++ textB roam = L6 := by rw [hL6, hL5, hL4, hL3, hL2, hL1]
  have n1 : L1.length ≤ 16 := by rw [hL1, textB_len]; omega
  have n2 : L2.length ≤ 32 := by rw [hL2, List.length_append, textB_len]; omega
  have n3 : L3.length ≤ 34 := by rw [hL3, List.length_append, pairB_len]; omega
  have n4 : L4.length ≤ 38 := by rw [hL4, List.length_append, longB_len]; omega
  have n5 : L5.length ≤ 40 := by rw [hL5, List.length_append, pairB_len]; omega
  have n6 : L6.length ≤ 56 := by rw [hL6, List.length_append, textB_len]; omega
  rw [e6]
  have h1 : ∀ w', (Below w.heap.size w w' ∧ w'.heap[w.heap.size]? = some (.cells #[encStr id, encStr number, .int .u16 (home : Int), .int .u32 (move : Int), .int .u16 (area : Int), encStr roam] 54)) → Calls Tryz.prog 61 #[.slice none 0 0, encStr id] w' fun e w2 => ∃ A' c', e = .returned (.slice A' L1.length c') ∧ RowB w2 (w.heap.size + 1) A' c' L1 ∧ Chg (blk none) w' w2 ∧ NewIn w' (blk none) (blk A') := fun w' hs => by
    have := text_any (w.heap.size + 1) none [] 0 id w' (RowB.nil _ _) (lt_of_held hs) (by simp) (by omega)
    rw [List.nil_append, ← hL1] at this; exact this
  have h2 : ∀ A c w', (Below w.heap.size w w' ∧ w'.heap[w.heap.size]? = some (.cells #[encStr id, encStr number, .int .u16 (home : Int), .int .u32 (move : Int), .int .u16 (area : Int), encStr roam] 54)) → RowB w' (w.heap.size + 1) A c L1 → Calls Tryz.prog 61 #[.slice A L1.length c, encStr number] w' fun e w2 => ∃ A' c', e = .returned (.slice A' L2.length c') ∧ RowB w2 (w.heap.size + 1) A' c' L2 ∧ Chg (blk A) w' w2 ∧ NewIn w' (blk A) (blk A') := fun A c w' hs hr => by
    have := text_any (w.heap.size + 1) A L1 c number w' hr (lt_of_held hs) (by omega) (by omega)
    rw [← hL2] at this; exact this
  have h3 : ∀ A c w', (Below w.heap.size w w' ∧ w'.heap[w.heap.size]? = some (.cells #[encStr id, encStr number, .int .u16 (home : Int), .int .u32 (move : Int), .int .u16 (area : Int), encStr roam] 54)) → RowB w' (w.heap.size + 1) A c L2 → Calls Tryz.prog 64 #[.slice A L2.length c, .int .u16 home] w' fun e w2 => ∃ A' c', e = .returned (.slice A' L3.length c') ∧ RowB w2 (w.heap.size + 1) A' c' L3 ∧ Chg (blk A) w' w2 ∧ NewIn w' (blk A) (blk A') := fun A c w' hs hr => by
    have := pair_any (w.heap.size + 1) A L2 c home w' hr (lt_of_held hs) (by omega) (by omega)
    rw [← hL3] at this; exact this
  have h4 : ∀ A c w', (Below w.heap.size w w' ∧ w'.heap[w.heap.size]? = some (.cells #[encStr id, encStr number, .int .u16 (home : Int), .int .u32 (move : Int), .int .u16 (area : Int), encStr roam] 54)) → RowB w' (w.heap.size + 1) A c L3 → Calls Tryz.prog 66 #[.slice A L3.length c, .int .u32 move] w' fun e w2 => ∃ A' c', e = .returned (.slice A' L4.length c') ∧ RowB w2 (w.heap.size + 1) A' c' L4 ∧ Chg (blk A) w' w2 ∧ NewIn w' (blk A) (blk A') := fun A c w' hs hr => by
    have := long_any (w.heap.size + 1) A L3 c move w' hr (lt_of_held hs) (by omega) (by omega)
    rw [← hL4] at this; exact this
  have h5 : ∀ A c w', (Below w.heap.size w w' ∧ w'.heap[w.heap.size]? = some (.cells #[encStr id, encStr number, .int .u16 (home : Int), .int .u32 (move : Int), .int .u16 (area : Int), encStr roam] 54)) → RowB w' (w.heap.size + 1) A c L4 → Calls Tryz.prog 64 #[.slice A L4.length c, .int .u16 area] w' fun e w2 => ∃ A' c', e = .returned (.slice A' L5.length c') ∧ RowB w2 (w.heap.size + 1) A' c' L5 ∧ Chg (blk A) w' w2 ∧ NewIn w' (blk A) (blk A') := fun A c w' hs hr => by
    have := pair_any (w.heap.size + 1) A L4 c area w' hr (lt_of_held hs) (by omega) (by omega)
    rw [← hL5] at this; exact this
  have h6 : ∀ A c w', (Below w.heap.size w w' ∧ w'.heap[w.heap.size]? = some (.cells #[encStr id, encStr number, .int .u16 (home : Int), .int .u32 (move : Int), .int .u16 (area : Int), encStr roam] 54)) → RowB w' (w.heap.size + 1) A c L5 → Calls Tryz.prog 61 #[.slice A L5.length c, encStr roam] w' fun e w2 => ∃ A' c', e = .returned (.slice A' L6.length c') ∧ RowB w2 (w.heap.size + 1) A' c' L6 ∧ Chg (blk A) w' w2 ∧ NewIn w' (blk A) (blk A') := fun A c w' hs hr => by
    have := text_any (w.heap.size + 1) A L5 c roam w' hr (lt_of_held hs) (by omega) (by omega)
    rw [← hL6] at this; exact this
  have H1 := Lib.hid h1
  have H2 := Lib.hid h2
  have H3 := Lib.hid h3
  have H4 := Lib.hid h4
  have H5 := Lib.hid h5
  have H6 := Lib.hid h6
  clear h1 h2 h3 h4 h5 h6 hL1 hL2 hL3 hL4 hL5 hL6 e6
  have ho := heap_alloc_new w (.cells #[encStr id, encStr number, .int .u16 (home : Int), .int .u32 (move : Int), .int .u16 (area : Int), encStr roam] 54)
  have b0 := ((Below.refl w.heap.size w).alloc (Nat.le_refl _) (.cells #[encStr id, encStr number, .int .u16 (home : Int), .int .u32 (move : Int), .int .u16 (area : Int), encStr roam] 54)).drew
  have y0 : ∀ w' : World, w'.heap[w.heap.size]? = some (.cells #[encStr id, encStr number, .int .u16 (home : Int), .int .u32 (move : Int), .int .u16 (area : Int), encStr roam] 54) → w'.cell? ⟨w.heap.size, 0, none⟩ = some (encStr id) := fun w' e => cell_of_row _ _ 0 _ _ _ e
  have y1 : ∀ w' : World, w'.heap[w.heap.size]? = some (.cells #[encStr id, encStr number, .int .u16 (home : Int), .int .u32 (move : Int), .int .u16 (area : Int), encStr roam] 54) → w'.cell? ⟨w.heap.size, 1, none⟩ = some (encStr number) := fun w' e => cell_of_row _ _ 1 _ _ _ e
  have y2 : ∀ w' : World, w'.heap[w.heap.size]? = some (.cells #[encStr id, encStr number, .int .u16 (home : Int), .int .u32 (move : Int), .int .u16 (area : Int), encStr roam] 54) → w'.cell? ⟨w.heap.size, 2, none⟩ = some (.int .u16 (home : Int)) := fun w' e => cell_of_row _ _ 2 _ _ _ e
  have y3 : ∀ w' : World, w'.heap[w.heap.size]? = some (.cells #[encStr id, encStr number, .int .u16 (home : Int), .int .u32 (move : Int), .int .u16 (area : Int), encStr roam] 54) → w'.cell? ⟨w.heap.size, 3, none⟩ = some (.int .u32 (move : Int)) := fun w' e => cell_of_row _ _ 3 _ _ _ e
  have y4 : ∀ w' : World, w'.heap[w.heap.size]? = some (.cells #[encStr id, encStr number, .int .u16 (home : Int), .int .u32 (move : Int), .int .u16 (area : Int), encStr roam] 54) → w'.cell? ⟨w.heap.size, 4, none⟩ = some (.int .u16 (area : Int)) := fun w' e => cell_of_row _ _ 4 _ _ _ e
  have y5 : ∀ w' : World, w'.heap[w.heap.size]? = some (.cells #[encStr id, encStr number, .int .u16 (home : Int), .int .u32 (move : Int), .int .u16 (area : Int), encStr roam] 54) → w'.cell? ⟨w.heap.size, 5, none⟩ = some (encStr roam) := fun w' e => cell_of_row _ _ 5 _ _ _ e
  go_enter Tryz.func48, Tryz.ntmps48
  go_wp2
  go_region_held3 (fun w' => Below w.heap.size w w' ∧ w'.heap[w.heap.size]? = some (.cells #[encStr id, encStr number, .int .u16 (home : Int), .int .u32 (move : Int), .int .u16 (area : Int), encStr roam] 54))
    (first | exact ⟨b0, ho⟩ | exact keepS hS1 (by assumption) (by simp [blk]) | exact keepS hS2 (by assumption) (fun i hi => (Row.blk_lt h1 i hi).1) | fail)
    (first | (go_at_call 61; (with_reducible refine (H1.out _ (by assumption)).mono ?_); rintro e w1 ⟨A1, c1, rfl, h1, hS1, hN1⟩) | (go_at_call 61; (with_reducible refine (H2.out A1 c1 _ (by assumption) (by first | exact h1 | exact RowB.drew h1)).mono ?_); rintro e w2 ⟨A2, c2, rfl, h2, hS2, hN2⟩) | fail)
  go_wp2
  go_region_held3 (fun w' => Below w.heap.size w w' ∧ w'.heap[w.heap.size]? = some (.cells #[encStr id, encStr number, .int .u16 (home : Int), .int .u32 (move : Int), .int .u16 (area : Int), encStr roam] 54))
    (first | exact keepD (by assumption) | exact keepS hS3 (by assumption) (fun i hi => (Row.blk_lt h2 i hi).1) | exact keepS hS4 (by assumption) (fun i hi => (Row.blk_lt h3 i hi).1) | exact keepS hS5 (by assumption) (fun i hi => (Row.blk_lt h4 i hi).1) | exact keepS hS6 (by assumption) (fun i hi => (Row.blk_lt h5 i hi).1) | fail)
    (first | (go_at_call 64; (with_reducible refine (H3.out A2 c2 _ (by assumption) (by first | exact h2 | exact RowB.drew h2)).mono ?_); rintro e w3 ⟨A3, c3, rfl, h3, hS3, hN3⟩) | (go_at_call 66; (with_reducible refine (H4.out A3 c3 _ (by assumption) (by first | exact h3 | exact RowB.drew h3)).mono ?_); rintro e w4 ⟨A4, c4, rfl, h4, hS4, hN4⟩) | (go_at_call 64; (with_reducible refine (H5.out A4 c4 _ (by assumption) (by first | exact h4 | exact RowB.drew h4)).mono ?_); rintro e w5 ⟨A5, c5, rfl, h5, hS5, hN5⟩) | (go_at_call 61; (with_reducible refine (H6.out A5 c5 _ (by assumption) (by first | exact h5 | exact RowB.drew h5)).mono ?_); rintro e w6 ⟨A6, c6, rfl, h6, hS6, hN6⟩) | fail)
  all_goals go_wp2
  all_goals go_ret
  all_goals exact ⟨A6, c6, rfl, Row.mono h6 (by omega), (‹Below w.heap.size w w6 ∧ w6.heap[w.heap.size]? = some (.cells #[encStr id, encStr number, .int .u16 (home : Int), .int .u32 (move : Int), .int .u16 (area : Int), encStr roam] 54)›).1⟩
end Go.Proofs.YthbbmpelldglmaaGreatDoor
/- Package subscribers: the store in memory; an entry of its log. -/
namespace Go.Proofs.YthbbmpelldglmaaGreatDoor
set_option linter.unusedVariables false
set_option linter.unusedSimpArgs false
open Go.RowKit

def stObj (m1 m2 m3 m4 : Value) (A : Option Addr) (n c dur : Nat) : Obj := .cells #[m1, m2, m3, m4, .slice A n c, .int .i64 (dur : Int)] 100 (0, 0)
theorem stObj_cell {w : World} {g : Nat} {m1 m2 m3 m4 : Value} {A : Option Addr} {n c dur : Nat} (h : w.heap[g]? = some (stObj m1 m2 m3 m4 A n c dur)) (k : Nat) : w.cell? ⟨g, k, none⟩ = #[m1, m2, m3, m4, .slice A n c, .int .i64 (dur : Int)][k]? := Go.Joins.cell_of_block h k
theorem stObj_free {w : World} {g : Nat} {m1 m2 m3 m4 : Value} {A : Option Addr} {n c dur : Nat} (h : w.heap[g]? = some (stObj m1 m2 m3 m4 A n c dur)) (k : Nat) : w.frozen? ⟨g, k, none⟩ = false := Go.Joins.unfrozen_of_block h k
theorem stObj_set4 {w : World} {g : Nat} {m1 m2 m3 m4 : Value} {A A' : Option Addr} {n n' c c' dur : Nat} (h : w.heap[g]? = some (stObj m1 m2 m3 m4 A n c dur)) : (w.setCell ⟨g, 4, none⟩ (.slice A' n' c')).heap[g]? = some (stObj m1 m2 m3 m4 A' n' c' dur) := Go.Joins.block_setCell h _
/-- a row of octets does not lie in the store's own block -/
theorem stObj_apart {w : World} {g B : Nat} {m1 m2 m3 m4 : Value} {A A2 : Option Addr} {n c dur c2 : Nat} {l : List UInt8} (h : w.heap[g]? = some (stObj m1 m2 m3 m4 A n c dur)) (hr : RowB w B A2 c2 l) : g ∉ blk A2 := fun hi => by
  rw [mem_blk] at hi
  rcases hr.2 with ⟨rfl, _⟩ | ⟨g', cur, rfl, _, hg, _⟩
  · simp at hi
  · simp at hi; subst hi
    rw [h] at hg
    simp [stObj] at hg

set_option maxHeartbeats 4000000 in
set_option maxRecDepth 100000 in
theorem entry_any (w : World) (g : Nat) (m1 m2 m3 m4 : Value) (A : Option Addr) (c dur : Nat) (log : List UInt8) (ho : w.heap[g]? = some (stObj m1 m2 m3 m4 A log.length c dur)) (hlog : RowB w 0 A c log) (hll : log.length ≤ 100000000)
    (kind : UInt8) (Af : Option Addr) (fl : List UInt8) (cf : Nat) (hf : RdB w Af fl) (hfl : fl.length ≤ 1000) :
    Calls Tryz.prog 46 #[.pointer (some ⟨g, 0, none⟩), .int .u8 (kind.toNat : Int), .slice Af fl.length cf] w fun e w' => e = .returned (.tuple #[]) ∧
      ∃ A' c', w'.heap[g]? = some (stObj m1 m2 m3 m4 A' (log ++ entryB kind fl).length c' dur) ∧ RowB w' 0 A' c' (log ++ entryB kind fl) ∧ Chg (g :: blk A) w w' ∧ NewIn w (blk A) (blk A') := by
  obtain ⟨b0, hb0⟩ : ∃ b, b = pairB (1 + fl.length) := ⟨_, rfl⟩
  obtain ⟨b1, hb1⟩ : ∃ b, b = b0 ++ [kind] := ⟨_, rfl⟩
  obtain ⟨b2, hb2⟩ : ∃ b, b = b1 ++ fl := ⟨_, rfl⟩
  have n0 : b0.length ≤ 2 := by rw [hb0]; exact Nat.le_refl _
  have n1 : b1.length ≤ 3 := by rw [hb1, List.length_append]; simp; omega
  have n2 : b2.length ≤ 1003 := by rw [hb2, List.length_append]; omega
  have eb : entryB kind fl = b2 ++ fcs b2 := by unfold entryB bodyB; rw [hb2, hb1, hb0]
  have hpair := fun w' => pair_any w.heap.size none [] 0 (1 + fl.length) w' (RowB.nil _ _)
  rw [List.nil_append, ← hb0] at hpair
  have hadd := fun A c w h => add_any A b2 c w h (by omega)
  rw [eb]
  obtain ⟨e3, he3⟩ : ∃ b, b = b2 ++ fcs b2 := ⟨_, rfl⟩
  have n3 : e3.length ≤ 1005 := by rw [he3, List.length_append, fcs_len]; omega
  obtain ⟨L, hL⟩ : ∃ b, b = log ++ e3 := ⟨_, rfl⟩
  have nL : L.length ≤ 100001005 := by rw [hL, List.length_append]; omega
  rw [← he3] at hadd ⊢
  rw [← hL]
  have q1 : IntKind.u16.wrap (1 + (fl.length : Int)) = 1 + (fl.length : Int) := by rw [wrap_u16]; omega
  simp only [show ((1 + fl.length : Nat) : Int) = 1 + (fl.length : Int) by omega, List.length_nil] at hpair
  have HP := Lib.hid hpair
  have HA := Lib.hid hadd
  have HB1 := Lib.hid hb1
  have HB2 := Lib.hid hb2
  have HL := Lib.hid hL
  have HLOG := Lib.hid hlog
  have hglt : g < w.heap.size := (Array.getElem?_eq_some_iff.1 ho).1
  have hblt := Row.blk_lt hlog
  clear hb0 hb1 hb2 eb hpair hadd he3 hL hlog
  go_enter Tryz.func46, Tryz.ntmps46
  go_wp2_with (first
    | (go_at_call 64; (with_reducible refine (HP.out _ (Nat.le_refl _) (by omega) (by omega)).mono ?_); rintro e w1 ⟨A1, c1, rfl, h1, hS1, hN1⟩; have hB1 := Chg.none hS1)
    | ((with_reducible refine at_dst 15 rfl ?_)
       refine append_bytes rfl (.tmp 12) (.tmp 14) rfl w.heap.size A1 b0.length c1 b0 rfl rfl (Row.alloc h1 _) (some ⟨w1.heap.size, 0, none⟩) 1 1 [kind] rfl rfl (rd_lit w1 [kind]) b1 HB1.out (by omega) w (below_alloc hB1 _) (by have := hB1.size; simp; omega) ?_
       intro A2 c2 w2 h2 hg2 hB2 hsz2)
    | ((with_reducible refine at_dst 17 rfl ?_)
       refine append_bytes rfl (.tmp 15) (.tmp 16) rfl w.heap.size A2 b1.length c2 b1 rfl rfl h2 Af fl.length cf fl rfl rfl (hf.below hB2) b2 HB2.out (by omega) w hB2 hsz2 ?_
       intro A3 c3 w3 h3 hg3 hB3 hsz3)
    | fail)
  have o3 := (hB3.block g hglt).trans ho
  have k4 : w3.cell? ⟨g, 4, none⟩ = some (.slice A log.length c) := stObj_cell o3 4
  have l3 := HLOG.out.below hB3
  have HO3 := Lib.hid o3
  have H3R := Lib.hid h3.rd
  go_region_law (first
      | (go_simp; go_at_call 65; (with_reducible refine (HA.out A3 c3 _ (RdB.drew H3R.out)).mono ?_); rintro e w4 ⟨A4, rfl, h4, hB4⟩
         have o4 := (hB4.block g (by have := hB3.size; simp; omega)).trans HO3.out
         have k4' : w4.cell? ⟨g, 4, none⟩ = some (.slice A log.length c) := stObj_cell o4 4
         have l4 := RowB.below (RowB.drew l3) hB4
         have HO4 := Lib.hid o4
         clear o4)
      | (refine step_bytes (by rfl) (.tmp 22) (.tmp 24) (by rfl) 0 A log.length c log (by rfl) rfl l4 A4 e3.length e3.length e3 (by rfl) rfl h4.rd L HL.out (by omega) w4 (Below.refl _ _) (Nat.zero_le _) ?_
         intro A5 c5 w5 h5 hg5 hB5 hsz5 hA5
         have o5 := (Chg.of_row hg5).heap HO4.out (stObj_apart HO4.out l4)
         have k5 : w5.cell? ⟨g, 4, none⟩ = some (.slice A log.length c) := stObj_cell o5 4
         have f5 : w5.frozen? ⟨g, 4, none⟩ = false := stObj_free o5 4
         have HO5 := Lib.hid o5
         clear o5)
      | fail)
  all_goals go_wp2
  all_goals go_end0
  all_goals
    have hs4 : w.heap.size ≤ w4.heap.size := Nat.le_trans hB3.size hB4.size
    exact ⟨rfl, A5, c5, stObj_set4 HO5.out, RowB.other h5 (fun j hj e => stObj_apart HO5.out h5 (mem_blk.2 (by rw [hj, e]))) _, ((((Chg.of_below (g :: blk A) hB3).drew).then_ (Chg.of_below _ hB4)).then_ ((Chg.of_row hg5).mono (fun i hi => List.mem_cons_of_mem _ hi))).setCell (p := ⟨g, 4, none⟩) (List.mem_cons_self ..) _, (NewIn.row hA5).later hs4⟩
end Go.Proofs.YthbbmpelldglmaaGreatDoor
/- The library's strings.Trim in this program: its functions are those of the shelf's contract, number for number. -/
namespace Go.Proofs.YthbbmpelldglmaaGreatDoor
set_option linter.unusedVariables false
set_option linter.unusedSimpArgs false
open Go.Shelf

def laysTrimRen : Go.Shelf.Ren := ⟨fun | 160 => 100 | 232 => 113 | 231 => 112 | 227 => 114 | 234 => 116 | 233 => 115 | 236 => 118 | 235 => 117 | 228 => 144 | 271 => 147 | 151 => 146 | 197 => 145 | 120 => 157 | 152 => 156 | 260 => 155 | 137 => 160 | 119 => 161 | 224 => 162 | 225 => 163 | 217 => 164 | 266 => 165 | n => n, fun | 9 => 9 | 4 => 4 | 3 => 3 | 5 => 5 | 117 => 198 | 116 => 197 | 0 => 0 | 124 => 201 | 21 => 21 | 105 => 227 | 46 => 124 | 119 => 242 | 139 => 245 | 138 => 244 | n => n, fun | 3 => 1 | 4 => 2 | n => n⟩
theorem laysTrim : Lays.n160 Tryz.prog laysTrimRen where
  mixed := by kernel_rfl
  f119 := Tryz.func161.trans (congrArg some (by kernel_rfl))
  f120 := Tryz.func157.trans (congrArg some (by kernel_rfl))
  f137 := Tryz.func160.trans (congrArg some (by kernel_rfl))
  f151 := Tryz.func146.trans (congrArg some (by kernel_rfl))
  f152 := Tryz.func156.trans (congrArg some (by kernel_rfl))
  f160 := Tryz.func100.trans (congrArg some (by kernel_rfl))
  f197 := Tryz.func145.trans (congrArg some (by kernel_rfl))
  f217 := Tryz.func164.trans (congrArg some (by kernel_rfl))
  f224 := Tryz.func162.trans (congrArg some (by kernel_rfl))
  f225 := Tryz.func163.trans (congrArg some (by kernel_rfl))
  f227 := Tryz.func114.trans (congrArg some (by kernel_rfl))
  f228 := Tryz.func144.trans (congrArg some (by kernel_rfl))
  f231 := Tryz.func112.trans (congrArg some (by kernel_rfl))
  f232 := Tryz.func113.trans (congrArg some (by kernel_rfl))
  f233 := Tryz.func115.trans (congrArg some (by kernel_rfl))
  f234 := Tryz.func116.trans (congrArg some (by kernel_rfl))
  f235 := Tryz.func117.trans (congrArg some (by kernel_rfl))
  f236 := Tryz.func118.trans (congrArg some (by kernel_rfl))
  f260 := Tryz.func155.trans (congrArg some (by kernel_rfl))
  f266 := Tryz.func165.trans (congrArg some (by kernel_rfl))
  f271 := Tryz.func147.trans (congrArg some (by kernel_rfl))
  t0 := Tryz.underlying0
  a0 := Tryz.isAgg0
  z0 := Tryz.sizeOf0
  v0 := Tryz.zeroValue0
  t3 := Tryz.underlying3
  a3 := Tryz.isAgg3
  z3 := Tryz.sizeOf3
  v3 := Tryz.zeroValue3
  t4 := Tryz.underlying4
  a4 := Tryz.isAgg4
  z4 := Tryz.sizeOf4
  v4 := Tryz.zeroValue4
  t5 := Tryz.underlying5
  a5 := Tryz.isAgg5
  z5 := Tryz.sizeOf5
  v5 := Tryz.zeroValue5
  t9 := Tryz.underlying9
  a9 := Tryz.isAgg9
  z9 := Tryz.sizeOf9
  v9 := Tryz.zeroValue9
  t21 := Tryz.underlying21
  a21 := Tryz.isAgg21
  z21 := Tryz.sizeOf21
  v21 := Tryz.zeroValue21
  t46 := Tryz.underlying124
  a46 := Tryz.isAgg124
  z46 := Tryz.sizeOf124
  v46 := Tryz.zeroValue124
  t105 := Tryz.underlying227
  a105 := Tryz.isAgg227
  z105 := Tryz.sizeOf227
  v105 := Tryz.zeroValue227
  t116 := Tryz.underlying197
  a116 := Tryz.isAgg197
  z116 := Tryz.sizeOf197
  t117 := Tryz.underlying198
  a117 := Tryz.isAgg198
  z117 := Tryz.sizeOf198
  v117 := Tryz.zeroValue198
  t119 := Tryz.underlying242
  a119 := Tryz.isAgg242
  z119 := Tryz.sizeOf242
  t124 := Tryz.underlying201
  a124 := Tryz.isAgg201
  z124 := Tryz.sizeOf201
  v124 := Tryz.zeroValue201
  t138 := Tryz.underlying244
  a138 := Tryz.isAgg244
  z138 := Tryz.sizeOf244
  v138 := Tryz.zeroValue244
  t139 := Tryz.underlying245
  a139 := Tryz.isAgg245
  z139 := Tryz.sizeOf245
  v139 := Tryz.zeroValue245
  g3 := by kernel_rfl
  g4 := by kernel_rfl
end Go.Proofs.YthbbmpelldglmaaGreatDoor
/- Digits; numbers; valid records. -/
namespace Go.Proofs.YthbbmpelldglmaaGreatDoor
set_option linter.unusedVariables false
set_option linter.unusedSimpArgs false
open Go.RowKit Go.Shelf

def digitL : List UInt8 := [48, 49, 50, 51, 52, 53, 54, 55, 56, 57]
theorem digit_mem (b : UInt8) : digitL.contains b = decide (48 ≤ b.toNat ∧ b.toNat ≤ 57) := by
  have h : ∀ n : Fin 256, digitL.contains (UInt8.ofNat n.val) = decide (48 ≤ (UInt8.ofNat n.val).toNat ∧ (UInt8.ofNat n.val).toNat ≤ 57) := by decide +kernel
  have := h ⟨b.toNat, b.toNat_lt⟩
  simpa using this
theorem dropWhile_nil {α : Type} (p : α → Bool) (l : List α) : l.dropWhile p = [] ↔ l.all p = true := by
  induction l with
  | nil => simp
  | cons a r ih =>
    rw [List.dropWhile_cons]
    cases h : p a <;> simp [h, ih]
theorem trim_nil (l : List UInt8) : Lib.trimS l digitL = [] ↔ isDig l = true := by
  have hp : (fun b : UInt8 => digitL.contains b) = fun b => decide (48 ≤ b.toNat ∧ b.toNat ≤ 57) := funext digit_mem
  unfold Lib.trimS Lib.trimLeftS Lib.trimRightS isDig
  rw [hp]
  constructor
  · intro h
    rw [dropWhile_nil, List.all_reverse] at h
    rw [List.all_eq_true] at h ⊢
    intro b hb
    by_cases hd : decide (48 ≤ b.toNat ∧ b.toNat ≤ 57) = true
    · exact hd
    · -- the last octet that is no digit is not dropped
      exfalso
      have h1 : ∃ x ∈ l.reverse.dropWhile (fun b => decide (48 ≤ b.toNat ∧ b.toNat ≤ 57)), ¬ decide (48 ≤ x.toNat ∧ x.toNat ≤ 57) = true := by
        have hne : l.reverse.dropWhile (fun b : UInt8 => decide (48 ≤ b.toNat ∧ b.toNat ≤ 57)) ≠ [] := fun e => by
          rw [dropWhile_nil, List.all_eq_true] at e
          exact hd (e b (by simpa using hb))
        refine ⟨_, List.head_mem hne, ?_⟩
        have := List.head_dropWhile_not (fun b : UInt8 => decide (48 ≤ b.toNat ∧ b.toNat ≤ 57)) hne
        rw [this]; simp
      obtain ⟨x, hx, hnx⟩ := h1
      exact hnx (h x hx)
  · intro h
    have : l.reverse.dropWhile (fun b : UInt8 => decide (48 ≤ b.toNat ∧ b.toNat ≤ 57)) = [] := by
      rw [dropWhile_nil, List.all_reverse]; exact h
    rw [this]
    rfl

theorem trim_any (s : List UInt8) (w : World) (hs : s.length ≤ 9223372036854775807) :
    Calls Tryz.prog 100 #[encStr s, .string ⟨#[48, 49, 50, 51, 52, 53, 54, 55, 56, 57]⟩] w fun e w' => e = .returned (encStr (Lib.trimS s digitL)) ∧ Below w.heap.size w w' := by
  have h := Any.strings_Trim_laid laysTrim (by kernel_rfl) ⟨s.toArray⟩ ⟨#[48, 49, 50, 51, 52, 53, 54, 55, 56, 57]⟩ w (by simpa [ByteArray.size] using hs) (by decide) (ascii_of_all (by decide))
  exact h

set_option maxHeartbeats 1000000 in
theorem isDigits_any (s : List UInt8) (w : World) (hs : s.length ≤ 9223372036854775807) :
    Calls Tryz.prog 79 #[encStr s] w fun e w' => e = .returned (.bool (decide (s.length ≤ 15) && isDig s)) ∧ Below w.heap.size w w' := by
  have ht := trim_any s w hs
  have hn := trim_nil s
  generalize Lib.trimS s digitL = r at *
  by_cases hl : s.length ≤ 15
  · rw [decide_eq_true hl]
    cases hd : isDig s with
    | true =>
      obtain rfl := hn.2 hd
      have HT := Lib.hid ht
      clear ht hn hd
      go_enter Tryz.func79, Tryz.ntmps79
      go_wp2_with (first
        | (go_at_call 100; (with_reducible refine HT.out.mono ?_); rintro e w1 ⟨rfl, hB⟩)
        | fail)
      go_ret
      exact ⟨rfl, hB⟩
    | false =>
      have hr : r ≠ [] := fun e => by have := hn.1 e; rw [hd] at this; cases this
      obtain ⟨x, r, rfl⟩ := List.exists_cons_of_ne_nil hr
      have HT := Lib.hid ht
      clear ht hn hd hr
      go_enter Tryz.func79, Tryz.ntmps79
      go_wp2_with (first
        | (go_at_call 100; (with_reducible refine HT.out.mono ?_); rintro e w1 ⟨rfl, hB⟩)
        | fail)
      go_ret
      exact ⟨rfl, hB⟩
  · rw [decide_eq_false hl]
    have hl' : ¬ ((s.length : Int) ≤ 15) := by omega
    clear ht hn
    go_enter Tryz.func79, Tryz.ntmps79
    go_wp2
    go_ret
    exact ⟨rfl, Below.refl _ _⟩

set_option maxHeartbeats 1000000 in
theorem number_any_ (s : List UInt8) (w : World) (hs : s.length ≤ 9223372036854775807) :
    Calls Tryz.prog 67 #[encStr s] w fun e w' => e = .returned (.bool (isNum s)) ∧ Below w.heap.size w w' := by
  cases s with
  | nil =>
    go_enter Tryz.func67, Tryz.ntmps67
    go_wp2
    go_ret
    exact ⟨rfl, Below.refl _ _⟩
  | cons x s =>
    have h := fun w => isDigits_any (x :: s) w hs
    have e : isNum (x :: s) = (decide ((x :: s).length ≤ 15) && isDig (x :: s)) := by
      unfold isNum
      have : decide (1 ≤ (x :: s).length ∧ (x :: s).length ≤ 15) = decide ((x :: s).length ≤ 15) := by
        rw [decide_eq_decide]; simp
      rw [this]
    rw [e]
    generalize (decide ((x :: s).length ≤ 15) && isDig (x :: s)) = b at *
    have HT := Lib.hid h
    clear h e hs
    go_enter Tryz.func67, Tryz.ntmps67
    go_wp2_with (first
      | (go_at_call 79; (with_reducible refine (HT.out _).mono ?_); rintro e w1 ⟨rfl, hB⟩)
      | fail)
    go_ret
    exact ⟨rfl, hB⟩
theorem no_digit {s : List UInt8} (h : ¬ s.length ≤ 9223372036854775807) : isNum s = false := by
  unfold isNum; rw [decide_eq_false (by omega)]; rfl

set_option maxHeartbeats 2000000 in
set_option maxRecDepth 100000 in
theorem homeValid_any (h : HomeR) (w : World) (hg : h.Go) (h1 : h.id.length ≤ 9223372036854775807) (h2 : h.number.length ≤ 9223372036854775807) :
    Calls Tryz.prog 50 #[h.val] w fun e w' => e = .returned (.bool h.ok) ∧ Below w.heap.size w w' := by
  obtain ⟨id, number, at_, move, barred, waiting⟩ := h
  obtain ⟨hat, hmv⟩ := hg
  simp only at hat hmv h1 h2
  unfold HomeR.val HomeR.cells HomeR.ok
  simp only
  have hn1 := fun w => number_any_ id w h1
  have hn2 := fun w => number_any_ number w h2
  have ho := heap_alloc_new w (.cells #[encStr id, encStr number, .int .u16 (at_ : Int), .int .u32 (move : Int), .bool barred, .bool waiting] 52)
  have HO := Lib.hid ho
  have hb0 := (Below.refl w.heap.size w).alloc (Nat.le_refl _) (.cells #[encStr id, encStr number, .int .u16 (at_ : Int), .int .u32 (move : Int), .bool barred, .bool waiting] 52)
  generalize isNum id = b1 at *
  generalize isNum number = b2 at *
  have HN1 := Lib.hid hn1
  have HN2 := Lib.hid hn2
  clear hn1 hn2 ho h1 h2
  cases b1 with
  | false =>
    go_enter Tryz.func50, Tryz.ntmps50
    go_wp2_with (first
      | (go_at_call 67; (with_reducible refine (HN1.out _).mono ?_); rintro e w1 ⟨rfl, hB1⟩)
      | fail)
    go_ret
    exact ⟨rfl, below_then hb0 hB1⟩
  | true =>
    cases b2 with
    | false =>
      go_enter Tryz.func50, Tryz.ntmps50
      go_wp2_with (first
        | (go_at_call 67; (with_reducible refine (HN1.out _).mono ?_); rintro e w1 ⟨rfl, hB1⟩
           have o1 := (hB1.block w.heap.size (by simp)).trans HO.out
           have y1 : w1.cell? ⟨w.heap.size, 1, none⟩ = some (encStr number) := cell_of_row _ _ 1 _ _ _ o1
           clear o1)
        | (go_at_call 67; (with_reducible refine (HN2.out _).mono ?_); rintro e w2 ⟨rfl, hB2⟩)
        | fail)
      go_ret
      exact ⟨rfl, below_then (below_then hb0 hB1) hB2⟩
    | true =>
      by_cases ha : at_ ≤ 16383
      · have ha' : (at_ : Int) ≤ 16383 := by omega
        rw [decide_eq_true ha]
        clear ha
        go_enter Tryz.func50, Tryz.ntmps50
        go_wp2_with (first
          | (go_at_call 67; (with_reducible refine (HN1.out _).mono ?_); rintro e w1 ⟨rfl, hB1⟩
             have o1 := (hB1.block w.heap.size (by simp)).trans HO.out
             have y1 : w1.cell? ⟨w.heap.size, 1, none⟩ = some (encStr number) := cell_of_row _ _ 1 _ _ _ o1
             have O1 := Lib.hid o1
             clear o1)
          | (go_at_call 67; (with_reducible refine (HN2.out _).mono ?_); rintro e w2 ⟨rfl, hB2⟩
             have y2 : w2.cell? ⟨w.heap.size, 2, none⟩ = some (.int .u16 (at_ : Int)) := cell_of_row _ _ 2 _ _ _ ((hB2.block w.heap.size (by have := hB1.size; simp at this; omega)).trans O1.out))
          | fail)
        go_ret
        exact ⟨rfl, below_then (below_then hb0 hB1) hB2⟩
      · have ha' : ¬ ((at_ : Int) ≤ 16383) := by omega
        rw [decide_eq_false ha]
        clear ha
        go_enter Tryz.func50, Tryz.ntmps50
        go_wp2_with (first
          | (go_at_call 67; (with_reducible refine (HN1.out _).mono ?_); rintro e w1 ⟨rfl, hB1⟩
             have o1 := (hB1.block w.heap.size (by simp)).trans HO.out
             have y1 : w1.cell? ⟨w.heap.size, 1, none⟩ = some (encStr number) := cell_of_row _ _ 1 _ _ _ o1
             have O1 := Lib.hid o1
             clear o1)
          | (go_at_call 67; (with_reducible refine (HN2.out _).mono ?_); rintro e w2 ⟨rfl, hB2⟩
             have y2 : w2.cell? ⟨w.heap.size, 2, none⟩ = some (.int .u16 (at_ : Int)) := cell_of_row _ _ 2 _ _ _ ((hB2.block w.heap.size (by have := hB1.size; simp at this; omega)).trans O1.out))
          | fail)
        go_ret
        refine ⟨?_, below_then (below_then hb0 hB1) hB2⟩
        show Ending.returned (.bool (decide ((at_ : Int) ≤ 16383))) = _
        rw [decide_eq_false (by omega)]
        rfl
end Go.Proofs.YthbbmpelldglmaaGreatDoor
/- Valid Visit records. -/
namespace Go.Proofs.YthbbmpelldglmaaGreatDoor
set_option linter.unusedVariables false
set_option linter.unusedSimpArgs false
open Go.RowKit Go.Shelf

set_option maxHeartbeats 4000000 in
set_option maxRecDepth 100000 in
theorem visitValid_any (v : VisitR) (w : World) (hg : v.Go) (h1 : v.id.length ≤ 9223372036854775807) (h2 : v.number.length ≤ 9223372036854775807) (h3 : v.roam.length ≤ 9223372036854775807) :
    Calls Tryz.prog 51 #[v.val] w fun e w' => e = .returned (.bool v.ok) ∧ Below w.heap.size w w' := by
  obtain ⟨id, number, home, move, area, roam⟩ := v
  obtain ⟨hat, hmv, har⟩ := hg
  simp only at hat hmv har h1 h2 h3
  unfold VisitR.val VisitR.cells VisitR.ok
  simp only
  have hn1 := fun w => number_any_ id w h1
  have hn2 := fun w => number_any_ number w h2
  have hn3 := fun w => number_any_ roam w h3
  have ho := heap_alloc_new w (.cells #[encStr id, encStr number, .int .u16 (home : Int), .int .u32 (move : Int), .int .u16 (area : Int), encStr roam] 54)
  have HO := Lib.hid ho
  have hb0 := (Below.refl w.heap.size w).alloc (Nat.le_refl _) (.cells #[encStr id, encStr number, .int .u16 (home : Int), .int .u32 (move : Int), .int .u16 (area : Int), encStr roam] 54)
  generalize isNum id = b1 at *
  generalize isNum number = b2 at *
  generalize isNum roam = b3 at *
  have HN1 := Lib.hid hn1
  have HN2 := Lib.hid hn2
  have HN3 := Lib.hid hn3
  clear hn1 hn2 hn3 ho h1 h2 h3
  cases b1 with
  | false =>
    go_enter Tryz.func51, Tryz.ntmps51
    go_wp2_with (first
      | (go_at_call 67; (with_reducible refine (HN1.out _).mono ?_); rintro e w1 ⟨rfl, hB1⟩
         have o1 := (hB1.block w.heap.size (by simp)).trans HO.out
         have y1 : w1.cell? ⟨w.heap.size, 1, none⟩ = some (encStr number) := cell_of_row _ _ 1 _ _ _ o1
         have O1 := Lib.hid o1
         clear o1)
      | (go_at_call 67; (with_reducible refine (HN2.out _).mono ?_); rintro e w2 ⟨rfl, hB2⟩
         have o2 := (hB2.block w.heap.size (by have := hB1.size; simp at this; omega)).trans O1.out
         have y2 : w2.cell? ⟨w.heap.size, 2, none⟩ = some (.int .u16 (home : Int)) := cell_of_row _ _ 2 _ _ _ o2
         have y5 : w2.cell? ⟨w.heap.size, 5, none⟩ = some (encStr roam) := cell_of_row _ _ 5 _ _ _ o2
         clear o2)
      | (go_at_call 67; (with_reducible refine (HN3.out _).mono ?_); rintro e w3 ⟨rfl, hB3⟩)
      | fail)
    go_ret
    exact ⟨rfl, below_then hb0 hB1⟩
  | true =>
    cases b2 with
    | false =>
      go_enter Tryz.func51, Tryz.ntmps51
      go_wp2_with (first
        | (go_at_call 67; (with_reducible refine (HN1.out _).mono ?_); rintro e w1 ⟨rfl, hB1⟩
           have o1 := (hB1.block w.heap.size (by simp)).trans HO.out
           have y1 : w1.cell? ⟨w.heap.size, 1, none⟩ = some (encStr number) := cell_of_row _ _ 1 _ _ _ o1
           have O1 := Lib.hid o1
           clear o1)
        | (go_at_call 67; (with_reducible refine (HN2.out _).mono ?_); rintro e w2 ⟨rfl, hB2⟩
           have o2 := (hB2.block w.heap.size (by have := hB1.size; simp at this; omega)).trans O1.out
           have y2 : w2.cell? ⟨w.heap.size, 2, none⟩ = some (.int .u16 (home : Int)) := cell_of_row _ _ 2 _ _ _ o2
           have y5 : w2.cell? ⟨w.heap.size, 5, none⟩ = some (encStr roam) := cell_of_row _ _ 5 _ _ _ o2
           clear o2)
        | (go_at_call 67; (with_reducible refine (HN3.out _).mono ?_); rintro e w3 ⟨rfl, hB3⟩)
        | fail)
      go_ret
      exact ⟨rfl, below_then (below_then hb0 hB1) hB2⟩
    | true =>
      by_cases ha : 1 ≤ home
      · have ha' : 1 ≤ (home : Int) := by omega
        by_cases hb : home ≤ 16383
        · have hb' : (home : Int) ≤ 16383 := by omega
          rw [decide_eq_true (And.intro ha hb)]
          clear ha hb
          cases roam with
          | nil =>
            go_enter Tryz.func51, Tryz.ntmps51
            go_wp2_with (first
              | (go_at_call 67; (with_reducible refine (HN1.out _).mono ?_); rintro e w1 ⟨rfl, hB1⟩
                 have o1 := (hB1.block w.heap.size (by simp)).trans HO.out
                 have y1 : w1.cell? ⟨w.heap.size, 1, none⟩ = some (encStr number) := cell_of_row _ _ 1 _ _ _ o1
                 have O1 := Lib.hid o1
                 clear o1)
              | (go_at_call 67; (with_reducible refine (HN2.out _).mono ?_); rintro e w2 ⟨rfl, hB2⟩
                 have o2 := (hB2.block w.heap.size (by have := hB1.size; simp at this; omega)).trans O1.out
                 have y2 : w2.cell? ⟨w.heap.size, 2, none⟩ = some (.int .u16 (home : Int)) := cell_of_row _ _ 2 _ _ _ o2
                 have y5 : w2.cell? ⟨w.heap.size, 5, none⟩ = some (encStr []) := cell_of_row _ _ 5 _ _ _ o2
                 clear o2)
              | (go_at_call 67; (with_reducible refine (HN3.out _).mono ?_); rintro e w3 ⟨rfl, hB3⟩)
              | fail)
            go_ret
            exact ⟨rfl, below_then (below_then hb0 hB1) hB2⟩
          | cons x r =>
            go_enter Tryz.func51, Tryz.ntmps51
            go_wp2_with (first
              | (go_at_call 67; (with_reducible refine (HN1.out _).mono ?_); rintro e w1 ⟨rfl, hB1⟩
                 have o1 := (hB1.block w.heap.size (by simp)).trans HO.out
                 have y1 : w1.cell? ⟨w.heap.size, 1, none⟩ = some (encStr number) := cell_of_row _ _ 1 _ _ _ o1
                 have O1 := Lib.hid o1
                 clear o1)
              | (go_at_call 67; (with_reducible refine (HN2.out _).mono ?_); rintro e w2 ⟨rfl, hB2⟩
                 have o2 := (hB2.block w.heap.size (by have := hB1.size; simp at this; omega)).trans O1.out
                 have y2 : w2.cell? ⟨w.heap.size, 2, none⟩ = some (.int .u16 (home : Int)) := cell_of_row _ _ 2 _ _ _ o2
                 have y5 : w2.cell? ⟨w.heap.size, 5, none⟩ = some (encStr (x :: r)) := cell_of_row _ _ 5 _ _ _ o2
                 clear o2)
              | (go_at_call 67; (with_reducible refine (HN3.out _).mono ?_); rintro e w3 ⟨rfl, hB3⟩)
              | fail)
            go_ret
            exact ⟨rfl, below_then (below_then (below_then hb0 hB1) hB2) hB3⟩
        · have hb' : ¬ ((home : Int) ≤ 16383) := by omega
          rw [decide_eq_false (fun h => hb h.2)]
          clear ha hb
          go_enter Tryz.func51, Tryz.ntmps51
          go_wp2_with (first
            | (go_at_call 67; (with_reducible refine (HN1.out _).mono ?_); rintro e w1 ⟨rfl, hB1⟩
               have o1 := (hB1.block w.heap.size (by simp)).trans HO.out
               have y1 : w1.cell? ⟨w.heap.size, 1, none⟩ = some (encStr number) := cell_of_row _ _ 1 _ _ _ o1
               have O1 := Lib.hid o1
               clear o1)
            | (go_at_call 67; (with_reducible refine (HN2.out _).mono ?_); rintro e w2 ⟨rfl, hB2⟩
               have o2 := (hB2.block w.heap.size (by have := hB1.size; simp at this; omega)).trans O1.out
               have y2 : w2.cell? ⟨w.heap.size, 2, none⟩ = some (.int .u16 (home : Int)) := cell_of_row _ _ 2 _ _ _ o2
               have y5 : w2.cell? ⟨w.heap.size, 5, none⟩ = some (encStr roam) := cell_of_row _ _ 5 _ _ _ o2
               clear o2)
            | (go_at_call 67; (with_reducible refine (HN3.out _).mono ?_); rintro e w3 ⟨rfl, hB3⟩)
            | fail)
          go_ret
          exact ⟨rfl, below_then (below_then hb0 hB1) hB2⟩
      · have ha' : ¬ (1 ≤ (home : Int)) := by omega
        rw [decide_eq_false (fun h => ha h.1)]
        clear ha
        go_enter Tryz.func51, Tryz.ntmps51
        go_wp2_with (first
          | (go_at_call 67; (with_reducible refine (HN1.out _).mono ?_); rintro e w1 ⟨rfl, hB1⟩
             have o1 := (hB1.block w.heap.size (by simp)).trans HO.out
             have y1 : w1.cell? ⟨w.heap.size, 1, none⟩ = some (encStr number) := cell_of_row _ _ 1 _ _ _ o1
             have O1 := Lib.hid o1
             clear o1)
          | (go_at_call 67; (with_reducible refine (HN2.out _).mono ?_); rintro e w2 ⟨rfl, hB2⟩
             have o2 := (hB2.block w.heap.size (by have := hB1.size; simp at this; omega)).trans O1.out
             have y2 : w2.cell? ⟨w.heap.size, 2, none⟩ = some (.int .u16 (home : Int)) := cell_of_row _ _ 2 _ _ _ o2
             have y5 : w2.cell? ⟨w.heap.size, 5, none⟩ = some (encStr roam) := cell_of_row _ _ 5 _ _ _ o2
             clear o2)
          | (go_at_call 67; (with_reducible refine (HN3.out _).mono ?_); rintro e w3 ⟨rfl, hB3⟩)
          | fail)
        go_ret
        exact ⟨rfl, below_then (below_then hb0 hB1) hB2⟩
end Go.Proofs.YthbbmpelldglmaaGreatDoor
/- Package subscribers: what a store holds. -/
namespace Go.Proofs.YthbbmpelldglmaaGreatDoor
set_option linter.unusedVariables false
set_option linter.unusedSimpArgs false
open Go.RowKit

/-- a store as plain data; 'puts' bounds the entries of its maps -/
structure St where
  homes : List HomeR
  visits : List VisitR
  log : List UInt8
  dur : Nat
  puts : Nat
/-- the map f tells of each element x of l, at kf x, vf x -/
def Tells {α : Type} (f : List UInt8 → Option Value) (l : List α) (kf : α → List UInt8) (vf : α → Value) : Prop := ∀ k v, f k = some v ↔ ∃ x ∈ l, kf x = k ∧ vf x = v
theorem Tells.none {α : Type} (kf : α → List UInt8) (vf : α → Value) : Tells (fun _ => none) ([] : List α) kf vf := fun k v => by simp
def roamers (l : List VisitR) : List VisitR := l.filter fun v => !v.roam.isEmpty
/-- the four maps -/
structure Maps4 (w : World) (b1 b2 b3 b4 : Nat) (S : St) : Prop where
  nodup : b1 ≠ b2 ∧ b1 ≠ b3 ∧ b1 ≠ b4 ∧ b2 ≠ b3 ∧ b2 ≠ b4 ∧ b3 ≠ b4
  homes : ∃ f, MapIs Tryz.prog 9 w b1 S.puts f ∧ Tells f S.homes HomeR.id HomeR.val
  visits : ∃ f, MapIs Tryz.prog 9 w b2 S.puts f ∧ Tells f S.visits VisitR.id VisitR.val
  numbers : ∃ f, MapIs Tryz.prog 9 w b3 S.puts f ∧ Tells f S.homes HomeR.number fun h => encStr h.id
  roams : ∃ f, MapIs Tryz.prog 9 w b4 S.puts f ∧ Tells f (roamers S.visits) VisitR.roam fun v => encStr v.id
/-- what holds of every store -/
structure St.Fit (S : St) : Prop where
  hs : S.homes.Pairwise fun a b => a.id < b.id
  hn : S.homes.Pairwise fun a b => a.number ≠ b.number
  hok : ∀ h ∈ S.homes, h.ok = true ∧ h.Go
  vs : S.visits.Pairwise fun a b => a.id < b.id
  vr : (roamers S.visits).Pairwise fun a b => a.roam ≠ b.roam
  vok : ∀ v ∈ S.visits, v.ok = true ∧ v.Go
/-- a store whose maps are made -/
structure StM (w : World) (g b1 b2 b3 b4 : Nat) (A : Option Addr) (c : Nat) (S : St) : Prop where
  obj : w.heap[g]? = some (stObj (.map (some b1)) (.map (some b2)) (.map (some b3)) (.map (some b4)) A S.log.length c S.dur)
  log : RowB w 0 A c S.log
  maps : Maps4 w b1 b2 b3 b4 S
/-- a store whose maps are not made yet -/
structure StN (w : World) (g : Nat) (A : Option Addr) (c : Nat) (S : St) : Prop where
  obj : w.heap[g]? = some (stObj (.map none) (.map none) (.map none) (.map none) A S.log.length c S.dur)
  log : RowB w 0 A c S.log
  homes : S.homes = []
  visits : S.visits = []
/-- the store at block g, with its blocks -/
def StAt (w : World) (g : Nat) (F : List Nat) (S : St) : Prop :=
  (∃ b1 b2 b3 b4 A c, F = g :: b1 :: b2 :: b3 :: b4 :: blk A ∧ StM w g b1 b2 b3 b4 A c S) ∨ (∃ A c, F = g :: blk A ∧ StN w g A c S)

theorem Maps4.chg {w w' : World} {b1 b2 b3 b4 : Nat} {S : St} {F : List Nat} (h : Maps4 w b1 b2 b3 b4 S) (hc : Chg F w w') (h1 : b1 ∉ F) (h2 : b2 ∉ F) (h3 : b3 ∉ F) (h4 : b4 ∉ F) : Maps4 w' b1 b2 b3 b4 S := by
  obtain ⟨hn, ⟨f1, m1, t1⟩, ⟨f2, m2, t2⟩, ⟨f3, m3, t3⟩, ⟨f4, m4, t4⟩⟩ := h
  exact ⟨hn, ⟨f1, m1.chg hc h1, t1⟩, ⟨f2, m2.chg hc h2, t2⟩, ⟨f3, m3.chg hc h3, t3⟩, ⟨f4, m4.chg hc h4, t4⟩⟩
theorem Maps4.lt {w : World} {b1 b2 b3 b4 : Nat} {S : St} (h : Maps4 w b1 b2 b3 b4 S) : b1 < w.heap.size ∧ b2 < w.heap.size ∧ b3 < w.heap.size ∧ b4 < w.heap.size := by
  obtain ⟨hn, ⟨f1, m1, t1⟩, ⟨f2, m2, t2⟩, ⟨f3, m3, t3⟩, ⟨f4, m4, t4⟩⟩ := h
  exact ⟨m1.lt, m2.lt, m3.lt, m4.lt⟩
theorem StM.chg {w w' : World} {g b1 b2 b3 b4 : Nat} {A : Option Addr} {c : Nat} {S : St} {F : List Nat} (h : StM w g b1 b2 b3 b4 A c S) (hc : Chg F w w') (hF : ∀ i ∈ g :: b1 :: b2 :: b3 :: b4 :: blk A, i ∉ F) : StM w' g b1 b2 b3 b4 A c S where
  obj := hc.heap h.obj (hF g (by simp))
  log := Row.chg h.log hc (fun k e => hF k (by simp [mem_blk.2 e]))
  maps := h.maps.chg hc (hF b1 (by simp)) (hF b2 (by simp)) (hF b3 (by simp)) (hF b4 (by simp))
theorem StN.chg {w w' : World} {g : Nat} {A : Option Addr} {c : Nat} {S : St} {F : List Nat} (h : StN w g A c S) (hc : Chg F w w') (hF : ∀ i ∈ g :: blk A, i ∉ F) : StN w' g A c S where
  obj := hc.heap h.obj (hF g (by simp))
  log := Row.chg h.log hc (fun k e => hF k (by simp [mem_blk.2 e]))
  homes := h.homes
  visits := h.visits
/-- the store stays while other blocks change -/
theorem StAt.chg {w w' : World} {g : Nat} {F F2 : List Nat} {S : St} (h : StAt w g F S) (hc : Chg F2 w w') (hF : ∀ i ∈ F, i ∉ F2) : StAt w' g F S := by
  rcases h with ⟨b1, b2, b3, b4, A, c, rfl, h⟩ | ⟨A, c, rfl, h⟩
  · exact .inl ⟨b1, b2, b3, b4, A, c, rfl, h.chg hc hF⟩
  · exact .inr ⟨A, c, rfl, h.chg hc hF⟩
theorem StAt.below {w w' : World} {g : Nat} {F : List Nat} {S : St} (h : StAt w g F S) (hb : Below w.heap.size w w') : StAt w' g F S := h.chg (Chg.of_below [] hb) (by simp)
theorem StAt.lt {w : World} {g : Nat} {F : List Nat} {S : St} (h : StAt w g F S) : ∀ i ∈ F, i < w.heap.size := by
  rcases h with ⟨b1, b2, b3, b4, A, c, rfl, h⟩ | ⟨A, c, rfl, h⟩
  · intro i hi
    have hl := h.maps.lt
    simp only [List.mem_cons] at hi
    rcases hi with rfl | rfl | rfl | rfl | rfl | hi
    · exact (Array.getElem?_eq_some_iff.1 h.obj).1
    · exact hl.1
    · exact hl.2.1
    · exact hl.2.2.1
    · exact hl.2.2.2
    · exact (Row.blk_lt h.log i hi).2
  · intro i hi
    simp only [List.mem_cons] at hi
    rcases hi with rfl | hi
    · exact (Array.getElem?_eq_some_iff.1 h.obj).1
    · exact (Row.blk_lt h.log i hi).2

set_option maxHeartbeats 1000000 in
/-- 'New' -/
theorem storeNew_any (w : World) :
    Calls Tryz.prog 9 #[] w fun e w' => e = .returned (.pointer (some ⟨w.heap.size, 0, none⟩)) ∧ StAt w' w.heap.size [w.heap.size] ⟨[], [], [], 0, 0⟩ ∧ Below w.heap.size w w' := by
  go_enter Tryz.func9, Tryz.ntmps9
  go_wp2
  go_ret
  refine ⟨rfl, .inr ⟨none, 0, rfl, ?_, RowB.nil _ _, rfl, rfl⟩, (Below.refl _ _).alloc (Nat.le_refl _) _⟩
  exact heap_alloc_new _ _

theorem wpList_makeMap {P : Program} {w : World} {ops : Array Oper} {rest : List Oper} {o : Oper} {a : Act} {Q : Exit → Act → World → Prop} (hg : o.guard = none) (t : TypeId) (ho : o.op = .makeMap t none)
    (h : ∀ w', w' = w.alloc (.map #[] 0) → wpList P ops Q rest (a.put o.dst (.map (some w.heap.size))) w') : wpList P ops Q (o :: rest) a w := by
  refine wpList_plain hg fun K' hK' => ?_
  unfold Oper.wp
  simp [execOp, ho, run_makeMap, Result.andThen]
  exact hK' _ _ (h _ rfl)

set_option maxHeartbeats 2000000 in
set_option maxRecDepth 100000 in
/-- 'ready' -/
theorem ready_any (w : World) (g : Nat) (F : List Nat) (S : St) (h : StAt w g F S) :
    Calls Tryz.prog 49 #[.pointer (some ⟨g, 0, none⟩)] w fun e w' => e = .returned (.tuple #[]) ∧ ∃ b1 b2 b3 b4 A c, StM w' g b1 b2 b3 b4 A c S ∧ Chg F w w' ∧ NewIn w F (g :: b1 :: b2 :: b3 :: b4 :: blk A) := by
  have q1 : ∀ (w : World) (b : Nat), (binOp .eql 96 (.map (some b)) (.map none)).run Tryz.prog w = .ok (.bool false) w := fun w b => run_eql_map_nil w _ _ _ (some b) Tryz.underlying96
  have q2 : ∀ w : World, (binOp .eql 96 (.map none) (.map none)).run Tryz.prog w = .ok (.bool true) w := fun w => run_eql_map_nil w _ _ _ none Tryz.underlying96
  have hmm := @run_makeMap Tryz.prog
  rcases h with ⟨b1, b2, b3, b4, A, c, rfl, h⟩ | ⟨A, c, rfl, h⟩
  · have k0 : w.cell? ⟨g, 0, none⟩ = some (.map (some b1)) := stObj_cell h.obj 0
    have H := Lib.hid h
    clear h
    go_enter Tryz.func49, Tryz.ntmps49
    go_wp2
    refine bodyPost_end (results_none (by rfl) _ _ _) (by rfl) ?_
    exact ⟨rfl, b1, b2, b3, b4, A, c, H.out, Chg.refl _ _, NewIn.refl _ _⟩
  · have hlt : g < w.heap.size := (Array.getElem?_eq_some_iff.1 h.obj).1
    have hap := stObj_apart h.obj h.log
    have k0 : w.cell? ⟨g, 0, none⟩ = some (.map none) := stObj_cell h.obj 0
    have HO := Lib.hid h.obj
    have HLOG := Lib.hid h.log
    have HV := Lib.hid (And.intro h.homes h.visits)
    have HAP := Lib.hid hap
    clear h hmm hap
    go_enter Tryz.func49, Tryz.ntmps49
    go_wp2_with (first
      | ((with_reducible refine at_dst 9 rfl ?_)
         refine wpList_makeMap rfl 96 rfl ?_
         intro w1 hw1
         have HW1 := Lib.hid hw1
         have HO1 := Lib.hid (show w1.heap[g]? = some (stObj (.map none) (.map none) (.map none) (.map none) A S.log.length c S.dur) by rw [hw1]; exact (Below.heap_alloc _ _ _ hlt).trans HO.out)
         clear hw1 k0)
      | ((with_reducible refine at_dst 10 rfl ?_)
         refine wpList_makeMap rfl 97 rfl ?_
         intro w2 hw2
         have HW2 := Lib.hid hw2
         have o2 : w2.heap[g]? = some (stObj (.map none) (.map none) (.map none) (.map none) A S.log.length c S.dur) := by rw [hw2]; exact (Below.heap_alloc _ _ _ (Array.getElem?_eq_some_iff.1 HO1.out).1).trans HO1.out
         have HO2 := Lib.hid o2
         have k0 : w2.cell? ⟨g, 0, none⟩ = some (.map none) := stObj_cell o2 0
         have k1 : w2.cell? ⟨g, 1, none⟩ = some (.map none) := stObj_cell o2 1
         have f0 := stObj_free o2 0
         have f1 := stObj_free o2 1
         clear hw2 o2)
      | ((with_reducible refine at_dst 17 rfl ?_)
         refine wpList_makeMap rfl 98 rfl ?_
         intro w3 hw3
         have HW3 := Lib.hid hw3
         have o3 : w3.heap[g]? = some (stObj (.map (some w.heap.size)) (.map (some w1.heap.size)) (.map none) (.map none) A S.log.length c S.dur) := by
           have e1 := Go.Joins.block_setCell (i := 0) HO2.out (.map (some w.heap.size))
           have e2 := Go.Joins.block_setCell (i := 1) e1 (.map (some w1.heap.size))
           rw [hw3]
           exact (Below.heap_alloc _ _ _ (Array.getElem?_eq_some_iff.1 e2).1).trans e2
         have HO3 := Lib.hid o3
         clear hw3 o3 k0 k1 f0 f1)
      | ((with_reducible refine at_dst 18 rfl ?_)
         refine wpList_makeMap rfl 98 rfl ?_
         intro w4 hw4
         have HW4 := Lib.hid hw4
         have o4 : w4.heap[g]? = some (stObj (.map (some w.heap.size)) (.map (some w1.heap.size)) (.map none) (.map none) A S.log.length c S.dur) := by rw [hw4]; exact (Below.heap_alloc _ _ _ (Array.getElem?_eq_some_iff.1 HO3.out).1).trans HO3.out
         have HO4 := Lib.hid o4
         have k2 : w4.cell? ⟨g, 2, none⟩ = some (.map none) := stObj_cell o4 2
         have k3 : w4.cell? ⟨g, 3, none⟩ = some (.map none) := stObj_cell o4 3
         have f2 := stObj_free o4 2
         have f3 := stObj_free o4 3
         clear hw4 o4)
      | fail)
    have e1 := Go.Joins.block_setCell (i := 2) HO4.out (.map (some w2.heap.size))
    have e2 := Go.Joins.block_setCell (i := 3) e1 (.map (some w3.heap.size))
    have z1 : w1.heap.size = w.heap.size + 1 := by rw [HW1.out]; simp
    have z2 : w2.heap.size = w.heap.size + 2 := by rw [HW2.out]; simp; omega
    have z3 : w3.heap.size = w.heap.size + 3 := by rw [HW3.out]; simp [World.setCell]; omega
    have c01 : Chg [g] w w1 := by rw [HW1.out]; exact (Chg.refl _ _).alloc _
    have c12 : Chg [g] w1 w2 := by rw [HW2.out]; exact (Chg.refl _ _).alloc _
    have c23 : Chg [g] w2 w3 := by rw [HW3.out]; exact (((Chg.refl _ _).setCell (p := ⟨g, 0, none⟩) (by simp) _).setCell (p := ⟨g, 1, none⟩) (by simp) _).alloc _
    have c34 : Chg [g] w3 w4 := by rw [HW4.out]; exact (Chg.refl _ _).alloc _
    have c4W := (((Chg.refl [g] w4).setCell (p := ⟨g, 2, none⟩) (by simp) (.map (some w2.heap.size))).setCell (p := ⟨g, 3, none⟩) (by simp) (.map (some w3.heap.size)))
    have m1 : MapIs Tryz.prog 9 w1 w.heap.size S.puts fun _ => none := by rw [HW1.out]; exact (MapIs.made w _ _).mono (Nat.zero_le _)
    have m2 : MapIs Tryz.prog 9 w2 w1.heap.size S.puts fun _ => none := by rw [HW2.out]; exact (MapIs.made w1 _ _).mono (Nat.zero_le _)
    have m3 : MapIs Tryz.prog 9 w3 w2.heap.size S.puts fun _ => none := by
      rw [HW3.out]
      have := (MapIs.made (((w2.setCell ⟨g, 0, none⟩ (.map (some w.heap.size))).setCell ⟨g, 1, none⟩ (.map (some w1.heap.size)))) Tryz.prog 9).mono (Nat.zero_le S.puts)
      simpa [World.setCell] using this
    have m4 : MapIs Tryz.prog 9 w4 w3.heap.size S.puts fun _ => none := by rw [HW4.out]; exact (MapIs.made w3 _ _).mono (Nat.zero_le _)
    have cW := (((c01.then_ c12).then_ c23).then_ c34).then_ c4W
    go_end0
    refine ⟨rfl, w.heap.size, w1.heap.size, w2.heap.size, w3.heap.size, A, c, ⟨e2, Row.chg HLOG.out cW (fun k e => by simp; rintro rfl; exact HAP.out (mem_blk.2 e)), ⟨by omega, ?_, ?_, ?_, ?_⟩⟩, cW.mono (by simp), ?_⟩
    · rw [HV.out.1]; exact ⟨_, m1.chg (((c12.then_ c23).then_ c34).then_ c4W) (by simp; omega), Tells.none _ _⟩
    · rw [HV.out.2]; exact ⟨_, m2.chg ((c23.then_ c34).then_ c4W) (by simp; omega), Tells.none _ _⟩
    · rw [HV.out.1]; exact ⟨_, m3.chg (c34.then_ c4W) (by simp; omega), Tells.none _ _⟩
    · rw [HV.out.2]; exact ⟨_, m4.chg c4W (by simp; omega), Tells.none _ _⟩
    · intro i hi
      simp only [List.mem_cons] at hi ⊢
      rcases hi with rfl | rfl | rfl | rfl | rfl | hi
      · exact .inl (.inl rfl)
      · exact .inr (Nat.le_refl _)
      · exact .inr (by omega)
      · exact .inr (by omega)
      · exact .inr (by omega)
      · exact .inl (.inr hi)
end Go.Proofs.YthbbmpelldglmaaGreatDoor
/- make([]byte, n); a struct result read from its cell. -/
namespace Go.Proofs.YthbbmpelldglmaaGreatDoor
set_option linter.unusedVariables false
set_option linter.unusedSimpArgs false
open Go.RowKit

theorem made_zero (n : Nat) : (madeCells (Value.int .u8 0).cells (n * 1)).toList = (List.replicate n (0 : UInt8)).map byteV := by
  apply List.ext_getElem?
  intro i
  by_cases hi : i < n
  · simp [madeCells, Value.cells, hi, Nat.mod_one, byteV]
  · rw [List.getElem?_eq_none (by simp [madeCells, Value.cells]; omega), List.getElem?_eq_none (by simp; omega)]

section
variable {w : World} {ops : Array Oper} {rest : List Oper} {o : Oper} {a : Act} {Q : Exit → Act → World → Prop}
/-- make([]byte, 0, n) -/
theorem make_bytes0 (hg : o.guard = none) (l c : Operand) (hop : o.op = Op.makeSlice 39 l c) (kl kc : IntKind) (C : Int) (n : Nat) (hl : a.eval l = .int kl 0) (hc : a.eval c = .int kc C) (hC : C = (n : Int)) (hn : n ≤ 140737488351232)
    (hK : ∀ w', RowB w' w.heap.size (some ⟨w.heap.size, 0, none⟩) n [] → Below w.heap.size w w' → wpList Tryz.prog ops Q rest (a.put o.dst (.slice (some ⟨w.heap.size, 0, none⟩) 0 n)) w') : wpList Tryz.prog ops Q (o :: rest) a w := by
  obtain ⟨i0, hi0, hz0, hz1, hz2⟩ := info_parts infoByte
  refine wpList_make_own w hg l c 39 hop w.heap.size 5 i0 (.int .u8 0) 1 Tryz.underlying39 hi0 hz0 hz1 kl kc C n hl hc hC (by rw [hz2]; omega) (by simp only [maxLen]; omega) (Nat.le_refl _) ?_
  intro w' h1 h2
  obtain ⟨A3, c3, e3, hS⟩ := Row.of_own h1
  injection e3 with e3 e4 e5
  subst e3
  subst e5
  exact hK w' hS ((Below.refl _ _).grown h2 (Nat.le_refl _) (by simp))
/-- make([]byte, n) -/
theorem make_bytes (hg : o.guard = none) (l c : Operand) (hop : o.op = Op.makeSlice 39 l c) (kl kc : IntKind) (L C : Int) (n : Nat) (hl : a.eval l = .int kl L) (hc : a.eval c = .int kc C) (hL : L = (n : Int)) (hC : C = (n : Int)) (hn : n ≤ 140737488351232)
    (hK : ∀ w', RowB w' w.heap.size (some ⟨w.heap.size, 0, none⟩) n (List.replicate n 0) → Below w.heap.size w w' → wpList Tryz.prog ops Q rest (a.put o.dst (.slice (some ⟨w.heap.size, 0, none⟩) n n)) w') : wpList Tryz.prog ops Q (o :: rest) a w := by
  obtain ⟨i0, hi0, hz0, hz1, hz2⟩ := info_parts infoByte
  refine wpList_make_full w hg l c 39 hop w.heap.size 5 i0 (.int .u8 0) 1 Tryz.underlying39 hi0 hz0 hz1 kl kc L C n hl hc hL hC (by rw [hz2]; omega) (by simp only [maxLen]; omega) (Nat.le_refl _) ?_
  intro w' h1 h2
  obtain ⟨A3, c3, e3, hS⟩ := Row.of_own h1
  injection e3 with e3 e4 e5
  subst e3
  subst e5
  rw [made_zero] at hS
  refine hK w' ?_ ((Below.refl _ _).grown h2 (Nat.le_refl _) (by simp))
  unfold RowB
  rw [List.length_replicate]
  exact hS
end

section
variable {P : Program}
theorem results_cell_tmp {fn : Func} {p q : Tmp} {ty : TypeId} (h : fn.results = #[.cell p ty, .tmp q]) (tmps : Array Value) (w : World) (g : Nat) (t : TypeId) (cs : Array Value) (fr : Nat × Nat) (d : TypeDesc)
    (hp : tmps.getD p undef = .pointer (some ⟨g, 0, none⟩)) (hg : w.heap[g]? = some (.cells cs t fr))
    (hu : P.underlying ty = some d) (hd : (match d with | .struct _ | .array _ _ => true | _ => false) = true) (hi : (P.info? ty).map (·.size) = some cs.size) :
    (results fn tmps).run P w = .ok (.tuple #[.agg cs, tmps.getD q undef]) w := by
  have hp' : tmps[p]?.getD undef = .pointer (some ⟨g, 0, none⟩) := by simpa using hp
  simp [results, h, hp', asAddr, run_loadVar_row w g t ty cs fr d hg hu hd hi]
end
end Go.Proofs.YthbbmpelldglmaaGreatDoor
/- Package subscribers: records looked up. -/
namespace Go.Proofs.YthbbmpelldglmaaGreatDoor
set_option linter.unusedVariables false
set_option linter.unusedSimpArgs false
open Go.RowKit

def homeZero : HomeR := ⟨[], [], 0, 0, false, false⟩
def visitZero : VisitR := ⟨[], [], 0, 0, 0, []⟩
theorem zeroHomeV (w : World) : (zeroValue 52).run Tryz.prog w = .ok homeZero.val w := by kernel_rfl
theorem zeroVisitV (w : World) : (zeroValue 54).run Tryz.prog w = .ok visitZero.val w := by kernel_rfl
theorem zeroStrV (w : World) : (zeroValue 9).run Tryz.prog w = .ok (encStr []) w := by kernel_rfl
/-- a map that may be nil -/
def MapV (w : World) (m : Value) (n : Nat) (f : List UInt8 → Option Value) : Prop := (m = .map none ∧ ∀ k, f k = none) ∨ ∃ b, m = .map (some b) ∧ MapIs Tryz.prog 9 w b n f
theorem MapV.look_ok {w : World} {m : Value} {n : Nat} {f : List UInt8 → Option Value} (h : MapV w m n f) {t e : TypeId} (ht : Tryz.prog.underlying t = some (.map 9 e)) {z : Value} (hz : (zeroValue e).run Tryz.prog w = .ok z w) (k : List UInt8) (hl : k.length ≤ maxLen) :
    (Instr.lookup t m (encStr k) true).run Tryz.prog w = .ok (.tuple #[(f k).getD z, .bool (f k).isSome]) w := by
  rcases h with ⟨rfl, h⟩ | ⟨b, rfl, h⟩
  · rw [h k]
    exact Maps.look_nil true (Go.Maps.string_keyed Tryz.underlying9) ht hz (key_str Tryz.underlying9 k hl)
  · exact h.look_ok Tryz.underlying9 ht hz k hl
theorem MapV.below {w w' : World} {m : Value} {n : Nat} {f : List UInt8 → Option Value} (h : MapV w m n f) (hb : Below w.heap.size w w') : MapV w' m n f := by
  rcases h with h | ⟨b, rfl, h⟩
  · exact .inl h
  · exact .inr ⟨b, rfl, h.chg (Chg.of_below [] hb) (by simp)⟩
theorem infoHome : (Tryz.prog.info? 52).map (·.size) = some 6 := by kernel_rfl
theorem infoVisit : (Tryz.prog.info? 54).map (·.size) = some 6 := by kernel_rfl

set_option maxHeartbeats 2000000 in
set_option maxRecDepth 100000 in
theorem foundHome_any (w : World) (m : Value) (n : Nat) (f : List UInt8 → Option Value) (h : MapV w m n f) (k : List UInt8) (hl : k.length ≤ maxLen) (o : Option HomeR) (ho : f k = o.map HomeR.val) :
    Calls Tryz.prog 43 #[m, encStr k] w fun e w' => e = .returned (.tuple #[(o.getD homeZero).val, .int .i64 (if o.isSome then 0 else 7)]) ∧ Below w.heap.size w w' := by
  have hlk := (h.below ((Below.refl w.heap.size w).alloc (Nat.le_refl _) (.cells #[encStr [], encStr [], .int .u16 0, .int .u32 0, .bool false, .bool false] 52))).look_ok Tryz.underlying96 (zeroHomeV _) k hl
  rw [ho] at hlk
  clear h ho hl
  cases o with
  | none =>
    have b0 := (Below.refl w.heap.size w).alloc (Nat.le_refl _) (.cells #[encStr [], encStr [], .int .u16 0, .int .u32 0, .bool false, .bool false] 52)
    unfold homeZero HomeR.val HomeR.cells at *
    simp only [Option.map_none, Option.getD_none, Option.isSome_none, Option.isSome] at hlk ⊢
    go_enter Tryz.func43, Tryz.ntmps43
    go_wp2
    exact bodyPost_ret (results_cell_tmp (p := 4) (q := 5) rfl _ _ w.heap.size 52 #[encStr [], encStr [], .int .u16 0, .int .u32 0, .bool false, .bool false] (0, 0) _ rfl (heap_alloc2_old _ _ _) Tryz.underlying52 rfl infoHome) rfl ⟨rfl, below_alloc b0 _⟩
  | some r =>
    obtain ⟨id, number, at_, move, barred, waiting⟩ := r
    have b0 := (Below.refl w.heap.size w).alloc (Nat.le_refl _) (.cells #[encStr id, encStr number, .int .u16 (at_ : Int), .int .u32 (move : Int), .bool barred, .bool waiting] 52)
    unfold HomeR.val HomeR.cells at *
    simp only [Option.map_some, Option.getD_some, Option.isSome_some, Option.isSome] at hlk ⊢
    go_enter Tryz.func43, Tryz.ntmps43
    go_wp2
    exact bodyPost_ret (results_cell_tmp (p := 4) (q := 5) rfl _ _ w.heap.size 52 #[encStr id, encStr number, .int .u16 (at_ : Int), .int .u32 (move : Int), .bool barred, .bool waiting] (0, 0) _ rfl (heap_alloc2_old _ _ _) Tryz.underlying52 rfl infoHome) rfl ⟨rfl, below_alloc b0 _⟩

set_option maxHeartbeats 2000000 in
set_option maxRecDepth 100000 in
theorem foundVisit_any (w : World) (m : Value) (n : Nat) (f : List UInt8 → Option Value) (h : MapV w m n f) (k : List UInt8) (hl : k.length ≤ maxLen) (o : Option VisitR) (ho : f k = o.map VisitR.val) :
    Calls Tryz.prog 45 #[m, encStr k] w fun e w' => e = .returned (.tuple #[(o.getD visitZero).val, .int .i64 (if o.isSome then 0 else 7)]) ∧ Below w.heap.size w w' := by
  have hlk := (h.below ((Below.refl w.heap.size w).alloc (Nat.le_refl _) (.cells #[encStr [], encStr [], .int .u16 0, .int .u32 0, .int .u16 0, encStr []] 54))).look_ok Tryz.underlying97 (zeroVisitV _) k hl
  rw [ho] at hlk
  clear h ho hl
  cases o with
  | none =>
    have b0 := (Below.refl w.heap.size w).alloc (Nat.le_refl _) (.cells #[encStr [], encStr [], .int .u16 0, .int .u32 0, .int .u16 0, encStr []] 54)
    unfold visitZero VisitR.val VisitR.cells at *
    simp only [Option.map_none, Option.getD_none, Option.isSome_none, Option.isSome] at hlk ⊢
    go_enter Tryz.func45, Tryz.ntmps45
    go_wp2
    exact bodyPost_ret (results_cell_tmp (p := 4) (q := 5) rfl _ _ w.heap.size 54 #[encStr [], encStr [], .int .u16 0, .int .u32 0, .int .u16 0, encStr []] (0, 0) _ rfl (heap_alloc2_old _ _ _) Tryz.underlying54 rfl infoVisit) rfl ⟨rfl, below_alloc b0 _⟩
  | some r =>
    obtain ⟨id, number, home, move, area, roam⟩ := r
    have b0 := (Below.refl w.heap.size w).alloc (Nat.le_refl _) (.cells #[encStr id, encStr number, .int .u16 (home : Int), .int .u32 (move : Int), .int .u16 (area : Int), encStr roam] 54)
    unfold VisitR.val VisitR.cells at *
    simp only [Option.map_some, Option.getD_some, Option.isSome_some, Option.isSome] at hlk ⊢
    go_enter Tryz.func45, Tryz.ntmps45
    go_wp2
    exact bodyPost_ret (results_cell_tmp (p := 4) (q := 5) rfl _ _ w.heap.size 54 #[encStr id, encStr number, .int .u16 (home : Int), .int .u32 (move : Int), .int .u16 (area : Int), encStr roam] (0, 0) _ rfl (heap_alloc2_old _ _ _) Tryz.underlying54 rfl infoVisit) rfl ⟨rfl, below_alloc b0 _⟩

/-- the record of a key -/
theorem Tells.get {α : Type} {f : List UInt8 → Option Value} {l : List α} {kf : α → List UInt8} {vf : α → Value} (h : Tells f l kf vf) (k : List UInt8) [DecidableEq (List UInt8)] : f k = (l.find? fun x => kf x == k).map vf := by
  cases e : l.find? fun x => kf x == k with
  | none =>
    cases e2 : f k with
    | none => rfl
    | some v =>
      obtain ⟨x, hx, hk, _⟩ := (h k v).1 e2
      rw [List.find?_eq_none] at e
      exact absurd (by simpa using hk) (e x hx)
  | some x =>
    have h1 := List.find?_some e
    have h2 := List.mem_of_find?_eq_some e
    exact (h k (vf x)).2 ⟨x, h2, by simpa using h1, rfl⟩
def homeOf (S : St) (id : List UInt8) : Option HomeR := S.homes.find? fun h => h.id == id
def visitOf (S : St) (id : List UInt8) : Option VisitR := S.visits.find? fun v => v.id == id
theorem StAt.parts {w : World} {g : Nat} {F : List Nat} {S : St} (h : StAt w g F S) :
    ∃ m1 m2 m3 m4 A c, w.heap[g]? = some (stObj m1 m2 m3 m4 A S.log.length c S.dur) ∧ RowB w 0 A c S.log ∧ (∃ f, MapV w m1 S.puts f ∧ Tells f S.homes HomeR.id HomeR.val) ∧ (∃ f, MapV w m2 S.puts f ∧ Tells f S.visits VisitR.id VisitR.val) := by
  rcases h with ⟨b1, b2, b3, b4, A, c, rfl, h⟩ | ⟨A, c, rfl, h⟩
  · obtain ⟨f1, h1, t1⟩ := h.maps.homes
    obtain ⟨f2, h2, t2⟩ := h.maps.visits
    exact ⟨_, _, _, _, A, c, h.obj, h.log, ⟨f1, .inr ⟨b1, rfl, h1⟩, t1⟩, ⟨f2, .inr ⟨b2, rfl, h2⟩, t2⟩⟩
  · exact ⟨_, _, _, _, A, c, h.obj, h.log, ⟨fun _ => none, .inl ⟨rfl, fun _ => rfl⟩, by rw [h.homes]; exact Tells.none _ _⟩, ⟨fun _ => none, .inl ⟨rfl, fun _ => rfl⟩, by rw [h.visits]; exact Tells.none _ _⟩⟩

set_option maxHeartbeats 2000000 in
set_option maxRecDepth 100000 in
theorem storeHome_any (w : World) (g : Nat) (F : List Nat) (S : St) (h : StAt w g F S) (k : List UInt8) (hl : k.length ≤ maxLen) :
    Calls Tryz.prog 19 #[.pointer (some ⟨g, 0, none⟩), encStr k] w fun e w' => e = .returned (.tuple #[((homeOf S k).getD homeZero).val, .int .i64 (if (homeOf S k).isSome then 0 else 7)]) ∧ Below w.heap.size w w' := by
  obtain ⟨m1, m2, m3, m4, A, c, ho, _, ⟨f1, h1, t1⟩, ⟨f2, h2, t2⟩⟩ := h.parts
  have hlt : g < w.heap.size := (Array.getElem?_eq_some_iff.1 ho).1
  have b0 := (Below.refl w.heap.size w).alloc (Nat.le_refl _) (.cells #[encStr [], encStr [], .int .u16 0, .int .u32 0, .bool false, .bool false] 52)
  have k0 : (w.alloc (.cells #[encStr [], encStr [], .int .u16 0, .int .u32 0, .bool false, .bool false] 52)).cell? ⟨g, 0, none⟩ = some m1 := stObj_cell ((b0.block g hlt).trans ho) 0
  have hf := foundHome_any _ m1 S.puts f1 (h1.below b0) k hl (homeOf S k) (t1.get k)
  generalize homeOf S k = o at *
  generalize (if o.isSome then (0 : Int) else 7) = er at *
  obtain ⟨r, hr⟩ : ∃ r, r = o.getD homeZero := ⟨_, rfl⟩
  rw [← hr] at hf ⊢
  obtain ⟨id, number, at_, move, barred, waiting⟩ := r
  unfold HomeR.val HomeR.cells at *
  have HF := Lib.hid hf
  clear hf hr h1 h2 t1 t2 h ho
  go_enter Tryz.func19, Tryz.ntmps19
  go_wp2_with (first
    | (go_at_call 43; (with_reducible refine HF.out.mono ?_); rintro e w1 ⟨rfl, hB1⟩
       have o1 : w1.heap[w.heap.size]? = some (.cells #[encStr [], encStr [], .int .u16 0, .int .u32 0, .bool false, .bool false] 52) := (hB1.block w.heap.size (by simp)).trans (heap_alloc_new w _)
       have hB := below_then b0 hB1
       have HO1 := Lib.hid o1
       clear o1)
    | ((with_reducible refine at_store 52 4 rfl ?_)
       refine wpList_store_rowN rfl 52 (.tmp 4) (.tmp 15) rfl w.heap.size #[encStr id, encStr number, .int .u16 (at_ : Int), .int .u32 (move : Int), .bool barred, .bool waiting] rfl rfl 52 #[encStr [], encStr [], .int .u16 0, .int .u32 0, .bool false, .bool false] HO1.out infoHome rfl (by simp [Value.oneCell']) ?_
       intro w2 o2 hs2 hg2
       have hB2 := hB.grown hg2 hB.size (fun j hj => by cases hj; exact Nat.le_refl _)
       have HO2 := Lib.hid o2
       clear o2)
    | fail)
  exact bodyPost_ret (results_cell_tmp (p := 4) (q := 5) rfl _ _ w.heap.size 52 #[encStr id, encStr number, .int .u16 (at_ : Int), .int .u32 (move : Int), .bool barred, .bool waiting] (0, 0) _ rfl HO2.out Tryz.underlying52 rfl infoHome) rfl ⟨rfl, hB2⟩

set_option maxHeartbeats 2000000 in
set_option maxRecDepth 100000 in
theorem storeVisit_any (w : World) (g : Nat) (F : List Nat) (S : St) (h : StAt w g F S) (k : List UInt8) (hl : k.length ≤ maxLen) :
    Calls Tryz.prog 21 #[.pointer (some ⟨g, 0, none⟩), encStr k] w fun e w' => e = .returned (.tuple #[((visitOf S k).getD visitZero).val, .int .i64 (if (visitOf S k).isSome then 0 else 7)]) ∧ Below w.heap.size w w' := by
  obtain ⟨m1, m2, m3, m4, A, c, ho, _, ⟨f1, h1, t1⟩, ⟨f2, h2, t2⟩⟩ := h.parts
  have hlt : g < w.heap.size := (Array.getElem?_eq_some_iff.1 ho).1
  have b0 := (Below.refl w.heap.size w).alloc (Nat.le_refl _) (.cells #[encStr [], encStr [], .int .u16 0, .int .u32 0, .int .u16 0, encStr []] 54)
  have k0 : (w.alloc (.cells #[encStr [], encStr [], .int .u16 0, .int .u32 0, .int .u16 0, encStr []] 54)).cell? ⟨g, 1, none⟩ = some m2 := stObj_cell ((b0.block g hlt).trans ho) 1
  have hf := foundVisit_any _ m2 S.puts f2 (h2.below b0) k hl (visitOf S k) (t2.get k)
  generalize visitOf S k = o at *
  generalize (if o.isSome then (0 : Int) else 7) = er at *
  obtain ⟨r, hr⟩ : ∃ r, r = o.getD visitZero := ⟨_, rfl⟩
  rw [← hr] at hf ⊢
  obtain ⟨id, number, home, move, area, roam⟩ := r
  unfold VisitR.val VisitR.cells at *
  have HF := Lib.hid hf
  clear hf hr h1 h2 t1 t2 h ho
  go_enter Tryz.func21, Tryz.ntmps21
  go_wp2_with (first
    | (go_at_call 45; (with_reducible refine HF.out.mono ?_); rintro e w1 ⟨rfl, hB1⟩
       have o1 : w1.heap[w.heap.size]? = some (.cells #[encStr [], encStr [], .int .u16 0, .int .u32 0, .int .u16 0, encStr []] 54) := (hB1.block w.heap.size (by simp)).trans (heap_alloc_new w _)
       have hB := below_then b0 hB1
       have HO1 := Lib.hid o1
       clear o1)
    | ((with_reducible refine at_store 54 4 rfl ?_)
       refine wpList_store_rowN rfl 54 (.tmp 4) (.tmp 15) rfl w.heap.size #[encStr id, encStr number, .int .u16 (home : Int), .int .u32 (move : Int), .int .u16 (area : Int), encStr roam] rfl rfl 54 #[encStr [], encStr [], .int .u16 0, .int .u32 0, .int .u16 0, encStr []] HO1.out infoVisit rfl (by simp [Value.oneCell']) ?_
       intro w2 o2 hs2 hg2
       have hB2 := hB.grown hg2 hB.size (fun j hj => by cases hj; exact Nat.le_refl _)
       have HO2 := Lib.hid o2
       clear o2)
    | fail)
  exact bodyPost_ret (results_cell_tmp (p := 4) (q := 5) rfl _ _ w.heap.size 54 #[encStr id, encStr number, .int .u16 (home : Int), .int .u32 (move : Int), .int .u16 (area : Int), encStr roam] (0, 0) _ rfl HO2.out Tryz.underlying54 rfl infoVisit) rfl ⟨rfl, hB2⟩

end Go.Proofs.YthbbmpelldglmaaGreatDoor
/- The library's strings.Compare in this program: its functions are those of the shelf's contract. -/
namespace Go.Proofs.YthbbmpelldglmaaGreatDoor
set_option linter.unusedVariables false
set_option linter.unusedSimpArgs false
open Go.Shelf

def laysCompareRen : Go.Shelf.Ren := ⟨fun | 106 => 90 | 213 => 104 | 265 => 130 | n => n, fun | 9 => 9 | 3 => 3 | n => n, fun | n => n⟩
theorem laysCompare : Lays.n106 Tryz.prog laysCompareRen where
  mixed := by kernel_rfl
  f106 := Tryz.func90.trans (congrArg some (by kernel_rfl))
  f213 := Tryz.func104.trans (congrArg some (by kernel_rfl))
  f265 := Tryz.func130.trans (congrArg some (by kernel_rfl))
  t3 := Tryz.underlying3
  a3 := Tryz.isAgg3
  z3 := Tryz.sizeOf3
  v3 := Tryz.zeroValue3
  t9 := Tryz.underlying9
  a9 := Tryz.isAgg9
  z9 := Tryz.sizeOf9
  v9 := Tryz.zeroValue9
end Go.Proofs.YthbbmpelldglmaaGreatDoor
/- The library's slices.SortFunc at strings in this program: its functions are those of the shelf's contract. -/
namespace Go.Proofs.YthbbmpelldglmaaGreatDoor
set_option linter.unusedVariables false
set_option linter.unusedSimpArgs false
open Go.Shelf

def laysSortRen : Go.Shelf.Ren := ⟨fun | 6 => 89 | 15 => 103 | 14 => 102 | 28 => 128 | 29 => 129 | 20 => 120 | 21 => 121 | 22 => 122 | 23 => 123 | 24 => 124 | 25 => 125 | 26 => 126 | 27 => 127 | 46 => 148 | 47 => 149 | 48 => 150 | 49 => 151 | 50 => 152 | 57 => 158 | n => n, fun | 22 => 136 | 24 => 9 | 25 => 161 | 3 => 3 | 39 => 124 | 0 => 0 | 53 => 50 | 55 => 214 | 4 => 4 | 46 => 206 | 45 => 205 | 50 => 210 | 5 => 5 | 9 => 9 | 66 => 230 | 70 => 216 | 76 => 238 | 77 => 239 | n => n, fun | n => n⟩
theorem laysSort : SlLaysF.n6 Tryz.prog laysSortRen where
  mixed := by kernel_rfl
  f6 := ⟨ "slices.SortFunc[[]string,string]", by decide, Tryz.func89.trans (congrArg some (by kernel_rfl))⟩
  f14 := ⟨ "slices.pdqsortCmpFunc[string]", by decide, Tryz.func102.trans (congrArg some (by kernel_rfl))⟩
  f15 := Tryz.func103.trans (congrArg some (by kernel_rfl))
  f20 := ⟨ "slices.insertionSortCmpFunc[string]", by decide, Tryz.func120.trans (congrArg some (by kernel_rfl))⟩
  f21 := ⟨ "slices.heapSortCmpFunc[string]", by decide, Tryz.func121.trans (congrArg some (by kernel_rfl))⟩
  f22 := ⟨ "slices.breakPatternsCmpFunc[string]", by decide, Tryz.func122.trans (congrArg some (by kernel_rfl))⟩
  f23 := ⟨ "slices.choosePivotCmpFunc[string]", by decide, Tryz.func123.trans (congrArg some (by kernel_rfl))⟩
  f24 := ⟨ "slices.reverseRangeCmpFunc[string]", by decide, Tryz.func124.trans (congrArg some (by kernel_rfl))⟩
  f25 := ⟨ "slices.partialInsertionSortCmpFunc[string]", by decide, Tryz.func125.trans (congrArg some (by kernel_rfl))⟩
  f26 := ⟨ "slices.partitionEqualCmpFunc[string]", by decide, Tryz.func126.trans (congrArg some (by kernel_rfl))⟩
  f27 := ⟨ "slices.partitionCmpFunc[string]", by decide, Tryz.func127.trans (congrArg some (by kernel_rfl))⟩
  f28 := Tryz.func128.trans (congrArg some (by kernel_rfl))
  f29 := Tryz.func129.trans (congrArg some (by kernel_rfl))
  f46 := ⟨ "slices.siftDownCmpFunc[string]", by decide, Tryz.func148.trans (congrArg some (by kernel_rfl))⟩
  f47 := Tryz.func149.trans (congrArg some (by kernel_rfl))
  f48 := Tryz.func150.trans (congrArg some (by kernel_rfl))
  f49 := ⟨ "slices.medianAdjacentCmpFunc[string]", by decide, Tryz.func151.trans (congrArg some (by kernel_rfl))⟩
  f50 := ⟨ "slices.medianCmpFunc[string]", by decide, Tryz.func152.trans (congrArg some (by kernel_rfl))⟩
  f57 := ⟨ "slices.order2CmpFunc[string]", by decide, Tryz.func158.trans (congrArg some (by kernel_rfl))⟩
  t0 := Tryz.underlying0
  a0 := Tryz.isAgg0
  z0 := Tryz.sizeOf0
  v0 := Tryz.zeroValue0
  t3 := Tryz.underlying3
  a3 := Tryz.isAgg3
  z3 := Tryz.sizeOf3
  v3 := Tryz.zeroValue3
  t4 := Tryz.underlying4
  a4 := Tryz.isAgg4
  z4 := Tryz.sizeOf4
  v4 := Tryz.zeroValue4
  t5 := Tryz.underlying5
  a5 := Tryz.isAgg5
  z5 := Tryz.sizeOf5
  v5 := Tryz.zeroValue5
  t9 := Tryz.underlying9
  a9 := Tryz.isAgg9
  z9 := Tryz.sizeOf9
  v9 := Tryz.zeroValue9
  t22 := Tryz.underlying136
  a22 := Tryz.isAgg136
  z22 := Tryz.sizeOf136
  v22 := Tryz.zeroValue136
  a24 := Tryz.isAgg9
  z24 := Tryz.sizeOf9
  t25 := Tryz.underlying161
  a25 := Tryz.isAgg161
  z25 := Tryz.sizeOf161
  v25 := Tryz.zeroValue161
  t39 := Tryz.underlying124
  a39 := Tryz.isAgg124
  z39 := Tryz.sizeOf124
  v39 := Tryz.zeroValue124
  t45 := Tryz.underlying205
  a45 := Tryz.isAgg205
  z45 := Tryz.sizeOf205
  v45 := Tryz.zeroValue205
  t46 := Tryz.underlying206
  a46 := Tryz.isAgg206
  z46 := Tryz.sizeOf206
  v46 := Tryz.zeroValue206
  t50 := Tryz.underlying210
  a50 := Tryz.isAgg210
  z50 := Tryz.sizeOf210
  v50 := Tryz.zeroValue210
  t53 := Tryz.underlying50
  a53 := Tryz.isAgg50
  z53 := Tryz.sizeOf50
  v53 := Tryz.zeroValue50
  t55 := Tryz.underlying214
  a55 := Tryz.isAgg214
  z55 := Tryz.sizeOf214
  v55 := Tryz.zeroValue214
  t66 := Tryz.underlying230
  a66 := Tryz.isAgg230
  z66 := Tryz.sizeOf230
  v66 := Tryz.zeroValue230
  t70 := Tryz.underlying216
  a70 := Tryz.isAgg216
  z70 := Tryz.sizeOf216
  v70 := Tryz.zeroValue216
  t76 := Tryz.underlying238
  a76 := Tryz.isAgg238
  z76 := Tryz.sizeOf238
  v76 := Tryz.zeroValue238
  t77 := Tryz.underlying239
  a77 := Tryz.isAgg239
  z77 := Tryz.sizeOf239
  v77 := Tryz.zeroValue239
end Go.Proofs.YthbbmpelldglmaaGreatDoor
/- Strings sorted by the library, in a row of the call's own. -/
namespace Go.Proofs.YthbbmpelldglmaaGreatDoor
set_option linter.unusedVariables false
set_option linter.unusedSimpArgs false
open Go.RowKit Go.Sort Go.Shelf

theorem compare_cases : ∀ a b : List UInt8, (Lib.compareBytes a b < 0 ↔ a < b) ∧ (Lib.compareBytes a b = 0 ↔ a = b)
  | [], [] => by simp [Lib.compareBytes]
  | [], _ :: _ => by simp [Lib.compareBytes]
  | _ :: _, [] => by simp [Lib.compareBytes]
  | a :: r, b :: bs => by
    obtain ⟨h1, h2⟩ := compare_cases r bs
    unfold Lib.compareBytes
    by_cases h : a < b
    · have hne : a ≠ b := fun e => by subst e; exact absurd h (UInt8.lt_irrefl a)
      rw [if_pos h]
      refine ⟨⟨fun _ => ?_, fun _ => by omega⟩, ⟨fun e => by omega, fun e => ?_⟩⟩
      · rw [List.cons_lt_cons_iff]; exact .inl h
      · injection e with e1 e2; exact absurd e1 hne
    · rw [if_neg h]
      by_cases h' : b < a
      · have hne : a ≠ b := fun e => by subst e; exact absurd h' (UInt8.lt_irrefl a)
        rw [if_pos h']
        refine ⟨⟨fun e => by omega, fun e => ?_⟩, ⟨fun e => by omega, fun e => ?_⟩⟩
        · rw [List.cons_lt_cons_iff] at e
          rcases e with e | e
          · exact absurd e h
          · exact absurd e.1 hne
        · injection e with e1 e2; exact absurd e1 hne
      · have he : a = b := by
          rw [UInt8.lt_iff_toNat_lt] at h h'
          exact UInt8.toNat_inj.1 (by omega)
        subst he
        rw [if_neg h']
        refine ⟨?_, ?_⟩
        · rw [h1, List.cons_lt_cons_iff]
          constructor
          · intro e; exact .inr ⟨rfl, e⟩
          · rintro (e | e)
            · exact absurd e h
            · exact e.2
        · rw [h2]
          constructor
          · intro e; rw [e]
          · intro e; injection e
theorem ltB (x y : List UInt8) : ltOf Lib.compareBytes x y = decide (x < y) := by
  unfold ltOf
  simp only [(compare_cases x y).1]
theorem swoB : SWO (ltOf Lib.compareBytes) where
  irrefl x := by rw [ltB]; simp
  trans x y z h1 h2 := by rw [ltB] at *; simp only [decide_eq_true_eq] at *; exact List.lt_trans h1 h2
  ntrans x y z h1 h2 := by
    rw [ltB] at *
    simp only [decide_eq_false_iff_not, List.not_lt] at *
    exact List.le_trans h2 h1
theorem oneStr : OneCell (encStr) := fun _ => rfl

theorem cmpReadsStr (blk off size : Nat) (w : World) : CmpReads Tryz.prog 90 #[] encStr Lib.compareBytes blk off size w := fun m os dk hs x y => by
  have h := Any.strings_Compare laysCompare ⟨x.toArray⟩ ⟨y.toArray⟩ (sortWorld encStr w blk off m dk os)
  exact h.mono fun _ _ ⟨h1, h2⟩ => ⟨h1, 0, h2⟩

/-- 'slices.SortFunc(keys, strings.Compare)' -/
theorem sort_any (w : World) (B g c : Nat) (ss : List (List UInt8)) (h : Row w B 9 1 (some ⟨g, 0, none⟩) ss.length c (ss.map encStr)) (hle : ss.length ≤ 1000000) :
    Calls Tryz.prog 89 #[.slice (some ⟨g, 0, none⟩) ss.length c, .func (.func 90) #[] #[]] w fun e w' =>
      e = .returned (.tuple #[]) ∧ Row w' B 9 1 (some ⟨g, 0, none⟩) ss.length c ((ss.mergeSort leB).map encStr) ∧ w.grownBy w' (some g) := by
  have eg : ∀ args w, (callFunc 90 args).run Tryz.prog w = .ok (.enter 90 args) w := enters_of Tryz.func90 (by kernel_rfl) rfl
  rcases h.2 with ⟨h0, _⟩ | ⟨g', cur, he, hb, hg, h1, h2, h3, h4⟩
  · cases h0
  injection he with he
  injection he with he
  subst he
  rw [Nat.mul_one] at h4
  have hH : Holds encStr w g 0 ss.toArray := holds_of_block hg h4
  have hsz : ss.toArray.size < 4611686018427387904 := by simp; omega
  have hT : ∀ x y : List UInt8, ltOf Lib.compareBytes x y = false → ltOf Lib.compareBytes y x = false → x = y := fun x y h5 h6 => by
    rw [ltB] at *
    simp only [decide_eq_false_iff_not, List.not_lt] at *
    exact List.le_antisymm h6 h5
  have hcon := Any.slices_SortFunc_total laysSort encStr oneStr Lib.compareBytes swoB 90 #[] g 0 c ss.toArray w eg (cmpReadsStr _ _ _ _).lays hH (Array.getElem?_eq_some_iff.1 hg).1 hsz hT
  change Calls Tryz.prog 89 _ _ _ at hcon
  have hcmp : (fun x y : List UInt8 => !(ltOf Lib.compareBytes) y x) = leB := by
    funext x y
    rw [ltB, leB, Bool.eq_iff_iff]
    simp [List.not_lt]
  rw [hcmp] at hcon
  simp only [List.size_toArray] at hcon
  refine hcon.mono ?_
  rintro e w' ⟨rfl, n, os, rfl⟩
  refine ⟨rfl, ⟨by simp, .inr ⟨g, _, rfl, hb, heap_sorted _ hg, h1, h2, by simpa [putCells] using h3, ?_⟩⟩, grownBy_sorted _⟩
  have := take_putCells cur (ss.mergeSort leB) (by simp; omega)
  simpa using this

/-- the keys that were met, sorted, are the records' keys -/
theorem sorted_keys {α : Type} {D : DataW Value} {f : List UInt8 → Option Value} {l : List α} {kf : α → List UInt8} (hD : Is D f) (hf : ∀ k, (f k).isSome = true ↔ ∃ x ∈ l, kf x = k) (hs : l.Pairwise fun a b => kf a < kf b)
    {left : Lit → Bool} {ss : List (List UInt8)} (hC : Collected D left ss) (hl : ∀ kl, left kl = false) : ss.mergeSort leB = l.map kf ∧ ss.length = l.length := by
  have hnd : (l.map kf).Nodup := List.pairwise_map.2 (hs.imp fun {a b} h e => by rw [e] at h; exact List.lt_irrefl _ h)
  have hp : ss.Perm (l.map kf) := by
    refine (List.perm_ext_iff_of_nodup hC.1 hnd).2 fun x => ?_
    rw [hC.2 x, hl, hD.has, hf]
    simp
  have hsort : (l.map kf).Pairwise fun a b => leB a b = true := List.pairwise_map.2 (hs.imp fun {a b} h => by simp only [leB, decide_eq_true_eq]; exact List.le_of_lt h)
  refine ⟨?_, by simpa using hp.length_eq⟩
  rw [mergeSort_of_perm hp]
  exact List.mergeSort_of_pairwise hsort
end Go.Proofs.YthbbmpelldglmaaGreatDoor
