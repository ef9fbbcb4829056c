/- Package units: Check, Encode. -/
import Derived.Test.YthbbmpelldglmaaDoorBits
import Derived.Deep.RegionHeld3
namespace Go.Proofs.YthbbmpelldglmaaDoor
set_option linter.unusedVariables false
set_option linter.unusedSimpArgs false
open Go.RowKit

/-- a unit -/
structure Un where
  back : Nat
  bb : Bool
  fore : Nat
  fb : Bool
  kind : Nat
  st : Nat
  load : List UInt8
structure Un.Ok (u : Un) : Prop where
  hb : u.back < 128
  hf : u.fore < 128
  hk : (u.kind = 0 ∧ u.st = 0 ∧ u.load = []) ∨ (u.kind = 1 ∧ u.st ≤ 5 ∧ u.load = []) ∨ (u.kind = 2 ∧ u.st = 0 ∧ 2 ≤ u.load.length ∧ u.load.length ≤ 273)
def Un.val (u : Un) (A : Option Addr) (c : Nat) : Value := .agg #[.int .u8 u.back, .bool u.bb, .int .u8 u.fore, .bool u.fb, .int .u8 u.kind, .int .u8 u.st, .slice A u.load.length c]
def Un.cells (u : Un) (A : Option Addr) (c : Nat) : Array Value := #[.int .u8 u.back, .bool u.bb, .int .u8 u.fore, .bool u.fb, .int .u8 u.kind, .int .u8 u.st, .slice A u.load.length c]
def Un.rest (u : Un) : List UInt8 := if u.kind = 1 then [UInt8.ofNat u.st] else u.load
def numB (n : Nat) (b : Bool) : UInt8 := UInt8.ofNat (if b then n + 128 else n)
def Un.octets (u : Un) : List UInt8 := [numB u.back u.bb, numB u.fore u.fb, UInt8.ofNat (min u.rest.length 63)] ++ u.rest
theorem numB_nat (n : Nat) (b : Bool) (h : n < 128) : (numB n b).toNat = if b then n + 128 else n := by
  unfold numB; rw [UInt8.toNat_ofNat']; split <;> omega
theorem or128 : ∀ n, n < 128 → n ||| 128 = n + 128 := by decide +kernel
theorem Un.Ok.rest_len {u : Un} (h : u.Ok) : u.rest.length ≤ 273 := by
  unfold Un.rest
  rcases h.hk with ⟨hk, _, hl⟩ | ⟨hk, _, hl⟩ | ⟨hk, _, _, hl⟩
  · rw [if_neg (by omega), hl]; simp
  · rw [if_pos hk]; simp
  · rw [if_neg (by omega)]; exact hl

set_option maxHeartbeats 2000000 in
set_option maxRecDepth 100000 in
theorem unitCheck_any (u : Un) (h : u.Ok) (A : Option Addr) (c : Nat) (w : World) :
    Calls Tryd.prog 72 #[u.val A c] w fun e w' => e = .returned (.int .i64 0) ∧ Below w.heap.size w w' := by
  obtain ⟨back, bb, fore, fb, kind, st, load⟩ := u
  obtain ⟨hb, hf, hk⟩ := h
  simp only at hb hf hk
  unfold Un.val
  have q1 : ¬ (128 : Int) ≤ (back : Int) := by omega
  have q2 : ¬ (128 : Int) ≤ (fore : Int) := by omega
  rcases hk with ⟨rfl, rfl, rfl⟩ | ⟨rfl, h5, rfl⟩ | ⟨rfl, rfl, h2, h273⟩
  · go_enter Tryd.func72, Tryd.ntmps72
    go_wp2
    go_ret
    exact ⟨rfl, (Below.refl _ _).alloc (Nat.le_refl _) _⟩
  · have q3 : ¬ (5 : Int) < (st : Int) := by omega
    go_enter Tryd.func72, Tryd.ntmps72
    go_wp2
    all_goals go_ret
    all_goals exact ⟨rfl, (Below.refl _ _).alloc (Nat.le_refl _) _⟩
  · have q4 : ¬ (load.length : Int) < 2 := by omega
    have q5 : ¬ (273 : Int) < (load.length : Int) := by omega
    go_enter Tryd.func72, Tryd.ntmps72
    go_wp2
    all_goals go_ret
    all_goals exact ⟨rfl, (Below.refl _ _).alloc (Nat.le_refl _) _⟩

set_option maxHeartbeats 2000000 in
set_option maxRecDepth 100000 in
theorem content_any (u : Un) (h : u.Ok) (A : Option Addr) (c : Nat) (w : World) (hA : RdB w A u.load) :
    Calls Tryd.prog 74 #[u.val A c] w fun e w' => ∃ A' c', e = .returned (.slice A' u.rest.length c') ∧ RdB w' A' u.rest ∧ Below w.heap.size w w' := by
  by_cases hk : u.kind = 1
  · have hr : u.rest = [UInt8.ofNat u.st] := by unfold Un.rest; rw [if_pos hk]
    have hs : u.st ≤ 5 := by rcases h.hk with h | h | h <;> omega
    rw [hr]
    obtain ⟨back, bb, fore, fb, kind, st, load⟩ := u
    simp only at hk hs hA
    unfold Un.val
    have hst : ((UInt8.ofNat st).toNat : Int) = (st : Int) := by rw [UInt8.toNat_ofNat']; omega
    subst hk
    clear hr h
    go_enter Tryd.func74, Tryd.ntmps74
    go_wp2
    go_ret
    refine ⟨_, 1, rfl, ?_, ((Below.refl _ _).alloc (Nat.le_refl _) _).alloc (by simp) _⟩
    intro k v hk
    refine ⟨_, rfl, ?_⟩
    rw [add_lit, show w.heap.size + 1 = (w.alloc (.cells #[.int .u8 (back : Int), .bool bb, .int .u8 (fore : Int), .bool fb, .int .u8 1, .int .u8 (st : Int), .slice A load.length c] 45)).heap.size by simp, cell_of_row _ _ _ _ _ _ (heap_alloc_new _ _)]
    rw [show List.map byteV [UInt8.ofNat st] = [Value.int .u8 (st : Int)] by simp only [List.map, byteV, hst]] at hk
    simpa using hk
  · have hr : u.rest = u.load := by unfold Un.rest; rw [if_neg hk]
    rw [hr]
    obtain ⟨back, bb, fore, fb, kind, st, load⟩ := u
    simp only at hk hA
    unfold Un.val
    have hk2 : ((kind : Int) == 1) = false := by simp; omega
    clear hr h hk
    go_enter Tryd.func74, Tryd.ntmps74
    go_wp2
    go_ret
    exact ⟨A, c, rfl, hA.alloc _, (Below.refl _ _).alloc (Nat.le_refl _) _⟩

set_option maxHeartbeats 2000000 in
set_option maxRecDepth 100000 in
theorem with_any (n : Nat) (b : Bool) (h : n < 128) (w : World) :
    Calls Tryd.prog 73 #[.int .u8 (n : Int), .bool b] w fun e w' => e = .returned (.int .u8 ((numB n b).toNat : Int)) ∧ w = w' := by
  have hn := numB_nat n b h
  have ho := or128 n h
  have hor : bits .or .u8 (n : Int) 128 = ((n + 128 : Nat) : Int) := by
    rw [← ho]
    exact (bits_nat .u8 8 (by decide) (fun n h0 h1 => wraps_u8 n h0 h1) n 128 (by omega) (by omega)).2
  cases b
  · simp only [Bool.false_eq_true, if_false] at hn
    rw [hn]
    go_enter Tryd.func73, Tryd.ntmps73
    go_wp2
    go_ret
    exact ⟨rfl, rfl⟩
  · simp only [if_true] at hn
    rw [hn]
    have HO := Lib.hid hor
    clear hor hn ho
    go_enter Tryd.func73, Tryd.ntmps73
    go_wp2
    go_ret
    refine ⟨?_, rfl⟩
    show Ending.returned (.int .u8 (bits .or .u8 (n : Int) 128)) = _
    rw [HO.out]

set_option maxHeartbeats 2000000 in
set_option maxRecDepth 100000 in
theorem least_any (n : Nat) (w : World) :
    Calls Tryd.prog 75 #[.int .i64 (n : Int), .int .i64 63] w fun e w' => e = .returned (.int .i64 ((min n 63 : Nat) : Int)) ∧ w = w' := by
  by_cases h : n < 63
  · rw [show min n 63 = n by omega]
    go_enter Tryd.func75, Tryd.ntmps75
    go_wp2
    go_ret
    exact ⟨rfl, rfl⟩
  · rw [show min n 63 = 63 by omega]
    go_enter Tryd.func75, Tryd.ntmps75
    go_wp2
    go_ret
    exact ⟨rfl, rfl⟩
theorem RdS.drew_ {w : World} {A : Option Addr} {ss : List (Option Addr × Nat × List UInt8)} (h : RdS w A ss) : RdS w.drew A ss := h
theorem rdS_head (w : World) (A : Option Addr) (c : Nat) (l : List UInt8) (b : List UInt8) (n : Nat) (hn : n = b.length) (hA : RdB w A l) :
    RdS ((w.alloc (.cells (b.map byteV).toArray 5)).alloc (.cells #[.slice (some ⟨w.heap.size, 0, none⟩) n n, .slice A l.length c] 27))
      (some ⟨w.heap.size + 1, 0, none⟩) [(some ⟨w.heap.size, 0, none⟩, n, b), (A, c, l)] := by
  subst hn
  have h1 := heap_alloc2_new w (.cells (b.map byteV).toArray 5) (.cells #[.slice (some ⟨w.heap.size, 0, none⟩) b.length b.length, .slice A l.length c] 27)
  intro k s hk
  match k, hk with
  | 0, hk =>
    obtain rfl : (some ⟨w.heap.size, 0, none⟩, b.length, b) = s := by simpa using hk
    exact ⟨⟨_, rfl, by rw [add_lit, cell_of_row _ _ _ _ _ _ h1]; rfl⟩, (rd_lit w b).alloc _⟩
  | 1, hk =>
    obtain rfl : (A, c, l) = s := by simpa using hk
    exact ⟨⟨_, rfl, by rw [add_lit, cell_of_row _ _ _ _ _ _ h1]; rfl⟩, (hA.alloc _).alloc _⟩
  | k + 2, hk => simp at hk

set_option maxHeartbeats 2000000 in
set_option maxRecDepth 100000 in
theorem encode_any (u : Un) (h : u.Ok) (A : Option Addr) (c : Nat) (w : World) (hA : RdB w A u.load) :
    Calls Tryd.prog 16 #[u.val A c] w fun e w' => ∃ A', e = .returned (.tuple #[.slice A' u.octets.length u.octets.length, .int .i64 0]) ∧ RowB w' w.heap.size A' u.octets.length u.octets ∧ Below w.heap.size w w' := by
  have hck := fun w' => unitCheck_any u h A c w'
  have hct := fun w' hA => content_any u h A c w' hA
  have hrl := h.rest_len
  have hw1 := fun w' => with_any u.back u.bb h.hb w'
  have hw2 := fun w' => with_any u.fore u.fb h.hf w'
  have hlm : (((UInt8.ofNat (min u.rest.length 63)).toNat : Nat) : Int) = ((min u.rest.length 63 : Nat) : Int) := by rw [UInt8.toNat_ofNat']; omega
  have hoct : u.octets = [numB u.back u.bb, numB u.fore u.fb, UInt8.ofNat (min u.rest.length 63)] ++ u.rest := rfl
  generalize u.octets = O at *
  generalize numB u.back u.bb = b0 at *
  generalize numB u.fore u.fb = b1 at *
  have hls := fun w' => least_any u.rest.length w'
  have hmb : ((min u.rest.length 63 : Nat) : Int) % 256 = ((min u.rest.length 63 : Nat) : Int) := by omega
  generalize min u.rest.length 63 = m at *
  generalize hb2 : UInt8.ofNat m = b2 at *
  generalize u.rest = R at *
  clear hb2
  obtain ⟨back, bb, fore, fb, kind, st, load⟩ := u
  simp only at hw1 hw2 hA
  unfold Un.val at *
  have HCK := Lib.hid hck
  have HCT := Lib.hid hct
  have HW1 := Lib.hid hw1
  have HW2 := Lib.hid hw2
  have HLS := Lib.hid hls
  have HO := Lib.hid hoct
  clear hck hct hw1 hw2 hls hoct h
  go_enter Tryd.func16, Tryd.ntmps16
  go_wp2_with (first
    | (go_at_call 72; (with_reducible refine (HCK.out _).mono ?_); rintro e w2 ⟨rfl, hB2⟩
       have bx2 : w2.heap[w.heap.size]? = some (.cells #[.int .u8 (back : Int), .bool bb, .int .u8 (fore : Int), .bool fb, .int .u8 (kind : Int), .int .u8 (st : Int), .slice A load.length c] 45 (0, 0)) := (hB2.block _ (by simp)).trans (heap_alloc_new _ _)
       have y0 : w2.cell? ⟨w.heap.size, 0, none⟩ = some (.int .u8 (back : Int)) := by rw [cell_of_row _ _ _ _ _ _ bx2]; rfl
       have y1 : w2.cell? ⟨w.heap.size, 1, none⟩ = some (.bool bb) := by rw [cell_of_row _ _ _ _ _ _ bx2]; rfl
       have y2 : w2.cell? ⟨w.heap.size, 2, none⟩ = some (.int .u8 (fore : Int)) := by rw [cell_of_row _ _ _ _ _ _ bx2]; rfl
       have y3 : w2.cell? ⟨w.heap.size, 3, none⟩ = some (.bool fb) := by rw [cell_of_row _ _ _ _ _ _ bx2]; rfl
       have y4 : w2.cell? ⟨w.heap.size, 4, none⟩ = some (.int .u8 (kind : Int)) := by rw [cell_of_row _ _ _ _ _ _ bx2]; rfl
       have y5 : w2.cell? ⟨w.heap.size, 5, none⟩ = some (.int .u8 (st : Int)) := by rw [cell_of_row _ _ _ _ _ _ bx2]; rfl
       have y6 : w2.cell? ⟨w.heap.size, 6, none⟩ = some (.slice A load.length c) := by rw [cell_of_row _ _ _ _ _ _ bx2]; rfl)
    | (go_at_call 74; (with_reducible refine (HCT.out _ ((hA.alloc _).below hB2)).mono ?_); rintro e w3 ⟨A3, c3, rfl, hR3, hB3⟩
       have z0 := cell_later hB3 y0
       have z1 := cell_later hB3 y1
       have z2 := cell_later hB3 y2
       have z3 := cell_later hB3 y3)
    | (go_at_call 75; (with_reducible refine (HLS.out _).mono ?_); rintro e w4 ⟨rfl, rfl⟩)
    | fail)
  have hB23 : Below w.heap.size w w3 := ((Below.refl _ _).alloc (Nat.le_refl _) _).trans (((hB2.trans (hB3.mono hB2.size))).mono (by simp))
  clear y0 y1 y2 y3 y4 y5 y6 bx2 hB2 hB3 hA
  have hS : RdS ((w3.alloc (.cells #[.int .u8 (b0.toNat : Int), .int .u8 (b1.toNat : Int), .int .u8 (m : Int)] 5)).alloc (.cells #[.slice (some ⟨w3.heap.size, 0, none⟩) 3 3, .slice A3 R.length c3] 27)).drew
      (some ⟨w3.heap.size + 1, 0, none⟩) [(some ⟨w3.heap.size, 0, none⟩, 3, [b0, b1, b2]), (A3, c3, R)] := by
    have h := rdS_head w3 A3 c3 R [b0, b1, b2] 3 rfl hR3
    rw [show (List.map byteV [b0, b1, b2]).toArray = #[Value.int .u8 (b0.toNat : Int), .int .u8 (b1.toNat : Int), .int .u8 (m : Int)] by simp [byteV, hlm]] at h
    exact RdS.drew_ h
  have hBS := (below_alloc (below_alloc hB23 (.cells #[.int .u8 (b0.toNat : Int), .int .u8 (b1.toNat : Int), .int .u8 (m : Int)] 5)) (.cells #[.slice (some ⟨w3.heap.size, 0, none⟩) 3 3, .slice A3 R.length c3] 27)).drew
  have hX := (below_alloc ((Below.refl w3.heap.size w3).alloc (Nat.le_refl _) (.cells #[.int .u8 (b0.toNat : Int), .int .u8 (b1.toNat : Int), .int .u8 (m : Int)] 5)) (.cells #[.slice (some ⟨w3.heap.size, 0, none⟩) 3 3, .slice A3 R.length c3] 27)).drew
  have X0 := Lib.hid (cell_later hX z0)
  have X1 := Lib.hid (cell_later hX z1)
  have X2 := Lib.hid (cell_later hX z2)
  have X3 := Lib.hid (cell_later hX z3)
  clear hX
  have HS := Lib.hid hS
  have HLM := Lib.hid hlm
  clear hS hlm
  go_region_held3 (fun w' => w'.cell? ⟨w.heap.size, 0, none⟩ = some (.int .u8 (back : Int)) ∧ w'.cell? ⟨w.heap.size, 1, none⟩ = some (.bool bb) ∧ w'.cell? ⟨w.heap.size, 2, none⟩ = some (.int .u8 (fore : Int)) ∧ w'.cell? ⟨w.heap.size, 3, none⟩ = some (.bool fb))
    (first | go_keep | exact ⟨cell_later hB6 X0.out, cell_later hB6 X1.out, cell_later hB6 X2.out, cell_later hB6 X3.out⟩)
    (first
      | (go_at_call 73; (with_reducible refine (HW1.out _).mono ?_); rintro e w5 ⟨rfl, rfl⟩)
      | (go_at_call 73; (with_reducible refine (HW2.out _).mono ?_); rintro e w5 ⟨rfl, rfl⟩)
      | (go_at_call 76
         refine (concat_any (some ⟨w3.heap.size + 1, 0, none⟩) 2 [(some ⟨w3.heap.size, 0, none⟩, 3, [b0, b1, b2]), (A3, c3, R)] _ HS.out (by simp [catS]; omega) (by simp)).mono ?_
         rintro e w6 ⟨A6, c6, rfl, hR6, hB6⟩
         have hle6 := Row.le hR6
         have hcap6 := Row.cap_le hR6)
      | (go_at_call 62; (with_reducible refine (clip_any _ _ _ _ hle6 hcap6).mono ?_); rintro e w7 ⟨rfl, rfl⟩)
      | fail)
  have hcat : catS [(some ⟨w3.heap.size, 0, none⟩, 3, [b0, b1, b2]), (A3, c3, R)] = O := by rw [HO.out]; simp [catS]
  rw [hcat] at hR6
  rw [hcat]
  all_goals go_wp2
  all_goals go_ret2
  all_goals exact ⟨A6, rfl, (Row.clip hR6).mono hBS.size, below_then hBS hB6⟩
end Go.Proofs.YthbbmpelldglmaaDoor
