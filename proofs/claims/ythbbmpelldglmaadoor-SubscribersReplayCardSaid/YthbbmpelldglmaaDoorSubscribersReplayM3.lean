/- Package units: Check, Encode. -/
import Derived.Test.YthbbmpelldglmaaDoorSubscribersReplayM2
import Derived.Deep.RegionHeld3
import Derived.Deep.QuietTactic
import Derived.BigQuiet
import Derived.Test.YthbbmpelldglmaaDoorProg
import Derived.Shelf.Small.Strs
import Derived.Shelf.SlSortCmp.NoneTotal
import Derived.Sort.OwnSorted
namespace Go.Proofs.YthbbmpelldglmaaDoor
set_option linter.unusedVariables false
set_option linter.unusedSimpArgs false
open Go.RowKit

/-- a unit -/
structure Un where
  back : Nat
  bb : Bool
  fore : Nat
  fb : Bool
  kind : Nat
  st : Nat
  load : List UInt8
structure Un.Ok (u : Un) : Prop where
  hb : u.back < 128
  hf : u.fore < 128
  hk : (u.kind = 0 ∧ u.st = 0 ∧ u.load = []) ∨ (u.kind = 1 ∧ u.st ≤ 5 ∧ u.load = []) ∨ (u.kind = 2 ∧ u.st = 0 ∧ 2 ≤ u.load.length ∧ u.load.length ≤ 273)
def Un.val (u : Un) (A : Option Addr) (c : Nat) : Value := .agg #[.int .u8 u.back, .bool u.bb, .int .u8 u.fore, .bool u.fb, .int .u8 u.kind, .int .u8 u.st, .slice A u.load.length c]
def Un.cells (u : Un) (A : Option Addr) (c : Nat) : Array Value := #[.int .u8 u.back, .bool u.bb, .int .u8 u.fore, .bool u.fb, .int .u8 u.kind, .int .u8 u.st, .slice A u.load.length c]
def Un.rest (u : Un) : List UInt8 := if u.kind = 1 then [UInt8.ofNat u.st] else u.load
def numB (n : Nat) (b : Bool) : UInt8 := UInt8.ofNat (if b then n + 128 else n)
def Un.octets (u : Un) : List UInt8 := [numB u.back u.bb, numB u.fore u.fb, UInt8.ofNat (min u.rest.length 63)] ++ u.rest
theorem numB_nat (n : Nat) (b : Bool) (h : n < 128) : (numB n b).toNat = if b then n + 128 else n := by
  unfold numB; rw [UInt8.toNat_ofNat']; split <;> omega
theorem or128 : ∀ n, n < 128 → n ||| 128 = n + 128 := by decide +kernel
theorem Un.Ok.rest_len {u : Un} (h : u.Ok) : u.rest.length ≤ 273 := by
  unfold Un.rest
  rcases h.hk with ⟨hk, _, hl⟩ | ⟨hk, _, hl⟩ | ⟨hk, _, _, hl⟩
  · rw [if_neg (by omega), hl]; simp
  · rw [if_pos hk]; simp
  · rw [if_neg (by omega)]; exact hl

set_option maxHeartbeats 2000000 in
set_option maxRecDepth 100000 in
theorem unitCheck_any (u : Un) (h : u.Ok) (A : Option Addr) (c : Nat) (w : World) :
    Calls Tryd.prog 72 #[u.val A c] w fun e w' => e = .returned (.int .i64 0) ∧ Below w.heap.size w w' := by
  obtain ⟨back, bb, fore, fb, kind, st, load⟩ := u
  obtain ⟨hb, hf, hk⟩ := h
  simp only at hb hf hk
  unfold Un.val
  have q1 : ¬ (128 : Int) ≤ (back : Int) := by omega
  have q2 : ¬ (128 : Int) ≤ (fore : Int) := by omega
  rcases hk with ⟨rfl, rfl, rfl⟩ | ⟨rfl, h5, rfl⟩ | ⟨rfl, rfl, h2, h273⟩
  · go_enter Tryd.func72, Tryd.ntmps72
    go_wp2
    go_ret
    exact ⟨rfl, (Below.refl _ _).alloc (Nat.le_refl _) _⟩
  · have q3 : ¬ (5 : Int) < (st : Int) := by omega
    go_enter Tryd.func72, Tryd.ntmps72
    go_wp2
    all_goals go_ret
    all_goals exact ⟨rfl, (Below.refl _ _).alloc (Nat.le_refl _) _⟩
  · have q4 : ¬ (load.length : Int) < 2 := by omega
    have q5 : ¬ (273 : Int) < (load.length : Int) := by omega
    go_enter Tryd.func72, Tryd.ntmps72
    go_wp2
    all_goals go_ret
    all_goals exact ⟨rfl, (Below.refl _ _).alloc (Nat.le_refl _) _⟩

set_option maxHeartbeats 2000000 in
set_option maxRecDepth 100000 in
theorem content_any (u : Un) (h : u.Ok) (A : Option Addr) (c : Nat) (w : World) (hA : RdB w A u.load) :
    Calls Tryd.prog 74 #[u.val A c] w fun e w' => ∃ A' c', e = .returned (.slice A' u.rest.length c') ∧ RdB w' A' u.rest ∧ Below w.heap.size w w' := by
  by_cases hk : u.kind = 1
  · have hr : u.rest = [UInt8.ofNat u.st] := by unfold Un.rest; rw [if_pos hk]
    have hs : u.st ≤ 5 := by rcases h.hk with h | h | h <;> omega
    rw [hr]
    obtain ⟨back, bb, fore, fb, kind, st, load⟩ := u
    simp only at hk hs hA
    unfold Un.val
    have hst : ((UInt8.ofNat st).toNat : Int) = (st : Int) := by rw [UInt8.toNat_ofNat']; omega
    subst hk
    clear hr h
    go_enter Tryd.func74, Tryd.ntmps74
    go_wp2
    go_ret
    refine ⟨_, 1, rfl, ?_, ((Below.refl _ _).alloc (Nat.le_refl _) _).alloc (by simp) _⟩
    intro k v hk
    refine ⟨_, rfl, ?_⟩
    rw [add_lit, show w.heap.size + 1 = (w.alloc (.cells #[.int .u8 (back : Int), .bool bb, .int .u8 (fore : Int), .bool fb, .int .u8 1, .int .u8 (st : Int), .slice A load.length c] 45)).heap.size by simp, cell_of_row _ _ _ _ _ _ (heap_alloc_new _ _)]
    rw [show List.map byteV [UInt8.ofNat st] = [Value.int .u8 (st : Int)] by simp only [List.map, byteV, hst]] at hk
    simpa using hk
  · have hr : u.rest = u.load := by unfold Un.rest; rw [if_neg hk]
    rw [hr]
    obtain ⟨back, bb, fore, fb, kind, st, load⟩ := u
    simp only at hk hA
    unfold Un.val
    have hk2 : ((kind : Int) == 1) = false := by simp; omega
    clear hr h hk
    go_enter Tryd.func74, Tryd.ntmps74
    go_wp2
    go_ret
    exact ⟨A, c, rfl, hA.alloc _, (Below.refl _ _).alloc (Nat.le_refl _) _⟩

set_option maxHeartbeats 2000000 in
set_option maxRecDepth 100000 in
theorem with_any (n : Nat) (b : Bool) (h : n < 128) (w : World) :
    Calls Tryd.prog 73 #[.int .u8 (n : Int), .bool b] w fun e w' => e = .returned (.int .u8 ((numB n b).toNat : Int)) ∧ w = w' := by
  have hn := numB_nat n b h
  have ho := or128 n h
  have hor : bits .or .u8 (n : Int) 128 = ((n + 128 : Nat) : Int) := by
    rw [← ho]
    exact (bits_nat .u8 8 (by decide) (fun n h0 h1 => wraps_u8 n h0 h1) n 128 (by omega) (by omega)).2
  cases b
  · simp only [Bool.false_eq_true, if_false] at hn
    rw [hn]
    go_enter Tryd.func73, Tryd.ntmps73
    go_wp2
    go_ret
    exact ⟨rfl, rfl⟩
  · simp only [if_true] at hn
    rw [hn]
    have HO := Lib.hid hor
    clear hor hn ho
    go_enter Tryd.func73, Tryd.ntmps73
    go_wp2
    go_ret
    refine ⟨?_, rfl⟩
    show Ending.returned (.int .u8 (bits .or .u8 (n : Int) 128)) = _
    rw [HO.out]

set_option maxHeartbeats 2000000 in
set_option maxRecDepth 100000 in
theorem least_any (n : Nat) (w : World) :
    Calls Tryd.prog 75 #[.int .i64 (n : Int), .int .i64 63] w fun e w' => e = .returned (.int .i64 ((min n 63 : Nat) : Int)) ∧ w = w' := by
  by_cases h : n < 63
  · rw [show min n 63 = n by omega]
    go_enter Tryd.func75, Tryd.ntmps75
    go_wp2
    go_ret
    exact ⟨rfl, rfl⟩
  · rw [show min n 63 = 63 by omega]
    go_enter Tryd.func75, Tryd.ntmps75
    go_wp2
    go_ret
    exact ⟨rfl, rfl⟩
theorem RdS.drew_ {w : World} {A : Option Addr} {ss : List (Option Addr × Nat × List UInt8)} (h : RdS w A ss) : RdS w.drew A ss := h
theorem rdS_head (w : World) (A : Option Addr) (c : Nat) (l : List UInt8) (b : List UInt8) (n : Nat) (hn : n = b.length) (hA : RdB w A l) :
    RdS ((w.alloc (.cells (b.map byteV).toArray 5)).alloc (.cells #[.slice (some ⟨w.heap.size, 0, none⟩) n n, .slice A l.length c] 27))
      (some ⟨w.heap.size + 1, 0, none⟩) [(some ⟨w.heap.size, 0, none⟩, n, b), (A, c, l)] := by
  subst hn
  have h1 := heap_alloc2_new w (.cells (b.map byteV).toArray 5) (.cells #[.slice (some ⟨w.heap.size, 0, none⟩) b.length b.length, .slice A l.length c] 27)
  intro k s hk
  match k, hk with
  | 0, hk =>
    obtain rfl : (some ⟨w.heap.size, 0, none⟩, b.length, b) = s := by simpa using hk
    exact ⟨⟨_, rfl, by rw [add_lit, cell_of_row _ _ _ _ _ _ h1]; rfl⟩, (rd_lit w b).alloc _⟩
  | 1, hk =>
    obtain rfl : (A, c, l) = s := by simpa using hk
    exact ⟨⟨_, rfl, by rw [add_lit, cell_of_row _ _ _ _ _ _ h1]; rfl⟩, (hA.alloc _).alloc _⟩
  | k + 2, hk => simp at hk

set_option maxHeartbeats 2000000 in
set_option maxRecDepth 100000 in
theorem encode_any (u : Un) (h : u.Ok) (A : Option Addr) (c : Nat) (w : World) (hA : RdB w A u.load) :
    Calls Tryd.prog 16 #[u.val A c] w fun e w' => ∃ A', e = .returned (.tuple #[.slice A' u.octets.length u.octets.length, .int .i64 0]) ∧ RowB w' w.heap.size A' u.octets.length u.octets ∧ Below w.heap.size w w' := by
  have hck := fun w' => unitCheck_any u h A c w'
  have hct := fun w' hA => content_any u h A c w' hA
  have hrl := h.rest_len
  have hw1 := fun w' => with_any u.back u.bb h.hb w'
  have hw2 := fun w' => with_any u.fore u.fb h.hf w'
  have hlm : (((UInt8.ofNat (min u.rest.length 63)).toNat : Nat) : Int) = ((min u.rest.length 63 : Nat) : Int) := by rw [UInt8.toNat_ofNat']; omega
  have hoct : u.octets = [numB u.back u.bb, numB u.fore u.fb, UInt8.ofNat (min u.rest.length 63)] ++ u.rest := rfl
  generalize u.octets = O at *
  generalize numB u.back u.bb = b0 at *
  generalize numB u.fore u.fb = b1 at *
  have hls := fun w' => least_any u.rest.length w'
  have hmb : ((min u.rest.length 63 : Nat) : Int) % 256 = ((min u.rest.length 63 : Nat) : Int) := by omega
  generalize min u.rest.length 63 = m at *
  generalize hb2 : UInt8.ofNat m = b2 at *
  generalize u.rest = R at *
  clear hb2
  obtain ⟨back, bb, fore, fb, kind, st, load⟩ := u
  simp only at hw1 hw2 hA
  unfold Un.val at *
  have HCK := Lib.hid hck
  have HCT := Lib.hid hct
  have HW1 := Lib.hid hw1
  have HW2 := Lib.hid hw2
  have HLS := Lib.hid hls
  have HO := Lib.hid hoct
  clear hck hct hw1 hw2 hls hoct h
  go_enter Tryd.func16, Tryd.ntmps16
  go_wp2_with (first
    | (go_at_call 72; (with_reducible refine (HCK.out _).mono ?_); rintro e w2 ⟨rfl, hB2⟩
       have bx2 : w2.heap[w.heap.size]? = some (.cells #[.int .u8 (back : Int), .bool bb, .int .u8 (fore : Int), .bool fb, .int .u8 (kind : Int), .int .u8 (st : Int), .slice A load.length c] 45 (0, 0)) := (hB2.block _ (by simp)).trans (heap_alloc_new _ _)
       have y0 : w2.cell? ⟨w.heap.size, 0, none⟩ = some (.int .u8 (back : Int)) := by rw [cell_of_row _ _ _ _ _ _ bx2]; rfl
       have y1 : w2.cell? ⟨w.heap.size, 1, none⟩ = some (.bool bb) := by rw [cell_of_row _ _ _ _ _ _ bx2]; rfl
       have y2 : w2.cell? ⟨w.heap.size, 2, none⟩ = some (.int .u8 (fore : Int)) := by rw [cell_of_row _ _ _ _ _ _ bx2]; rfl
       have y3 : w2.cell? ⟨w.heap.size, 3, none⟩ = some (.bool fb) := by rw [cell_of_row _ _ _ _ _ _ bx2]; rfl
       have y4 : w2.cell? ⟨w.heap.size, 4, none⟩ = some (.int .u8 (kind : Int)) := by rw [cell_of_row _ _ _ _ _ _ bx2]; rfl
       have y5 : w2.cell? ⟨w.heap.size, 5, none⟩ = some (.int .u8 (st : Int)) := by rw [cell_of_row _ _ _ _ _ _ bx2]; rfl
       have y6 : w2.cell? ⟨w.heap.size, 6, none⟩ = some (.slice A load.length c) := by rw [cell_of_row _ _ _ _ _ _ bx2]; rfl)
    | (go_at_call 74; (with_reducible refine (HCT.out _ ((hA.alloc _).below hB2)).mono ?_); rintro e w3 ⟨A3, c3, rfl, hR3, hB3⟩
       have z0 := cell_later hB3 y0
       have z1 := cell_later hB3 y1
       have z2 := cell_later hB3 y2
       have z3 := cell_later hB3 y3)
    | (go_at_call 75; (with_reducible refine (HLS.out _).mono ?_); rintro e w4 ⟨rfl, rfl⟩)
    | fail)
  have hB23 : Below w.heap.size w w3 := ((Below.refl _ _).alloc (Nat.le_refl _) _).trans (((hB2.trans (hB3.mono hB2.size))).mono (by simp))
  clear y0 y1 y2 y3 y4 y5 y6 bx2 hB2 hB3 hA
  have hS : RdS ((w3.alloc (.cells #[.int .u8 (b0.toNat : Int), .int .u8 (b1.toNat : Int), .int .u8 (m : Int)] 5)).alloc (.cells #[.slice (some ⟨w3.heap.size, 0, none⟩) 3 3, .slice A3 R.length c3] 27)).drew
      (some ⟨w3.heap.size + 1, 0, none⟩) [(some ⟨w3.heap.size, 0, none⟩, 3, [b0, b1, b2]), (A3, c3, R)] := by
    have h := rdS_head w3 A3 c3 R [b0, b1, b2] 3 rfl hR3
    rw [show (List.map byteV [b0, b1, b2]).toArray = #[Value.int .u8 (b0.toNat : Int), .int .u8 (b1.toNat : Int), .int .u8 (m : Int)] by simp [byteV, hlm]] at h
    exact RdS.drew_ h
  have hBS := (below_alloc (below_alloc hB23 (.cells #[.int .u8 (b0.toNat : Int), .int .u8 (b1.toNat : Int), .int .u8 (m : Int)] 5)) (.cells #[.slice (some ⟨w3.heap.size, 0, none⟩) 3 3, .slice A3 R.length c3] 27)).drew
  have hX := (below_alloc ((Below.refl w3.heap.size w3).alloc (Nat.le_refl _) (.cells #[.int .u8 (b0.toNat : Int), .int .u8 (b1.toNat : Int), .int .u8 (m : Int)] 5)) (.cells #[.slice (some ⟨w3.heap.size, 0, none⟩) 3 3, .slice A3 R.length c3] 27)).drew
  have X0 := Lib.hid (cell_later hX z0)
  have X1 := Lib.hid (cell_later hX z1)
  have X2 := Lib.hid (cell_later hX z2)
  have X3 := Lib.hid (cell_later hX z3)
  clear hX
  have HS := Lib.hid hS
  have HLM := Lib.hid hlm
  clear hS hlm
  go_region_held3 (fun w' => w'.cell? ⟨w.heap.size, 0, none⟩ = some (.int .u8 (back : Int)) ∧ w'.cell? ⟨w.heap.size, 1, none⟩ = some (.bool bb) ∧ w'.cell? ⟨w.heap.size, 2, none⟩ = some (.int .u8 (fore : Int)) ∧ w'.cell? ⟨w.heap.size, 3, none⟩ = some (.bool fb))
    (first | go_keep | exact ⟨cell_later hB6 X0.out, cell_later hB6 X1.out, cell_later hB6 X2.out, cell_later hB6 X3.out⟩)
    (first
      | (go_at_call 73; (with_reducible refine (HW1.out _).mono ?_); rintro e w5 ⟨rfl, rfl⟩)
      | (go_at_call 73; (with_reducible refine (HW2.out _).mono ?_); rintro e w5 ⟨rfl, rfl⟩)
      | (go_at_call 76
         refine (concat_any (some ⟨w3.heap.size + 1, 0, none⟩) 2 [(some ⟨w3.heap.size, 0, none⟩, 3, [b0, b1, b2]), (A3, c3, R)] _ HS.out (by simp [catS]; omega) (by simp)).mono ?_
         rintro e w6 ⟨A6, c6, rfl, hR6, hB6⟩
         have hle6 := Row.le hR6
         have hcap6 := Row.cap_le hR6)
      | (go_at_call 62; (with_reducible refine (clip_any _ _ _ _ hle6 hcap6).mono ?_); rintro e w7 ⟨rfl, rfl⟩)
      | fail)
  have hcat : catS [(some ⟨w3.heap.size, 0, none⟩, 3, [b0, b1, b2]), (A3, c3, R)] = O := by rw [HO.out]; simp [catS]
  rw [hcat] at hR6
  rw [hcat]
  all_goals go_wp2
  all_goals go_ret2
  all_goals exact ⟨A6, rfl, (Row.clip hR6).mono hBS.size, below_then hBS hB6⟩
end Go.Proofs.YthbbmpelldglmaaDoor
/- Package units: Decode, Same. -/
namespace Go.Proofs.YthbbmpelldglmaaDoor
set_option linter.unusedVariables false
set_option linter.unusedSimpArgs false
open Go.RowKit

set_option maxHeartbeats 2000000 in
set_option maxRecDepth 100000 in
theorem number_any (n : Nat) (b : Bool) (h : n < 128) (w : World) :
    Calls Tryd.prog 130 #[.int .u8 ((numB n b).toNat : Int)] w fun e w' => e = .returned (.tuple #[.int .u8 (n : Int), .bool b]) ∧ w = w' := by
  have hn := numB_nat n b h
  obtain ⟨x, hx⟩ : ∃ x, x = (numB n b).toNat := ⟨_, rfl⟩
  have e1 : (x : Int) % 128 = (n : Int) := by rw [hx, hn]; split <;> omega
  have e2 : Int.tmod (x : Int) 128 = (n : Int) := by rw [Int.tmod_eq_emod_of_nonneg (by omega)]; exact e1
  have e3 : decide ((128 : Int) ≤ (x : Int)) = b := by
    rw [hx, hn]
    cases b
    · simp; omega
    · simp; omega
  have hlt : x < 256 := by rw [hx]; exact (numB n b).toNat_lt
  rw [← hx]
  have E3 := Lib.hid e3
  clear e3 hx hn
  go_enter Tryd.func130, Tryd.ntmps130
  go_wp2
  go_ret2
  refine ⟨?_, rfl⟩
  show Ending.returned (.tuple #[.int .u8 (n : Int), .bool (decide ((128 : Int) ≤ (x : Int)))]) = _
  rw [E3.out]

section
variable {P : Program}
theorem results_cell_tmp {fn : Func} {p q : Tmp} {ty : TypeId} (h : fn.results = #[.cell p ty, .tmp q]) (tmps : Array Value) (w : World) (g : Nat) (t : TypeId) (cs : Array Value) (fr : Nat × Nat) (d : TypeDesc)
    (hp : tmps.getD p undef = .pointer (some ⟨g, 0, none⟩)) (hg : w.heap[g]? = some (.cells cs t fr))
    (hu : P.underlying ty = some d) (hd : (match d with | .struct _ | .array _ _ => true | _ => false) = true) (hi : (P.info? ty).map (·.size) = some cs.size) :
    (results fn tmps).run P w = .ok (.tuple #[.agg cs, tmps.getD q undef]) w := by
  have hp' : tmps[p]?.getD undef = .pointer (some ⟨g, 0, none⟩) := by simpa using hp
  simp [results, h, hp', asAddr, run_loadVar_row w g t ty cs fr d hg hu hd hi]
end
theorem infoUnit : (Tryd.prog.info? 45).map (·.size) = some 7 := by kernel_rfl

theorem Un.octets_len (u : Un) : u.octets.length = u.rest.length + 3 := by simp [Un.octets]

set_option maxHeartbeats 4000000 in
set_option maxRecDepth 100000 in
theorem decode_two (u : Un) (h : u.Ok) (h2 : u.kind = 2) (A : Option Addr) (c : Nat) (w : World) (hA : RdB w A u.octets) (hc : u.octets.length ≤ c) (hcm : c ≤ 140737488351232) :
    Calls Tryd.prog 83 #[.slice A u.octets.length c] w fun e w' => ∃ A', e = .returned (.tuple #[u.val A' u.load.length, .int .i64 0]) ∧ RowB w' w.heap.size A' u.load.length u.load ∧ Below w.heap.size w w' := by
  have hr : u.rest = u.load := by unfold Un.rest; rw [if_neg (by omega)]
  have hoct : u.octets = [numB u.back u.bb, numB u.fore u.fb, UInt8.ofNat (min u.load.length 63)] ++ u.load := by unfold Un.octets; rw [hr]
  have hll : 2 ≤ u.load.length ∧ u.load.length ≤ 273 ∧ u.st = 0 := by rcases h.hk with h | h | h <;> omega
  have hn1 := fun w' => number_any u.back u.bb h.hb w'
  have hn2 := fun w' => number_any u.fore u.fb h.hf w'
  have hlen := u.octets_len
  rw [hr] at hlen
  obtain ⟨ad, rfl, hc0⟩ := hA.get (k := 0) (by omega)
  obtain ⟨_, e, hc1⟩ := hA.get (k := 1) (by omega)
  injection e with e
  subst e
  obtain ⟨_, e, hc2⟩ := hA.get (k := 2) (by omega)
  injection e with e
  subst e
  have g0 : (u.octets[0]'(by omega)) = numB u.back u.bb := by simp [hoct]
  have g1 : (u.octets[1]'(by omega)) = numB u.fore u.fb := by simp [hoct]
  have g2 : ((u.octets[2]'(by omega)).toNat : Int) = ((min u.load.length 63 : Nat) : Int) := by
    have : (u.octets[2]'(by omega)) = UInt8.ofNat (min u.load.length 63) := by simp [hoct]
    rw [this, UInt8.toNat_ofNat']
    omega
  rw [g0] at hc0
  rw [g1] at hc1
  rw [g2] at hc2
  have hdrop : u.octets.drop 3 = u.load := by rw [hoct]; rfl
  have hcl := fun w1 (hb : Below w.heap.size w w1) => clone_any (some (ad.add 3)) (c - 3) u.load w1 (by rw [← hdrop]; exact (hA.below hb).drop 3) (by omega)
  have hls := fun w' => least_any u.load.length w'
  have hml : min u.load.length 63 < 256 := by omega
  rw [show ad.add 2 = ⟨ad.block, ad.off + 2, none⟩ from add_succ ad 1] at hc2
  rw [show ad.add 1 = ⟨ad.block, ad.off + 1, none⟩ from add_succ ad 0] at hc1
  rw [show ad.add 0 = ad from by unfold Addr.add; simp] at hc0
  have hsl : ad.add 3 = ⟨ad.block, ad.off + 3, none⟩ := add_succ ad 2
  rw [hsl] at hcl
  clear g0 g1 g2 hdrop hoct hr hA hsl
  generalize u.octets.length = N at *
  obtain ⟨back, bb, fore, fb, kind, st, load⟩ := u
  simp only at hll hn1 hn2 hc0 hc1 hc2 hcl hls hml hlen h2
  unfold Un.val
  generalize numB back bb = b0 at *
  generalize numB fore fb = b1 at *
  generalize min load.length 63 = m at *
  obtain ⟨hl2, hl273, rfl⟩ := hll
  subst h2
  have e1 : (N : Int) - 3 = (load.length : Int) := by omega
  have q0 : (0 : Int) < (N : Int) := by omega
  have q1 : (1 : Int) < (N : Int) := by omega
  have q2 : (2 : Int) < (N : Int) := by omega
  have q3 : (3 : Int) ≤ (N : Int) := by omega
  have q4 : (N : Int) ≤ (c : Int) := by omega
  have hb0 := b0.toNat_lt
  have hb1 := b1.toNat_lt
  have HN1 := Lib.hid hn1
  have HN2 := Lib.hid hn2
  have HCL := Lib.hid hcl
  have HLS := Lib.hid hls
  have HLEN := Lib.hid hlen
  clear hn1 hn2 hcl hls hlen h
  go_enter Tryd.func83, Tryd.ntmps83
  go_wp2
  have Z := (Below.refl w.heap.size w).alloc (Nat.le_refl _) (.cells #[.int .u8 0, .bool false, .int .u8 0, .bool false, .int .u8 0, .int .u8 0, .slice none 0 0] 45)
  have z0 := cell_later Z hc0
  have z1 := cell_later Z hc1
  have z2 := cell_later Z hc2
  have zl := block_lt_of_cell hc2
  have e64 : IntKind.i64.wrap (m : Int) = (m : Int) := by rw [IntKind.wrap_i64]; omega
  go_region_held3 (fun w' => w'.cell? ⟨ad.block, ad.off + 2, none⟩ = some (.int .u8 (m : Int))) (first | go_keep | exact z2)
    (first | (go_at_call 75; (with_reducible refine (HLS.out _).mono ?_); rintro e w4 ⟨rfl, rfl⟩) | fail)
  have e8 : N - 3 = load.length := by omega
  have Z2 := (Z.alloc (by simp) (.cells #[.int .u8 (back : Int), .bool bb, .int .u8 (fore : Int), .bool fb, .int .u8 0, .int .u8 0, .slice none 0 0] 45)).drew
  have E8 := Lib.hid e8
  have G1 := Lib.hid (show ((w.alloc (.cells #[.int .u8 0, .bool false, .int .u8 0, .bool false, .int .u8 0, .int .u8 0, .slice none 0 0] 45)).alloc (.cells #[.int .u8 (back : Int), .bool bb, .int .u8 (fore : Int), .bool fb, .int .u8 0, .int .u8 0, .slice none 0 0] 45)).drew.heap[w.heap.size + 1]? = some (.cells #[.int .u8 (back : Int), .bool bb, .int .u8 (fore : Int), .bool fb, .int .u8 0, .int .u8 0, .slice none 0 0] 45 (0, 0)) from heap_alloc2_new _ _ _)
  have G0 := Lib.hid (show ((w.alloc (.cells #[.int .u8 0, .bool false, .int .u8 0, .bool false, .int .u8 0, .int .u8 0, .slice none 0 0] 45)).alloc (.cells #[.int .u8 (back : Int), .bool bb, .int .u8 (fore : Int), .bool fb, .int .u8 0, .int .u8 0, .slice none 0 0] 45)).drew.heap[w.heap.size]? = some (.cells #[.int .u8 0, .bool false, .int .u8 0, .bool false, .int .u8 0, .int .u8 0, .slice none 0 0] 45 (0, 0)) from heap_alloc2_old _ _ _)
  clear e8
  go_wp2_with (first
    | (go_at_call 130; (with_reducible refine (HN1.out _).mono ?_); rintro e w5 ⟨rfl, rfl⟩)
    | (go_at_call 130; (with_reducible refine (HN2.out _).mono ?_); rintro e w5 ⟨rfl, rfl⟩)
    | (go_at_call 70; rw [E8.out]; (refine (HCL.out _ Z2).mono ?_)
       rintro e w6 ⟨A6, c6, rfl, hR6, hB6⟩
       have o1 := (hB6.block _ (by simp)).trans G1.out
       have o0 := (hB6.block _ (by simp; omega)).trans G0.out
       have y4 : w6.cell? ⟨w.heap.size + 1, 4, none⟩ = some (.int .u8 0) := by rw [cell_of_row _ _ _ _ _ _ o1]; rfl
       have y6 : w6.cell? ⟨w.heap.size + 1, 6, none⟩ = some (.slice none 0 0) := by rw [cell_of_row _ _ _ _ _ _ o1]; rfl
       have k4 : w6.frozen? ⟨w.heap.size + 1, 4, none⟩ = false := frozen_of_row _ _ _ _ _ o1
       have k6 : w6.frozen? ⟨w.heap.size + 1, 6, none⟩ = false := frozen_of_row _ _ _ _ _ o1
       have hle6 := Row.le hR6
       have hcap6 := Row.cap_le hR6)
    | (go_at_call 62; (with_reducible refine (clip_any _ _ _ _ hle6 hcap6).mono ?_); rintro e w7 ⟨rfl, rfl⟩)
    | ((with_reducible refine at_dst 66 rfl ?_); refine wpList_load_row rfl 45 (.tmp 6) rfl (w.heap.size + 1) rfl 45 #[.int .u8 (back : Int), .bool bb, .int .u8 (fore : Int), .bool fb, .int .u8 2, .int .u8 0, .slice A6 load.length load.length] (0, 0) _ (by rw [heap_setCell_same _ _ _ _ _ _ (heap_setCell_same _ _ _ _ _ _ o1)]; rfl) Tryd.underlying45 rfl infoUnit ?_)
    | ((with_reducible refine at_store 45 2 rfl ?_)
       refine wpList_store_rowN rfl 45 (.tmp 2) (.tmp 66) rfl w.heap.size #[.int .u8 (back : Int), .bool bb, .int .u8 (fore : Int), .bool fb, .int .u8 2, .int .u8 0, .slice A6 load.length load.length] rfl rfl 45 #[.int .u8 0, .bool false, .int .u8 0, .bool false, .int .u8 0, .int .u8 0, .slice none 0 0] (by rw [heap_setCell_other _ _ _ _ (by simp), heap_setCell_other _ _ _ _ (by simp)]; exact o0) infoUnit rfl (by simp [Value.oneCell']) ?_
       intro w8 o8 s8 g8)
    | fail)
  have hsz : ((w.alloc (.cells #[.int .u8 0, .bool false, .int .u8 0, .bool false, .int .u8 0, .int .u8 0, .slice none 0 0] 45)).alloc (.cells #[.int .u8 (back : Int), .bool bb, .int .u8 (fore : Int), .bool fb, .int .u8 0, .int .u8 0, .slice none 0 0] 45)).drew.heap.size = w.heap.size + 2 := by simp
  have hlow : ∀ j, A6.map (·.block) = some j → w.heap.size + 2 ≤ j := fun j hj => by
    have := (Row.lt hR6 j hj).1
    omega
  have r1 := RowB.other (k := 4) hR6 (g := w.heap.size + 1) (fun j hj => by have := hlow j hj; omega) (.int .u8 2)
  have r2 := RowB.other (k := 6) r1 (g := w.heap.size + 1) (fun j hj => by have := hlow j hj; omega) (.slice A6 load.length load.length)
  have r3 := Row.kept r2 g8 (fun j hj e => by have := hlow j hj; injection e with e; omega)
  have b6 : Below w.heap.size w w6 := Z2.trans (hB6.mono (by omega))
  have b7 := (b6.setCell (p := ⟨w.heap.size + 1, 4, none⟩) (by simp) (.int .u8 2)).setCell (p := ⟨w.heap.size + 1, 6, none⟩) (by simp) (.slice A6 load.length load.length)
  have b8 := b7.grown g8 b7.size (fun k hk => by injection hk with hk; omega)
  exact bodyPost_ret (results_cell_tmp (p := 2) (q := 3) rfl _ _ w.heap.size 45 _ (0, 0) _ rfl o8 Tryd.underlying45 rfl infoUnit) rfl ⟨A6, rfl, Row.mono (Row.clip r3) (Nat.le_trans (Nat.le_add_right _ 2) (Nat.le_of_eq hsz.symm)), b8⟩
set_option maxHeartbeats 4000000 in
set_option maxRecDepth 100000 in
theorem decode_zero (u : Un) (h : u.Ok) (h2 : u.kind = 0) (A : Option Addr) (c : Nat) (w : World) (hA : RdB w A u.octets) (hc : u.octets.length ≤ c) (hcm : c ≤ 140737488351232) :
    Calls Tryd.prog 83 #[.slice A u.octets.length c] w fun e w' => ∃ A', e = .returned (.tuple #[u.val A' u.load.length, .int .i64 0]) ∧ RowB w' w.heap.size A' u.load.length u.load ∧ Below w.heap.size w w' := by
  have hll : u.load = [] ∧ u.st = 0 := by
    rcases h.hk with ⟨_, h1, h3⟩ | ⟨h0, _, _⟩ | ⟨h0, _, _⟩
    · exact ⟨h3, h1⟩
    · omega
    · omega
  have hr : u.rest = [] := by unfold Un.rest; rw [if_neg (by omega)]; exact hll.1
  have hoct : u.octets = [numB u.back u.bb, numB u.fore u.fb, UInt8.ofNat 0] ++ [] := by unfold Un.octets; rw [hr]; rfl
  have hn1 := fun w' => number_any u.back u.bb h.hb w'
  have hn2 := fun w' => number_any u.fore u.fb h.hf w'
  have hlen : u.octets.length = 3 := by rw [u.octets_len, hr]; rfl
  obtain ⟨ad, rfl, hc0⟩ := hA.get (k := 0) (by omega)
  obtain ⟨_, e, hc1⟩ := hA.get (k := 1) (by omega)
  injection e with e
  subst e
  obtain ⟨_, e, hc2⟩ := hA.get (k := 2) (by omega)
  injection e with e
  subst e
  have g0 : (u.octets[0]'(by omega)) = numB u.back u.bb := by simp [hoct]
  have g1 : (u.octets[1]'(by omega)) = numB u.fore u.fb := by simp [hoct]
  have g2 : ((u.octets[2]'(by omega)).toNat : Int) = 0 := by
    have : (u.octets[2]'(by omega)) = UInt8.ofNat 0 := by simp [hoct]
    rw [this]
    rfl
  rw [g0] at hc0
  rw [g1] at hc1
  rw [g2] at hc2
  rw [show ad.add 2 = ⟨ad.block, ad.off + 2, none⟩ from add_succ ad 1] at hc2
  rw [show ad.add 1 = ⟨ad.block, ad.off + 1, none⟩ from add_succ ad 0] at hc1
  rw [show ad.add 0 = ad from by unfold Addr.add; simp] at hc0
  have hls : ∀ w', Calls Tryd.prog 75 #[.int .i64 0, .int .i64 63] w' fun e w2 => e = .returned (.int .i64 0) ∧ w' = w2 := fun w' => least_any 0 w'
  rw [hlen] at hc ⊢
  clear g0 g1 g2 hoct hr hA hlen
  obtain ⟨back, bb, fore, fb, kind, st, load⟩ := u
  simp only at hll hn1 hn2 hc0 hc1 hc2 h2
  unfold Un.val
  generalize numB back bb = b0 at *
  generalize numB fore fb = b1 at *
  obtain ⟨rfl, rfl⟩ := hll
  subst h2
  have q4 : (3 : Int) ≤ (c : Int) := by omega
  have hb0 := b0.toNat_lt
  have hb1 := b1.toNat_lt
  have HN1 := Lib.hid hn1
  have HN2 := Lib.hid hn2
  have HLS := Lib.hid hls
  clear hn1 hn2 hls h
  go_enter Tryd.func83, Tryd.ntmps83
  go_wp2
  have Z := (Below.refl w.heap.size w).alloc (Nat.le_refl _) (.cells #[.int .u8 0, .bool false, .int .u8 0, .bool false, .int .u8 0, .int .u8 0, .slice none 0 0] 45)
  have z0 := cell_later Z hc0
  have z1 := cell_later Z hc1
  have z2 := cell_later Z hc2
  have zl := block_lt_of_cell hc2
  go_region_held3 (fun w' => w'.cell? ⟨ad.block, ad.off + 2, none⟩ = some (.int .u8 0)) (first | go_keep | exact z2)
    (first | (go_at_call 75; (with_reducible refine (HLS.out _).mono ?_); rintro e w4 ⟨rfl, rfl⟩) | fail)
  go_wp2_with (first
    | (go_at_call 130; (with_reducible refine (HN1.out _).mono ?_); rintro e w5 ⟨rfl, rfl⟩)
    | (go_at_call 130; (with_reducible refine (HN2.out _).mono ?_); rintro e w5 ⟨rfl, rfl⟩)
    | fail)
  all_goals exact bodyPost_ret (results_cell_tmp (p := 2) (q := 3) rfl _ _ w.heap.size 45 #[.int .u8 (back : Int), .bool bb, .int .u8 (fore : Int), .bool fb, .int .u8 0, .int .u8 0, .slice none 0 0] (0, 0) _ rfl (heap_alloc2_old _ _ _) Tryd.underlying45 rfl infoUnit) rfl ⟨none, rfl, RowB.nil _ _, (below_alloc ((Below.refl w.heap.size w).alloc (Nat.le_refl _) _) _).drew⟩

set_option maxHeartbeats 4000000 in
set_option maxRecDepth 100000 in
theorem decode_one (u : Un) (h : u.Ok) (h2 : u.kind = 1) (A : Option Addr) (c : Nat) (w : World) (hA : RdB w A u.octets) (hc : u.octets.length ≤ c) (hcm : c ≤ 140737488351232) :
    Calls Tryd.prog 83 #[.slice A u.octets.length c] w fun e w' => ∃ A', e = .returned (.tuple #[u.val A' u.load.length, .int .i64 0]) ∧ RowB w' w.heap.size A' u.load.length u.load ∧ Below w.heap.size w w' := by
  have hll : u.load = [] ∧ u.st ≤ 5 := by
    rcases h.hk with ⟨h0, _, _⟩ | ⟨_, h1, h3⟩ | ⟨h0, _, _⟩
    · omega
    · exact ⟨h3, h1⟩
    · omega
  have hr : u.rest = [UInt8.ofNat u.st] := by unfold Un.rest; rw [if_pos (by omega)]
  have hoct : u.octets = [numB u.back u.bb, numB u.fore u.fb, UInt8.ofNat 1] ++ [UInt8.ofNat u.st] := by unfold Un.octets; rw [hr]; rfl
  have hn1 := fun w' => number_any u.back u.bb h.hb w'
  have hn2 := fun w' => number_any u.fore u.fb h.hf w'
  have hlen : u.octets.length = 4 := by rw [u.octets_len, hr]; rfl
  obtain ⟨ad, rfl, hc0⟩ := hA.get (k := 0) (by omega)
  obtain ⟨_, e, hc1⟩ := hA.get (k := 1) (by omega)
  injection e with e
  subst e
  obtain ⟨_, e, hc2⟩ := hA.get (k := 2) (by omega)
  injection e with e
  subst e
  obtain ⟨_, e, hc3⟩ := hA.get (k := 3) (by omega)
  injection e with e
  subst e
  have g0 : (u.octets[0]'(by omega)) = numB u.back u.bb := by simp [hoct]
  have g1 : (u.octets[1]'(by omega)) = numB u.fore u.fb := by simp [hoct]
  have g2 : ((u.octets[2]'(by omega)).toNat : Int) = 1 := by
    have : (u.octets[2]'(by omega)) = UInt8.ofNat 1 := by simp [hoct]
    rw [this]
    rfl
  rw [g0] at hc0
  rw [g1] at hc1
  rw [g2] at hc2
  have g3 : ((u.octets[3]'(by omega)).toNat : Int) = (u.st : Int) := by
    have : (u.octets[3]'(by omega)) = UInt8.ofNat u.st := by simp [hoct]
    rw [this, UInt8.toNat_ofNat']
    omega
  rw [g3] at hc3
  rw [show ad.add 3 = ⟨ad.block, ad.off + 3, none⟩ from add_succ ad 2] at hc3
  rw [show ad.add 2 = ⟨ad.block, ad.off + 2, none⟩ from add_succ ad 1] at hc2
  rw [show ad.add 1 = ⟨ad.block, ad.off + 1, none⟩ from add_succ ad 0] at hc1
  rw [show ad.add 0 = ad from by unfold Addr.add; simp] at hc0
  have hls : ∀ w', Calls Tryd.prog 75 #[.int .i64 1, .int .i64 63] w' fun e w2 => e = .returned (.int .i64 1) ∧ w' = w2 := fun w' => least_any 1 w'
  rw [hlen] at hc ⊢
  clear g0 g1 g2 hoct hr hA hlen g3
  obtain ⟨back, bb, fore, fb, kind, st, load⟩ := u
  simp only at hll hn1 hn2 hc0 hc1 hc2 h2 hc3
  unfold Un.val
  generalize numB back bb = b0 at *
  generalize numB fore fb = b1 at *
  obtain ⟨rfl, hst⟩ := hll
  subst h2
  have q4 : (4 : Int) ≤ (c : Int) := by omega
  have hb0 := b0.toNat_lt
  have hb1 := b1.toNat_lt
  have HN1 := Lib.hid hn1
  have HN2 := Lib.hid hn2
  have HLS := Lib.hid hls
  clear hn1 hn2 hls h
  go_enter Tryd.func83, Tryd.ntmps83
  go_wp2
  have Z := (Below.refl w.heap.size w).alloc (Nat.le_refl _) (.cells #[.int .u8 0, .bool false, .int .u8 0, .bool false, .int .u8 0, .int .u8 0, .slice none 0 0] 45)
  have z0 := cell_later Z hc0
  have z1 := cell_later Z hc1
  have z2 := cell_later Z hc2
  have z3 := cell_later Z hc3
  have zl := block_lt_of_cell hc2
  go_region_held3 (fun w' => w'.cell? ⟨ad.block, ad.off + 2, none⟩ = some (.int .u8 1)) (first | go_keep | exact z2)
    (first | (go_at_call 75; (with_reducible refine (HLS.out _).mono ?_); rintro e w4 ⟨rfl, rfl⟩) | fail)
  go_wp2_with (first
    | (go_at_call 130; (with_reducible refine (HN1.out _).mono ?_); rintro e w5 ⟨rfl, rfl⟩)
    | (go_at_call 130; (with_reducible refine (HN2.out _).mono ?_); rintro e w5 ⟨rfl, rfl⟩)
    | fail)
  go_region
  all_goals go_wp2
  all_goals exact bodyPost_ret (results_cell_tmp (p := 2) (q := 3) rfl _ _ w.heap.size 45 #[.int .u8 (back : Int), .bool bb, .int .u8 (fore : Int), .bool fb, .int .u8 1, .int .u8 (st : Int), .slice none 0 0] (0, 0) _ rfl (heap_alloc2_old _ _ _) Tryd.underlying45 rfl infoUnit) rfl ⟨none, rfl, RowB.nil _ _, (below_alloc ((Below.refl w.heap.size w).alloc (Nat.le_refl _) _) _).drew.drew⟩
theorem decode_any (u : Un) (h : u.Ok) (A : Option Addr) (c : Nat) (w : World) (hA : RdB w A u.octets) (hc : u.octets.length ≤ c) (hcm : c ≤ 140737488351232) :
    Calls Tryd.prog 83 #[.slice A u.octets.length c] w fun e w' => ∃ A', e = .returned (.tuple #[u.val A' u.load.length, .int .i64 0]) ∧ RowB w' w.heap.size A' u.load.length u.load ∧ Below w.heap.size w w' := by
  rcases h.hk with h2 | h2 | h2
  · exact decode_zero u h h2.1 A c w hA hc hcm
  · exact decode_one u h h2.1 A c w hA hc hcm
  · exact decode_two u h h2.1 A c w hA hc hcm

set_option maxHeartbeats 1000000 in
set_option maxRecDepth 100000 in
theorem equal_yes (A A2 : Option Addr) (a : List UInt8) (c c2 : Nat) (w : World) (ha : RdB w A a) (hb : RdB w A2 a) (hla : a.length ≤ 140737488351232) :
    Calls Tryd.prog 66 #[.slice A a.length c, .slice A2 a.length c2] w fun e w' => e = .returned (.bool true) ∧ ∃ n, w' = w.drewN n := by
  go_enter Tryd.func66, Tryd.ntmps66
  go_wp2
  go_loopw [5, 13] (fun _ i wr => ∃ k : Nat, k ≤ a.length ∧ i = .int .i64 k ∧ ∃ n, wr = w.drewN n) (fun _ i _ => a.length - (intOf i).toNat)
  case atStart => exact ⟨0, by omega, rfl, 0, rfl⟩
  case round =>
    obtain ⟨k, hk, rfl, n, rfl⟩ := hrel
    by_cases hlt : k < a.length
    · obtain ⟨ad, rfl, hc⟩ := ha.get hlt
      obtain ⟨ad2, rfl, hc2⟩ := hb.get hlt
      generalize a[k] = x at *
      have q1 : (0 : Int) ≤ (k : Int) := by omega
      have q2 : (k : Int) < (a.length : Int) := by omega
      go_wp2
      go_quiet (fail)
      go_wp2
      go_roundw
      case rel => exact ⟨k + 1, by omega, by go_num, n + nq, rfl⟩
      case measure => simp [intOf]; omega
    · go_wp2
      go_ret
      exact ⟨rfl, n, rfl⟩

set_option maxHeartbeats 2000000 in
set_option maxRecDepth 100000 in
theorem unitSame_yes (u : Un) (A A2 : Option Addr) (c c2 : Nat) (w : World) (ha : RdB w A u.load) (hb : RdB w A2 u.load) (hla : u.load.length ≤ 1000000) :
    Calls Tryd.prog 23 #[u.val A c, u.val A2 c2] w fun e w' => e = .returned (.bool true) ∧ Below w.heap.size w w' := by
  obtain ⟨back, bb, fore, fb, kind, st, load⟩ := u
  simp only at ha hb hla
  unfold Un.val
  have he := equal_yes A A2 load c c2 _ ((ha.alloc (.cells #[.int .u8 (back : Int), .bool bb, .int .u8 (fore : Int), .bool fb, .int .u8 (kind : Int), .int .u8 (st : Int), .slice A load.length c] 45)).alloc (.cells #[.int .u8 (back : Int), .bool bb, .int .u8 (fore : Int), .bool fb, .int .u8 (kind : Int), .int .u8 (st : Int), .slice A2 load.length c2] 45)) ((hb.alloc _).alloc _) (by omega)
  have HE := Lib.hid he
  clear he
  go_enter Tryd.func23, Tryd.ntmps23
  go_wp2_with (first
    | (go_at_call 66; (with_reducible refine HE.out.mono ?_); rintro e w2 ⟨rfl, n, rfl⟩)
    | fail)
  all_goals go_ret
  all_goals exact ⟨rfl, below_drewN (below_alloc ((Below.refl w.heap.size w).alloc (Nat.le_refl _) _) _) n⟩
def unitZero : Value := .agg #[.int .u8 0, .bool false, .int .u8 0, .bool false, .int .u8 0, .int .u8 0, .slice none 0 0]
set_option maxHeartbeats 2000000 in
set_option maxRecDepth 100000 in
theorem decode_nil (w : World) :
    Calls Tryd.prog 83 #[.slice none 0 0] w fun e w' => e = .returned (.tuple #[unitZero, .int .i64 5]) ∧ Below w.heap.size w w' := by
  go_enter Tryd.func83, Tryd.ntmps83
  go_wp2
  exact bodyPost_ret (results_cell_tmp (p := 2) (q := 3) rfl _ _ w.heap.size 45 #[.int .u8 0, .bool false, .int .u8 0, .bool false, .int .u8 0, .int .u8 0, .slice none 0 0] (0, 0) _ rfl (heap_alloc_new _ _) Tryd.underlying45 rfl infoUnit) rfl ⟨rfl, (Below.refl w.heap.size w).alloc (Nat.le_refl _) _⟩
end Go.Proofs.YthbbmpelldglmaaDoor
/- Package subscribers: records looked up. -/
namespace Go.Proofs.YthbbmpelldglmaaDoor
set_option linter.unusedVariables false
set_option linter.unusedSimpArgs false
open Go.RowKit

def homeZero : HomeR := ⟨[], [], 0, 0, false, false⟩
def visitZero : VisitR := ⟨[], [], 0, 0, 0, []⟩
theorem zeroHomeV (w : World) : (zeroValue 63).run Tryd.prog w = .ok homeZero.val w := by kernel_rfl
theorem zeroVisitV (w : World) : (zeroValue 172).run Tryd.prog w = .ok visitZero.val w := by kernel_rfl
theorem zeroStrV (w : World) : (zeroValue 9).run Tryd.prog w = .ok (encStr []) w := by kernel_rfl
/-- a map that may be nil -/
def MapV (w : World) (m : Value) (n : Nat) (f : List UInt8 → Option Value) : Prop := (m = .map none ∧ ∀ k, f k = none) ∨ ∃ b, m = .map (some b) ∧ MapIs Tryd.prog 9 w b n f
theorem MapV.look_ok {w : World} {m : Value} {n : Nat} {f : List UInt8 → Option Value} (h : MapV w m n f) {t e : TypeId} (ht : Tryd.prog.underlying t = some (.map 9 e)) {z : Value} (hz : (zeroValue e).run Tryd.prog w = .ok z w) (k : List UInt8) (hl : k.length ≤ maxLen) :
    (Instr.lookup t m (encStr k) true).run Tryd.prog w = .ok (.tuple #[(f k).getD z, .bool (f k).isSome]) w := by
  rcases h with ⟨rfl, h⟩ | ⟨b, rfl, h⟩
  · rw [h k]
    exact Maps.look_nil true (Go.Maps.string_keyed Tryd.underlying9) ht hz (key_str Tryd.underlying9 k hl)
  · exact h.look_ok Tryd.underlying9 ht hz k hl
theorem MapV.below {w w' : World} {m : Value} {n : Nat} {f : List UInt8 → Option Value} (h : MapV w m n f) (hb : Below w.heap.size w w') : MapV w' m n f := by
  rcases h with h | ⟨b, rfl, h⟩
  · exact .inl h
  · exact .inr ⟨b, rfl, h.chg (Chg.of_below [] hb) (by simp)⟩
theorem infoHome : (Tryd.prog.info? 63).map (·.size) = some 6 := by kernel_rfl
theorem infoVisit : (Tryd.prog.info? 172).map (·.size) = some 6 := by kernel_rfl

set_option maxHeartbeats 2000000 in
set_option maxRecDepth 100000 in
theorem foundHome_any (w : World) (m : Value) (n : Nat) (f : List UInt8 → Option Value) (h : MapV w m n f) (k : List UInt8) (hl : k.length ≤ maxLen) (o : Option HomeR) (ho : f k = o.map HomeR.val) :
    Calls Tryd.prog 89 #[m, encStr k] w fun e w' => e = .returned (.tuple #[(o.getD homeZero).val, .int .i64 (if o.isSome then 0 else 7)]) ∧ Below w.heap.size w w' := by
  have hlk := (h.below ((Below.refl w.heap.size w).alloc (Nat.le_refl _) (.cells #[encStr [], encStr [], .int .u16 0, .int .u32 0, .bool false, .bool false] 63))).look_ok Tryd.underlying157 (zeroHomeV _) k hl
  rw [ho] at hlk
  clear h ho hl
  cases o with
  | none =>
    have b0 := (Below.refl w.heap.size w).alloc (Nat.le_refl _) (.cells #[encStr [], encStr [], .int .u16 0, .int .u32 0, .bool false, .bool false] 63)
    unfold homeZero HomeR.val HomeR.cells at *
    simp only [Option.map_none, Option.getD_none, Option.isSome_none, Option.isSome] at hlk ⊢
    go_enter Tryd.func89, Tryd.ntmps89
    go_wp2
    exact bodyPost_ret (results_cell_tmp (p := 4) (q := 5) rfl _ _ w.heap.size 63 #[encStr [], encStr [], .int .u16 0, .int .u32 0, .bool false, .bool false] (0, 0) _ rfl (heap_alloc2_old _ _ _) Tryd.underlying63 rfl infoHome) rfl ⟨rfl, below_alloc b0 _⟩
  | some r =>
    obtain ⟨id, number, at_, move, barred, waiting⟩ := r
    have b0 := (Below.refl w.heap.size w).alloc (Nat.le_refl _) (.cells #[encStr id, encStr number, .int .u16 (at_ : Int), .int .u32 (move : Int), .bool barred, .bool waiting] 63)
    unfold HomeR.val HomeR.cells at *
    simp only [Option.map_some, Option.getD_some, Option.isSome_some, Option.isSome] at hlk ⊢
    go_enter Tryd.func89, Tryd.ntmps89
    go_wp2
    exact bodyPost_ret (results_cell_tmp (p := 4) (q := 5) rfl _ _ w.heap.size 63 #[encStr id, encStr number, .int .u16 (at_ : Int), .int .u32 (move : Int), .bool barred, .bool waiting] (0, 0) _ rfl (heap_alloc2_old _ _ _) Tryd.underlying63 rfl infoHome) rfl ⟨rfl, below_alloc b0 _⟩

set_option maxHeartbeats 2000000 in
set_option maxRecDepth 100000 in
theorem foundVisit_any (w : World) (m : Value) (n : Nat) (f : List UInt8 → Option Value) (h : MapV w m n f) (k : List UInt8) (hl : k.length ≤ maxLen) (o : Option VisitR) (ho : f k = o.map VisitR.val) :
    Calls Tryd.prog 171 #[m, encStr k] w fun e w' => e = .returned (.tuple #[(o.getD visitZero).val, .int .i64 (if o.isSome then 0 else 7)]) ∧ Below w.heap.size w w' := by
  have hlk := (h.below ((Below.refl w.heap.size w).alloc (Nat.le_refl _) (.cells #[encStr [], encStr [], .int .u16 0, .int .u32 0, .int .u16 0, encStr []] 172))).look_ok Tryd.underlying158 (zeroVisitV _) k hl
  rw [ho] at hlk
  clear h ho hl
  cases o with
  | none =>
    have b0 := (Below.refl w.heap.size w).alloc (Nat.le_refl _) (.cells #[encStr [], encStr [], .int .u16 0, .int .u32 0, .int .u16 0, encStr []] 172)
    unfold visitZero VisitR.val VisitR.cells at *
    simp only [Option.map_none, Option.getD_none, Option.isSome_none, Option.isSome] at hlk ⊢
    go_enter Tryd.func171, Tryd.ntmps171
    go_wp2
    exact bodyPost_ret (results_cell_tmp (p := 4) (q := 5) rfl _ _ w.heap.size 172 #[encStr [], encStr [], .int .u16 0, .int .u32 0, .int .u16 0, encStr []] (0, 0) _ rfl (heap_alloc2_old _ _ _) Tryd.underlying172 rfl infoVisit) rfl ⟨rfl, below_alloc b0 _⟩
  | some r =>
    obtain ⟨id, number, home, move, area, roam⟩ := r
    have b0 := (Below.refl w.heap.size w).alloc (Nat.le_refl _) (.cells #[encStr id, encStr number, .int .u16 (home : Int), .int .u32 (move : Int), .int .u16 (area : Int), encStr roam] 172)
    unfold VisitR.val VisitR.cells at *
    simp only [Option.map_some, Option.getD_some, Option.isSome_some, Option.isSome] at hlk ⊢
    go_enter Tryd.func171, Tryd.ntmps171
    go_wp2
    exact bodyPost_ret (results_cell_tmp (p := 4) (q := 5) rfl _ _ w.heap.size 172 #[encStr id, encStr number, .int .u16 (home : Int), .int .u32 (move : Int), .int .u16 (area : Int), encStr roam] (0, 0) _ rfl (heap_alloc2_old _ _ _) Tryd.underlying172 rfl infoVisit) rfl ⟨rfl, below_alloc b0 _⟩

/-- the record of a key -/
theorem Tells.get {α : Type} {f : List UInt8 → Option Value} {l : List α} {kf : α → List UInt8} {vf : α → Value} (h : Tells f l kf vf) (k : List UInt8) [DecidableEq (List UInt8)] : f k = (l.find? fun x => kf x == k).map vf := by
  cases e : l.find? fun x => kf x == k with
  | none =>
    cases e2 : f k with
    | none => rfl
    | some v =>
      obtain ⟨x, hx, hk, _⟩ := (h k v).1 e2
      rw [List.find?_eq_none] at e
      exact absurd (by simpa using hk) (e x hx)
  | some x =>
    have h1 := List.find?_some e
    have h2 := List.mem_of_find?_eq_some e
    exact (h k (vf x)).2 ⟨x, h2, by simpa using h1, rfl⟩
def homeOf (S : St) (id : List UInt8) : Option HomeR := S.homes.find? fun h => h.id == id
def visitOf (S : St) (id : List UInt8) : Option VisitR := S.visits.find? fun v => v.id == id
theorem StAt.parts {w : World} {g : Nat} {F : List Nat} {S : St} (h : StAt w g F S) :
    ∃ m1 m2 m3 m4 A c, w.heap[g]? = some (stObj m1 m2 m3 m4 A S.log.length c S.dur) ∧ RowB w 0 A c S.log ∧ (∃ f, MapV w m1 S.puts f ∧ Tells f S.homes HomeR.id HomeR.val) ∧ (∃ f, MapV w m2 S.puts f ∧ Tells f S.visits VisitR.id VisitR.val) := by
  rcases h with ⟨b1, b2, b3, b4, A, c, rfl, h⟩ | ⟨A, c, rfl, h⟩
  · obtain ⟨f1, h1, t1⟩ := h.maps.homes
    obtain ⟨f2, h2, t2⟩ := h.maps.visits
    exact ⟨_, _, _, _, A, c, h.obj, h.log, ⟨f1, .inr ⟨b1, rfl, h1⟩, t1⟩, ⟨f2, .inr ⟨b2, rfl, h2⟩, t2⟩⟩
  · exact ⟨_, _, _, _, A, c, h.obj, h.log, ⟨fun _ => none, .inl ⟨rfl, fun _ => rfl⟩, by rw [h.homes]; exact Tells.none _ _⟩, ⟨fun _ => none, .inl ⟨rfl, fun _ => rfl⟩, by rw [h.visits]; exact Tells.none _ _⟩⟩

set_option maxHeartbeats 2000000 in
set_option maxRecDepth 100000 in
theorem storeHome_any (w : World) (g : Nat) (F : List Nat) (S : St) (h : StAt w g F S) (k : List UInt8) (hl : k.length ≤ maxLen) :
    Calls Tryd.prog 26 #[.pointer (some ⟨g, 0, none⟩), encStr k] w fun e w' => e = .returned (.tuple #[((homeOf S k).getD homeZero).val, .int .i64 (if (homeOf S k).isSome then 0 else 7)]) ∧ Below w.heap.size w w' := by
  obtain ⟨m1, m2, m3, m4, A, c, ho, _, ⟨f1, h1, t1⟩, ⟨f2, h2, t2⟩⟩ := h.parts
  have hlt : g < w.heap.size := (Array.getElem?_eq_some_iff.1 ho).1
  have b0 := (Below.refl w.heap.size w).alloc (Nat.le_refl _) (.cells #[encStr [], encStr [], .int .u16 0, .int .u32 0, .bool false, .bool false] 63)
  have k0 : (w.alloc (.cells #[encStr [], encStr [], .int .u16 0, .int .u32 0, .bool false, .bool false] 63)).cell? ⟨g, 0, none⟩ = some m1 := stObj_cell ((b0.block g hlt).trans ho) 0
  have hf := foundHome_any _ m1 S.puts f1 (h1.below b0) k hl (homeOf S k) (t1.get k)
  generalize homeOf S k = o at *
  generalize (if o.isSome then (0 : Int) else 7) = er at *
  obtain ⟨r, hr⟩ : ∃ r, r = o.getD homeZero := ⟨_, rfl⟩
  rw [← hr] at hf ⊢
  obtain ⟨id, number, at_, move, barred, waiting⟩ := r
  unfold HomeR.val HomeR.cells at *
  have HF := Lib.hid hf
  clear hf hr h1 h2 t1 t2 h ho
  go_enter Tryd.func26, Tryd.ntmps26
  go_wp2_with (first
    | (go_at_call 89; (with_reducible refine HF.out.mono ?_); rintro e w1 ⟨rfl, hB1⟩
       have o1 : w1.heap[w.heap.size]? = some (.cells #[encStr [], encStr [], .int .u16 0, .int .u32 0, .bool false, .bool false] 63) := (hB1.block w.heap.size (by simp)).trans (heap_alloc_new w _)
       have hB := below_then b0 hB1
       have HO1 := Lib.hid o1
       clear o1)
    | ((with_reducible refine at_store 63 4 rfl ?_)
       refine wpList_store_rowN rfl 63 (.tmp 4) (.tmp 15) rfl w.heap.size #[encStr id, encStr number, .int .u16 (at_ : Int), .int .u32 (move : Int), .bool barred, .bool waiting] rfl rfl 63 #[encStr [], encStr [], .int .u16 0, .int .u32 0, .bool false, .bool false] HO1.out infoHome rfl (by simp [Value.oneCell']) ?_
       intro w2 o2 hs2 hg2
       have hB2 := hB.grown hg2 hB.size (fun j hj => by cases hj; exact Nat.le_refl _)
       have HO2 := Lib.hid o2
       clear o2)
    | fail)
  exact bodyPost_ret (results_cell_tmp (p := 4) (q := 5) rfl _ _ w.heap.size 63 #[encStr id, encStr number, .int .u16 (at_ : Int), .int .u32 (move : Int), .bool barred, .bool waiting] (0, 0) _ rfl HO2.out Tryd.underlying63 rfl infoHome) rfl ⟨rfl, hB2⟩

set_option maxHeartbeats 2000000 in
set_option maxRecDepth 100000 in
theorem storeVisit_any (w : World) (g : Nat) (F : List Nat) (S : St) (h : StAt w g F S) (k : List UInt8) (hl : k.length ≤ maxLen) :
    Calls Tryd.prog 138 #[.pointer (some ⟨g, 0, none⟩), encStr k] w fun e w' => e = .returned (.tuple #[((visitOf S k).getD visitZero).val, .int .i64 (if (visitOf S k).isSome then 0 else 7)]) ∧ Below w.heap.size w w' := by
  obtain ⟨m1, m2, m3, m4, A, c, ho, _, ⟨f1, h1, t1⟩, ⟨f2, h2, t2⟩⟩ := h.parts
  have hlt : g < w.heap.size := (Array.getElem?_eq_some_iff.1 ho).1
  have b0 := (Below.refl w.heap.size w).alloc (Nat.le_refl _) (.cells #[encStr [], encStr [], .int .u16 0, .int .u32 0, .int .u16 0, encStr []] 172)
  have k0 : (w.alloc (.cells #[encStr [], encStr [], .int .u16 0, .int .u32 0, .int .u16 0, encStr []] 172)).cell? ⟨g, 1, none⟩ = some m2 := stObj_cell ((b0.block g hlt).trans ho) 1
  have hf := foundVisit_any _ m2 S.puts f2 (h2.below b0) k hl (visitOf S k) (t2.get k)
  generalize visitOf S k = o at *
  generalize (if o.isSome then (0 : Int) else 7) = er at *
  obtain ⟨r, hr⟩ : ∃ r, r = o.getD visitZero := ⟨_, rfl⟩
  rw [← hr] at hf ⊢
  obtain ⟨id, number, home, move, area, roam⟩ := r
  unfold VisitR.val VisitR.cells at *
  have HF := Lib.hid hf
  clear hf hr h1 h2 t1 t2 h ho
  go_enter Tryd.func138, Tryd.ntmps138
  go_wp2_with (first
    | (go_at_call 171; (with_reducible refine HF.out.mono ?_); rintro e w1 ⟨rfl, hB1⟩
       have o1 : w1.heap[w.heap.size]? = some (.cells #[encStr [], encStr [], .int .u16 0, .int .u32 0, .int .u16 0, encStr []] 172) := (hB1.block w.heap.size (by simp)).trans (heap_alloc_new w _)
       have hB := below_then b0 hB1
       have HO1 := Lib.hid o1
       clear o1)
    | ((with_reducible refine at_store 172 4 rfl ?_)
       refine wpList_store_rowN rfl 172 (.tmp 4) (.tmp 15) rfl w.heap.size #[encStr id, encStr number, .int .u16 (home : Int), .int .u32 (move : Int), .int .u16 (area : Int), encStr roam] rfl rfl 172 #[encStr [], encStr [], .int .u16 0, .int .u32 0, .int .u16 0, encStr []] HO1.out infoVisit rfl (by simp [Value.oneCell']) ?_
       intro w2 o2 hs2 hg2
       have hB2 := hB.grown hg2 hB.size (fun j hj => by cases hj; exact Nat.le_refl _)
       have HO2 := Lib.hid o2
       clear o2)
    | fail)
  exact bodyPost_ret (results_cell_tmp (p := 4) (q := 5) rfl _ _ w.heap.size 172 #[encStr id, encStr number, .int .u16 (home : Int), .int .u32 (move : Int), .int .u16 (area : Int), encStr roam] (0, 0) _ rfl HO2.out Tryd.underlying172 rfl infoVisit) rfl ⟨rfl, hB2⟩

end Go.Proofs.YthbbmpelldglmaaDoor
/- The library's strings.Compare in this program: its functions are those of the shelf's contract. -/
namespace Go.Proofs.YthbbmpelldglmaaDoor
set_option linter.unusedVariables false
set_option linter.unusedSimpArgs false
open Go.Shelf

def laysCompareRen : Go.Shelf.Ren := ⟨fun | 106 => 169 | 213 => 200 | 265 => 220 | n => n, fun | 9 => 9 | 3 => 3 | n => n, fun | n => n⟩
theorem laysCompare : Lays.n106 Tryd.prog laysCompareRen where
  mixed := by kernel_rfl
  f106 := Tryd.func169.trans (congrArg some (by kernel_rfl))
  f213 := Tryd.func200.trans (congrArg some (by kernel_rfl))
  f265 := Tryd.func220.trans (congrArg some (by kernel_rfl))
  t3 := Tryd.underlying3
  a3 := Tryd.isAgg3
  z3 := Tryd.sizeOf3
  v3 := Tryd.zeroValue3
  t9 := Tryd.underlying9
  a9 := Tryd.isAgg9
  z9 := Tryd.sizeOf9
  v9 := Tryd.zeroValue9
end Go.Proofs.YthbbmpelldglmaaDoor
/- The library's slices.SortFunc at strings in this program: its functions are those of the shelf's contract. -/
namespace Go.Proofs.YthbbmpelldglmaaDoor
set_option linter.unusedVariables false
set_option linter.unusedSimpArgs false
open Go.Shelf

def laysSortRen : Go.Shelf.Ren := ⟨fun | 6 => 168 | 15 => 199 | 14 => 198 | 28 => 218 | 29 => 219 | 20 => 210 | 21 => 211 | 22 => 212 | 23 => 213 | 24 => 214 | 25 => 215 | 26 => 216 | 27 => 217 | 46 => 227 | 47 => 228 | 48 => 229 | 49 => 230 | 50 => 231 | 57 => 236 | n => n, fun | 22 => 128 | 24 => 9 | 25 => 284 | 3 => 3 | 39 => 146 | 0 => 0 | 53 => 24 | 55 => 226 | 4 => 4 | 46 => 321 | 45 => 320 | 50 => 305 | 5 => 5 | 9 => 9 | 66 => 332 | 70 => 299 | 76 => 343 | 77 => 344 | n => n, fun | n => n⟩
theorem laysSort : SlLaysF.n6 Tryd.prog laysSortRen where
  mixed := by kernel_rfl
  f6 := ⟨ "slices.SortFunc[[]string,string]", by decide, Tryd.func168.trans (congrArg some (by kernel_rfl))⟩
  f14 := ⟨ "slices.pdqsortCmpFunc[string]", by decide, Tryd.func198.trans (congrArg some (by kernel_rfl))⟩
  f15 := Tryd.func199.trans (congrArg some (by kernel_rfl))
  f20 := ⟨ "slices.insertionSortCmpFunc[string]", by decide, Tryd.func210.trans (congrArg some (by kernel_rfl))⟩
  f21 := ⟨ "slices.heapSortCmpFunc[string]", by decide, Tryd.func211.trans (congrArg some (by kernel_rfl))⟩
  f22 := ⟨ "slices.breakPatternsCmpFunc[string]", by decide, Tryd.func212.trans (congrArg some (by kernel_rfl))⟩
  f23 := ⟨ "slices.choosePivotCmpFunc[string]", by decide, Tryd.func213.trans (congrArg some (by kernel_rfl))⟩
  f24 := ⟨ "slices.reverseRangeCmpFunc[string]", by decide, Tryd.func214.trans (congrArg some (by kernel_rfl))⟩
  f25 := ⟨ "slices.partialInsertionSortCmpFunc[string]", by decide, Tryd.func215.trans (congrArg some (by kernel_rfl))⟩
  f26 := ⟨ "slices.partitionEqualCmpFunc[string]", by decide, Tryd.func216.trans (congrArg some (by kernel_rfl))⟩
  f27 := ⟨ "slices.partitionCmpFunc[string]", by decide, Tryd.func217.trans (congrArg some (by kernel_rfl))⟩
  f28 := Tryd.func218.trans (congrArg some (by kernel_rfl))
  f29 := Tryd.func219.trans (congrArg some (by kernel_rfl))
  f46 := ⟨ "slices.siftDownCmpFunc[string]", by decide, Tryd.func227.trans (congrArg some (by kernel_rfl))⟩
  f47 := Tryd.func228.trans (congrArg some (by kernel_rfl))
  f48 := Tryd.func229.trans (congrArg some (by kernel_rfl))
  f49 := ⟨ "slices.medianAdjacentCmpFunc[string]", by decide, Tryd.func230.trans (congrArg some (by kernel_rfl))⟩
  f50 := ⟨ "slices.medianCmpFunc[string]", by decide, Tryd.func231.trans (congrArg some (by kernel_rfl))⟩
  f57 := ⟨ "slices.order2CmpFunc[string]", by decide, Tryd.func236.trans (congrArg some (by kernel_rfl))⟩
  t0 := Tryd.underlying0
  a0 := Tryd.isAgg0
  z0 := Tryd.sizeOf0
  v0 := Tryd.zeroValue0
  t3 := Tryd.underlying3
  a3 := Tryd.isAgg3
  z3 := Tryd.sizeOf3
  v3 := Tryd.zeroValue3
  t4 := Tryd.underlying4
  a4 := Tryd.isAgg4
  z4 := Tryd.sizeOf4
  v4 := Tryd.zeroValue4
  t5 := Tryd.underlying5
  a5 := Tryd.isAgg5
  z5 := Tryd.sizeOf5
  v5 := Tryd.zeroValue5
  t9 := Tryd.underlying9
  a9 := Tryd.isAgg9
  z9 := Tryd.sizeOf9
  v9 := Tryd.zeroValue9
  t22 := Tryd.underlying128
  a22 := Tryd.isAgg128
  z22 := Tryd.sizeOf128
  v22 := Tryd.zeroValue128
  a24 := Tryd.isAgg9
  z24 := Tryd.sizeOf9
  t25 := Tryd.underlying284
  a25 := Tryd.isAgg284
  z25 := Tryd.sizeOf284
  v25 := Tryd.zeroValue284
  t39 := Tryd.underlying146
  a39 := Tryd.isAgg146
  z39 := Tryd.sizeOf146
  v39 := Tryd.zeroValue146
  t45 := Tryd.underlying320
  a45 := Tryd.isAgg320
  z45 := Tryd.sizeOf320
  v45 := Tryd.zeroValue320
  t46 := Tryd.underlying321
  a46 := Tryd.isAgg321
  z46 := Tryd.sizeOf321
  v46 := Tryd.zeroValue321
  t50 := Tryd.underlying305
  a50 := Tryd.isAgg305
  z50 := Tryd.sizeOf305
  v50 := Tryd.zeroValue305
  t53 := Tryd.underlying24
  a53 := Tryd.isAgg24
  z53 := Tryd.sizeOf24
  v53 := Tryd.zeroValue24
  t55 := Tryd.underlying226
  a55 := Tryd.isAgg226
  z55 := Tryd.sizeOf226
  v55 := Tryd.zeroValue226
  t66 := Tryd.underlying332
  a66 := Tryd.isAgg332
  z66 := Tryd.sizeOf332
  v66 := Tryd.zeroValue332
  t70 := Tryd.underlying299
  a70 := Tryd.isAgg299
  z70 := Tryd.sizeOf299
  v70 := Tryd.zeroValue299
  t76 := Tryd.underlying343
  a76 := Tryd.isAgg343
  z76 := Tryd.sizeOf343
  v76 := Tryd.zeroValue343
  t77 := Tryd.underlying344
  a77 := Tryd.isAgg344
  z77 := Tryd.sizeOf344
  v77 := Tryd.zeroValue344
end Go.Proofs.YthbbmpelldglmaaDoor
/- Strings sorted by the library, in a row of the call's own. -/
namespace Go.Proofs.YthbbmpelldglmaaDoor
set_option linter.unusedVariables false
set_option linter.unusedSimpArgs false
open Go.RowKit Go.Sort Go.Shelf

theorem compare_cases : ∀ a b : List UInt8, (Lib.compareBytes a b < 0 ↔ a < b) ∧ (Lib.compareBytes a b = 0 ↔ a = b)
  | [], [] => by simp [Lib.compareBytes]
  | [], _ :: _ => by simp [Lib.compareBytes]
  | _ :: _, [] => by simp [Lib.compareBytes]
  | a :: r, b :: bs => by
    obtain ⟨h1, h2⟩ := compare_cases r bs
    unfold Lib.compareBytes
    by_cases h : a < b
    · have hne : a ≠ b := fun e => by subst e; exact absurd h (UInt8.lt_irrefl a)
      rw [if_pos h]
      refine ⟨⟨fun _ => ?_, fun _ => by omega⟩, ⟨fun e => by omega, fun e => ?_⟩⟩
      · rw [List.cons_lt_cons_iff]; exact .inl h
      · injection e with e1 e2; exact absurd e1 hne
    · rw [if_neg h]
      by_cases h' : b < a
      · have hne : a ≠ b := fun e => by subst e; exact absurd h' (UInt8.lt_irrefl a)
        rw [if_pos h']
        refine ⟨⟨fun e => by omega, fun e => ?_⟩, ⟨fun e => by omega, fun e => ?_⟩⟩
        · rw [List.cons_lt_cons_iff] at e
          rcases e with e | e
          · exact absurd e h
          · exact absurd e.1 hne
        · injection e with e1 e2; exact absurd e1 hne
      · have he : a = b := by
          rw [UInt8.lt_iff_toNat_lt] at h h'
          exact UInt8.toNat_inj.1 (by omega)
        subst he
        rw [if_neg h']
        refine ⟨?_, ?_⟩
        · rw [h1, List.cons_lt_cons_iff]
          constructor
          · intro e; exact .inr ⟨rfl, e⟩
          · rintro (e | e)
            · exact absurd e h
            · exact e.2
        · rw [h2]
          constructor
          · intro e; rw [e]
          · intro e; injection e
theorem ltB (x y : List UInt8) : ltOf Lib.compareBytes x y = decide (x < y) := by
  unfold ltOf
  simp only [(compare_cases x y).1]
theorem swoB : SWO (ltOf Lib.compareBytes) where
  irrefl x := by rw [ltB]; simp
  trans x y z h1 h2 := by rw [ltB] at *; simp only [decide_eq_true_eq] at *; exact List.lt_trans h1 h2
  ntrans x y z h1 h2 := by
    rw [ltB] at *
    simp only [decide_eq_false_iff_not, List.not_lt] at *
    exact List.le_trans h2 h1
theorem oneStr : OneCell (encStr) := fun _ => rfl

theorem cmpReadsStr (blk off size : Nat) (w : World) : CmpReads Tryd.prog 169 #[] encStr Lib.compareBytes blk off size w := fun m os dk hs x y => by
  have h := Any.strings_Compare laysCompare ⟨x.toArray⟩ ⟨y.toArray⟩ (sortWorld encStr w blk off m dk os)
  exact h.mono fun _ _ ⟨h1, h2⟩ => ⟨h1, 0, h2⟩

/-- 'slices.SortFunc(keys, strings.Compare)' -/
theorem sort_any (w : World) (B g c : Nat) (ss : List (List UInt8)) (h : Row w B 9 1 (some ⟨g, 0, none⟩) ss.length c (ss.map encStr)) (hle : ss.length ≤ 1000000) :
    Calls Tryd.prog 168 #[.slice (some ⟨g, 0, none⟩) ss.length c, .func (.func 169) #[] #[]] w fun e w' =>
      e = .returned (.tuple #[]) ∧ Row w' B 9 1 (some ⟨g, 0, none⟩) ss.length c ((ss.mergeSort leB).map encStr) ∧ w.grownBy w' (some g) := by
  have eg : ∀ args w, (callFunc 169 args).run Tryd.prog w = .ok (.enter 169 args) w := enters_of Tryd.func169 (by kernel_rfl) rfl
  rcases h.2 with ⟨h0, _⟩ | ⟨g', cur, he, hb, hg, h1, h2, h3, h4⟩
  · cases h0
  injection he with he
  injection he with he
  subst he
  rw [Nat.mul_one] at h4
  have hH : Holds encStr w g 0 ss.toArray := holds_of_block hg h4
  have hsz : ss.toArray.size < 4611686018427387904 := by simp; omega
  have hT : ∀ x y : List UInt8, ltOf Lib.compareBytes x y = false → ltOf Lib.compareBytes y x = false → x = y := fun x y h5 h6 => by
    rw [ltB] at *
    simp only [decide_eq_false_iff_not, List.not_lt] at *
    exact List.le_antisymm h6 h5
  have hcon := Any.slices_SortFunc_total laysSort encStr oneStr Lib.compareBytes swoB 169 #[] g 0 c ss.toArray w eg (cmpReadsStr _ _ _ _).lays hH (Array.getElem?_eq_some_iff.1 hg).1 hsz hT
  change Calls Tryd.prog 168 _ _ _ at hcon
  have hcmp : (fun x y : List UInt8 => !(ltOf Lib.compareBytes) y x) = leB := by
    funext x y
    rw [ltB, leB, Bool.eq_iff_iff]
    simp [List.not_lt]
  rw [hcmp] at hcon
  simp only [List.size_toArray] at hcon
  refine hcon.mono ?_
  rintro e w' ⟨rfl, n, os, rfl⟩
  refine ⟨rfl, ⟨by simp, .inr ⟨g, _, rfl, hb, heap_sorted _ hg, h1, h2, by simpa [putCells] using h3, ?_⟩⟩, grownBy_sorted _⟩
  have := take_putCells cur (ss.mergeSort leB) (by simp; omega)
  simpa using this

/-- the keys that were met, sorted, are the records' keys -/
theorem sorted_keys {α : Type} {D : DataW Value} {f : List UInt8 → Option Value} {l : List α} {kf : α → List UInt8} (hD : Is D f) (hf : ∀ k, (f k).isSome = true ↔ ∃ x ∈ l, kf x = k) (hs : l.Pairwise fun a b => kf a < kf b)
    {left : Lit → Bool} {ss : List (List UInt8)} (hC : Collected D left ss) (hl : ∀ kl, left kl = false) : ss.mergeSort leB = l.map kf ∧ ss.length = l.length := by
  have hnd : (l.map kf).Nodup := List.pairwise_map.2 (hs.imp fun {a b} h e => by rw [e] at h; exact List.lt_irrefl _ h)
  have hp : ss.Perm (l.map kf) := by
    refine (List.perm_ext_iff_of_nodup hC.1 hnd).2 fun x => ?_
    rw [hC.2 x, hl, hD.has, hf]
    simp
  have hsort : (l.map kf).Pairwise fun a b => leB a b = true := List.pairwise_map.2 (hs.imp fun {a b} h => by simp only [leB, decide_eq_true_eq]; exact List.le_of_lt h)
  refine ⟨?_, by simpa using hp.length_eq⟩
  rw [mergeSort_of_perm hp]
  exact List.mergeSort_of_pairwise hsort
end Go.Proofs.YthbbmpelldglmaaDoor
/- Package subscribers: all records in order. -/
namespace Go.Proofs.YthbbmpelldglmaaDoor
set_option linter.unusedVariables false
set_option linter.unusedSimpArgs false
open Go.RowKit Go.Maps

theorem MapV.look {w : World} {m : Value} {n : Nat} {f : List UInt8 → Option Value} (h : MapV w m n f) {t e : TypeId} (ht : Tryd.prog.underlying t = some (.map 9 e)) {z : Value} (hz : (zeroValue e).run Tryd.prog w = .ok z w) (k : List UInt8) (hl : k.length ≤ maxLen) :
    (Instr.lookup t m (encStr k) false).run Tryd.prog w = .ok ((f k).getD z) w := by
  rcases h with ⟨rfl, h⟩ | ⟨b, rfl, h⟩
  · rw [h k]
    exact Maps.look_nil false (Go.Maps.string_keyed Tryd.underlying9) ht hz (key_str Tryd.underlying9 k hl)
  · exact h.look Tryd.underlying9 ht hz k hl
theorem infoStr : (Tryd.prog.info? 9).map (fun i => (i.zero, i.size, i.bytes)) = some (some (encStr []), 1, 16) := by kernel_rfl
theorem infoHome48 : (Tryd.prog.info? 63).map (fun i => (i.zero, i.size, i.bytes)) = some (some homeZero.val, 6, 48) := by kernel_rfl
theorem infoVisit64 : (Tryd.prog.info? 172).map (fun i => (i.zero, i.size, i.bytes)) = some (some visitZero.val, 6, 64) := by kernel_rfl
theorem info_of {P : Program} {t : TypeId} {z : Value} {s b : Nat} (h : (P.info? t).map (fun i => (i.zero, i.size, i.bytes)) = some (some z, s, b)) : ∃ i, P.info? t = some i ∧ i.zero = some z ∧ i.size = s ∧ i.bytes = b := by
  cases hi : P.info? t with
  | none => rw [hi] at h; simp at h
  | some i => rw [hi] at h; simp at h; exact ⟨i, rfl, h.1, h.2.1, h.2.2⟩
theorem tells_some {α : Type} {f : List UInt8 → Option Value} {l : List α} {kf : α → List UInt8} {vf : α → Value} (h : Tells f l kf vf) (k : List UInt8) : (f k).isSome = true ↔ ∃ x ∈ l, kf x = k := by
  constructor
  · intro h1
    obtain ⟨v, hv⟩ := Option.isSome_iff_exists.1 h1
    obtain ⟨x, hx, e, _⟩ := (h k v).1 hv
    exact ⟨x, hx, e⟩
  · rintro ⟨x, hx, e⟩
    rw [(h k (vf x)).2 ⟨x, hx, e, rfl⟩]
    rfl
theorem rd_cells (w : World) (g : Nat) (cs : Array Value) (E : TypeId) (h : w.heap[g]? = some (.cells cs E (0, 0))) : Rd w (some ⟨g, 0, none⟩) cs.toList := fun k v hv =>
  ⟨_, rfl, by rw [add_lit, cell_of_row w g k cs E (0, 0) h]; simpa using hv⟩
/-- the records of package subscribers in a row -/
def HomeRow (w : World) (B : Nat) (A : Option Addr) (c : Nat) (l : List HomeR) : Prop := Row w B 63 6 A l.length c (l.flatMap fun h => h.cells.toList)
def VisitRow (w : World) (B : Nat) (A : Option Addr) (c : Nat) (l : List VisitR) : Prop := Row w B 172 6 A l.length c (l.flatMap fun h => h.cells.toList)
theorem flatMap_take_snoc {α : Type} (l : List α) (g : α → List Value) (k : Nat) (h : k < l.length) : (l.take (k + 1)).flatMap g = (l.take k).flatMap g ++ g l[k] := by
  rw [List.take_succ_eq_append_getElem h, List.flatMap_append]; simp

set_option maxHeartbeats 400000 in
theorem clipHome_any (A : Option Addr) (n c : Nat) (w : World) (h : n ≤ c) (hc : c ≤ maxLen) :
    Calls Tryd.prog 170 #[.slice A n c] w fun e w' => e = .returned (.slice A n n) ∧ w = w' := by
  unfold maxLen at hc
  go_enter Tryd.func170, Tryd.ntmps170
  go_wp2
  go_ret
  exact ⟨rfl, rfl⟩

set_option maxHeartbeats 4000000 in
set_option maxRecDepth 100000 in
theorem sortedHome_any (w : World) (b n : Nat) (f : List UInt8 → Option Value) (h : MapIs Tryd.prog 9 w b n f) (l : List HomeR) (ht : Tells f l HomeR.id HomeR.val) (hs : l.Pairwise fun a b => a.id < b.id) (hlk : ∀ x ∈ l, x.id.length ≤ maxLen) (hn : n ≤ 100000) :
    Calls Tryd.prog 135 #[.map (some b)] w fun e w' => ∃ A, e = .returned (.slice A l.length l.length) ∧ HomeRow w' w.heap.size A l.length l ∧ Below w.heap.size w w' := by
  obtain ⟨D, hown, hDm, hD⟩ := h
  have hbl := hown.lt
  have hsz : Maps.size D ≤ 100000 := Nat.le_trans hown.size_le hn
  have hlook : ∀ w', Below w.heap.size w w' → ∀ x ∈ l, (Instr.lookup 157 (.map (some b)) (encStr x.id) false).run Tryd.prog w' = .ok x.val w' := fun w' hB x hx => by
    have h2 := (MapIs.chg ⟨D, hown, hDm, hD⟩ (Chg.of_below [] hB) (by simp)).look Tryd.underlying9 Tryd.underlying157 (zeroHomeV w') x.id (hlk x hx)
    rw [(ht x.id x.val).2 ⟨x, hx, rfl, rfl⟩] at h2
    exact h2
  obtain ⟨i0, hi0, hz0, hz1, hz2⟩ := info_of infoStr
  obtain ⟨i1, hi1, hy0, hy1, hy2⟩ := info_of infoHome48
  have HLK := Lib.hid hlook
  have HTS := Lib.hid (tells_some ht)
  have HS := Lib.hid hs
  clear hlook ht hs
  go_enter Tryd.func135, Tryd.ntmps135
  go_wp2_with (first
    | ((with_reducible refine at_dst 9 rfl ?_); refine wpList_len_own _ rfl _ 157 rfl 9 63 Tryd.underlying157 _ b n _ rfl hown ?_)
    | ((with_reducible refine at_dst 10 rfl ?_); refine wpList_make_own _ rfl _ _ 128 rfl w.heap.size 9 i0 (encStr []) 1 Tryd.underlying128 hi0 hz0 hz1 _ _ _ (Maps.size D) rfl rfl rfl (by rw [hz2]; omega) (by simp only [maxLen]; omega) (Nat.le_refl _) ?_; intro w1 hrow1 hg1)
    | ((with_reducible refine at_dst 12 rfl ?_); refine wpList_range_own _ rfl _ 157 rfl 9 63 (string_keyed Tryd.underlying9) Tryd.underlying157 _ b n _ rfl (hown.kept hg1 (by simp)) ?_; intro w0 hrg0 hg0 hs0)
    | fail)
  go_frame
  obtain ⟨A0, c0, ev0, hrow0⟩ := Row.of_own hrow1
  injection ev0 with e1 e2 e3
  subst e1
  subst e3
  have hB1 : Below w.heap.size w w1 := (Below.refl _ _).grown hg1 (Nat.le_refl _) (fun j hj => by cases hj)
  have hB0 : Below w.heap.size w w0 := hB1.grown hg0 hB1.size (fun j hj => by cases hj)
  have hs1 := hg1.size
  go_loopw [3] (fun v wr => ∃ (left : Lit → Bool) (cnt : Nat) (ss : List (List UInt8)) (g c : Nat), wr.ranges Tryd.prog 9 heldR b w1.heap.size n D left cnt ∧ ss.length + cnt ≤ Maps.size D ∧
      v = .slice (some ⟨g, 0, none⟩) ss.length c ∧ Row wr w.heap.size 9 1 (some ⟨g, 0, none⟩) ss.length c (ss.map encStr) ∧ g ≠ w1.heap.size ∧ Collected D left ss ∧ Below w.heap.size w wr)
    (fun _ wr => wr.rangeLeft b w1.heap.size)
  case atStart =>
    have hlt1 : w.heap.size < w1.heap.size := (Row.lt hrow0 _ rfl).2
    exact ⟨_, _, [], w.heap.size, _, hrg0, by simp, rfl, hrow0.kept hg0 (fun _ _ => by simp), by omega, Collected.start D, hB0⟩
  case round =>
    obtain ⟨left, cnt, ss, g, c, hrg, hcs, rfl, hrow, hgne, hC, hBr⟩ := hrel
    go_wp2_with (first
      | ((with_reducible refine at_dst 13 rfl ?_); refine wpList_next_ranges _ rfl _ rfl 9 (string_keyed Tryd.underlying9) heldR encStr id (fun key kl hk => by obtain ⟨x, hx, _⟩ := Maps.keyOf_str Tryd.underlying9 hk; exact ⟨x, hx⟩) (fun v y hv => ⟨v, rfl⟩) b w1.heap.size n _ _ _ rfl hrg ?_ ?_)
      | fail)
    · intro hc0 hl0
      obtain ⟨hkeys, hlen⟩ := sorted_keys hD HTS.out HS.out hC hl0
      have hsort := sort_any wr w.heap.size g c ss hrow (by omega)
      rw [hkeys, hlen] at hsort
      have hle : l.length ≤ 100000 := by omega
      have HSORT := Lib.hid hsort
      have HKEYS := Lib.hid hkeys
      rw [hlen]
      have HHL := Lib.hid hlen
      have HRG := Lib.hid hrg
      have HC := Lib.hid hC
      clear hsort hkeys hlen hcs hrow hrg hC
      go_wp2_with (first
        | (go_at_call 168; (with_reducible refine HSORT.out.mono ?_); rintro e w2 ⟨rfl, hrow2, hg2⟩)
        | ((with_reducible refine at_dst 25 rfl ?_); refine wpList_make_own _ rfl _ _ 58 rfl w2.heap.size 63 i1 homeZero.val 6 Tryd.underlying58 hi1 hy0 hy1 _ _ _ l.length rfl rfl rfl (by rw [hy2]; omega) (by simp only [maxLen]; omega) (Nat.le_refl _) ?_; intro w3 hrow3 hg3)
        | fail)
      obtain ⟨A3, c3, ev3, hrow3'⟩ := Row.of_own hrow3
      injection ev3 with e1 e2 e3
      subst e1
      subst e3
      have hB2 : Below w.heap.size w w2 := hBr.grown hg2 hBr.size (fun j hj => by cases hj; exact (Row.ge hrow2))
      have hB3 : Below w2.heap.size w2 w3 := (Below.refl _ _).grown hg3 (Nat.le_refl _) (fun j hj => by cases hj)
      have hgl : g < w2.heap.size := (Row.lt hrow2 _ rfl).2
      (try go_frame)
      go_loopw [5, 28] (fun ov iv wr2 => ∃ (k c5 : Nat) (A5 : Option Addr), k ≤ l.length ∧ iv = .int .i64 k ∧ ov = .slice A5 k c5 ∧ HomeRow wr2 w2.heap.size A5 c5 (l.take k) ∧ Below w2.heap.size w2 wr2)
        (fun _ iv _ => l.length - (intOf iv).toNat)
      case atStart => exact ⟨0, _, _, Nat.zero_le _, rfl, rfl, hrow3', hB3⟩
      case round =>
        obtain ⟨k, c5, A5, hk, rfl, rfl, hrow5, hB5⟩ := hrel
        by_cases hlt : k < l.length
        · have hkey := (hrow2.below hB5).cell (k := k) (v := encStr l[k].id) (by simp [hlt])
          have hB6 : Below w.heap.size w wr := hB2.trans (hB5.mono hB2.size)
          have hlook := HLK.out wr hB6 l[k] (List.getElem_mem hlt)
          have hsn := flatMap_take_snoc l (fun h => h.cells.toList) k hlt
          have hsn' : (l.take k).length = k := by simp; omega
          unfold HomeRow at hrow5
          rw [hsn'] at hrow5
          have HSN := Lib.hid hsn
          generalize l[k] = x at *
          obtain ⟨id, number, at_, move, barred, waiting⟩ := x
          unfold HomeR.val HomeR.cells at hlook
          simp only at hlook hkey
          clear hsn hsn' HLK HTS HS HC HRG HSORT HKEYS HHL
          go_wp2_with (first
            | ((with_reducible refine at_dst 37 rfl ?_)
               refine wpList_append_row rfl (.tmp 32) (.tmp 36) 58 rfl w2.heap.size 63 _ 6 48 Tryd.underlying58 infoHome48 rfl A5 k c5 _ rfl (Row.alloc hrow5 _) (some ⟨wr.heap.size, 0, none⟩) 1 1 [encStr id, encStr number, .int .u16 (at_ : Int), .int .u32 (move : Int), .bool barred, .bool waiting] rfl
                 (rd_cells _ _ _ _ (heap_alloc_new _ _)) rfl (by intro v hv; simp at hv; rcases hv with rfl | rfl | rfl | rfl | rfl | rfl <;> rfl) (by simp only [maxLen]; omega) (by omega) (by have := hB5.size; simp; omega) ?_
               intro A6 c6 w6 h6 hg6 hA6)
            | fail)
          go_roundw
          case rel =>
            refine ⟨k + 1, c6, A6, by omega, by go_num, rfl, ?_, ?_⟩
            · unfold HomeRow
              rw [HSN.out, show (l.take (k + 1)).length = k + 1 by simp; omega]
              exact h6
            · exact (hB5.alloc hB5.size _).grown hg6 (by have := hB5.size; simp; omega) (fun j hj => (Row.lt hrow5 j hj).1)
          case measure => simp [intOf]; omega
        · obtain rfl : k = l.length := by omega
          rw [List.take_length] at hrow5
          have hcl := fun w' => clipHome_any A5 l.length c5 w' (Row.le hrow5) (Row.cap_le hrow5)
          have HCL := Lib.hid hcl
          clear hcl
          go_wp2_with (first
            | (go_at_call 170; (with_reducible refine (HCL.out _).mono ?_); rintro e w7 ⟨rfl, rfl⟩)
            | fail)
          go_ret
          exact ⟨A5, rfl, (Row.clip hrow5).mono hB2.size, hB2.trans (hB5.mono hB2.size)⟩
    · intro x c2 kl yd yp w2 cnt2 hkey hlk2 hv hat hrg2 hlt hg2 hs2 hen
      obtain ⟨x', ex, rfl, _⟩ := Maps.keyOf_str Tryd.underlying9 hkey
      obtain rfl : x = x' := encStr_inj ex
      have hrow2 := hrow.kept hg2 (fun j hj => by simp at hj; subst hj; simp; omega)
      have hCn := hC.step hlk2 hat
      have HRG := Lib.hid hrg
      have HRG2 := Lib.hid hrg2
      have HCN := Lib.hid hCn
      clear hs2 hrg hrg2 hCn hC hat hv hkey
      have hsz2 := hg2.size
      have hszr := hBr.size
      go_wp2_with (first
        | ((with_reducible refine at_dst 20 rfl ?_)
           refine wpList_append_row rfl (.tmp 17) (.tmp 19) 128 rfl w.heap.size 9 _ 1 16 Tryd.underlying128 infoStr rfl (some ⟨g, 0, none⟩) ss.length c _ rfl (Row.alloc hrow2 _) (some ⟨w2.heap.size, 0, none⟩) 1 1 [encStr x] rfl
             (rd_cells _ _ _ _ (heap_alloc_new _ _)) rfl (by intro v hv; simp at hv; subst hv; rfl) (by simp only [maxLen]; omega) (by omega) (by simp; omega) ?_
           intro A6 c6 w6 h6 hg6 hA6)
        | fail)
      have hgw : g < w2.heap.size := (Row.lt hrow2 _ rfl).2
      obtain ⟨g6, rfl, hg6n⟩ : ∃ g6, A6 = some ⟨g6, 0, none⟩ ∧ g6 ≠ w1.heap.size := by
        rcases hA6 with rfl | rfl
        · exact ⟨g, rfl, hgne⟩
        · have := HRG2.out.lt
          exact ⟨_, rfl, by simp; omega⟩
      have hrg3 := (HRG2.out.alloc (.cells #[encStr x] 9)).kept hg6 (by simp; have := (Row.ge hrow2); omega) (by simp; omega)
      go_roundw
      case rel =>
        refine ⟨_, cnt2, ss ++ [x], g6, c6, hrg3, by simp; omega, by simp, ?_, hg6n, HCN.out, ?_⟩
        · simpa using h6
        · exact ((hBr.grown hg2 hBr.size (fun j hj => by cases hj; omega)).alloc (by omega) _).grown hg6 (by simp; omega) (fun j hj => by simp at hj; subst hj; exact Row.ge hrow2)
      case measure => rw [hrg3.left_eq, HRG.out.left_eq]; exact hlt

set_option maxHeartbeats 4000000 in
set_option maxRecDepth 100000 in
/-- a nil map has no records -/
theorem sortedHome_nil (w : World) :
    Calls Tryd.prog 135 #[.map none] w fun e w' => ∃ A, e = .returned (.slice A 0 0) ∧ HomeRow w' w.heap.size A 0 [] ∧ Below w.heap.size w w' := by
  obtain ⟨i0, hi0, hz0, hz1, hz2⟩ := info_of infoStr
  obtain ⟨i1, hi1, hy0, hy1, hy2⟩ := info_of infoHome48
  go_enter Tryd.func135, Tryd.ntmps135
  go_wp2_with (first
    | ((with_reducible refine at_dst 10 rfl ?_); refine wpList_make_own _ rfl _ _ 128 rfl w.heap.size 9 i0 (encStr []) 1 Tryd.underlying128 hi0 hz0 hz1 _ _ _ 0 rfl rfl rfl (by omega) (by simp only [maxLen]; omega) (Nat.le_refl _) ?_; intro w1 hrow1 hg1
       have hrg := run_range_nilMap (P := Tryd.prog) w1 157 9 63 Tryd.underlying157
       have hnx : ∀ ty, (Instr.next (.pointer (some ⟨w1.heap.size, 0, none⟩)) false ty).run Tryd.prog (w1.alloc (.mapIter none 0 #[] 0)) = _ := fun ty => run_next_nilMap _ ty 0 0 #[])
    | fail)
  obtain ⟨A0, c0, ev0, hrow0⟩ := Row.of_own hrow1
  injection ev0 with e1 e2 e3
  subst e1
  subst e3
  have hB1 : Below w.heap.size w (w1.alloc (.mapIter none 0 #[] 0)) := ((Below.refl _ _).grown hg1 (Nat.le_refl _) (fun j hj => by cases hj)).alloc hg1.size _
  have hsort := sort_any (w1.alloc (.mapIter none 0 #[] 0)) w.heap.size w.heap.size 0 [] (Row.alloc hrow0 _) (by simp)
  simp only [List.length_nil] at hsort
  have HSORT := Lib.hid hsort
  clear hsort
  refine wp_loop_rounds 1 ?_
  rw [rounds_succ]
  go_wp2_with (first
    | (go_at_call 168; (with_reducible refine HSORT.out.mono ?_); rintro e w2 ⟨rfl, hrow2, hg2⟩)
    | ((with_reducible refine at_dst 25 rfl ?_); refine wpList_make_own _ rfl _ _ 58 rfl w.heap.size 63 i1 homeZero.val 6 Tryd.underlying58 hi1 hy0 hy1 _ _ _ 0 rfl rfl rfl (by omega) (by simp only [maxLen]; omega) (by have := hg2.size; have := hB1.size; omega) ?_; intro w3 hrow3 hg3)
    | fail)
  obtain ⟨A3, c3, ev3, hrow3'⟩ := Row.of_own hrow3
  injection ev3 with e1 e2 e3
  subst e1
  subst e3
  have hB2 : Below w.heap.size w w2 := hB1.grown hg2 hB1.size (fun j hj => by cases hj; exact Nat.le_refl _)
  have hB3 : Below w.heap.size w w3 := hB2.grown hg3 hB2.size (fun j hj => by cases hj)
  have hcl := fun w' => clipHome_any (some ⟨w2.heap.size, 0, none⟩) 0 0 w' (Nat.le_refl _) (Nat.zero_le _)
  have HCL := Lib.hid hcl
  clear hcl
  refine wp_loop_rounds 1 ?_
  rw [rounds_succ]
  go_wp2_with (first
    | (go_at_call 170; (with_reducible refine (HCL.out _).mono ?_); rintro e w7 ⟨rfl, rfl⟩)
    | fail)
  go_ret
  exact ⟨_, rfl, hrow3', hB3⟩

/-- 'Homes' -/
theorem storeHomes_any (w : World) (g : Nat) (F : List Nat) (S : St) (h : StAt w g F S) (hf : S.Fit) (hp : S.puts ≤ 100000) :
    Calls Tryd.prog 91 #[.pointer (some ⟨g, 0, none⟩)] w fun e w' => ∃ A, e = .returned (.slice A S.homes.length S.homes.length) ∧ HomeRow w' w.heap.size A S.homes.length S.homes ∧ Below w.heap.size w w' := by
  rcases h with ⟨b1, b2, b3, b4, A, c, rfl, h⟩ | ⟨A, c, rfl, h⟩
  · obtain ⟨f1, m1, t1⟩ := h.maps.homes
    have k0 : w.cell? ⟨g, 0, none⟩ = some (.map (some b1)) := stObj_cell h.obj 0
    have hs := sortedHome_any w b1 S.puts f1 m1 S.homes t1 hf.hs (fun x hx => by have := (HomeR.ok_len (hf.hok x hx).1).1; unfold maxLen; omega) hp
    have HS := Lib.hid hs
    clear hs h m1 t1 hf
    go_enter Tryd.func91, Tryd.ntmps91
    go_wp2_with (first
      | (go_at_call 135; (with_reducible refine HS.out.mono ?_); rintro e w7 ⟨A7, rfl, h7, hB7⟩)
      | fail)
    go_ret
    exact ⟨_, rfl, h7, hB7⟩
  · have k0 : w.cell? ⟨g, 0, none⟩ = some (.map none) := stObj_cell h.obj 0
    have hs := sortedHome_nil w
    have HS := Lib.hid hs
    rw [h.homes]
    clear hs h hf
    go_enter Tryd.func91, Tryd.ntmps91
    go_wp2_with (first
      | (go_at_call 135; (with_reducible refine HS.out.mono ?_); rintro e w7 ⟨A7, rfl, h7, hB7⟩)
      | fail)
    go_ret
    exact ⟨_, rfl, h7, hB7⟩

set_option maxHeartbeats 400000 in
theorem clipVisit_any (A : Option Addr) (n c : Nat) (w : World) (h : n ≤ c) (hc : c ≤ maxLen) :
    Calls Tryd.prog 172 #[.slice A n c] w fun e w' => e = .returned (.slice A n n) ∧ w = w' := by
  unfold maxLen at hc
  go_enter Tryd.func172, Tryd.ntmps172
  go_wp2
  go_ret
  exact ⟨rfl, rfl⟩

set_option maxHeartbeats 4000000 in
set_option maxRecDepth 100000 in
theorem sortedVisit_any (w : World) (b n : Nat) (f : List UInt8 → Option Value) (h : MapIs Tryd.prog 9 w b n f) (l : List VisitR) (ht : Tells f l VisitR.id VisitR.val) (hs : l.Pairwise fun a b => a.id < b.id) (hlk : ∀ x ∈ l, x.id.length ≤ maxLen) (hn : n ≤ 100000) :
    Calls Tryd.prog 147 #[.map (some b)] w fun e w' => ∃ A, e = .returned (.slice A l.length l.length) ∧ VisitRow w' w.heap.size A l.length l ∧ Below w.heap.size w w' := by
  obtain ⟨D, hown, hDm, hD⟩ := h
  have hbl := hown.lt
  have hsz : Maps.size D ≤ 100000 := Nat.le_trans hown.size_le hn
  have hlook : ∀ w', Below w.heap.size w w' → ∀ x ∈ l, (Instr.lookup 158 (.map (some b)) (encStr x.id) false).run Tryd.prog w' = .ok x.val w' := fun w' hB x hx => by
    have h2 := (MapIs.chg ⟨D, hown, hDm, hD⟩ (Chg.of_below [] hB) (by simp)).look Tryd.underlying9 Tryd.underlying158 (zeroVisitV w') x.id (hlk x hx)
    rw [(ht x.id x.val).2 ⟨x, hx, rfl, rfl⟩] at h2
    exact h2
  obtain ⟨i0, hi0, hz0, hz1, hz2⟩ := info_of infoStr
  obtain ⟨i1, hi1, hy0, hy1, hy2⟩ := info_of infoVisit64
  have HLK := Lib.hid hlook
  have HTS := Lib.hid (tells_some ht)
  have HS := Lib.hid hs
  clear hlook ht hs
  go_enter Tryd.func147, Tryd.ntmps147
  go_wp2_with (first
    | ((with_reducible refine at_dst 9 rfl ?_); refine wpList_len_own _ rfl _ 158 rfl 9 172 Tryd.underlying158 _ b n _ rfl hown ?_)
    | ((with_reducible refine at_dst 10 rfl ?_); refine wpList_make_own _ rfl _ _ 128 rfl w.heap.size 9 i0 (encStr []) 1 Tryd.underlying128 hi0 hz0 hz1 _ _ _ (Maps.size D) rfl rfl rfl (by rw [hz2]; omega) (by simp only [maxLen]; omega) (Nat.le_refl _) ?_; intro w1 hrow1 hg1)
    | ((with_reducible refine at_dst 12 rfl ?_); refine wpList_range_own _ rfl _ 158 rfl 9 172 (string_keyed Tryd.underlying9) Tryd.underlying158 _ b n _ rfl (hown.kept hg1 (by simp)) ?_; intro w0 hrg0 hg0 hs0)
    | fail)
  go_frame
  obtain ⟨A0, c0, ev0, hrow0⟩ := Row.of_own hrow1
  injection ev0 with e1 e2 e3
  subst e1
  subst e3
  have hB1 : Below w.heap.size w w1 := (Below.refl _ _).grown hg1 (Nat.le_refl _) (fun j hj => by cases hj)
  have hB0 : Below w.heap.size w w0 := hB1.grown hg0 hB1.size (fun j hj => by cases hj)
  have hs1 := hg1.size
  go_loopw [3] (fun v wr => ∃ (left : Lit → Bool) (cnt : Nat) (ss : List (List UInt8)) (g c : Nat), wr.ranges Tryd.prog 9 heldR b w1.heap.size n D left cnt ∧ ss.length + cnt ≤ Maps.size D ∧
      v = .slice (some ⟨g, 0, none⟩) ss.length c ∧ Row wr w.heap.size 9 1 (some ⟨g, 0, none⟩) ss.length c (ss.map encStr) ∧ g ≠ w1.heap.size ∧ Collected D left ss ∧ Below w.heap.size w wr)
    (fun _ wr => wr.rangeLeft b w1.heap.size)
  case atStart =>
    have hlt1 : w.heap.size < w1.heap.size := (Row.lt hrow0 _ rfl).2
    exact ⟨_, _, [], w.heap.size, _, hrg0, by simp, rfl, hrow0.kept hg0 (fun _ _ => by simp), by omega, Collected.start D, hB0⟩
  case round =>
    obtain ⟨left, cnt, ss, g, c, hrg, hcs, rfl, hrow, hgne, hC, hBr⟩ := hrel
    go_wp2_with (first
      | ((with_reducible refine at_dst 13 rfl ?_); refine wpList_next_ranges _ rfl _ rfl 9 (string_keyed Tryd.underlying9) heldR encStr id (fun key kl hk => by obtain ⟨x, hx, _⟩ := Maps.keyOf_str Tryd.underlying9 hk; exact ⟨x, hx⟩) (fun v y hv => ⟨v, rfl⟩) b w1.heap.size n _ _ _ rfl hrg ?_ ?_)
      | fail)
    · intro hc0 hl0
      obtain ⟨hkeys, hlen⟩ := sorted_keys hD HTS.out HS.out hC hl0
      have hsort := sort_any wr w.heap.size g c ss hrow (by omega)
      rw [hkeys, hlen] at hsort
      have hle : l.length ≤ 100000 := by omega
      have HSORT := Lib.hid hsort
      have HKEYS := Lib.hid hkeys
      rw [hlen]
      have HHL := Lib.hid hlen
      have HRG := Lib.hid hrg
      have HC := Lib.hid hC
      clear hsort hkeys hlen hcs hrow hrg hC
      go_wp2_with (first
        | (go_at_call 168; (with_reducible refine HSORT.out.mono ?_); rintro e w2 ⟨rfl, hrow2, hg2⟩)
        | ((with_reducible refine at_dst 25 rfl ?_); refine wpList_make_own _ rfl _ _ 74 rfl w2.heap.size 172 i1 visitZero.val 6 Tryd.underlying74 hi1 hy0 hy1 _ _ _ l.length rfl rfl rfl (by rw [hy2]; omega) (by simp only [maxLen]; omega) (Nat.le_refl _) ?_; intro w3 hrow3 hg3)
        | fail)
      obtain ⟨A3, c3, ev3, hrow3'⟩ := Row.of_own hrow3
      injection ev3 with e1 e2 e3
      subst e1
      subst e3
      have hB2 : Below w.heap.size w w2 := hBr.grown hg2 hBr.size (fun j hj => by cases hj; exact (Row.ge hrow2))
      have hB3 : Below w2.heap.size w2 w3 := (Below.refl _ _).grown hg3 (Nat.le_refl _) (fun j hj => by cases hj)
      have hgl : g < w2.heap.size := (Row.lt hrow2 _ rfl).2
      (try go_frame)
      go_loopw [5, 28] (fun ov iv wr2 => ∃ (k c5 : Nat) (A5 : Option Addr), k ≤ l.length ∧ iv = .int .i64 k ∧ ov = .slice A5 k c5 ∧ VisitRow wr2 w2.heap.size A5 c5 (l.take k) ∧ Below w2.heap.size w2 wr2)
        (fun _ iv _ => l.length - (intOf iv).toNat)
      case atStart => exact ⟨0, _, _, Nat.zero_le _, rfl, rfl, hrow3', hB3⟩
      case round =>
        obtain ⟨k, c5, A5, hk, rfl, rfl, hrow5, hB5⟩ := hrel
        by_cases hlt : k < l.length
        · have hkey := (hrow2.below hB5).cell (k := k) (v := encStr l[k].id) (by simp [hlt])
          have hB6 : Below w.heap.size w wr := hB2.trans (hB5.mono hB2.size)
          have hlook := HLK.out wr hB6 l[k] (List.getElem_mem hlt)
          have hsn := flatMap_take_snoc l (fun h => h.cells.toList) k hlt
          have hsn' : (l.take k).length = k := by simp; omega
          unfold VisitRow at hrow5
          rw [hsn'] at hrow5
          have HSN := Lib.hid hsn
          generalize l[k] = x at *
          obtain ⟨id, number, home, move, area, roam⟩ := x
          unfold VisitR.val VisitR.cells at hlook
          simp only at hlook hkey
          clear hsn hsn' HLK HTS HS HC HRG HSORT HKEYS HHL
          go_wp2_with (first
            | ((with_reducible refine at_dst 37 rfl ?_)
               refine wpList_append_row rfl (.tmp 32) (.tmp 36) 74 rfl w2.heap.size 172 _ 6 64 Tryd.underlying74 infoVisit64 rfl A5 k c5 _ rfl (Row.alloc hrow5 _) (some ⟨wr.heap.size, 0, none⟩) 1 1 [encStr id, encStr number, .int .u16 (home : Int), .int .u32 (move : Int), .int .u16 (area : Int), encStr roam] rfl
                 (rd_cells _ _ _ _ (heap_alloc_new _ _)) rfl (by intro v hv; simp at hv; rcases hv with rfl | rfl | rfl | rfl | rfl | rfl <;> rfl) (by simp only [maxLen]; omega) (by omega) (by have := hB5.size; simp; omega) ?_
               intro A6 c6 w6 h6 hg6 hA6)
            | fail)
          go_roundw
          case rel =>
            refine ⟨k + 1, c6, A6, by omega, by go_num, rfl, ?_, ?_⟩
            · unfold VisitRow
              rw [HSN.out, show (l.take (k + 1)).length = k + 1 by simp; omega]
              exact h6
            · exact (hB5.alloc hB5.size _).grown hg6 (by have := hB5.size; simp; omega) (fun j hj => (Row.lt hrow5 j hj).1)
          case measure => simp [intOf]; omega
        · obtain rfl : k = l.length := by omega
          rw [List.take_length] at hrow5
          have hcl := fun w' => clipVisit_any A5 l.length c5 w' (Row.le hrow5) (Row.cap_le hrow5)
          have HCL := Lib.hid hcl
          clear hcl
          go_wp2_with (first
            | (go_at_call 172; (with_reducible refine (HCL.out _).mono ?_); rintro e w7 ⟨rfl, rfl⟩)
            | fail)
          go_ret
          exact ⟨A5, rfl, (Row.clip hrow5).mono hB2.size, hB2.trans (hB5.mono hB2.size)⟩
    · intro x c2 kl yd yp w2 cnt2 hkey hlk2 hv hat hrg2 hlt hg2 hs2 hen
      obtain ⟨x', ex, rfl, _⟩ := Maps.keyOf_str Tryd.underlying9 hkey
      obtain rfl : x = x' := encStr_inj ex
      have hrow2 := hrow.kept hg2 (fun j hj => by simp at hj; subst hj; simp; omega)
      have hCn := hC.step hlk2 hat
      have HRG := Lib.hid hrg
      have HRG2 := Lib.hid hrg2
      have HCN := Lib.hid hCn
      clear hs2 hrg hrg2 hCn hC hat hv hkey
      have hsz2 := hg2.size
      have hszr := hBr.size
      go_wp2_with (first
        | ((with_reducible refine at_dst 20 rfl ?_)
           refine wpList_append_row rfl (.tmp 17) (.tmp 19) 128 rfl w.heap.size 9 _ 1 16 Tryd.underlying128 infoStr rfl (some ⟨g, 0, none⟩) ss.length c _ rfl (Row.alloc hrow2 _) (some ⟨w2.heap.size, 0, none⟩) 1 1 [encStr x] rfl
             (rd_cells _ _ _ _ (heap_alloc_new _ _)) rfl (by intro v hv; simp at hv; subst hv; rfl) (by simp only [maxLen]; omega) (by omega) (by simp; omega) ?_
           intro A6 c6 w6 h6 hg6 hA6)
        | fail)
      have hgw : g < w2.heap.size := (Row.lt hrow2 _ rfl).2
      obtain ⟨g6, rfl, hg6n⟩ : ∃ g6, A6 = some ⟨g6, 0, none⟩ ∧ g6 ≠ w1.heap.size := by
        rcases hA6 with rfl | rfl
        · exact ⟨g, rfl, hgne⟩
        · have := HRG2.out.lt
          exact ⟨_, rfl, by simp; omega⟩
      have hrg3 := (HRG2.out.alloc (.cells #[encStr x] 9)).kept hg6 (by simp; have := (Row.ge hrow2); omega) (by simp; omega)
      go_roundw
      case rel =>
        refine ⟨_, cnt2, ss ++ [x], g6, c6, hrg3, by simp; omega, by simp, ?_, hg6n, HCN.out, ?_⟩
        · simpa using h6
        · exact ((hBr.grown hg2 hBr.size (fun j hj => by cases hj; omega)).alloc (by omega) _).grown hg6 (by simp; omega) (fun j hj => by simp at hj; subst hj; exact Row.ge hrow2)
      case measure => rw [hrg3.left_eq, HRG.out.left_eq]; exact hlt

set_option maxHeartbeats 4000000 in
set_option maxRecDepth 100000 in
/-- a nil map has no records -/
theorem sortedVisit_nil (w : World) :
    Calls Tryd.prog 147 #[.map none] w fun e w' => ∃ A, e = .returned (.slice A 0 0) ∧ VisitRow w' w.heap.size A 0 [] ∧ Below w.heap.size w w' := by
  obtain ⟨i0, hi0, hz0, hz1, hz2⟩ := info_of infoStr
  obtain ⟨i1, hi1, hy0, hy1, hy2⟩ := info_of infoVisit64
  go_enter Tryd.func147, Tryd.ntmps147
  go_wp2_with (first
    | ((with_reducible refine at_dst 10 rfl ?_); refine wpList_make_own _ rfl _ _ 128 rfl w.heap.size 9 i0 (encStr []) 1 Tryd.underlying128 hi0 hz0 hz1 _ _ _ 0 rfl rfl rfl (by omega) (by simp only [maxLen]; omega) (Nat.le_refl _) ?_; intro w1 hrow1 hg1
       have hrg := run_range_nilMap (P := Tryd.prog) w1 158 9 172 Tryd.underlying158
       have hnx : ∀ ty, (Instr.next (.pointer (some ⟨w1.heap.size, 0, none⟩)) false ty).run Tryd.prog (w1.alloc (.mapIter none 0 #[] 0)) = _ := fun ty => run_next_nilMap _ ty 0 0 #[])
    | fail)
  obtain ⟨A0, c0, ev0, hrow0⟩ := Row.of_own hrow1
  injection ev0 with e1 e2 e3
  subst e1
  subst e3
  have hB1 : Below w.heap.size w (w1.alloc (.mapIter none 0 #[] 0)) := ((Below.refl _ _).grown hg1 (Nat.le_refl _) (fun j hj => by cases hj)).alloc hg1.size _
  have hsort := sort_any (w1.alloc (.mapIter none 0 #[] 0)) w.heap.size w.heap.size 0 [] (Row.alloc hrow0 _) (by simp)
  simp only [List.length_nil] at hsort
  have HSORT := Lib.hid hsort
  clear hsort
  refine wp_loop_rounds 1 ?_
  rw [rounds_succ]
  go_wp2_with (first
    | (go_at_call 168; (with_reducible refine HSORT.out.mono ?_); rintro e w2 ⟨rfl, hrow2, hg2⟩)
    | ((with_reducible refine at_dst 25 rfl ?_); refine wpList_make_own _ rfl _ _ 74 rfl w.heap.size 172 i1 visitZero.val 6 Tryd.underlying74 hi1 hy0 hy1 _ _ _ 0 rfl rfl rfl (by omega) (by simp only [maxLen]; omega) (by have := hg2.size; have := hB1.size; omega) ?_; intro w3 hrow3 hg3)
    | fail)
  obtain ⟨A3, c3, ev3, hrow3'⟩ := Row.of_own hrow3
  injection ev3 with e1 e2 e3
  subst e1
  subst e3
  have hB2 : Below w.heap.size w w2 := hB1.grown hg2 hB1.size (fun j hj => by cases hj; exact Nat.le_refl _)
  have hB3 : Below w.heap.size w w3 := hB2.grown hg3 hB2.size (fun j hj => by cases hj)
  have hcl := fun w' => clipVisit_any (some ⟨w2.heap.size, 0, none⟩) 0 0 w' (Nat.le_refl _) (Nat.zero_le _)
  have HCL := Lib.hid hcl
  clear hcl
  refine wp_loop_rounds 1 ?_
  rw [rounds_succ]
  go_wp2_with (first
    | (go_at_call 172; (with_reducible refine (HCL.out _).mono ?_); rintro e w7 ⟨rfl, rfl⟩)
    | fail)
  go_ret
  exact ⟨_, rfl, hrow3', hB3⟩

/-- 'Visits' -/
theorem storeVisits_any (w : World) (g : Nat) (F : List Nat) (S : St) (h : StAt w g F S) (hf : S.Fit) (hp : S.puts ≤ 100000) :
    Calls Tryd.prog 99 #[.pointer (some ⟨g, 0, none⟩)] w fun e w' => ∃ A, e = .returned (.slice A S.visits.length S.visits.length) ∧ VisitRow w' w.heap.size A S.visits.length S.visits ∧ Below w.heap.size w w' := by
  rcases h with ⟨b1, b2, b3, b4, A, c, rfl, h⟩ | ⟨A, c, rfl, h⟩
  · obtain ⟨f1, m1, t1⟩ := h.maps.visits
    have k0 : w.cell? ⟨g, 1, none⟩ = some (.map (some b2)) := stObj_cell h.obj 1
    have hs := sortedVisit_any w b2 S.puts f1 m1 S.visits t1 hf.vs (fun x hx => by have := (VisitR.ok_len (hf.vok x hx).1).1; unfold maxLen; omega) hp
    have HS := Lib.hid hs
    clear hs h m1 t1 hf
    go_enter Tryd.func99, Tryd.ntmps99
    go_wp2_with (first
      | (go_at_call 147; (with_reducible refine HS.out.mono ?_); rintro e w7 ⟨A7, rfl, h7, hB7⟩)
      | fail)
    go_ret
    exact ⟨_, rfl, h7, hB7⟩
  · have k0 : w.cell? ⟨g, 1, none⟩ = some (.map none) := stObj_cell h.obj 1
    have hs := sortedVisit_nil w
    have HS := Lib.hid hs
    rw [h.visits]
    clear hs h hf
    go_enter Tryd.func99, Tryd.ntmps99
    go_wp2_with (first
      | (go_at_call 147; (with_reducible refine HS.out.mono ?_); rintro e w7 ⟨A7, rfl, h7, hB7⟩)
      | fail)
    go_ret
    exact ⟨_, rfl, h7, hB7⟩

end Go.Proofs.YthbbmpelldglmaaDoor
