/- Package units: Decode, Same. -/
import Derived.Test.YthbbmpelldglmaaDoorUnits
import Derived.Deep.QuietTactic
import Derived.BigQuiet
namespace Go.Proofs.YthbbmpelldglmaaDoor
set_option linter.unusedVariables false
set_option linter.unusedSimpArgs false
open Go.RowKit

set_option maxHeartbeats 2000000 in
set_option maxRecDepth 100000 in
theorem number_any (n : Nat) (b : Bool) (h : n < 128) (w : World) :
    Calls Tryd.prog 130 #[.int .u8 ((numB n b).toNat : Int)] w fun e w' => e = .returned (.tuple #[.int .u8 (n : Int), .bool b]) ∧ w = w' := by
  have hn := numB_nat n b h
  obtain ⟨x, hx⟩ : ∃ x, x = (numB n b).toNat := ⟨_, rfl⟩
  have e1 : (x : Int) % 128 = (n : Int) := by rw [hx, hn]; split <;> omega
  have e2 : Int.tmod (x : Int) 128 = (n : Int) := by rw [Int.tmod_eq_emod_of_nonneg (by omega)]; exact e1
  have e3 : decide ((128 : Int) ≤ (x : Int)) = b := by
    rw [hx, hn]
    cases b
    · simp; omega
    · simp; omega
  have hlt : x < 256 := by rw [hx]; exact (numB n b).toNat_lt
  rw [← hx]
  have E3 := Lib.hid e3
  clear e3 hx hn
  go_enter Tryd.func130, Tryd.ntmps130
  go_wp2
  go_ret2
  refine ⟨?_, rfl⟩
  show Ending.returned (.tuple #[.int .u8 (n : Int), .bool (decide ((128 : Int) ≤ (x : Int)))]) = _
  rw [E3.out]

section
variable {P : Program}
theorem results_cell_tmp {fn : Func} {p q : Tmp} {ty : TypeId} (h : fn.results = #[.cell p ty, .tmp q]) (tmps : Array Value) (w : World) (g : Nat) (t : TypeId) (cs : Array Value) (fr : Nat × Nat) (d : TypeDesc)
    (hp : tmps.getD p undef = .pointer (some ⟨g, 0, none⟩)) (hg : w.heap[g]? = some (.cells cs t fr))
    (hu : P.underlying ty = some d) (hd : (match d with | .struct _ | .array _ _ => true | _ => false) = true) (hi : (P.info? ty).map (·.size) = some cs.size) :
    (results fn tmps).run P w = .ok (.tuple #[.agg cs, tmps.getD q undef]) w := by
  have hp' : tmps[p]?.getD undef = .pointer (some ⟨g, 0, none⟩) := by simpa using hp
  simp [results, h, hp', asAddr, run_loadVar_row w g t ty cs fr d hg hu hd hi]
end
theorem infoUnit : (Tryd.prog.info? 45).map (·.size) = some 7 := by kernel_rfl

theorem Un.octets_len (u : Un) : u.octets.length = u.rest.length + 3 := by simp [Un.octets]

set_option maxHeartbeats 4000000 in
set_option maxRecDepth 100000 in
theorem decode_two (u : Un) (h : u.Ok) (h2 : u.kind = 2) (A : Option Addr) (c : Nat) (w : World) (hA : RdB w A u.octets) (hc : u.octets.length ≤ c) (hcm : c ≤ 140737488351232) :
    Calls Tryd.prog 83 #[.slice A u.octets.length c] w fun e w' => ∃ A', e = .returned (.tuple #[u.val A' u.load.length, .int .i64 0]) ∧ RowB w' w.heap.size A' u.load.length u.load ∧ Below w.heap.size w w' := by
  have hr : u.rest = u.load := by unfold Un.rest; rw [if_neg (by omega)]
  have hoct : u.octets = [numB u.back u.bb, numB u.fore u.fb, UInt8.ofNat (min u.load.length 63)] ++ u.load := by unfold Un.octets; rw [hr]
  have hll : 2 ≤ u.load.length ∧ u.load.length ≤ 273 ∧ u.st = 0 := by rcases h.hk with h | h | h <;> omega
  have hn1 := fun w' => number_any u.back u.bb h.hb w'
  have hn2 := fun w' => number_any u.fore u.fb h.hf w'
  have hlen := u.octets_len
  rw [hr] at hlen
  obtain ⟨ad, rfl, hc0⟩ := hA.get (k := 0) (by omega)
  obtain ⟨_, e, hc1⟩ := hA.get (k := 1) (by omega)
  injection e with e
  subst e
  obtain ⟨_, e, hc2⟩ := hA.get (k := 2) (by omega)
  injection e with e
  subst e
  have g0 : (u.octets[0]'(by omega)) = numB u.back u.bb := by simp [hoct]
  have g1 : (u.octets[1]'(by omega)) = numB u.fore u.fb := by simp [hoct]
  have g2 : ((u.octets[2]'(by omega)).toNat : Int) = ((min u.load.length 63 : Nat) : Int) := by
    have : (u.octets[2]'(by omega)) = UInt8.ofNat (min u.load.length 63) := by simp [hoct]
    rw [this, UInt8.toNat_ofNat']
    omega
  rw [g0] at hc0
  rw [g1] at hc1
  rw [g2] at hc2
  have hdrop : u.octets.drop 3 = u.load := by rw [hoct]; rfl
  have hcl := fun w1 (hb : Below w.heap.size w w1) => clone_any (some (ad.add 3)) (c - 3) u.load w1 (by rw [← hdrop]; exact (hA.below hb).drop 3) (by omega)
  have hls := fun w' => least_any u.load.length w'
  have hml : min u.load.length 63 < 256 := by omega
  rw [show ad.add 2 = ⟨ad.block, ad.off + 2, none⟩ from add_succ ad 1] at hc2
  rw [show ad.add 1 = ⟨ad.block, ad.off + 1, none⟩ from add_succ ad 0] at hc1
  rw [show ad.add 0 = ad from by unfold Addr.add; simp] at hc0
  have hsl : ad.add 3 = ⟨ad.block, ad.off + 3, none⟩ := add_succ ad 2
  rw [hsl] at hcl
  clear g0 g1 g2 hdrop hoct hr hA hsl
  generalize u.octets.length = N at *
  obtain ⟨back, bb, fore, fb, kind, st, load⟩ := u
  simp only at hll hn1 hn2 hc0 hc1 hc2 hcl hls hml hlen h2
  unfold Un.val
  generalize numB back bb = b0 at *
  generalize numB fore fb = b1 at *
  generalize min load.length 63 = m at *
  obtain ⟨hl2, hl273, rfl⟩ := hll
  subst h2
  have e1 : (N : Int) - 3 = (load.length : Int) := by omega
  have q0 : (0 : Int) < (N : Int) := by omega
  have q1 : (1 : Int) < (N : Int) := by omega
  have q2 : (2 : Int) < (N : Int) := by omega
  have q3 : (3 : Int) ≤ (N : Int) := by omega
  have q4 : (N : Int) ≤ (c : Int) := by omega
  have hb0 := b0.toNat_lt
  have hb1 := b1.toNat_lt
  have HN1 := Lib.hid hn1
  have HN2 := Lib.hid hn2
  have HCL := Lib.hid hcl
  have HLS := Lib.hid hls
  have HLEN := Lib.hid hlen
  clear hn1 hn2 hcl hls hlen h
  go_enter Tryd.func83, Tryd.ntmps83
  go_wp2
  have Z := (Below.refl w.heap.size w).alloc (Nat.le_refl _) (.cells #[.int .u8 0, .bool false, .int .u8 0, .bool false, .int .u8 0, .int .u8 0, .slice none 0 0] 45)
  have z0 := cell_later Z hc0
  have z1 := cell_later Z hc1
  have z2 := cell_later Z hc2
  have zl := block_lt_of_cell hc2
  have e64 : IntKind.i64.wrap (m : Int) = (m : Int) := by rw [IntKind.wrap_i64]; omega
  go_region_held3 (fun w' => w'.cell? ⟨ad.block, ad.off + 2, none⟩ = some (.int .u8 (m : Int))) (first | go_keep | exact z2)
    (first | (go_at_call 75; (with_reducible refine (HLS.out _).mono ?_); rintro e w4 ⟨rfl, rfl⟩) | fail)
  have e8 : N - 3 = load.length := by omega
  have Z2 := (Z.alloc (by simp) (.cells #[.int .u8 (back : Int), .bool bb, .int .u8 (fore : Int), .bool fb, .int .u8 0, .int .u8 0, .slice none 0 0] 45)).drew
  have E8 := Lib.hid e8
  have G1 := Lib.hid (show ((w.alloc (.cells #[.int .u8 0, .bool false, .int .u8 0, .bool false, .int .u8 0, .int .u8 0, .slice none 0 0] 45)).alloc (.cells #[.int .u8 (back : Int), .bool bb, .int .u8 (fore : Int), .bool fb, .int .u8 0, .int .u8 0, .slice none 0 0] 45)).drew.heap[w.heap.size + 1]? = some (.cells #[.int .u8 (back : Int), .bool bb, .int .u8 (fore : Int), .bool fb, .int .u8 0, .int .u8 0, .slice none 0 0] 45 (0, 0)) from heap_alloc2_new _ _ _)
  have G0 := Lib.hid (show ((w.alloc (.cells #[.int .u8 0, .bool false, .int .u8 0, .bool false, .int .u8 0, .int .u8 0, .slice none 0 0] 45)).alloc (.cells #[.int .u8 (back : Int), .bool bb, .int .u8 (fore : Int), .bool fb, .int .u8 0, .int .u8 0, .slice none 0 0] 45)).drew.heap[w.heap.size]? = some (.cells #[.int .u8 0, .bool false, .int .u8 0, .bool false, .int .u8 0, .int .u8 0, .slice none 0 0] 45 (0, 0)) from heap_alloc2_old _ _ _)
  clear e8
  go_wp2_with (first
    | (go_at_call 130; (with_reducible refine (HN1.out _).mono ?_); rintro e w5 ⟨rfl, rfl⟩)
    | (go_at_call 130; (with_reducible refine (HN2.out _).mono ?_); rintro e w5 ⟨rfl, rfl⟩)
    | (go_at_call 70; rw [E8.out]; (refine (HCL.out _ Z2).mono ?_)
       rintro e w6 ⟨A6, c6, rfl, hR6, hB6⟩
       have o1 := (hB6.block _ (by simp)).trans G1.out
       have o0 := (hB6.block _ (by simp; omega)).trans G0.out
       have y4 : w6.cell? ⟨w.heap.size + 1, 4, none⟩ = some (.int .u8 0) := by rw [cell_of_row _ _ _ _ _ _ o1]; rfl
       have y6 : w6.cell? ⟨w.heap.size + 1, 6, none⟩ = some (.slice none 0 0) := by rw [cell_of_row _ _ _ _ _ _ o1]; rfl
       have k4 : w6.frozen? ⟨w.heap.size + 1, 4, none⟩ = false := frozen_of_row _ _ _ _ _ o1
       have k6 : w6.frozen? ⟨w.heap.size + 1, 6, none⟩ = false := frozen_of_row _ _ _ _ _ o1
       have hle6 := Row.le hR6
       have hcap6 := Row.cap_le hR6)
    | (go_at_call 62; (with_reducible refine (clip_any _ _ _ _ hle6 hcap6).mono ?_); rintro e w7 ⟨rfl, rfl⟩)
    | ((with_reducible refine at_dst 66 rfl ?_); refine wpList_load_row rfl 45 (.tmp 6) rfl (w.heap.size + 1) rfl 45 #[.int .u8 (back : Int), .bool bb, .int .u8 (fore : Int), .bool fb, .int .u8 2, .int .u8 0, .slice A6 load.length load.length] (0, 0) _ (by rw [heap_setCell_same _ _ _ _ _ _ (heap_setCell_same _ _ _ _ _ _ o1)]; rfl) Tryd.underlying45 rfl infoUnit ?_)
    | ((with_reducible refine at_store 45 2 rfl ?_)
       refine wpList_store_rowN rfl 45 (.tmp 2) (.tmp 66) rfl w.heap.size #[.int .u8 (back : Int), .bool bb, .int .u8 (fore : Int), .bool fb, .int .u8 2, .int .u8 0, .slice A6 load.length load.length] rfl rfl 45 #[.int .u8 0, .bool false, .int .u8 0, .bool false, .int .u8 0, .int .u8 0, .slice none 0 0] (by rw [heap_setCell_other _ _ _ _ (by simp), heap_setCell_other _ _ _ _ (by simp)]; exact o0) infoUnit rfl (by simp [Value.oneCell']) ?_
       intro w8 o8 s8 g8)
    | fail)
  have hsz : ((w.alloc (.cells #[.int .u8 0, .bool false, .int .u8 0, .bool false, .int .u8 0, .int .u8 0, .slice none 0 0] 45)).alloc (.cells #[.int .u8 (back : Int), .bool bb, .int .u8 (fore : Int), .bool fb, .int .u8 0, .int .u8 0, .slice none 0 0] 45)).drew.heap.size = w.heap.size + 2 := by simp
  have hlow : ∀ j, A6.map (·.block) = some j → w.heap.size + 2 ≤ j := fun j hj => by
    have := (Row.lt hR6 j hj).1
    omega
  have r1 := RowB.other (k := 4) hR6 (g := w.heap.size + 1) (fun j hj => by have := hlow j hj; omega) (.int .u8 2)
  have r2 := RowB.other (k := 6) r1 (g := w.heap.size + 1) (fun j hj => by have := hlow j hj; omega) (.slice A6 load.length load.length)
  have r3 := Row.kept r2 g8 (fun j hj e => by have := hlow j hj; injection e with e; omega)
  have b6 : Below w.heap.size w w6 := Z2.trans (hB6.mono (by omega))
  have b7 := (b6.setCell (p := ⟨w.heap.size + 1, 4, none⟩) (by simp) (.int .u8 2)).setCell (p := ⟨w.heap.size + 1, 6, none⟩) (by simp) (.slice A6 load.length load.length)
  have b8 := b7.grown g8 b7.size (fun k hk => by injection hk with hk; omega)
  exact bodyPost_ret (results_cell_tmp (p := 2) (q := 3) rfl _ _ w.heap.size 45 _ (0, 0) _ rfl o8 Tryd.underlying45 rfl infoUnit) rfl ⟨A6, rfl, Row.mono (Row.clip r3) (Nat.le_trans (Nat.le_add_right _ 2) (Nat.le_of_eq hsz.symm)), b8⟩
set_option maxHeartbeats 4000000 in
set_option maxRecDepth 100000 in
theorem decode_zero (u : Un) (h : u.Ok) (h2 : u.kind = 0) (A : Option Addr) (c : Nat) (w : World) (hA : RdB w A u.octets) (hc : u.octets.length ≤ c) (hcm : c ≤ 140737488351232) :
    Calls Tryd.prog 83 #[.slice A u.octets.length c] w fun e w' => ∃ A', e = .returned (.tuple #[u.val A' u.load.length, .int .i64 0]) ∧ RowB w' w.heap.size A' u.load.length u.load ∧ Below w.heap.size w w' := by
  have hll : u.load = [] ∧ u.st = 0 := by
    rcases h.hk with ⟨_, h1, h3⟩ | ⟨h0, _, _⟩ | ⟨h0, _, _⟩
    · exact ⟨h3, h1⟩
    · omega
    · omega
  have hr : u.rest = [] := by unfold Un.rest; rw [if_neg (by omega)]; exact hll.1
  have hoct : u.octets = [numB u.back u.bb, numB u.fore u.fb, UInt8.ofNat 0] ++ [] := by unfold Un.octets; rw [hr]; rfl
  have hn1 := fun w' => number_any u.back u.bb h.hb w'
  have hn2 := fun w' => number_any u.fore u.fb h.hf w'
  have hlen : u.octets.length = 3 := by rw [u.octets_len, hr]; rfl
  obtain ⟨ad, rfl, hc0⟩ := hA.get (k := 0) (by omega)
  obtain ⟨_, e, hc1⟩ := hA.get (k := 1) (by omega)
  injection e with e
  subst e
  obtain ⟨_, e, hc2⟩ := hA.get (k := 2) (by omega)
  injection e with e
  subst e
  have g0 : (u.octets[0]'(by omega)) = numB u.back u.bb := by simp [hoct]
  have g1 : (u.octets[1]'(by omega)) = numB u.fore u.fb := by simp [hoct]
  have g2 : ((u.octets[2]'(by omega)).toNat : Int) = 0 := by
    have : (u.octets[2]'(by omega)) = UInt8.ofNat 0 := by simp [hoct]
    rw [this]
    rfl
  rw [g0] at hc0
  rw [g1] at hc1
  rw [g2] at hc2
  rw [show ad.add 2 = ⟨ad.block, ad.off + 2, none⟩ from add_succ ad 1] at hc2
  rw [show ad.add 1 = ⟨ad.block, ad.off + 1, none⟩ from add_succ ad 0] at hc1
  rw [show ad.add 0 = ad from by unfold Addr.add; simp] at hc0
  have hls : ∀ w', Calls Tryd.prog 75 #[.int .i64 0, .int .i64 63] w' fun e w2 => e = .returned (.int .i64 0) ∧ w' = w2 := fun w' => least_any 0 w'
  rw [hlen] at hc ⊢
  clear g0 g1 g2 hoct hr hA hlen
  obtain ⟨back, bb, fore, fb, kind, st, load⟩ := u
  simp only at hll hn1 hn2 hc0 hc1 hc2 h2
  unfold Un.val
  generalize numB back bb = b0 at *
  generalize numB fore fb = b1 at *
  obtain ⟨rfl, rfl⟩ := hll
  subst h2
  have q4 : (3 : Int) ≤ (c : Int) := by omega
  have hb0 := b0.toNat_lt
  have hb1 := b1.toNat_lt
  have HN1 := Lib.hid hn1
  have HN2 := Lib.hid hn2
  have HLS := Lib.hid hls
  clear hn1 hn2 hls h
  go_enter Tryd.func83, Tryd.ntmps83
  go_wp2
  have Z := (Below.refl w.heap.size w).alloc (Nat.le_refl _) (.cells #[.int .u8 0, .bool false, .int .u8 0, .bool false, .int .u8 0, .int .u8 0, .slice none 0 0] 45)
  have z0 := cell_later Z hc0
  have z1 := cell_later Z hc1
  have z2 := cell_later Z hc2
  have zl := block_lt_of_cell hc2
  go_region_held3 (fun w' => w'.cell? ⟨ad.block, ad.off + 2, none⟩ = some (.int .u8 0)) (first | go_keep | exact z2)
    (first | (go_at_call 75; (with_reducible refine (HLS.out _).mono ?_); rintro e w4 ⟨rfl, rfl⟩) | fail)
  go_wp2_with (first
    | (go_at_call 130; (with_reducible refine (HN1.out _).mono ?_); rintro e w5 ⟨rfl, rfl⟩)
    | (go_at_call 130; (with_reducible refine (HN2.out _).mono ?_); rintro e w5 ⟨rfl, rfl⟩)
    | fail)
  all_goals exact bodyPost_ret (results_cell_tmp (p := 2) (q := 3) rfl _ _ w.heap.size 45 #[.int .u8 (back : Int), .bool bb, .int .u8 (fore : Int), .bool fb, .int .u8 0, .int .u8 0, .slice none 0 0] (0, 0) _ rfl (heap_alloc2_old _ _ _) Tryd.underlying45 rfl infoUnit) rfl ⟨none, rfl, RowB.nil _ _, (below_alloc ((Below.refl w.heap.size w).alloc (Nat.le_refl _) _) _).drew⟩

set_option maxHeartbeats 4000000 in
set_option maxRecDepth 100000 in
theorem decode_one (u : Un) (h : u.Ok) (h2 : u.kind = 1) (A : Option Addr) (c : Nat) (w : World) (hA : RdB w A u.octets) (hc : u.octets.length ≤ c) (hcm : c ≤ 140737488351232) :
    Calls Tryd.prog 83 #[.slice A u.octets.length c] w fun e w' => ∃ A', e = .returned (.tuple #[u.val A' u.load.length, .int .i64 0]) ∧ RowB w' w.heap.size A' u.load.length u.load ∧ Below w.heap.size w w' := by
  have hll : u.load = [] ∧ u.st ≤ 5 := by
    rcases h.hk with ⟨h0, _, _⟩ | ⟨_, h1, h3⟩ | ⟨h0, _, _⟩
    · omega
    · exact ⟨h3, h1⟩
    · omega
  have hr : u.rest = [UInt8.ofNat u.st] := by unfold Un.rest; rw [if_pos (by omega)]
  have hoct : u.octets = [numB u.back u.bb, numB u.fore u.fb, UInt8.ofNat 1] ++ [UInt8.ofNat u.st] := by unfold Un.octets; rw [hr]; rfl
  have hn1 := fun w' => number_any u.back u.bb h.hb w'
  have hn2 := fun w' => number_any u.fore u.fb h.hf w'
  have hlen : u.octets.length = 4 := by rw [u.octets_len, hr]; rfl
  obtain ⟨ad, rfl, hc0⟩ := hA.get (k := 0) (by omega)
  obtain ⟨_, e, hc1⟩ := hA.get (k := 1) (by omega)
  injection e with e
  subst e
  obtain ⟨_, e, hc2⟩ := hA.get (k := 2) (by omega)
  injection e with e
  subst e
  obtain ⟨_, e, hc3⟩ := hA.get (k := 3) (by omega)
  injection e with e
  subst e
  have g0 : (u.octets[0]'(by omega)) = numB u.back u.bb := by simp [hoct]
  have g1 : (u.octets[1]'(by omega)) = numB u.fore u.fb := by simp [hoct]
  have g2 : ((u.octets[2]'(by omega)).toNat : Int) = 1 := by
    have : (u.octets[2]'(by omega)) = UInt8.ofNat 1 := by simp [hoct]
    rw [this]
    rfl
  rw [g0] at hc0
  rw [g1] at hc1
  rw [g2] at hc2
  have g3 : ((u.octets[3]'(by omega)).toNat : Int) = (u.st : Int) := by
    have : (u.octets[3]'(by omega)) = UInt8.ofNat u.st := by simp [hoct]
    rw [this, UInt8.toNat_ofNat']
    omega
  rw [g3] at hc3
  rw [show ad.add 3 = ⟨ad.block, ad.off + 3, none⟩ from add_succ ad 2] at hc3
  rw [show ad.add 2 = ⟨ad.block, ad.off + 2, none⟩ from add_succ ad 1] at hc2
  rw [show ad.add 1 = ⟨ad.block, ad.off + 1, none⟩ from add_succ ad 0] at hc1
  rw [show ad.add 0 = ad from by unfold Addr.add; simp] at hc0
  have hls : ∀ w', Calls Tryd.prog 75 #[.int .i64 1, .int .i64 63] w' fun e w2 => e = .returned (.int .i64 1) ∧ w' = w2 := fun w' => least_any 1 w'
  rw [hlen] at hc ⊢
  clear g0 g1 g2 hoct hr hA hlen g3
  obtain ⟨back, bb, fore, fb, kind, st, load⟩ := u
  simp only at hll hn1 hn2 hc0 hc1 hc2 h2 hc3
  unfold Un.val
  generalize numB back bb = b0 at *
  generalize numB fore fb = b1 at *
  obtain ⟨rfl, hst⟩ := hll
  subst h2
  have q4 : (4 : Int) ≤ (c : Int) := by omega
  have hb0 := b0.toNat_lt
  have hb1 := b1.toNat_lt
  have HN1 := Lib.hid hn1
  have HN2 := Lib.hid hn2
  have HLS := Lib.hid hls
  clear hn1 hn2 hls h
  go_enter Tryd.func83, Tryd.ntmps83
  go_wp2
  have Z := (Below.refl w.heap.size w).alloc (Nat.le_refl _) (.cells #[.int .u8 0, .bool false, .int .u8 0, .bool false, .int .u8 0, .int .u8 0, .slice none 0 0] 45)
  have z0 := cell_later Z hc0
  have z1 := cell_later Z hc1
  have z2 := cell_later Z hc2
  have z3 := cell_later Z hc3
  have zl := block_lt_of_cell hc2
  go_region_held3 (fun w' => w'.cell? ⟨ad.block, ad.off + 2, none⟩ = some (.int .u8 1)) (first | go_keep | exact z2)
    (first | (go_at_call 75; (with_reducible refine (HLS.out _).mono ?_); rintro e w4 ⟨rfl, rfl⟩) | fail)
  go_wp2_with (first
    | (go_at_call 130; (with_reducible refine (HN1.out _).mono ?_); rintro e w5 ⟨rfl, rfl⟩)
    | (go_at_call 130; (with_reducible refine (HN2.out _).mono ?_); rintro e w5 ⟨rfl, rfl⟩)
    | fail)
  go_region
  all_goals go_wp2
  all_goals exact bodyPost_ret (results_cell_tmp (p := 2) (q := 3) rfl _ _ w.heap.size 45 #[.int .u8 (back : Int), .bool bb, .int .u8 (fore : Int), .bool fb, .int .u8 1, .int .u8 (st : Int), .slice none 0 0] (0, 0) _ rfl (heap_alloc2_old _ _ _) Tryd.underlying45 rfl infoUnit) rfl ⟨none, rfl, RowB.nil _ _, (below_alloc ((Below.refl w.heap.size w).alloc (Nat.le_refl _) _) _).drew.drew⟩
theorem decode_any (u : Un) (h : u.Ok) (A : Option Addr) (c : Nat) (w : World) (hA : RdB w A u.octets) (hc : u.octets.length ≤ c) (hcm : c ≤ 140737488351232) :
    Calls Tryd.prog 83 #[.slice A u.octets.length c] w fun e w' => ∃ A', e = .returned (.tuple #[u.val A' u.load.length, .int .i64 0]) ∧ RowB w' w.heap.size A' u.load.length u.load ∧ Below w.heap.size w w' := by
  rcases h.hk with h2 | h2 | h2
  · exact decode_zero u h h2.1 A c w hA hc hcm
  · exact decode_one u h h2.1 A c w hA hc hcm
  · exact decode_two u h h2.1 A c w hA hc hcm

set_option maxHeartbeats 1000000 in
set_option maxRecDepth 100000 in
theorem equal_yes (A A2 : Option Addr) (a : List UInt8) (c c2 : Nat) (w : World) (ha : RdB w A a) (hb : RdB w A2 a) (hla : a.length ≤ 140737488351232) :
    Calls Tryd.prog 66 #[.slice A a.length c, .slice A2 a.length c2] w fun e w' => e = .returned (.bool true) ∧ ∃ n, w' = w.drewN n := by
  go_enter Tryd.func66, Tryd.ntmps66
  go_wp2
  go_loopw [5, 13] (fun _ i wr => ∃ k : Nat, k ≤ a.length ∧ i = .int .i64 k ∧ ∃ n, wr = w.drewN n) (fun _ i _ => a.length - (intOf i).toNat)
  case atStart => exact ⟨0, by omega, rfl, 0, rfl⟩
  case round =>
    obtain ⟨k, hk, rfl, n, rfl⟩ := hrel
    by_cases hlt : k < a.length
    · obtain ⟨ad, rfl, hc⟩ := ha.get hlt
      obtain ⟨ad2, rfl, hc2⟩ := hb.get hlt
      generalize a[k] = x at *
      have q1 : (0 : Int) ≤ (k : Int) := by omega
      have q2 : (k : Int) < (a.length : Int) := by omega
      go_wp2
      go_quiet (fail)
      go_wp2
      go_roundw
      case rel => exact ⟨k + 1, by omega, by go_num, n + nq, rfl⟩
      case measure => simp [intOf]; omega
    · go_wp2
      go_ret
      exact ⟨rfl, n, rfl⟩

set_option maxHeartbeats 2000000 in
set_option maxRecDepth 100000 in
theorem unitSame_yes (u : Un) (A A2 : Option Addr) (c c2 : Nat) (w : World) (ha : RdB w A u.load) (hb : RdB w A2 u.load) (hla : u.load.length ≤ 1000000) :
    Calls Tryd.prog 23 #[u.val A c, u.val A2 c2] w fun e w' => e = .returned (.bool true) ∧ Below w.heap.size w w' := by
  obtain ⟨back, bb, fore, fb, kind, st, load⟩ := u
  simp only at ha hb hla
  unfold Un.val
  have he := equal_yes A A2 load c c2 _ ((ha.alloc (.cells #[.int .u8 (back : Int), .bool bb, .int .u8 (fore : Int), .bool fb, .int .u8 (kind : Int), .int .u8 (st : Int), .slice A load.length c] 45)).alloc (.cells #[.int .u8 (back : Int), .bool bb, .int .u8 (fore : Int), .bool fb, .int .u8 (kind : Int), .int .u8 (st : Int), .slice A2 load.length c2] 45)) ((hb.alloc _).alloc _) (by omega)
  have HE := Lib.hid he
  clear he
  go_enter Tryd.func23, Tryd.ntmps23
  go_wp2_with (first
    | (go_at_call 66; (with_reducible refine HE.out.mono ?_); rintro e w2 ⟨rfl, n, rfl⟩)
    | fail)
  all_goals go_ret
  all_goals exact ⟨rfl, below_drewN (below_alloc ((Below.refl w.heap.size w).alloc (Nat.le_refl _) _) _) n⟩
def unitZero : Value := .agg #[.int .u8 0, .bool false, .int .u8 0, .bool false, .int .u8 0, .int .u8 0, .slice none 0 0]
set_option maxHeartbeats 2000000 in
set_option maxRecDepth 100000 in
theorem decode_nil (w : World) :
    Calls Tryd.prog 83 #[.slice none 0 0] w fun e w' => e = .returned (.tuple #[unitZero, .int .i64 5]) ∧ Below w.heap.size w w' := by
  go_enter Tryd.func83, Tryd.ntmps83
  go_wp2
  exact bodyPost_ret (results_cell_tmp (p := 2) (q := 3) rfl _ _ w.heap.size 45 #[.int .u8 0, .bool false, .int .u8 0, .bool false, .int .u8 0, .int .u8 0, .slice none 0 0] (0, 0) _ rfl (heap_alloc_new _ _) Tryd.underlying45 rfl infoUnit) rfl ⟨rfl, (Below.refl w.heap.size w).alloc (Nat.le_refl _) _⟩
end Go.Proofs.YthbbmpelldglmaaDoor
