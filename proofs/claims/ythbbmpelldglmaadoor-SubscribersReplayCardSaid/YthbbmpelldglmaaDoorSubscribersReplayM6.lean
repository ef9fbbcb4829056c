/- Law 38: digits, acts. -/
import Derived.Test.YthbbmpelldglmaaDoorSubscribersReplayM5
import Derived.Deep.RegionHeld3
import Derived.RegionTactic
import Derived.BigRegion
import Derived.StillTailTactics
import Derived.Deep.CutBlock
import Derived.Deep.QuietTactic
import Derived.BigQuiet
import Derived.ProofKit
import Derived.Test.YthbbmpelldglmaaDoorProg
import Derived.Lib.SmallJoins
import Derived.SizedLaws
import Derived.OpenShut
import Derived.Deep.Slices
namespace Go.Proofs.YthbbmpelldglmaaDoor
set_option linter.unusedVariables false
set_option linter.unusedSimpArgs false
open Go.RowKit

/-- the digits of a number that is not 0 -/
def digN : Nat → Nat → List UInt8
  | 0, _ => []
  | f + 1, n => if n = 0 then [] else digN f (n / 10) ++ [UInt8.ofNat (48 + n % 10)]
def digitsB (n : Nat) : List UInt8 := if n = 0 then [48] else digN 3 n

def strLen : Value → Nat
  | .string b => b.size
  | _ => 0
theorem digit_cut : ∀ k : Nat, k < 10 → (⟨#[48, 49, 50, 51, 52, 53, 54, 55, 56, 57]⟩ : ByteArray).extract k (k + 1) = ⟨#[UInt8.ofNat (48 + k)]⟩
  | 0, _ => rfl
  | 1, _ => rfl
  | 2, _ => rfl
  | 3, _ => rfl
  | 4, _ => rfl
  | 5, _ => rfl
  | 6, _ => rfl
  | 7, _ => rfl
  | 8, _ => rfl
  | 9, _ => rfl
theorem digit_put (k : Nat) (h : k < 10) (s : List UInt8) : Value.string ((⟨#[48, 49, 50, 51, 52, 53, 54, 55, 56, 57]⟩ : ByteArray).extract k (k + 1) ++ ⟨s.toArray⟩) = encStr (UInt8.ofNat (48 + k) :: s) := by
  rw [digit_cut k h]
  show Value.string _ = Value.string _
  congr 1
theorem digN_lt : ∀ (f n : Nat), n < 10 ^ f → ∀ k, digN (f + k) n = digN f n
  | 0, n, h, k => by
    obtain rfl : n = 0 := by simpa using h
    cases k <;> simp [digN]
  | f + 1, n, h, k => by
    rw [show f + 1 + k = (f + k) + 1 by omega]
    simp only [digN]
    rw [digN_lt f (n / 10) (by rw [Nat.pow_succ] at h; omega) k]

set_option maxHeartbeats 4000000 in
set_option maxRecDepth 100000 in
theorem digits38_any (N : Nat) (w : World) (hN : N < 256) :
    Calls Tryd.prog 96 #[.int .u8 (N : Int)] w fun e w' => e = .returned (encStr (digitsB N)) ∧ w = w' := by
  go_enter Tryd.func96, Tryd.ntmps96
  go_wp2
  go_loopw [0, 3] (fun nv sv wr => ∃ (n : Nat) (s : List UInt8) (f : Nat), nv = .int .u8 n ∧ n < 256 ∧ sv = encStr s ∧ wr = w ∧ s.length + f ≤ 3 ∧ ((s = [] ∧ n = N ∧ f = 3) ∨ (s ≠ [] ∧ digN f n ++ s = digitsB N ∧ n < 10 ^ f)))
    (fun nv sv _ => 2 * (intOf nv).toNat + (1 - strLen sv))
  case atStart => exact ⟨N, [], 3, rfl, hN, rfl, rfl, Nat.le_refl _, .inl ⟨rfl, rfl, rfl⟩⟩
  case round =>
    obtain ⟨n, s, f, rfl, hn, rfl, rfl, hsl, hr⟩ := hrel
    have HR := Lib.hid hr
    have q2 : ¬ 9223372036854775807 < min (n % 10 + 1) 10 - n % 10 + s.length := by omega
    clear hr
    by_cases h0 : n = 0
    · subst h0
      cases s with
      | nil =>
        go_wp2
        rcases HR.out with ⟨_, rfl, rfl⟩ | ⟨h, _⟩
        · exact ⟨⟨0, [48], 0, rfl, by omega, rfl, trivial, by simp, .inr ⟨by simp, rfl, by simp⟩⟩, by simp [intOf, strLen, encStr]; decide⟩
        · exact absurd rfl h
      | cons x y =>
        go_wp2
        go_ret
        rcases HR.out with ⟨h, _⟩ | ⟨_, h, _⟩
        · cases h
        · have e0 : digN f 0 = [] := by cases f <;> simp [digN]
          rw [e0] at h
          exact ⟨by rw [← h]; rfl, rfl⟩
    · have q1 : (0 : Int) < (n : Int) := by omega
      have H0 := Lib.hid h0
      clear h0
      go_wp2
      rw [digit_put (n % 10) (Nat.mod_lt _ (by decide)) s]
      rcases HR.out with ⟨rfl, rfl, rfl⟩ | ⟨h1, h2, h3⟩
      · refine ⟨⟨n / 10, _, 2, by simp, by omega, rfl, trivial, by simp, .inr ⟨by simp, ?_, by omega⟩⟩, ?_⟩
        · unfold digitsB
          rw [if_neg H0.out]
          have := H0.out
          simp [digN, this]
        · simp [intOf, strLen, encStr]; omega
      · obtain ⟨f', rfl⟩ : ∃ f', f = f' + 1 := ⟨f - 1, by cases f with
          | zero => simp at h3; exact absurd h3 H0.out
          | succ f => simp⟩
        refine ⟨⟨n / 10, _, f', by simp, by omega, rfl, trivial, by simp; omega, .inr ⟨by simp, ?_, by rw [Nat.pow_succ] at h3; omega⟩⟩, ?_⟩
        · rw [← h2]
          have := H0.out
          simp [digN, this]
        · simp [intOf, strLen, encStr]; omega

theorem digits38' (N : Nat) (w : World) (v : Int) (hv : v = (N : Int)) (hN : N < 256) :
    Calls Tryd.prog 96 #[.int .u8 v] w fun e w' => e = .returned (encStr (digitsB N)) ∧ w' = w := by
  subst hv
  exact (digits38_any N w hN).mono fun e w' ⟨h1, h2⟩ => ⟨h1, h2.symm⟩
/-- an act as plain data -/
structure Ac where
  kind : Nat
  id : Nat
  number : Nat
  point : Nat
  flags : Nat
structure Ac.Go (a : Ac) : Prop where
  kind : a.kind < 256
  id : a.id < 256
  number : a.number < 256
  point : a.point < 65536
  flags : a.flags < 256
def Ac.cells (a : Ac) : Array Value := #[.int .u8 a.kind, .int .u8 a.id, .int .u8 a.number, .int .u16 a.point, .int .u8 a.flags]
def Ac.val (a : Ac) : Value := .agg a.cells
def Ac.home (a : Ac) : HomeR := ⟨digitsB (a.id % 8), digitsB (100 + a.number % 8), a.point, a.point * 70000 % 4294967296, decide (a.flags % 2 = 1), decide (a.flags / 2 % 2 = 1)⟩
def Ac.visit (a : Ac) : VisitR := ⟨digitsB (a.id % 8), digitsB (100 + a.number % 8), a.point, a.flags * 16777259, a.flags * 257, if 0 < a.flags % 3 then digitsB (200 + a.number / 8 % 6) else []⟩

set_option maxHeartbeats 4000000 in
set_option maxRecDepth 100000 in
theorem actHome_any (a : Ac) (ha : a.Go) (w : World) :
    Calls Tryd.prog 92 #[a.val] w fun e w' => e = .returned a.home.val ∧ Below w.heap.size w w' := by
  obtain ⟨kind, id, number, point, flags⟩ := a
  obtain ⟨g1, g2, g3, g4, g5⟩ := ha
  unfold Ac.val Ac.cells Ac.home HomeR.val HomeR.cells
  simp only at g1 g2 g3 g4 g5 ⊢
  obtain ⟨mv, hmv⟩ : ∃ m, m = point * 70000 % 4294967296 := ⟨_, rfl⟩
  obtain ⟨ba, hba⟩ : ∃ b, b = decide (flags % 2 = 1) := ⟨_, rfl⟩
  obtain ⟨bw, hbw⟩ : ∃ b, b = decide (flags / 2 % 2 = 1) := ⟨_, rfl⟩
  rw [← hmv, ← hba, ← hbw]
  have w1 : IntKind.u32.wrap (point : Int) = (point : Int) := by simp [IntKind.wrap, IntKind.bits, IntKind.signed]; omega
  have w2 : IntKind.u32.wrap ((point : Int) * 70000) = (mv : Int) := by rw [hmv]; simp [IntKind.wrap, IntKind.bits, IntKind.signed]
  have w3 : IntKind.u8.wrap ((flags : Int) / 2) = (flags : Int) / 2 := by rw [IntKind.wrap_u8]; omega
  have w4 : ((flags : Int) % 2 == 1) = ba := by
    rw [hba, Bool.eq_iff_iff]; simp; omega
  have w5 : ((flags : Int) / 2 % 2 == 1) = bw := by
    rw [hbw, Bool.eq_iff_iff]; simp; omega
  clear hmv hba hbw
  go_enter Tryd.func92, Tryd.ntmps92
  go_wp2
  have oX : ((w.alloc (.cells #[.int .u8 (kind : Int), .int .u8 (id : Int), .int .u8 (number : Int), .int .u16 (point : Int), .int .u8 (flags : Int)] 81)).alloc (.cells #[encStr [], encStr [], .int .u16 0, .int .u32 0, .bool false, .bool false] 63)).heap[w.heap.size]? = some (.cells #[.int .u8 (kind : Int), .int .u8 (id : Int), .int .u8 (number : Int), .int .u16 (point : Int), .int .u8 (flags : Int)] 81) := (Below.heap_alloc _ _ _ (by simp)).trans (heap_alloc_new w _)
  have oY : ((w.alloc (.cells #[.int .u8 (kind : Int), .int .u8 (id : Int), .int .u8 (number : Int), .int .u16 (point : Int), .int .u8 (flags : Int)] 81)).alloc (.cells #[encStr [], encStr [], .int .u16 0, .int .u32 0, .bool false, .bool false] 63)).heap[w.heap.size + 1]? = some (.cells #[encStr [], encStr [], .int .u16 0, .int .u32 0, .bool false, .bool false] 63) := by
    have := heap_alloc_new (w.alloc (.cells #[.int .u8 (kind : Int), .int .u8 (id : Int), .int .u8 (number : Int), .int .u16 (point : Int), .int .u8 (flags : Int)] 81)) (.cells #[encStr [], encStr [], .int .u16 0, .int .u32 0, .bool false, .bool false] 63)
    simpa using this
  have hB : Below w.heap.size w ((w.alloc (.cells #[.int .u8 (kind : Int), .int .u8 (id : Int), .int .u8 (number : Int), .int .u16 (point : Int), .int .u8 (flags : Int)] 81)).alloc (.cells #[encStr [], encStr [], .int .u16 0, .int .u32 0, .bool false, .bool false] 63)) := below_alloc ((Below.refl _ _).alloc (Nat.le_refl _) _) _
  generalize (w.alloc _).alloc _ = W at *
  have k1 : W.cell? ⟨w.heap.size, 1, none⟩ = some (.int .u8 (id : Int)) := cell_of_row _ _ 1 _ _ _ oX
  have k2 : W.cell? ⟨w.heap.size, 2, none⟩ = some (.int .u8 (number : Int)) := cell_of_row _ _ 2 _ _ _ oX
  have k3 : W.cell? ⟨w.heap.size, 3, none⟩ = some (.int .u16 (point : Int)) := cell_of_row _ _ 3 _ _ _ oX
  have k4 : W.cell? ⟨w.heap.size, 4, none⟩ = some (.int .u8 (flags : Int)) := cell_of_row _ _ 4 _ _ _ oX
  have d1 := digits38' (id % 8) W.drew ((id : Int) % 8) (by omega) (by omega)
  have d2 := digits38' (100 + number % 8) W.drew (100 + (number : Int) % 8) (by omega) (by omega)
  refine wp_region_still_tail 25 ?_ ?_ ?_
  · kernel_rfl
  · kernel_rfl
  simp only [List.take_succ_cons, List.take_zero, List.drop_succ_cons, List.drop_zero]
  have t1 : Int.tmod (id : Int) 8 = (id : Int) % 8 := rfl
  have t2 : Int.tmod (number : Int) 8 = (number : Int) % 8 := rfl
  have t3 : IntKind.u8.wrap (100 + (number : Int) % 8) = 100 + (number : Int) % 8 := by rw [IntKind.wrap_u8]; omega
  have t4 : Int.tmod (flags : Int) 2 = (flags : Int) % 2 := rfl
  have t5 : Int.tdiv (flags : Int) 2 = (flags : Int) / 2 := rfl
  have t6 : Int.tmod ((flags : Int) / 2) 2 = (flags : Int) / 2 % 2 := by rw [Int.tmod_eq_emod_of_nonneg (by omega)]
  repeat still_step
  still_call d1
  repeat still_step
  still_call d2
  repeat still_step
  refine wpStill_nil ?_
  change wpList _ _ _ _ _ W.drew
  have HOY := Lib.hid (show W.drew.heap[w.heap.size + 1]? = some (.cells #[encStr [], encStr [], .int .u16 0, .int .u32 0, .bool false, .bool false] 63) from oY)
  have HB := Lib.hid (Below.drew hB)
  clear oX oY k1 k2 k3 k4 d1 d2 hB
  generalize W.drew = W2 at *
  go_wp2_with (first
    | ((with_reducible refine at_store 63 2 rfl ?_)
       refine wpList_store_rowN rfl 63 (.tmp 2) (.tmp 27) rfl (w.heap.size + 1) #[encStr (digitsB (id % 8)), encStr (digitsB (100 + number % 8)), .int .u16 (point : Int), .int .u32 (mv : Int), .bool ba, .bool bw] rfl rfl 63 #[encStr [], encStr [], .int .u16 0, .int .u32 0, .bool false, .bool false] HOY.out infoHome rfl (by simp [Value.oneCell']) ?_
       intro w3 o3 hs3 hg3
       have hB3 := HB.out.grown hg3 HB.out.size (fun j hj => by cases hj; omega)
       have HO3 := Lib.hid o3
       clear o3)
    | fail)
  exact bodyPost_ret (results_cell_row (p := 2) rfl _ _ (w.heap.size + 1) 63 #[encStr (digitsB (id % 8)), encStr (digitsB (100 + number % 8)), .int .u16 (point : Int), .int .u32 (mv : Int), .bool ba, .bool bw] (0, 0) _ rfl HO3.out Tryd.underlying63 rfl infoHome) rfl ⟨rfl, hB3⟩

set_option maxHeartbeats 4000000 in
set_option maxRecDepth 100000 in
theorem actVisit_any (a : Ac) (ha : a.Go) (w : World) :
    Calls Tryd.prog 94 #[a.val] w fun e w' => e = .returned a.visit.val ∧ Below w.heap.size w w' := by
  obtain ⟨kind, id, number, point, flags⟩ := a
  obtain ⟨g1, g2, g3, g4, g5⟩ := ha
  unfold Ac.val Ac.cells Ac.visit VisitR.val VisitR.cells
  simp only at g1 g2 g3 g4 g5 ⊢
  obtain ⟨mv, hmv⟩ : ∃ m, m = flags * 16777259 := ⟨_, rfl⟩
  obtain ⟨ar, har⟩ : ∃ m, m = flags * 257 := ⟨_, rfl⟩
  obtain ⟨roam, hroam⟩ : ∃ r, r = (if 0 < flags % 3 then digitsB (200 + number / 8 % 6) else []) := ⟨_, rfl⟩
  rw [← hmv, ← har, ← hroam]
  have w1 : IntKind.u32.wrap (flags : Int) = (flags : Int) := by simp [IntKind.wrap, IntKind.bits, IntKind.signed]; omega
  have w2 : IntKind.u32.wrap ((flags : Int) * 16777259) = (mv : Int) := by rw [hmv]; simp [IntKind.wrap, IntKind.bits, IntKind.signed]; omega
  have w3 : IntKind.u16.wrap (flags : Int) = (flags : Int) := by rw [wrap_u16]; omega
  have w4 : IntKind.u16.wrap ((flags : Int) * 257) = (ar : Int) := by rw [har, wrap_u16]; omega
  have w5 : IntKind.u8.wrap ((number : Int) / 8) = (number : Int) / 8 := by rw [IntKind.wrap_u8]; omega
  have w6 : IntKind.u8.wrap (200 + (number : Int) / 8 % 6) = 200 + (number : Int) / 8 % 6 := by rw [IntKind.wrap_u8]; omega
  clear hmv har
  go_enter Tryd.func94, Tryd.ntmps94
  go_wp2
  have oX : ((w.alloc (.cells #[.int .u8 (kind : Int), .int .u8 (id : Int), .int .u8 (number : Int), .int .u16 (point : Int), .int .u8 (flags : Int)] 81)).alloc (.cells #[encStr [], encStr [], .int .u16 0, .int .u32 0, .int .u16 0, encStr []] 172)).heap[w.heap.size]? = some (.cells #[.int .u8 (kind : Int), .int .u8 (id : Int), .int .u8 (number : Int), .int .u16 (point : Int), .int .u8 (flags : Int)] 81) := (Below.heap_alloc _ _ _ (by simp)).trans (heap_alloc_new w _)
  have oY : ((w.alloc (.cells #[.int .u8 (kind : Int), .int .u8 (id : Int), .int .u8 (number : Int), .int .u16 (point : Int), .int .u8 (flags : Int)] 81)).alloc (.cells #[encStr [], encStr [], .int .u16 0, .int .u32 0, .int .u16 0, encStr []] 172)).heap[w.heap.size + 1]? = some (.cells #[encStr [], encStr [], .int .u16 0, .int .u32 0, .int .u16 0, encStr []] 172) := heap_alloc2_new _ _ _
  have hB : Below w.heap.size w ((w.alloc (.cells #[.int .u8 (kind : Int), .int .u8 (id : Int), .int .u8 (number : Int), .int .u16 (point : Int), .int .u8 (flags : Int)] 81)).alloc (.cells #[encStr [], encStr [], .int .u16 0, .int .u32 0, .int .u16 0, encStr []] 172)) := below_alloc ((Below.refl _ _).alloc (Nat.le_refl _) _) _
  have hsz : ((w.alloc (.cells #[.int .u8 (kind : Int), .int .u8 (id : Int), .int .u8 (number : Int), .int .u16 (point : Int), .int .u8 (flags : Int)] 81)).alloc (.cells #[encStr [], encStr [], .int .u16 0, .int .u32 0, .int .u16 0, encStr []] 172)).heap.size = w.heap.size + 2 := by simp
  generalize (w.alloc _).alloc _ = W at *
  have hwl : w.heap.size < W.heap.size := by omega
  have hwl1 : w.heap.size + 1 < W.heap.size := by omega
  have k1 : ∀ w' : World, w'.heap[w.heap.size]? = some (.cells #[.int .u8 (kind : Int), .int .u8 (id : Int), .int .u8 (number : Int), .int .u16 (point : Int), .int .u8 (flags : Int)] 81) → w'.cell? ⟨w.heap.size, 1, none⟩ = some (.int .u8 (id : Int)) := fun w' h => cell_of_row _ _ 1 _ _ _ h
  have k2 : ∀ w' : World, w'.heap[w.heap.size]? = some (.cells #[.int .u8 (kind : Int), .int .u8 (id : Int), .int .u8 (number : Int), .int .u16 (point : Int), .int .u8 (flags : Int)] 81) → w'.cell? ⟨w.heap.size, 2, none⟩ = some (.int .u8 (number : Int)) := fun w' h => cell_of_row _ _ 2 _ _ _ h
  have k3 : ∀ w' : World, w'.heap[w.heap.size]? = some (.cells #[.int .u8 (kind : Int), .int .u8 (id : Int), .int .u8 (number : Int), .int .u16 (point : Int), .int .u8 (flags : Int)] 81) → w'.cell? ⟨w.heap.size, 3, none⟩ = some (.int .u16 (point : Int)) := fun w' h => cell_of_row _ _ 3 _ _ _ h
  have k4 : ∀ w' : World, w'.heap[w.heap.size]? = some (.cells #[.int .u8 (kind : Int), .int .u8 (id : Int), .int .u8 (number : Int), .int .u16 (point : Int), .int .u8 (flags : Int)] 81) → w'.cell? ⟨w.heap.size, 4, none⟩ = some (.int .u8 (flags : Int)) := fun w' h => cell_of_row _ _ 4 _ _ _ h
  have d1 := fun w' => digits38' (id % 8) w' ((id : Int) % 8) (by omega) (by omega)
  have d2 := fun w' => digits38' (100 + number % 8) w' (100 + (number : Int) % 8) (by omega) (by omega)
  have t1 : Int.tmod (id : Int) 8 = (id : Int) % 8 := rfl
  have t2 : Int.tmod (number : Int) 8 = (number : Int) % 8 := rfl
  have t3 : IntKind.u8.wrap (100 + (number : Int) % 8) = 100 + (number : Int) % 8 := by rw [IntKind.wrap_u8]; omega
  have D1 := Lib.hid d1
  have D2 := Lib.hid d2
  have HB0 := Lib.hid hB
  have HSZ := Lib.hid hsz
  have HROAM := Lib.hid hroam
  clear d1 d2 hB hsz hroam
  go_cut [3] from 24 (fun s3 wd => s3 = .pointer (some ⟨W.heap.size, 0, none⟩) ∧ Below W.heap.size W wd ∧ wd.heap[W.heap.size]? = some (.cells #[encStr (digitsB (id % 8)), encStr (digitsB (100 + number % 8)), .int .u16 (point : Int), .int .u32 (mv : Int), .int .u16 (ar : Int), encStr []] 172 (0, 0)))
  case first =>
    go_region_held3 (fun w' => w'.heap[w.heap.size]? = some (.cells #[.int .u8 (kind : Int), .int .u8 (id : Int), .int .u8 (number : Int), .int .u16 (point : Int), .int .u8 (flags : Int)] 81))
      (first | exact oX | exact (Below.heap_alloc _ _ _ hwl).trans oX | fail)
      (first
        | (go_at_call 96; (with_reducible refine (D1.out _).mono ?_); rintro e w5 ⟨rfl, rfl⟩)
        | (go_at_call 96; (with_reducible refine (D2.out _).mono ?_); rintro e w5 ⟨rfl, rfl⟩)
        | fail)
    all_goals go_wp2_with fail
    all_goals go_meet
    all_goals exact ⟨rfl, ((Below.refl _ _).alloc (Nat.le_refl _) _).drew, heap_alloc_new W _⟩
  case rest =>
    obtain ⟨rfl, hB2, oV⟩ := hcut
    have oX2 := (hB2.block w.heap.size hwl).trans oX
    have oY2 := (hB2.block (w.heap.size + 1) hwl1).trans oY
    have HB := Lib.hid (HB0.out.trans (hB2.mono HB0.out.size))
    have c4 := k4 wc oX2
    have c2 := k2 wc oX2
    have HOY := Lib.hid oY2
    have d3 := digits38' (200 + number / 8 % 6) wc (200 + (number : Int) / 8 % 6) (by omega) (by omega)
    have t4 : Int.tmod (flags : Int) 3 = (flags : Int) % 3 := rfl
    have t5 : Int.tdiv (number : Int) 8 = (number : Int) / 8 := rfl
    have t6 : Int.tmod ((number : Int) / 8) 6 = (number : Int) / 8 % 6 := by rw [Int.tmod_eq_emod_of_nonneg (by omega)]
    have D3 := Lib.hid d3
    clear k1 k2 k3 k4 oX oY oX2 oY2 hB2 d3
    by_cases hf : 0 < flags % 3
    · have er : roam = digitsB (200 + number / 8 % 6) := by rw [HROAM.out, if_pos hf]
      subst er
      have q1 : (0 : Int) < (flags : Int) % 3 := by omega
      have f5 : wc.frozen? ⟨W.heap.size, 5, none⟩ = false := Go.Joins.unfrozen_of_block oV 5
      have v5o : wc.cell? ⟨W.heap.size, 5, none⟩ = some (encStr []) := cell_of_row _ _ 5 _ _ _ oV
      have oV2 : (wc.setCell ⟨W.heap.size, 5, none⟩ (encStr (digitsB (200 + number / 8 % 6)))).heap[W.heap.size]? = some (.cells #[encStr (digitsB (id % 8)), encStr (digitsB (100 + number % 8)), .int .u16 (point : Int), .int .u32 (mv : Int), .int .u16 (ar : Int), encStr (digitsB (200 + number / 8 % 6))] 172 (0, 0)) := Go.Joins.block_setCell (i := 5) oV _
      have cc : Chg [W.heap.size] wc (wc.setCell ⟨W.heap.size, 5, none⟩ (encStr (digitsB (200 + number / 8 % 6)))) := (Chg.refl _ _).setCell (by simp) _
      have HOY := Lib.hid (cc.heap HOY.out (by simp; omega))
      have HB := Lib.hid (HB.out.trans (cc.below (fun i hi => by simp at hi; omega) HB.out.size))
      have HOV2 := Lib.hid oV2
      clear oV oV2 cc hf
      go_upto_region 4 with (first
        | (go_at_call 96; (with_reducible refine D3.out.mono ?_); rintro e w5 ⟨rfl, h5⟩; obtain rfl := h5.symm)
        | fail)
      clear v5o f5
      have v0 : (wc.setCell ⟨W.heap.size, 5, none⟩ (encStr (digitsB (200 + number / 8 % 6)))).cell? ⟨W.heap.size, 0, none⟩ = some (encStr (digitsB (id % 8))) := cell_of_row _ _ 0 _ _ _ HOV2.out
      have v1 : (wc.setCell ⟨W.heap.size, 5, none⟩ (encStr (digitsB (200 + number / 8 % 6)))).cell? ⟨W.heap.size, 1, none⟩ = some (encStr (digitsB (100 + number % 8))) := cell_of_row _ _ 1 _ _ _ HOV2.out
      have v2 : (wc.setCell ⟨W.heap.size, 5, none⟩ (encStr (digitsB (200 + number / 8 % 6)))).cell? ⟨W.heap.size, 2, none⟩ = some (.int .u16 (point : Int)) := cell_of_row _ _ 2 _ _ _ HOV2.out
      have v3 : (wc.setCell ⟨W.heap.size, 5, none⟩ (encStr (digitsB (200 + number / 8 % 6)))).cell? ⟨W.heap.size, 3, none⟩ = some (.int .u32 (mv : Int)) := cell_of_row _ _ 3 _ _ _ HOV2.out
      have v4 : (wc.setCell ⟨W.heap.size, 5, none⟩ (encStr (digitsB (200 + number / 8 % 6)))).cell? ⟨W.heap.size, 4, none⟩ = some (.int .u16 (ar : Int)) := cell_of_row _ _ 4 _ _ _ HOV2.out
      have v5 : (wc.setCell ⟨W.heap.size, 5, none⟩ (encStr (digitsB (200 + number / 8 % 6)))).cell? ⟨W.heap.size, 5, none⟩ = some (encStr (digitsB (200 + number / 8 % 6))) := cell_of_row _ _ 5 _ _ _ HOV2.out
      generalize wc.setCell ⟨W.heap.size, 5, none⟩ (encStr (digitsB (200 + number / 8 % 6))) = wz at *
      go_wp2_with (first
        | ((with_reducible refine at_store 172 2 rfl ?_)
           refine wpList_store_rowN rfl 172 (.tmp 2) (.tmp 35) rfl (w.heap.size + 1) #[encStr (digitsB (id % 8)), encStr (digitsB (100 + number % 8)), .int .u16 (point : Int), .int .u32 (mv : Int), .int .u16 (ar : Int), encStr (digitsB (200 + number / 8 % 6))] rfl rfl 172 #[encStr [], encStr [], .int .u16 0, .int .u32 0, .int .u16 0, encStr []] HOY.out infoVisit rfl (by simp [Value.oneCell']) ?_
           intro w3 o3 hs3 hg3
           have hB3 := HB.out.grown hg3 HB.out.size (fun j hj => by cases hj; omega)
           have HO3 := Lib.hid o3
           clear o3)
        | fail)
      exact bodyPost_ret (results_cell_row (p := 2) rfl _ _ (w.heap.size + 1) 172 #[encStr (digitsB (id % 8)), encStr (digitsB (100 + number % 8)), .int .u16 (point : Int), .int .u32 (mv : Int), .int .u16 (ar : Int), encStr (digitsB (200 + number / 8 % 6))] (0, 0) _ rfl HO3.out Tryd.underlying172 rfl infoVisit) rfl ⟨rfl, hB3⟩
    · have er : roam = [] := by rw [HROAM.out, if_neg hf]
      subst er
      have q1 : ¬ (0 : Int) < (flags : Int) % 3 := by omega
      have v0 : wc.cell? ⟨W.heap.size, 0, none⟩ = some (encStr (digitsB (id % 8))) := cell_of_row _ _ 0 _ _ _ oV
      have v1 : wc.cell? ⟨W.heap.size, 1, none⟩ = some (encStr (digitsB (100 + number % 8))) := cell_of_row _ _ 1 _ _ _ oV
      have v2 : wc.cell? ⟨W.heap.size, 2, none⟩ = some (.int .u16 (point : Int)) := cell_of_row _ _ 2 _ _ _ oV
      have v3 : wc.cell? ⟨W.heap.size, 3, none⟩ = some (.int .u32 (mv : Int)) := cell_of_row _ _ 3 _ _ _ oV
      have v4 : wc.cell? ⟨W.heap.size, 4, none⟩ = some (.int .u16 (ar : Int)) := cell_of_row _ _ 4 _ _ _ oV
      have v5 : wc.cell? ⟨W.heap.size, 5, none⟩ = some (encStr []) := cell_of_row _ _ 5 _ _ _ oV
      clear oV hf
      go_wp2_with (first
        | ((with_reducible refine at_store 172 2 rfl ?_)
           refine wpList_store_rowN rfl 172 (.tmp 2) (.tmp 35) rfl (w.heap.size + 1) #[encStr (digitsB (id % 8)), encStr (digitsB (100 + number % 8)), .int .u16 (point : Int), .int .u32 (mv : Int), .int .u16 (ar : Int), encStr []] rfl rfl 172 #[encStr [], encStr [], .int .u16 0, .int .u32 0, .int .u16 0, encStr []] HOY.out infoVisit rfl (by simp [Value.oneCell']) ?_
           intro w3 o3 hs3 hg3
           have hB3 := HB.out.grown hg3 HB.out.size (fun j hj => by cases hj; omega)
           have HO3 := Lib.hid o3
           clear o3)
        | fail)
      exact bodyPost_ret (results_cell_row (p := 2) rfl _ _ (w.heap.size + 1) 172 #[encStr (digitsB (id % 8)), encStr (digitsB (100 + number % 8)), .int .u16 (point : Int), .int .u32 (mv : Int), .int .u16 (ar : Int), encStr []] (0, 0) _ rfl HO3.out Tryd.underlying172 rfl infoVisit) rfl ⟨rfl, hB3⟩
end Go.Proofs.YthbbmpelldglmaaDoor
/- Law 38: an act done with a store. -/
namespace Go.Proofs.YthbbmpelldglmaaDoor
set_option linter.unusedVariables false
set_option linter.unusedSimpArgs false
open Go.RowKit

def Ac.edit (a : Ac) : Edit := if a.kind % 4 = 0 then .putH a.home else if a.kind % 4 = 1 then .putV a.visit else if a.kind % 4 = 2 then .dropH (digitsB (a.id % 8)) else .dropV (digitsB (a.id % 8))
theorem digN_len : ∀ f n, (digN f n).length ≤ f
  | 0, n => by simp [digN]
  | f + 1, n => by
    unfold digN
    split
    · simp
    · rw [List.length_append]
      have := digN_len f (n / 10)
      simp
      omega
theorem digitsB_len (n : Nat) : (digitsB n).length ≤ 3 := by
  unfold digitsB
  split
  · simp
  · exact digN_len 3 n
theorem Ac.home_go {a : Ac} (h : a.Go) : (Edit.putH a.home).Go := by
  have h1 := digitsB_len (a.id % 8)
  have h2 := digitsB_len (100 + a.number % 8)
  refine ⟨⟨h.point, Nat.mod_lt _ (by decide)⟩, ?_, ?_⟩ <;> simp only [Ac.home, maxLen] <;> omega
theorem Ac.visit_go {a : Ac} (h : a.Go) : (Edit.putV a.visit).Go := by
  have h1 := digitsB_len (a.id % 8)
  have h2 := digitsB_len (100 + a.number % 8)
  have h3 := digitsB_len (200 + a.number / 8 % 6)
  have h4 := h.flags
  refine ⟨⟨h.point, by simp only [Ac.visit]; omega, by simp only [Ac.visit]; omega⟩, ?_, ?_, ?_⟩
  · simp only [Ac.visit, maxLen]; omega
  · simp only [Ac.visit, maxLen]; omega
  · simp only [Ac.visit, maxLen]; split <;> simp <;> omega
theorem Ac.edit_go {a : Ac} (h : a.Go) : a.edit.Go := by
  have h1 := digitsB_len (a.id % 8)
  have hd : (digitsB (a.id % 8)).length ≤ maxLen := by simp only [maxLen]; omega
  unfold Ac.edit
  split
  · exact a.home_go h
  · split
    · exact a.visit_go h
    · split
      · exact hd
      · exact hd

set_option maxHeartbeats 2000000 in
set_option maxRecDepth 100000 in
theorem do_k0 (a : Ac) (ha : a.Go) (w : World) (g : Nat) (F : List Nat) (S : St) (h : StAt w g F S) (hfit : S.Fit) (hp : S.puts < 4096) (hll : S.log.length ≤ 100000000) (hk : a.kind % 4 = 0) :
    Calls Tryd.prog 30 #[.pointer (some ⟨g, 0, none⟩), a.val] w (Done w g F S a.edit) := by
  have he : a.edit = .putH a.home := by unfold Ac.edit; simp only [hk]; rfl
  have hg := a.home_go ha
  have hh := fun w => actHome_any a ha w
  rw [he]
  generalize a.home = x at *
  obtain ⟨hid, hnum, hat, hmv, hba, hwa⟩ := x
  obtain ⟨hg1, hg2, hg3⟩ := hg
  obtain ⟨kind, id, num, point, flags⟩ := a
  unfold Ac.val Ac.cells at *
  unfold HomeR.val HomeR.cells at hh
  simp only at hh hk ⊢
  have t1 : Int.tmod (kind : Int) 4 = (kind : Int) % 4 := rfl
  have t2 : (kind : Int) % 4 = 0 := by omega
  have b0 := (Below.refl w.heap.size w).alloc (Nat.le_refl _) (.cells #[.int .u8 (kind : Int), .int .u8 (id : Int), .int .u8 (num : Int), .int .u16 (point : Int), .int .u8 (flags : Int)] 81)
  have hput := fun w1 (hb : Below w.heap.size w w1) => putHome_any w1 g F S (h.below hb) hfit hp hll hid hnum hat hmv hba hwa hg1 hg2 hg3
  have HH := Lib.hid hh
  have HP := Lib.hid hput
  have HB0 := Lib.hid b0
  clear hh hput b0 h hfit hk he
  go_enter Tryd.func30, Tryd.ntmps30
  go_wp2_with (first
    | (go_at_call 92; (with_reducible refine (HH.out _).mono ?_); rintro e w1 ⟨rfl, hB1⟩; have hB := below_then HB0.out hB1)
    | (go_at_call 25; (with_reducible refine (HP.out _ hB).mono ?_); rintro e w2 ⟨F2, er, S2, rfl, h2, hc2, hn2, ho2⟩)
    | fail)
  go_ret
  obtain ⟨rfl, rfl⟩ := out_putH ho2
  exact ⟨F2, rfl, h2, (Chg.of_below F hB).then_ hc2, hn2.later hB.size⟩

set_option maxHeartbeats 2000000 in
set_option maxRecDepth 100000 in
theorem do_k1 (a : Ac) (ha : a.Go) (w : World) (g : Nat) (F : List Nat) (S : St) (h : StAt w g F S) (hfit : S.Fit) (hp : S.puts < 4096) (hll : S.log.length ≤ 100000000) (hk : a.kind % 4 = 1) :
    Calls Tryd.prog 30 #[.pointer (some ⟨g, 0, none⟩), a.val] w (Done w g F S a.edit) := by
  have he : a.edit = .putV a.visit := by unfold Ac.edit; simp only [hk]; rfl
  have hg := a.visit_go ha
  have hh := fun w => actVisit_any a ha w
  rw [he]
  generalize a.visit = x at *
  obtain ⟨hid, hnum, hho, hmv, har, hro⟩ := x
  obtain ⟨hg1, hg2, hg3, hg4⟩ := hg
  obtain ⟨kind, id, num, point, flags⟩ := a
  unfold Ac.val Ac.cells at *
  unfold VisitR.val VisitR.cells at hh
  simp only at hh hk ⊢
  have t1 : Int.tmod (kind : Int) 4 = (kind : Int) % 4 := rfl
  have t2 : (kind : Int) % 4 = 1 := by omega
  have b0 := (Below.refl w.heap.size w).alloc (Nat.le_refl _) (.cells #[.int .u8 (kind : Int), .int .u8 (id : Int), .int .u8 (num : Int), .int .u16 (point : Int), .int .u8 (flags : Int)] 81)
  have hput := fun w1 (hb : Below w.heap.size w w1) => putVisit_any w1 g F S (h.below hb) hfit hp hll hid hnum hho hmv har hro hg1 hg2 hg3 hg4
  have HH := Lib.hid hh
  have HP := Lib.hid hput
  have HB0 := Lib.hid b0
  clear hh hput b0 h hfit hk he
  go_enter Tryd.func30, Tryd.ntmps30
  go_wp2_with (first
    | (go_at_call 94; (with_reducible refine (HH.out _).mono ?_); rintro e w1 ⟨rfl, hB1⟩; have hB := below_then HB0.out hB1)
    | (go_at_call 93; (with_reducible refine (HP.out _ hB).mono ?_); rintro e w2 ⟨F2, er, S2, rfl, h2, hc2, hn2, ho2⟩)
    | fail)
  go_ret
  obtain ⟨rfl, rfl⟩ := out_putV ho2
  exact ⟨F2, rfl, h2, (Chg.of_below F hB).then_ hc2, hn2.later hB.size⟩

set_option maxHeartbeats 2000000 in
set_option maxRecDepth 100000 in
theorem do_k2 (a : Ac) (ha : a.Go) (w : World) (g : Nat) (F : List Nat) (S : St) (h : StAt w g F S) (hfit : S.Fit) (hp : S.puts < 4096) (hll : S.log.length ≤ 100000000) (hk : a.kind % 4 = 2) :
    Calls Tryd.prog 30 #[.pointer (some ⟨g, 0, none⟩), a.val] w (Done w g F S a.edit) := by
  have he : a.edit = .dropH (digitsB (a.id % 8)) := by unfold Ac.edit; simp only [hk]; rfl
  rw [he]
  have hid := ha.id
  obtain ⟨kind, id, number, point, flags⟩ := a
  unfold Ac.val Ac.cells at *
  simp only at hk hid ⊢
  have t1 : Int.tmod (kind : Int) 4 = (kind : Int) % 4 := rfl
  have t2 : (kind : Int) % 4 = 2 := by omega
  have t3 : Int.tmod (id : Int) 8 = (id : Int) % 8 := rfl
  have b0 := (Below.refl w.heap.size w).alloc (Nat.le_refl _) (.cells #[.int .u8 (kind : Int), .int .u8 (id : Int), .int .u8 (number : Int), .int .u16 (point : Int), .int .u8 (flags : Int)] 81)
  have d1 := fun w' => digits38' (id % 8) w' ((id : Int) % 8) (by omega) (by omega)
  have hl1 : (digitsB (id % 8)).length ≤ maxLen := by have := digitsB_len (id % 8); simp only [maxLen]; omega
  have hput := fun w1 (hb : Below w.heap.size w w1) => dropHome_any w1 g F S (h.below hb) hfit hll (digitsB (id % 8)) hl1
  generalize digitsB (id % 8) = D at *
  have HD := Lib.hid d1
  have HP := Lib.hid hput
  have HB0 := Lib.hid b0
  clear d1 hput b0 h hfit hk he
  go_enter Tryd.func30, Tryd.ntmps30
  go_wp2_with (first
    | (go_at_call 96; (with_reducible refine (HD.out _).mono ?_); rintro e w1 ⟨rfl, h1⟩; obtain rfl := h1.symm)
    | (go_at_call 95; (with_reducible refine (HP.out _ HB0.out).mono ?_); rintro e w2 ⟨F2, er, S2, rfl, h2, hc2, hn2, ho2⟩)
    | fail)
  go_ret
  obtain ⟨rfl, rfl⟩ := out_dropH ho2
  exact ⟨F2, rfl, h2, (Chg.of_below F HB0.out).then_ hc2, hn2.later HB0.out.size⟩

set_option maxHeartbeats 2000000 in
set_option maxRecDepth 100000 in
theorem do_k3 (a : Ac) (ha : a.Go) (w : World) (g : Nat) (F : List Nat) (S : St) (h : StAt w g F S) (hfit : S.Fit) (hp : S.puts < 4096) (hll : S.log.length ≤ 100000000) (hk : a.kind % 4 = 3) :
    Calls Tryd.prog 30 #[.pointer (some ⟨g, 0, none⟩), a.val] w (Done w g F S a.edit) := by
  have he : a.edit = .dropV (digitsB (a.id % 8)) := by unfold Ac.edit; simp only [hk]; rfl
  rw [he]
  have hid := ha.id
  obtain ⟨kind, id, number, point, flags⟩ := a
  unfold Ac.val Ac.cells at *
  simp only at hk hid ⊢
  have t1 : Int.tmod (kind : Int) 4 = (kind : Int) % 4 := rfl
  have t2 : (kind : Int) % 4 = 3 := by omega
  have t3 : Int.tmod (id : Int) 8 = (id : Int) % 8 := rfl
  have b0 := (Below.refl w.heap.size w).alloc (Nat.le_refl _) (.cells #[.int .u8 (kind : Int), .int .u8 (id : Int), .int .u8 (number : Int), .int .u16 (point : Int), .int .u8 (flags : Int)] 81)
  have d1 := fun w' => digits38' (id % 8) w' ((id : Int) % 8) (by omega) (by omega)
  have hl1 : (digitsB (id % 8)).length ≤ maxLen := by have := digitsB_len (id % 8); simp only [maxLen]; omega
  have hput := fun w1 (hb : Below w.heap.size w w1) => dropVisit_any w1 g F S (h.below hb) hfit hll (digitsB (id % 8)) hl1
  generalize digitsB (id % 8) = D at *
  have HD := Lib.hid d1
  have HP := Lib.hid hput
  have HB0 := Lib.hid b0
  clear d1 hput b0 h hfit hk he
  go_enter Tryd.func30, Tryd.ntmps30
  go_wp2_with (first
    | (go_at_call 96; (with_reducible refine (HD.out _).mono ?_); rintro e w1 ⟨rfl, h1⟩; obtain rfl := h1.symm)
    | (go_at_call 97; (with_reducible refine (HP.out _ HB0.out).mono ?_); rintro e w2 ⟨F2, er, S2, rfl, h2, hc2, hn2, ho2⟩)
    | fail)
  go_ret
  obtain ⟨rfl, rfl⟩ := out_dropV ho2
  exact ⟨F2, rfl, h2, (Chg.of_below F HB0.out).then_ hc2, hn2.later HB0.out.size⟩

/-- 'Do' -/
theorem do_any (a : Ac) (ha : a.Go) (w : World) (g : Nat) (F : List Nat) (S : St) (h : StAt w g F S) (hfit : S.Fit) (hp : S.puts < 4096) (hll : S.log.length ≤ 100000000) :
    Calls Tryd.prog 30 #[.pointer (some ⟨g, 0, none⟩), a.val] w (Done w g F S a.edit) := by
  have h4 : a.kind % 4 = 0 ∨ a.kind % 4 = 1 ∨ a.kind % 4 = 2 ∨ a.kind % 4 = 3 := by omega
  rcases h4 with h4 | h4 | h4 | h4
  · exact do_k0 a ha w g F S h hfit hp hll h4
  · exact do_k1 a ha w g F S h hfit hp hll h4
  · exact do_k2 a ha w g F S h hfit hp hll h4
  · exact do_k3 a ha w g F S h hfit hp hll h4
end Go.Proofs.YthbbmpelldglmaaDoor
/- Law 38: the store behind some acts. Plain. -/
namespace Go.Proofs.YthbbmpelldglmaaDoor
set_option linter.unusedVariables false
set_option linter.unusedSimpArgs false
open Go.RowKit

def eds (l : List Ac) : List Edit := l.map Ac.edit
/-- the store behind the first k acts -/
def Sk (l : List Ac) (k : Nat) : St := runE S00 ((eds l).take k)
theorem eds_go {l : List Ac} (h : ∀ a ∈ l, a.Go) : ∀ o ∈ eds l, o.Go := by
  intro o ho
  obtain ⟨a, ha, rfl⟩ := List.mem_map.1 ho
  exact a.edit_go (h a ha)
theorem eds_take_go {l : List Ac} (h : ∀ a ∈ l, a.Go) (k : Nat) : ∀ o ∈ (eds l).take k, o.Go := fun o ho => eds_go h o (List.mem_of_mem_take ho)
theorem Sk_zero (l : List Ac) : Sk l 0 = S00 := rfl
theorem Sk_succ (l : List Ac) (k : Nat) (h : k < l.length) : Sk l (k + 1) = l[k].edit.after (Sk l k) := by
  unfold Sk
  rw [runE_snoc _ _ _ (by unfold eds; simpa using h)]
  unfold eds
  simp
theorem Sk_fit {l : List Ac} (h : ∀ a ∈ l, a.Go) (k : Nat) : (Sk l k).Fit := runE_fit _ S00_fit (eds_take_go h k)
theorem Sk_puts (l : List Ac) (k : Nat) : (Sk l k).puts ≤ k := by
  have := runE_puts S00 ((eds l).take k)
  have h2 : ((eds l).take k).length ≤ k := by rw [List.length_take]; omega
  have : (Sk l k).puts ≤ 0 + ((eds l).take k).length := this
  omega
theorem Sk_log (l : List Ac) (k : Nat) : (Sk l k).log = entsE S00 ((eds l).take k) := by
  have := runE_log S00 ((eds l).take k)
  rw [show S00.log = [] from rfl, List.nil_append] at this
  exact this
theorem Sk_len {l : List Ac} (h : ∀ a ∈ l, a.Go) (k : Nat) : (Sk l k).log.length ≤ 61 * k := by
  rw [Sk_log]
  have := entsE_len ((eds l).take k) S00_fit (eds_take_go h k)
  have h2 : ((eds l).take k).length ≤ k := by rw [List.length_take]; omega
  omega
theorem Sk_dur (l : List Ac) (k : Nat) : (Sk l k).dur = 0 := runE_dur S00 _
theorem Sk_all (l : List Ac) : Sk l l.length = runE S00 (eds l) := by
  unfold Sk
  rw [List.take_of_length_le (by unfold eds; simp)]
theorem log_all (l : List Ac) : (Sk l l.length).log = entsE S00 (eds l) := by
  rw [Sk_log, List.take_of_length_le (by unfold eds; simp)]
/-- the number of records -/
theorem putK_len {α : Type} (key : α → List UInt8) (x : α) (l : List α) : (putK key x l).length ≤ l.length + 1 := by
  induction l with
  | nil => simp [putK]
  | cons z r ih =>
    unfold putK
    split
    · simp; omega
    · split <;> simp
theorem after_len (o : Edit) (S : St) : (o.after S).homes.length ≤ S.homes.length + 1 ∧ (o.after S).visits.length ≤ S.visits.length + 1 := by
  unfold Edit.after
  split
  · cases o with
    | putH h => exact ⟨putK_len _ _ _, by show S.visits.length ≤ _; omega⟩
    | putV h => exact ⟨by show S.homes.length ≤ _; omega, putK_len _ _ _⟩
    | dropH id => exact ⟨by have := List.length_filter_le (fun h : HomeR => !(h.id == id)) S.homes; show (S.homes.filter _).length ≤ _; omega, by show S.visits.length ≤ _; omega⟩
    | dropV id => exact ⟨by show S.homes.length ≤ _; omega, by have := List.length_filter_le (fun h : VisitR => !(h.id == id)) S.visits; show (S.visits.filter _).length ≤ _; omega⟩
  · omega
theorem runE_lens (S : St) (l : List Edit) : (runE S l).homes.length ≤ S.homes.length + l.length ∧ (runE S l).visits.length ≤ S.visits.length + l.length := by
  induction l generalizing S with
  | nil => simp [runE]
  | cons o l ih =>
    rw [runE_cons]
    have := ih (o.after S)
    have := after_len o S
    rw [List.length_cons]
    omega
theorem Sk_lens (l : List Ac) (k : Nat) : (Sk l k).homes.length ≤ k ∧ (Sk l k).visits.length ≤ k := by
  have := runE_lens S00 ((eds l).take k)
  have h2 : ((eds l).take k).length ≤ k := by rw [List.length_take]; omega
  have e1 : S00.homes.length = 0 := rfl
  have e2 : S00.visits.length = 0 := rfl
  unfold Sk
  omega
end Go.Proofs.YthbbmpelldglmaaDoor
/- Package subscribers: 'Replay'. -/
namespace Go.Proofs.YthbbmpelldglmaaDoor
set_option linter.unusedVariables false
set_option linter.unusedSimpArgs false
open Go.RowKit

theorem or_i64 (a b : Nat) (ha : a < 65536) (hb : b < 65536) : bits .or .i64 a b = ((a ||| b : Nat) : Int) :=
  (bits_nat .i64 16 (by decide) (fun n h0 h1 => by rw [IntKind.wrap_i64]; omega) a b ha hb).2
/-- 'sums.Check' at the first entry -/
theorem front_check (W : World) (A : Option Addr) (D : List UInt8) (c m n : Nat) (hA : RdB W A D) (hc : D.length ≤ c) (hm : m = lenAt D) (h4 : m + 4 ≤ D.length) (hl : D.length ≤ 16000) (hn : n = m + 4) :
    Calls Tryd.prog 54 #[.slice A n c] W fun e w' => Below W.heap.size W w' ∧ ((∃ b ad, front D = some b ∧ b.length = m ∧ e = .returned (.tuple #[.slice (some ad) (m + 2) (m + 2), .int .i64 0]) ∧ RdB w' (some (ad.add 2)) b ∧ W.heap.size ≤ ad.block ∧ ad.block < w'.heap.size) ∨
      (front D = none ∧ e = .returned (.tuple #[.slice none 0 0, .int .i64 10]))) := by
  subst hn
  have hl2 : (D.take (m + 4)).length = (m + 2) + 2 := by rw [List.length_take]; omega
  have hk0 : (D.take (m + 4))[m + 2]? = some (D[m + 2]'(by omega)) := by rw [List.getElem?_take_of_lt (by omega), List.getElem?_eq_getElem (by omega)]
  have hk1 : (D.take (m + 4))[m + 2 + 1]? = some (D[m + 3]'(by omega)) := by rw [List.getElem?_take_of_lt (by omega), List.getElem?_eq_getElem (by omega)]
  have ht : (D.take (m + 4)).take (m + 2) = D.take (m + 2) := by rw [List.take_take, Nat.min_eq_left (by omega)]
  have h := check_core A (D.take (m + 4)) (m + 2) c W (hA.take _) hl2 (by omega) (by omega) _ _ hk0 hk1
  have hd : (D.drop (m + 2)).take 2 = [D[m + 2]'(by omega), D[m + 3]'(by omega)] := by
    apply List.ext_getElem?
    intro i
    rw [List.getElem?_take]
    by_cases hi : i < 2
    · rw [if_pos hi, List.getElem?_drop]
      match i, hi with
      | 0, _ => rw [List.getElem?_eq_getElem (by omega)]; rfl
      | 1, _ => rw [List.getElem?_eq_getElem (by omega)]; rfl
    · rw [if_neg hi, List.getElem?_eq_none (by simp; omega)]
  refine h.mono ?_
  rintro e w' ⟨h1, h2⟩
  refine ⟨h2, ?_⟩
  rw [ht, ← hd] at h1
  by_cases hf : (D.drop (m + 2)).take 2 = fcs (D.take (m + 2))
  · rw [if_pos hf] at h1
    obtain ⟨A', rfl, hR⟩ := h1
    have hfr : front D = some ((D.take (m + 2)).drop 2) := by
      unfold front
      rw [← hm, if_pos ⟨by omega, h4, hf⟩]
    have hbl : (D.take (m + 2)).length = m + 2 := by rw [List.length_take]; omega
    unfold RowB at hR
    rw [hbl] at hR
    obtain ⟨g', rfl, hg1, hg2, _⟩ := Row.form hR (by omega)
    exact .inl ⟨_, _, hfr, by rw [List.length_drop, hbl]; omega, rfl, RdB.drop (Row.rd hR) 2, hg1, hg2⟩
  · rw [if_neg hf] at h1
    refine .inr ⟨?_, h1⟩
    unfold front
    rw [← hm, if_neg]
    rintro ⟨_, _, h5⟩
    exact hf h5

theorem addr2 (ad : Addr) : ad.add 2 = ⟨ad.block, ad.off + 2, none⟩ := by unfold Addr.add; split <;> simp_all
/-- how the walk ends -/
def Replayed (w : World) (log : List UInt8) (e : Ending) (w' : World) : Prop :=
  ∃ (g : Nat) (F : List Nat) (T : St) (n : Nat), e = .returned (.tuple #[.pointer (some ⟨g, 0, none⟩), .int .i64 (n : Int)]) ∧ Plays ⟨[], [], [], 0, 0⟩ log T n ∧ T.Fit ∧ 4 * T.puts ≤ n ∧
      StAt w' g F { T with log := log.take n, dur := n } ∧ Below w.heap.size w w' ∧ ∀ i ∈ F, w.heap.size ≤ i
theorem replay_end {w wz wy : World} {A : Option Addr} {log : List UInt8} {k : Nat} {S : St} {Fz : List Nat} {m1 m2 m3 m4 : Value} {Az Ay : Option Addr} {cz : Nat} (he : Eat ⟨[], [], [], 0, 0⟩ log S k) (hw : Way S k) (hp : ∀ b, front (log.drop k) = some b → (applied S b).1 = false)
    (hS : StAt wz w.heap.size Fz S) (hF : ∀ i ∈ Fz, w.heap.size ≤ i) (hB : Below w.heap.size w wz) (hBy : Below wz.heap.size wz wy) (hglt : w.heap.size < wz.heap.size)
    (hoy : wy.heap[w.heap.size]? = some (stObj m1 m2 m3 m4 Az S.log.length cz S.dur))
    (hset : ∀ (w' : World) (A' : Option Addr) (c' d : Nat) (l : List UInt8), w'.heap[w.heap.size]? = some (stObj m1 m2 m3 m4 A' l.length c' d) → RowB w' 0 A' c' l → Chg [w.heap.size] wz w' → ∃ F', StAt w' w.heap.size F' { S with log := l, dur := d } ∧ ∀ i ∈ F', i ∈ Fz ∨ i ∈ blk A')
    (hR : Row wy wz.heap.size 5 1 Ay (log.take k).length (log.take k).length ((log.take k).map byteV)) (hkl : (log.take k).length = k) :
    Replayed w log (.returned (.tuple #[.pointer (some ⟨w.heap.size, 0, none⟩), .int .i64 (k : Int)])) ((wy.setCell ⟨w.heap.size, 4, none⟩ (.slice Ay k k)).setCell ⟨w.heap.size, 5, none⟩ (.int .i64 (k : Int))) := by
  have hpl : Plays ⟨[], [], [], 0, 0⟩ log S k := he.plays (Plays.stop hp)
  have hgA : w.heap.size ∉ blk Ay := fun hi => by have := (Row.blk_lt hR _ hi).1; omega
  have o4 : (wy.setCell ⟨w.heap.size, 4, none⟩ (.slice Ay k k)).heap[w.heap.size]? = some (stObj m1 m2 m3 m4 Ay k k S.dur) := stObj_set4 hoy
  have o5 : ((wy.setCell ⟨w.heap.size, 4, none⟩ (.slice Ay k k)).setCell ⟨w.heap.size, 5, none⟩ (.int .i64 (k : Int))).heap[w.heap.size]? = some (stObj m1 m2 m3 m4 Ay k k k) := Go.Joins.block_setCell (i := 5) o4 _
  have c1 : Chg [w.heap.size] wy ((wy.setCell ⟨w.heap.size, 4, none⟩ (.slice Ay k k)).setCell ⟨w.heap.size, 5, none⟩ (.int .i64 (k : Int))) := ((Chg.refl _ _).setCell (by simp) _).setCell (by simp) _
  have c2 := (Chg.of_below [w.heap.size] hBy).then_ c1
  have hR2 : RowB ((wy.setCell ⟨w.heap.size, 4, none⟩ (.slice Ay k k)).setCell ⟨w.heap.size, 5, none⟩ (.int .i64 (k : Int))) 0 Ay (log.take k).length (log.take k) := Row.mono (Row.chg hR c1 (fun j e hi => hgA (by simp at hi; subst hi; exact mem_blk.2 e))) (Nat.zero_le _)
  rw [← hkl] at o5
  obtain ⟨F', h2, hF'⟩ := hset _ Ay (log.take k).length (log.take k).length (log.take k) (by simpa only [hkl] using o5) (by simpa only [hkl] using hR2) (by simpa only [hkl] using c2)
  rw [hkl] at h2
  refine ⟨w.heap.size, F', S, k, rfl, hpl, hw.fit, hw.puts, h2, hB.trans (c2.below (by simp) hB.size), fun i hi => ?_⟩
  rcases hF' i hi with h3 | h3
  · exact hF i h3
  · have := (Row.blk_lt hR _ h3).1; omega

set_option maxHeartbeats 8000000 in
set_option maxRecDepth 100000 in
theorem replay_any (w : World) (A : Option Addr) (c : Nat) (log : List UInt8) (hA : RdB w A log) (hc : log.length ≤ c) (hcm : c ≤ 9223372036854775807) (hl : log.length ≤ 16000) :
    Calls Tryd.prog 33 #[.slice A log.length c] w (Replayed w log) := by
  have hnew := storeNew_any w
  have HN := Lib.hid hnew
  clear hnew
  go_enter Tryd.func33, Tryd.ntmps33
  go_wp2_with (first
    | (go_at_call 24; (with_reducible refine HN.out.mono ?_); rintro e w1 ⟨rfl, h1, hB1⟩)
    | fail)
  have H1 := Lib.hid h1
  clear h1
  go_loopw [5] (fun v wr => ∃ (k : Nat) (S : St) (F : List Nat), v = .int .i64 k ∧ k ≤ log.length ∧ Hid (Eat ⟨[], [], [], 0, 0⟩ log S k ∧ Way S k) ∧ StAt wr w.heap.size F S ∧ Below w.heap.size w wr ∧ ∀ i ∈ F, w.heap.size ≤ i)
    (fun v _ => log.length - (intOf v).toNat)
  case atStart => exact ⟨0, _, _, rfl, Nat.zero_le _, Lib.hid ⟨Eat.start, Way.start [] 0 0⟩, H1.out, hB1, by simp⟩
  case round =>
    obtain ⟨k, S, F, rfl, hk, HE, hSt, hBz, hF⟩ := hrel
    have HSZ := Lib.hid hSt
    have HFZ := Lib.hid hF
    have HFZA := Lib.hid hF
    clear hSt hF
    have hkc : k ≤ c := by omega
    by_cases h2 : k + 2 ≤ log.length
    · obtain ⟨ad, rfl, hc0⟩ := (hA.below hBz).get (k := k) (by omega)
      obtain ⟨ad', e, hc1⟩ := (hA.below hBz).get (k := k + 1) (by omega)
      cases e
      rw [add_succ] at hc1
      have q1 : ((k : Int) + 2 ≤ (log.length : Int)) := by omega
      obtain ⟨x, hx⟩ : ∃ x, x = log[k].toNat := ⟨_, rfl⟩
      obtain ⟨y, hy⟩ : ∃ y, y = (log[k + 1]).toNat := ⟨_, rfl⟩
      rw [← hx] at hc0
      rw [← hy] at hc1
      have hxl : x < 256 := by rw [hx]; exact log[k].toNat_lt
      have hyl : y < 256 := by rw [hy]; exact (log[k + 1]).toNat_lt
      have HX := Lib.hid hx
      have HY := Lib.hid hy
      clear hx hy
      obtain ⟨m, hm⟩ : ∃ m, m = x + 256 * y := ⟨_, rfl⟩
      have e1 : bits .or .i64 (x : Int) ((y : Int) * 256) = (m : Int) := by
        have := or_i64 x (y * 256) (by omega) (by omega)
        rw [or_lift x y 8 (by omega)] at this
        rw [hm, ← this]
        simp
      have hm2 : m = lenAt (log.drop k) := by
        unfold lenAt
        rw [hm, HX.out, HY.out, List.getD_eq_getElem?_getD, List.getD_eq_getElem?_getD, List.getElem?_drop, List.getElem?_drop, List.getElem?_eq_getElem (by omega), List.getElem?_eq_getElem (by omega)]
        rfl
      have hml : m < 65536 := by omega
      have HM := Lib.hid hm2
      clear hm hm2
      go_upto_region 4 with fail
      have q2 : (0 : Int) ≤ (k : Int) := by omega
      have q3 : (k : Int) < (log.length : Int) := by omega
      have q4 : (0 : Int) ≤ (k : Int) + 1 := by omega
      have q5 : (k : Int) + 1 < (log.length : Int) := by omega
      go_quiet (fail)
      clear e1 hc0 hc1
      have hBn : Below w.heap.size w (wr.drewN nq) := below_drewN hBz _
      have HSN := Lib.hid (HSZ.out.below (below_drewN (Below.refl _ _) nq))
      have hsn : wr.heap.size = (wr.drewN nq).heap.size := rfl
      generalize ewn : wr.drewN nq = wn at *
      clear ewn
      have hBz := hBn
      have HSZ := HSN
      clear HSN hBn hsn
      by_cases h4 : k + m + 4 ≤ log.length
      · have q6 : ¬ (log.length : Int) < (k : Int) + (m : Int) + 4 := by omega
        have hck := front_check wn (some (ad.add k)) (log.drop k) (c - k) m (k + m + 4 - k) (RdB.drop (hA.below hBz) k) (by rw [List.length_drop]; omega) HM.out (by rw [List.length_drop]; omega) (by rw [List.length_drop]; omega) (by omega)
        have HCK := Lib.hid hck
        clear hck
        go_wp2_with fail
        refine HCK.out.mono ?_
        rintro e w5 ⟨hB5, hcase⟩
        have hBz := below_then hBz hB5
        have HSZ := Lib.hid (HSZ.out.below hB5)
        rcases hcase with ⟨b, ad2, hfr, hbl, rfl, hrb, hlo, hhi⟩ | ⟨hfr, rfl⟩
        · have hap := apply_any w5 w.heap.size F S HSZ.out HE.out.2.fit (by have := HE.out.2.puts; omega) (by have := HE.out.2.log; omega) (some (if m + 2 = 2 then ad2 else ad2.add 2)) b m (by
            split
            · have : b = [] := List.eq_nil_of_length_eq_zero (by omega)
              rw [this]; exact RdB.nil _ _
            · exact hrb) (fun a e => by cases e; split <;> (try rw [add_block]) <;> exact hhi) (by omega) (by omega)
          rw [hbl] at hap
          have hfr2 := hfr
          obtain ⟨res, S2, hX⟩ : ∃ r s, applied S b = (r, s) := ⟨_, _, rfl⟩
          rw [hX] at hap
          unfold Applied at hap
          simp only at hap
          by_cases hm0 : m = 0
          · have hb0 : b = [] := List.eq_nil_of_length_eq_zero (by omega)
            have hn : applied S b = (false, S) := by rw [hb0]; rfl
            rw [hn] at hX
            injection hX with hX1 hX2
            subst hX1
            subst hX2
            subst hm0
            rw [if_pos rfl] at hap
            have HPL := Lib.hid (show ∀ b, front (log.drop k) = some b → (applied S b).1 = false from fun b' hb => by rw [hfr] at hb; cases hb; rw [hn])
            have HAP := Lib.hid hap
            clear hfr hfr2 hap hbl hrb hn
            go_wp2_with fail
            refine HAP.out.mono ?_
            rintro e w6 ⟨F6, rfl, h6, hc6, hn6⟩
            have HFZ := Lib.hid (show ∀ i ∈ F6, w.heap.size ≤ i from fun i hi => (hn6 i hi).elim (fun h => HFZ.out i h) (fun h => by have := hBz.size; omega))
            have hBz := hBz.trans (hc6.below (fun i hi => HFZA.out i hi) hBz.size)
            have HSZ := Lib.hid h6
            clear h6 hc6 hn6
            obtain ⟨m1, m2, m3, m4, Az, cz, hoz, hrz, hgA, hAF, hgF, hset⟩ := HSZ.out.obj
            have hkl : (log.take k).length = k := by rw [List.length_take]; omega
            have hcl := fun W (hb : Below w.heap.size w W) => clone_any (some ad) c (log.take k) W ((hA.below hb).take k) (by omega)
            rw [hkl] at hcl
            have HCL := Lib.hid hcl
            have HSET := Lib.hid hset
            have HOZ := Lib.hid hoz
            have hglt : w.heap.size < w6.heap.size := (Array.getElem?_eq_some_iff.1 hoz).1
            have HKL := Lib.hid hkl
            clear hcl hset hoz hrz hAF hgA hkl
            go_wp2_with (first
              | (go_at_call 70; (with_reducible refine (HCL.out _ hBz).mono ?_); rintro e wy ⟨Ay, cy, rfl, hRy, hBy⟩; have hle := Row.le hRy; have hcap := Row.cap_le hRy; simp only [HKL.out] at hle
                 have hoy := (hBy.block _ hglt).trans HOZ.out
                 have k4 := stObj_cell hoy 4
                 have k5 := stObj_cell hoy 5
                 have f4 := stObj_free hoy 4
                 have f5 := stObj_free hoy 5
                 have HOY := Lib.hid hoy
                 clear hoy
                 simp only [show (#[m1, m2, m3, m4, Value.slice Az S.log.length cz, Value.int IntKind.i64 (S.dur : Int)] : Array Value)[4]? = some (Value.slice Az S.log.length cz) from rfl] at k4
                 simp only [show (#[m1, m2, m3, m4, Value.slice Az S.log.length cz, Value.int IntKind.i64 (S.dur : Int)] : Array Value)[5]? = some (Value.int IntKind.i64 (S.dur : Int)) from rfl] at k5)
              | (go_at_call 62; go_must (refine (clip_any _ _ _ _ hle hcap).mono ?_); rintro e wx ⟨rfl, rfl⟩)
              | fail)
            go_ret2
            exact replay_end (A := some ad) HE.out.1 HE.out.2 HPL.out HSZ.out HFZ.out hBz hBy hglt HOY.out HSET.out (Row.clip hRy) HKL.out
          · have hm1 : ¬ m + 2 = 2 := by omega
            rw [if_neg hm1, addr2] at hap
            cases res with
            | false =>
              have hS2 : S2 = S := by have := applied_false (S := S) (b := b) (by rw [hX]); rw [hX] at this; exact this
              subst hS2
              have HPL := Lib.hid (show ∀ b, front (log.drop k) = some b → (applied S2 b).1 = false from fun b' hb => by rw [hfr] at hb; cases hb; rw [hX])
              have HAP := Lib.hid hap
              clear hfr hfr2 hap hbl hrb hX
              go_wp2_with fail
              refine HAP.out.mono ?_
              rintro e w6 ⟨F6, rfl, h6, hc6, hn6⟩
              have HFZ := Lib.hid (show ∀ i ∈ F6, w.heap.size ≤ i from fun i hi => (hn6 i hi).elim (fun h => HFZ.out i h) (fun h => by have := hBz.size; omega))
              have hBz := hBz.trans (hc6.below (fun i hi => HFZA.out i hi) hBz.size)
              have HSZ := Lib.hid h6
              clear h6 hc6 hn6
              obtain ⟨m1, m2, m3, m4, Az, cz, hoz, hrz, hgA, hAF, hgF, hset⟩ := HSZ.out.obj
              have hkl : (log.take k).length = k := by rw [List.length_take]; omega
              have hcl := fun W (hb : Below w.heap.size w W) => clone_any (some ad) c (log.take k) W ((hA.below hb).take k) (by omega)
              rw [hkl] at hcl
              have HCL := Lib.hid hcl
              have HSET := Lib.hid hset
              have HOZ := Lib.hid hoz
              have hglt : w.heap.size < w6.heap.size := (Array.getElem?_eq_some_iff.1 hoz).1
              have HKL := Lib.hid hkl
              clear hcl hset hoz hrz hAF hgA hkl
              go_wp2_with (first
                | (go_at_call 70; (with_reducible refine (HCL.out _ hBz).mono ?_); rintro e wy ⟨Ay, cy, rfl, hRy, hBy⟩; have hle := Row.le hRy; have hcap := Row.cap_le hRy; simp only [HKL.out] at hle
                   have hoy := (hBy.block _ hglt).trans HOZ.out
                   have k4 := stObj_cell hoy 4
                   have k5 := stObj_cell hoy 5
                   have f4 := stObj_free hoy 4
                   have f5 := stObj_free hoy 5
                   have HOY := Lib.hid hoy
                   clear hoy
                   simp only [show (#[m1, m2, m3, m4, Value.slice Az S2.log.length cz, Value.int IntKind.i64 (S2.dur : Int)] : Array Value)[4]? = some (Value.slice Az S2.log.length cz) from rfl] at k4
                   simp only [show (#[m1, m2, m3, m4, Value.slice Az S2.log.length cz, Value.int IntKind.i64 (S2.dur : Int)] : Array Value)[5]? = some (Value.int IntKind.i64 (S2.dur : Int)) from rfl] at k5)
                | (go_at_call 62; go_must (refine (clip_any _ _ _ _ hle hcap).mono ?_); rintro e wx ⟨rfl, rfl⟩)
                | fail)
              go_ret2
              exact replay_end (A := some ad) HE.out.1 HE.out.2 HPL.out HSZ.out HFZ.out hBz hBy hglt HOY.out HSET.out (Row.clip hRy) HKL.out
            | true =>
              have HE2 := Lib.hid (And.intro (Eat.step HE.out.1 hfr hX) (Way.step HE.out.2 hX))
              rw [hbl] at HE2
              have HAP := Lib.hid hap
              clear hfr hfr2 hap hbl hrb hX
              go_wp2_with fail
              refine HAP.out.mono ?_
              rintro e w6 ⟨F6, rfl, h6, hc6, hn6⟩
              have hFn : ∀ i ∈ F6, w.heap.size ≤ i := fun i hi => (hn6 i hi).elim (fun h => HFZ.out i h) (fun h => by have := hBz.size; omega)
              have hBn := hBz.trans (hc6.below (fun i hi => HFZA.out i hi) hBz.size)
              have HSN := Lib.hid h6
              have HFN := Lib.hid hFn
              clear h6 hc6 hn6 hFn
              go_wp2_with fail
              go_roundw
              case rel => exact ⟨k + (m + 4), S2, F6, by go_num, by omega, HE2, HSN.out, hBn, HFN.out⟩
              case measure => simp [intOf]; omega
        · have HPL := Lib.hid (show ∀ b, front (log.drop k) = some b → (applied S b).1 = false from fun b hb => by rw [hfr] at hb; cases hb)
          clear hfr
          obtain ⟨m1, m2, m3, m4, Az, cz, hoz, hrz, hgA, hAF, hgF, hset⟩ := HSZ.out.obj
          have hkl : (log.take k).length = k := by rw [List.length_take]; omega
          have hcl := fun W (hb : Below w.heap.size w W) => clone_any (some ad) c (log.take k) W ((hA.below hb).take k) (by omega)
          rw [hkl] at hcl
          have HCL := Lib.hid hcl
          have HSET := Lib.hid hset
          have HOZ := Lib.hid hoz
          have hglt : w.heap.size < w5.heap.size := (Array.getElem?_eq_some_iff.1 hoz).1
          have HKL := Lib.hid hkl
          clear hcl hset hoz hrz hAF hgA hkl
          go_wp2_with (first
            | (go_at_call 70; (with_reducible refine (HCL.out _ hBz).mono ?_); rintro e wy ⟨Ay, cy, rfl, hRy, hBy⟩; have hle := Row.le hRy; have hcap := Row.cap_le hRy; simp only [HKL.out] at hle
               have hoy := (hBy.block _ hglt).trans HOZ.out
               have k4 := stObj_cell hoy 4
               have k5 := stObj_cell hoy 5
               have f4 := stObj_free hoy 4
               have f5 := stObj_free hoy 5
               have HOY := Lib.hid hoy
               clear hoy
               simp only [show (#[m1, m2, m3, m4, Value.slice Az S.log.length cz, Value.int IntKind.i64 (S.dur : Int)] : Array Value)[4]? = some (Value.slice Az S.log.length cz) from rfl] at k4
               simp only [show (#[m1, m2, m3, m4, Value.slice Az S.log.length cz, Value.int IntKind.i64 (S.dur : Int)] : Array Value)[5]? = some (Value.int IntKind.i64 (S.dur : Int)) from rfl] at k5)
            | (go_at_call 62; go_must (refine (clip_any _ _ _ _ hle hcap).mono ?_); rintro e wx ⟨rfl, rfl⟩)
            | fail)
          go_ret2
          exact replay_end (A := some ad) HE.out.1 HE.out.2 HPL.out HSZ.out HFZ.out hBz hBy hglt HOY.out HSET.out (Row.clip hRy) HKL.out
      · have q6 : (log.length : Int) < (k : Int) + (m : Int) + 4 := by omega
        have HPL := Lib.hid (show ∀ b, front (log.drop k) = some b → (applied S b).1 = false from fun b hb => by
          have := (front_len hb)
          rw [← HM.out, List.length_drop] at this
          omega)
        clear h4
        obtain ⟨m1, m2, m3, m4, Az, cz, hoz, hrz, hgA, hAF, hgF, hset⟩ := HSZ.out.obj
        have hkl : (log.take k).length = k := by rw [List.length_take]; omega
        have hcl := fun W (hb : Below w.heap.size w W) => clone_any (some ad) c (log.take k) W ((hA.below hb).take k) (by omega)
        rw [hkl] at hcl
        have HCL := Lib.hid hcl
        have HSET := Lib.hid hset
        have HOZ := Lib.hid hoz
        have hglt : w.heap.size < wn.heap.size := (Array.getElem?_eq_some_iff.1 hoz).1
        have HKL := Lib.hid hkl
        clear hcl hset hoz hrz hAF hgA hkl
        go_wp2_with (first
          | (go_at_call 70; (with_reducible refine (HCL.out _ hBz).mono ?_); rintro e wy ⟨Ay, cy, rfl, hRy, hBy⟩; have hle := Row.le hRy; have hcap := Row.cap_le hRy; simp only [HKL.out] at hle
             have hoy := (hBy.block _ hglt).trans HOZ.out
             have k4 := stObj_cell hoy 4
             have k5 := stObj_cell hoy 5
             have f4 := stObj_free hoy 4
             have f5 := stObj_free hoy 5
             have HOY := Lib.hid hoy
             clear hoy
             simp only [show (#[m1, m2, m3, m4, Value.slice Az S.log.length cz, Value.int IntKind.i64 (S.dur : Int)] : Array Value)[4]? = some (Value.slice Az S.log.length cz) from rfl] at k4
             simp only [show (#[m1, m2, m3, m4, Value.slice Az S.log.length cz, Value.int IntKind.i64 (S.dur : Int)] : Array Value)[5]? = some (Value.int IntKind.i64 (S.dur : Int)) from rfl] at k5)
          | (go_at_call 62; go_must (refine (clip_any _ _ _ _ hle hcap).mono ?_); rintro e wx ⟨rfl, rfl⟩)
          | fail)
        go_ret2
        exact replay_end (A := some ad) HE.out.1 HE.out.2 HPL.out HSZ.out HFZ.out hBz hBy hglt HOY.out HSET.out (Row.clip hRy) HKL.out
    · have q1 : ¬ ((k : Int) + 2 ≤ (log.length : Int)) := by omega
      have HPL := Lib.hid (show ∀ b, front (log.drop k) = some b → (applied S b).1 = false from fun b hb => by
        have := (front_some hb).1
        rw [List.length_drop] at this
        omega)
      obtain ⟨m1, m2, m3, m4, Az, cz, hoz, hrz, hgA, hAF, hgF, hset⟩ := HSZ.out.obj
      have hkl : (log.take k).length = k := by rw [List.length_take]; omega
      have hcl := fun W (hb : Below w.heap.size w W) => clone_any A c (log.take k) W ((hA.below hb).take k) (by omega)
      rw [hkl] at hcl
      have HCL := Lib.hid hcl
      have HSET := Lib.hid hset
      have HOZ := Lib.hid hoz
      have hglt : w.heap.size < wr.heap.size := (Array.getElem?_eq_some_iff.1 hoz).1
      have HKL := Lib.hid hkl
      clear hcl hset hoz hrz hAF hgA hkl
      go_wp2_with (first
        | (go_at_call 70; (with_reducible refine (HCL.out _ hBz).mono ?_); rintro e wy ⟨Ay, cy, rfl, hRy, hBy⟩; have hle := Row.le hRy; have hcap := Row.cap_le hRy; simp only [HKL.out] at hle
           have hoy := (hBy.block _ hglt).trans HOZ.out
           have k4 := stObj_cell hoy 4
           have k5 := stObj_cell hoy 5
           have f4 := stObj_free hoy 4
           have f5 := stObj_free hoy 5
           have HOY := Lib.hid hoy
           clear hoy
           simp only [show (#[m1, m2, m3, m4, Value.slice Az S.log.length cz, Value.int IntKind.i64 (S.dur : Int)] : Array Value)[4]? = some (Value.slice Az S.log.length cz) from rfl] at k4
           simp only [show (#[m1, m2, m3, m4, Value.slice Az S.log.length cz, Value.int IntKind.i64 (S.dur : Int)] : Array Value)[5]? = some (Value.int IntKind.i64 (S.dur : Int)) from rfl] at k5)
        | (go_at_call 62; go_must (refine (clip_any _ _ _ _ hle hcap).mono ?_); rintro e wx ⟨rfl, rfl⟩)
        | fail)
      go_ret2
      exact replay_end (A := A) HE.out.1 HE.out.2 HPL.out HSZ.out HFZ.out hBz hBy hglt HOY.out HSET.out (Row.clip hRy) HKL.out
end Go.Proofs.YthbbmpelldglmaaDoor
/- Law 38: the chapter's example. -/
namespace Go.Proofs.YthbbmpelldglmaaDoor
set_option linter.unusedVariables false
set_option linter.unusedSimpArgs false
open Go.RowKit

def livCells : Array Value := #[.string ⟨#[50, 54]⟩, .string ⟨#[52, 57, 49]⟩, .int .u16 5, .int .u32 258, .bool false, .bool true]
set_option maxHeartbeats 4000000 in
set_option maxRecDepth 100000 in
theorem lives38_any (w : World) :
    Calls Tryd.prog 29 #[] w fun e w' => e = .returned (.bool true) ∧ Below w.heap.size w w' := by
  have hput : ∀ W F, StAt W w.heap.size F S00 → Calls Tryd.prog 25 #[.pointer (some ⟨w.heap.size, 0, none⟩), .agg #[.string ⟨#[50, 54]⟩, .string ⟨#[52, 57, 49]⟩, .int .u16 5, .int .u32 258, .bool false, .bool true]] W fun e w' => ∃ F', e = .returned (.int .i64 0) ∧ StAt w' w.heap.size F' ⟨[livH], [], livL, 0, 1⟩ ∧ Chg F W w' ∧ NewIn W F F' := fun W F h => by
    refine (putHome_any W w.heap.size F S00 h S00_fit (by decide) (by decide) [50, 54] [52, 57, 49] 5 258 false true liv_go.1 liv_go.2.1 liv_go.2.2).mono ?_
    rintro e w' ⟨F', er, S', rfl, h1, h2, h3, h4⟩
    obtain ⟨rfl, rfl⟩ := out_putH h4
    rw [show Edit.after (.putH ⟨[50, 54], [52, 57, 49], 5, 258, false, true⟩) S00 = _ from liv_after] at h1
    exact ⟨F', by rw [show Edit.er S00 (.putH ⟨[50, 54], [52, 57, 49], 5, 258, false, true⟩) = _ from liv_er], h1, h2, h3⟩
  have hlog : ∀ W F, StAt W w.heap.size F ⟨[livH], [], livL, 0, 1⟩ → Calls Tryd.prog 27 #[.pointer (some ⟨w.heap.size, 0, none⟩)] W fun e w' => ∃ g', e = .returned (.slice (some ⟨g', 0, none⟩) 19 19) ∧ RowB w' W.heap.size (some ⟨g', 0, none⟩) 19 livL ∧ Below W.heap.size W w' := fun W F h => by
    refine (storeLog_any W w.heap.size F _ h (by show livL.length ≤ _; rw [livL_len]; decide)).mono ?_
    rintro e w' ⟨A, rfl, h1, h2⟩
    simp only [livL_len] at h1 ⊢
    obtain ⟨g', rfl, -⟩ := Row.form h1 (by rw [livL_len]; decide)
    exact ⟨g', rfl, h1, h2⟩
  have hrep : ∀ W g', RdB W (some ⟨g', 0, none⟩) livL → Calls Tryd.prog 33 #[.slice (some ⟨g', 0, none⟩) 19 19] W fun e w' => ∃ g F T, e = .returned (.tuple #[.pointer (some ⟨g, 0, none⟩), .int .i64 19]) ∧ StAt w' g F T ∧ T.homes = [livH] ∧ Below W.heap.size W w' := fun W g' h => by
    have := replay_any W (some ⟨g', 0, none⟩) 19 livL h (by rw [livL_len]; decide) (by decide) (by rw [livL_len]; decide)
    rw [livL_len] at this
    refine this.mono ?_
    rintro e w' ⟨g, F, T, n, rfl, h1, h2, h3, h4, h5, h6⟩
    obtain ⟨e1, e2, rfl⟩ := liv_all h1
    exact ⟨g, F, _, rfl, h4, e1, h5⟩
  have hrep2 : ∀ W g', RdB W (some ⟨g', 0, none⟩) livL → Calls Tryd.prog 33 #[.slice (some ⟨g', 0, none⟩) 18 19] W fun e w' => ∃ g F T, e = .returned (.tuple #[.pointer (some ⟨g, 0, none⟩), .int .i64 0]) ∧ StAt w' g F T ∧ T.homes = [] ∧ T.Fit ∧ T.puts ≤ 100000 ∧ Below W.heap.size W w' := fun W g' h => by
    have hl : (livL.take 18).length = 18 := by rw [List.length_take, livL_len]; rfl
    have := replay_any W (some ⟨g', 0, none⟩) 19 (livL.take 18) (h.take 18) (by rw [hl]; decide) (by decide) (by rw [hl]; decide)
    rw [hl] at this
    refine this.mono ?_
    rintro e w' ⟨g, F, T, n, rfl, h1, h2, h3, h4, h5, h6⟩
    obtain ⟨e1, e2, rfl⟩ := liv_part h1
    exact ⟨g, F, _, rfl, h4, e1, SameR.fit (S := T) ⟨rfl, rfl⟩ h2, by show T.puts ≤ 100000; omega, h5⟩
  have hget : ∀ W g F T, StAt W g F T → T.homes = [livH] → Calls Tryd.prog 26 #[.pointer (some ⟨g, 0, none⟩), .string ⟨#[50, 54]⟩] W fun e w' => e = .returned (.tuple #[.agg #[.string ⟨#[50, 54]⟩, .string ⟨#[52, 57, 49]⟩, .int .u16 5, .int .u32 258, .bool false, .bool true], .int .i64 0]) ∧ Below W.heap.size W w' := fun W g F T h e1 => by
    have := storeHome_any W g F T h [50, 54] (by decide)
    have e2 : homeOf T [50, 54] = some livH := by unfold homeOf; rw [e1]; rfl
    rw [e2] at this
    exact this
  have hhomes : ∀ W g F T, StAt W g F T → T.homes = [] → T.Fit → T.puts ≤ 100000 → Calls Tryd.prog 91 #[.pointer (some ⟨g, 0, none⟩)] W fun e w' => (∃ A, e = .returned (.slice A 0 0)) ∧ Below W.heap.size W w' := fun W g F T h e1 hf hp => by
    have := storeHomes_any W g F T h hf hp
    rw [e1] at this
    refine this.mono ?_
    rintro e w' ⟨A, rfl, _, h2⟩
    exact ⟨⟨A, rfl⟩, h2⟩
  have hnew := storeNew_any w
  have HNEW := Lib.hid hnew
  have HPUT := Lib.hid hput
  have HLOG := Lib.hid hlog
  have HREP := Lib.hid hrep
  have HREP2 := Lib.hid hrep2
  have HGET := Lib.hid hget
  have HHOMES := Lib.hid hhomes
  clear hput hlog hrep hrep2 hget hhomes hnew
  go_enter Tryd.func29, Tryd.ntmps29
  go_wp2_with (first
    | (go_at_call 24; (with_reducible refine HNEW.out.mono ?_); rintro e w1 ⟨rfl, h1, hB1⟩
       have HS1 := Lib.hid (h1.below ((Below.refl w1.heap.size w1).alloc (Nat.le_refl _) (.cells #[.string ⟨#[50, 54]⟩, .string ⟨#[52, 57, 49]⟩, .int .u16 5, .int .u32 258, .bool false, .bool true] 63)))
       have hB2 := below_alloc hB1 (.cells #[.string ⟨#[50, 54]⟩, .string ⟨#[52, 57, 49]⟩, .int .u16 5, .int .u32 258, .bool false, .bool true] 63)
       have HX := Lib.hid (heap_alloc_new w1 (.cells #[.string ⟨#[50, 54]⟩, .string ⟨#[52, 57, 49]⟩, .int .u16 5, .int .u32 258, .bool false, .bool true] 63))
       have HGW := Lib.hid (show w.heap.size < w1.heap.size from h1.lt _ (by simp))
       clear h1)
    | (go_at_call 25; (with_reducible refine (HPUT.out _ _ HS1.out).mono ?_); rintro e w3 ⟨F3, rfl, h3, hc3, hn3⟩
       have HS3 := Lib.hid h3
       have HX3 := Lib.hid (hc3.heap HX.out (by have := HGW.out; simp; omega))
       have hB3 := hB2.trans (hc3.below (by simp) hB2.size)
       clear h3 hc3 hn3)
    | (go_at_call 27; (with_reducible refine (HLOG.out _ _ HS3.out).mono ?_); rintro e w4 ⟨g4, rfl, h4, hB4⟩
       have HR4 := Lib.hid h4
       have HX4 := Lib.hid ((hB4.block _ (Array.getElem?_eq_some_iff.1 HX3.out).1).trans HX3.out)
       have hB5 := hB3.trans (hB4.mono hB3.size)
       clear h4)
    | fail)
  obtain ⟨w5, hw5⟩ : ∃ v, v = w4.alloc (.cells #[.int .u8 15, .int .u8 0, .int .u8 1, .int .u8 2, .int .u8 50, .int .u8 54, .int .u8 3, .int .u8 52, .int .u8 57, .int .u8 49, .int .u8 5, .int .u8 0, .int .u8 2, .int .u8 1, .int .u8 0, .int .u8 0, .int .u8 2] 5) := ⟨_, rfl⟩
  have hB5' : Below w.heap.size w w5 := by rw [hw5]; exact below_alloc hB5 _
  have hB45 : Below w4.heap.size w4 w5 := by rw [hw5]; exact (Below.refl _ _).alloc (Nat.le_refl _) _
  have hwant : RdB w5 (some ⟨w4.heap.size, 0, none⟩) [15, 0, 1, 2, 50, 54, 3, 52, 57, 49, 5, 0, 2, 1, 0, 0, 2] := by rw [hw5]; exact rd_lit w4 [15, 0, 1, 2, 50, 54, 3, 52, 57, 49, 5, 0, 2, 1, 0, 0, 2]
  have hlog5 : RowB w5 w3.heap.size (some ⟨g4, 0, none⟩) 19 livL := RowB.below HR4.out hB45
  have hcells : ∀ k, k < 17 → ∃ v : Nat, w5.cell? ⟨g4, k, none⟩ = some (.int .u8 (v : Int)) ∧ w5.cell? ⟨w4.heap.size, k, none⟩ = some (.int .u8 (v : Int)) := fun k hk => by
    have hlk : k < livL.length := by rw [livL_len]; omega
    obtain ⟨ad, e1, c1⟩ := (RowB.rd hlog5).get hlk
    obtain ⟨ad2, e2, c2⟩ := hwant.get (k := k) (by simpa using hk)
    cases e1
    cases e2
    rw [add_lit] at c1 c2
    refine ⟨_, c1, ?_⟩
    rw [c2]
    congr 3
    have h1 : (livL.take 17)[k]? = some livL[k] := by rw [List.getElem?_take_of_lt hk, List.getElem?_eq_getElem hlk]
    rw [livL_take] at h1
    have h2 := (List.getElem?_eq_some_iff.1 h1).2
    rw [h2]
  have hS5 := Lib.hid (HS3.out.chg (Chg.of_below [] hB4) (by simp))
  have HX5 : Hid (w5.heap[w1.heap.size]? = some (.cells #[.string ⟨#[50, 54]⟩, .string ⟨#[52, 57, 49]⟩, .int .u16 5, .int .u32 258, .bool false, .bool true] 63)) := Lib.hid ((hB45.block _ (Array.getElem?_eq_some_iff.1 HX4.out).1).trans HX4.out)
  have HL5 := Lib.hid (RowB.rd hlog5)
  have HCE := Lib.hid hcells
  rw [← hw5]
  generalize w4.heap.size = g5 at *
  clear hw5 hwant hlog5 hcells HX4 HX3 HX HS1 HR4 hB45
  go_loopw [6] (fun iv wr => ∃ k n : Nat, k ≤ 17 ∧ iv = .int .i64 k ∧ wr = w5.drewN n) (fun iv _ => 17 - (intOf iv).toNat)
  case atStart => exact ⟨0, 0, by omega, rfl, rfl⟩
  case round =>
    obtain ⟨k, n, hk, rfl, rfl⟩ := hrel
    by_cases hlt : k < 17
    · obtain ⟨v, c1, c2⟩ := HCE.out k hlt
      have q1 : (0 : Int) ≤ (k : Int) := by omega
      have q2 : (k : Int) < 17 := by omega
      have q3 : (k : Int) < 19 := by omega
      go_upto_region 11 with fail
      go_quiet (fail)
      go_wp2_with fail
      go_roundw
      case rel => exact ⟨k + 1, n + nq, by omega, by go_num, rfl⟩
      case measure => simp [intOf]; omega
    · obtain rfl : k = 17 := by omega
      have hB6 : Below w.heap.size w (w5.drewN n) := below_drewN hB5' n
      have HX6 : Hid ((w5.drewN n).heap[w1.heap.size]? = some (.cells #[.string ⟨#[50, 54]⟩, .string ⟨#[52, 57, 49]⟩, .int .u16 5, .int .u32 258, .bool false, .bool true] 63)) := HX5
      have HL6 : Hid (RdB (w5.drewN n) (some ⟨g4, 0, none⟩) livL) := Lib.hid (HL5.out.drewN n)
      generalize w5.drewN n = w6 at *
      clear hB5' HCE
      go_wp2_with (first
        | (go_at_call 33; (with_reducible refine (HREP.out _ _ HL6.out).mono ?_); rintro e w7 ⟨g7, F7, T7, rfl, h7, e7, hB7⟩
           have HS7 := Lib.hid (And.intro h7 e7)
           have HL7 := Lib.hid (HL6.out.below hB7)
           have hB8 := hB6.trans (hB7.mono hB6.size)
           have HX7 := Lib.hid ((hB7.block _ (Array.getElem?_eq_some_iff.1 HX6.out).1).trans HX6.out)
           clear h7 e7)
        | (go_at_call 33; (with_reducible refine (HREP2.out _ _ HL7.out).mono ?_); rintro e w8 ⟨g8, F8, T8, rfl, h8, e8, hf8, hp8, hB9⟩
           have HS8 := Lib.hid (And.intro h8 (And.intro e8 (And.intro hf8 hp8)))
           have HS7' := Lib.hid (And.intro (HS7.out.1.below hB9) HS7.out.2)
           have hB10 := hB8.trans (hB9.mono hB8.size)
           have HX8 := Lib.hid ((hB9.block _ (Array.getElem?_eq_some_iff.1 HX7.out).1).trans HX7.out)
           clear h8 e8 hf8 hp8)
        | (go_at_call 26; (with_reducible refine (HGET.out _ _ _ _ HS7'.out.1 HS7'.out.2).mono ?_); rintro e w9 ⟨rfl, hB11⟩
           have hB12 := below_alloc (hB10.trans (hB11.mono hB10.size)) (.cells #[.string ⟨#[50, 54]⟩, .string ⟨#[52, 57, 49]⟩, .int .u16 5, .int .u32 258, .bool false, .bool true] 63)
           have HS9 := Lib.hid (And.intro ((HS8.out.1.below hB11).below ((Below.refl w9.heap.size w9).alloc (Nat.le_refl _) (.cells #[.string ⟨#[50, 54]⟩, .string ⟨#[52, 57, 49]⟩, .int .u16 5, .int .u32 258, .bool false, .bool true] 63))) HS8.out.2)
           have x9 := (hB11.block _ (Array.getElem?_eq_some_iff.1 HX8.out).1).trans HX8.out
           have hlt9 := (Array.getElem?_eq_some_iff.1 x9).1
           have x10 := ((Below.refl w9.heap.size w9).alloc (Nat.le_refl _) (.cells #[.string ⟨#[50, 54]⟩, .string ⟨#[52, 57, 49]⟩, .int .u16 5, .int .u32 258, .bool false, .bool true] 63)).block _ hlt9 |>.trans x9
           have a0 := cell_of_row _ _ 0 _ _ _ x10
           have a1 := cell_of_row _ _ 1 _ _ _ x10
           have a2 := cell_of_row _ _ 2 _ _ _ x10
           have a3 := cell_of_row _ _ 3 _ _ _ x10
           have a4 := cell_of_row _ _ 4 _ _ _ x10
           have a5 := cell_of_row _ _ 5 _ _ _ x10)
        | (go_at_call 91; (with_reducible refine (HHOMES.out _ _ _ _ HS9.out.1 HS9.out.2.1 HS9.out.2.2.1 HS9.out.2.2.2).mono ?_); rintro e w11 ⟨⟨A11, rfl⟩, hB13⟩)
        | fail)
      go_ret
      exact ⟨rfl, hB12.trans (hB13.mono hB12.size)⟩
end Go.Proofs.YthbbmpelldglmaaDoor
/- Arguments opened: numbers, slices of numbers, as natural numbers and octets. -/
namespace Go.Proofs.YthbbmpelldglmaaDoor
set_option linter.unusedVariables false
set_option linter.unusedSimpArgs false
open Go.RowKit Go.ChangeShapes

theorem nat_of_u16 {a : Int} (h : (Lit.int .u16 a).wf = true) : ∃ x : Nat, x < 65536 ∧ a = x := by
  have h1 : 0 ≤ a ∧ a ≤ 65535 := by simpa [Lit.wf, IntKind.min, IntKind.max, IntKind.bits, IntKind.signed] using h
  exact ⟨a.toNat, by omega, by omega⟩
theorem nat_of_u8 {a : Int} (h : (Lit.int .u8 a).wf = true) : ∃ x : Nat, x < 256 ∧ a = x := by
  have h1 : 0 ≤ a ∧ a ≤ 255 := by simpa [Lit.wf, IntKind.min, IntKind.max, IntKind.bits, IntKind.signed] using h
  exact ⟨a.toNat, by omega, by omega⟩

theorem rdB_of_ints {W : World} {x : Addr} {zs : List Int} (hcell : ∀ i, i < zs.length → W.cell? (x.add i) = some (.int .u8 (zs.getD i 0))) (hwz : ∀ n ∈ zs, (Lit.int .u8 n).wf = true) {n : Nat} (hn : n ≤ zs.length) :
    ∃ l : List UInt8, l.length = n ∧ RdB W (some x) l := by
  refine ⟨(zs.take n).map fun z => UInt8.ofNat z.toNat, by simp; omega, fun k v hv => ⟨x, rfl, ?_⟩⟩
  rw [List.getElem?_map, List.getElem?_map, List.getElem?_take] at hv
  by_cases hk : k < n
  · rw [if_pos hk, List.getElem?_eq_getElem (by omega)] at hv
    simp at hv
    subst hv
    rw [hcell k (by omega)]
    obtain ⟨b, hb, e⟩ := nat_of_u8 (hwz zs[k] (List.getElem_mem _))
    simp only [List.getD, List.getElem?_eq_getElem (show k < zs.length by omega), Option.getD_some, byteV]
    rw [e]
    simp [UInt8.toNat_ofNat', Nat.mod_eq_of_lt hb]
  · rw [if_neg hk] at hv; simp at hv

/-- numbers of a kind as cells -/
def RdN (k : IntKind) (w : World) (A : Option Addr) (l : List Nat) : Prop := Rd w A (l.map fun n : Nat => .int k (n : Int))
theorem rdN_of_ints {k : IntKind} {W : World} {x : Addr} {zs : List Int} (hcell : ∀ i, i < zs.length → W.cell? (x.add i) = some (.int k (zs.getD i 0))) (hwz : ∀ n ∈ zs, (Lit.int k n).wf = true) (h0 : ∀ a, (Lit.int k a).wf = true → 0 ≤ a) {n : Nat} (hn : n ≤ zs.length) :
    ∃ l : List Nat, l.length = n ∧ RdN k W (some x) l ∧ ∀ m ∈ l, (Lit.int k m).wf = true := by
  refine ⟨(zs.take n).map Int.toNat, by simp; omega, fun i v hv => ⟨x, rfl, ?_⟩, ?_⟩
  · rw [List.getElem?_map, List.getElem?_map, List.getElem?_take] at hv
    by_cases hk : i < n
    · rw [if_pos hk, List.getElem?_eq_getElem (by omega)] at hv
      simp at hv
      subst hv
      rw [hcell i (by omega)]
      have := h0 _ (hwz zs[i] (List.getElem_mem _))
      simp only [List.getD, List.getElem?_eq_getElem (show i < zs.length by omega), Option.getD_some]
      congr 2
      omega
    · rw [if_neg hk] at hv; simp at hv
  · intro m hm
    simp only [List.mem_map] at hm
    obtain ⟨z, hz, rfl⟩ := hm
    have hw := hwz z (List.mem_of_mem_take hz)
    have := h0 _ hw
    rw [show ((z.toNat : Nat) : Int) = z by omega]
    exact hw
theorem rdN_of_u16 {W : World} {x : Addr} {zs : List Int} (hcell : ∀ i, i < zs.length → W.cell? (x.add i) = some (.int .u16 (zs.getD i 0))) (hwz : ∀ n ∈ zs, (Lit.int .u16 n).wf = true) {n : Nat} (hn : n ≤ zs.length) :
    ∃ l : List Nat, l.length = n ∧ RdN .u16 W (some x) l ∧ ∀ m ∈ l, m < 65536 := by
  obtain ⟨l, h1, h2, h3⟩ := rdN_of_ints hcell hwz (fun a h => by obtain ⟨y, _, rfl⟩ := nat_of_u16 h; omega) hn
  exact ⟨l, h1, h2, fun m hm => by obtain ⟨y, hy, e⟩ := nat_of_u16 (h3 m hm); omega⟩
theorem RdN.get {k : IntKind} {w : World} {A : Option Addr} {l : List Nat} (h : RdN k w A l) {i : Nat} (hi : i < l.length) : ∃ ad, A = some ad ∧ w.cell? (ad.add i) = some (.int k (l[i] : Int)) := by
  obtain ⟨ad, e, hc⟩ := Rd.get h (k := i) (by simpa using hi)
  exact ⟨ad, e, by rw [hc]; simp⟩
theorem RdN.below {k : IntKind} {w w' : World} {A : Option Addr} {l : List Nat} (h : RdN k w A l) (hb : Below w.heap.size w w') : RdN k w' A l := Rd.below h hb
end Go.Proofs.YthbbmpelldglmaaDoor
/- Structs and arrays of one-cell parts, by value, opened; octets in a field. -/
namespace Go.Proofs.YthbbmpelldglmaaDoor
set_option linter.unusedVariables false
set_option linter.unusedSimpArgs false
open Go.RowKit Go.ChangeShapes Go.WideShapes

theorem list3 {α : Type} {l : List α} (h : l.length = 3) : ∃ a b c, l = [a, b, c] := by
  match l, h with
  | [a, b, c], _ => exact ⟨a, b, c, rfl⟩
theorem list2 {α : Type} {l : List α} (h : l.length = 2) : ∃ a b, l = [a, b] := by
  match l, h with
  | [a, b], _ => exact ⟨a, b, rfl⟩
theorem list4 {α : Type} {l : List α} (h : l.length = 4) : ∃ a b c d, l = [a, b, c, d] := by
  match l, h with
  | [a, b, c, d], _ => exact ⟨a, b, c, d, rfl⟩
theorem list5 {α : Type} {l : List α} (h : l.length = 5) : ∃ a b c d e, l = [a, b, c, d, e] := by
  match l, h with
  | [a, b, c, d, e], _ => exact ⟨a, b, c, d, e, rfl⟩
theorem list6 {α : Type} {l : List α} (h : l.length = 6) : ∃ a b c d e f, l = [a, b, c, d, e, f] := by
  match l, h with
  | [a, b, c, d, e, f], _ => exact ⟨a, b, c, d, e, f, rfl⟩
section
variable {H : Type} {enc : TypeId × Value → H} {P : Program} {w : World} {base : Nat} {spare : Nat → Bool} {held : Bool}

theorem take_one {α : Type} (l : List α) (i : Nat) (c : α) (h : l[i]? = some c) : (l.drop i).take 1 = [c] := by
  have hi : i < l.length := (List.getElem?_eq_some_iff.1 h).1
  rw [List.drop_eq_getElem_cons hi]
  simp [(List.getElem?_eq_some_iff.1 h).2]
/-- a struct of one-cell fields, by value -/
theorem open_aggN {r : Reach} {b0 : Nat} {t : TypeId} {fs : Array Field} {v : Value} {d : DataW H} {p : List MemPlace} (hs : P.underlying t = some (.struct fs)) (hone : Go.Deep.oneCellFields P fs = true) (hC : P.cellsOf t = fs.size)
    (hv : Value.okWide P w r b0 t v) (h : DataW.Trod enc P w base spare held t v d p) :
    ∃ (l : List Value) (ys : List (DataW H × List MemPlace)) (n : Nat), v = .agg l.toArray ∧ l.length = fs.size ∧ ys.length = fs.size ∧ d = .agg (ys.map (·.1)) ∧
      ∀ (i : Nat) (f : Field) (c : Value) (y : DataW H × List MemPlace), fs[i]? = some f → l[i]? = some c → ys[i]? = some y → DataW.trod enc P w base spare held n f.type [c] = some y := by
  obtain ⟨cs, rfl, hsz⟩ := okWide_struct hs hv
  obtain ⟨l⟩ := cs
  obtain ⟨fuel, hf⟩ := h
  obtain ⟨ys, n, _, hx, _, hlen, hfs⟩ := DataW.trod_struct hs hf
  refine ⟨l, ys, n, rfl, by simpa [hC] using hsz, hlen, congrArg Prod.fst hx, fun i f c y h1 h2 h3 => ?_⟩
  obtain ⟨o, k⟩ := Go.Deep.hone_of hone i f h1
  have := hfs i f h1
  rw [o, k, h3, take_one _ i c (by simpa [Value.cells] using h2)] at this
  exact this
/-- an array of one-cell elements, by value -/
theorem open_arrN {b0 : Nat} {t e : TypeId} {m : Nat} {v : Value} {d : DataW H} {p : List MemPlace} (hs : P.underlying t = some (.array m e)) (hone : P.cellsOf e = 1) (cs : Array Value) (hv : v = .agg cs)
    (h : DataW.Trod enc P w base spare held t v d p) :
    ∃ (ys : List (DataW H × List MemPlace)) (n : Nat), cs.toList.length = P.cellsOf t ∧ ys.length = m ∧ d = .agg (ys.map (·.1)) ∧
      ∀ (i : Nat) (c : Value) (y : DataW H × List MemPlace), i < m → cs.toList[i]? = some c → ys[i]? = some y → DataW.trod enc P w base spare held n e [c] = some y := by
  subst hv
  obtain ⟨fuel, hf⟩ := h
  obtain ⟨ys, n, _, hx, hl, hlen, hfs⟩ := DataW.trod_array hs hf
  refine ⟨ys, n, by simpa [Value.cells] using hl, hlen, congrArg Prod.fst hx, fun i c y h1 h2 h3 => ?_⟩
  have := hfs i h1
  rw [hone, Nat.mul_one, h3, take_one _ i c (by simpa [Value.cells] using h2)] at this
  exact this
theorem sized_field {ts : List TypeId} {ds : List (DataW H)} (h : (DataW.weightsEach P ts ds).all (· ≤ reachBytes) = true) {j : Nat} {t : TypeId} {fs : Array Field} {parts : List (DataW H)} (ht : ts[j]? = some t) (hd : ds[j]? = some (.agg parts))
    (hu : P.underlying t = some (.struct fs)) {i : Nat} {f : Field} {d : DataW H} (hf : fs[i]? = some f) (hp : parts[i]? = some d) {n : Nat} (hn : n ∈ d.weights P f.type) : n ≤ reachBytes := by
  have h1 : n ∈ (DataW.agg parts).weights P t := by
    unfold DataW.weights
    rw [hu]
    exact DataW.weights_mem_each (j := i) (t := f.type) (by rw [List.getElem?_map, Array.getElem?_toList, hf]; rfl) hp n hn
  have := List.all_eq_true.1 h _ (DataW.weights_mem_each ht hd n h1)
  simpa using this
theorem num_of {k : IntKind} {t : TypeId} {n : Nat} {c : Value} {y : DataW H × List MemPlace} (hu : P.underlying t = some (.int k)) (h : DataW.trod enc P w base spare held n t [c] = some y) : ∃ a, c = .int k a ∧ (Lit.int k a).wf = true := by
  obtain ⟨a, e1, _, hw⟩ := DataW.trod_int hu h
  simp at e1
  exact ⟨a, e1, hw⟩
end

/-- octets in a field -/
theorem open_bytes {H : Type} {enc : TypeId × Value → H} {W : World} {n : Nat} {v : Value} {y : DataW H × List MemPlace} (h : DataW.trod enc Tryd.prog W 0 (fun _ => true) true n 27 [v] = some y) :
    ∃ (A : Option Addr) (l : List UInt8) (c : Nat), v = .slice A l.length c ∧ RdB W A l ∧ l.length ≤ c ∧ (c = 0 ∨ c ∈ y.1.weights Tryd.prog 27) := by
  rcases open_ints Tryd.underlying27 Tryd.underlying5 (by kernel_rfl) h with ⟨hcs, _⟩ | ⟨x, len, c, zs, hcs, _, hl, hm, hz, hx, hcell, hwz⟩
  · simp at hcs
    exact ⟨none, [], 0, hcs, by intro k v hv; simp at hv, by simp, .inl rfl⟩
  · simp at hcs
    simp only [if_true] at hz
    obtain ⟨l, hl2, hr⟩ := rdB_of_ints hcell hwz (n := len) (by omega)
    refine ⟨some x, l, c, by rw [hl2]; exact hcs, hr, by omega, .inr ?_⟩
    rw [hx]
    unfold DataW.weights
    rw [Tryd.underlying27]
    simp only [show Tryd.prog.bytesOf 5 = 1 from by kernel_rfl, lits, List.length_map, List.length_take, List.length_drop]
    exact List.mem_cons.2 (.inl (by omega))
end Go.Proofs.YthbbmpelldglmaaDoor
/- Arguments opened: a slice of acts. -/
namespace Go.Proofs.YthbbmpelldglmaaDoor
set_option linter.unusedVariables false
set_option linter.unusedSimpArgs false
open Go.RowKit Go.ChangeShapes Go.WideShapes

/-- the acts at A -/
def ActRd (w : World) (A : Option Addr) (l : List Ac) : Prop := ∀ k (hk : k < l.length), ∃ b off, A = some ⟨b, off, none⟩ ∧ ∀ j (hj : j < 5), w.cell? ⟨b, off + k * 5 + j, none⟩ = some (l[k].cells[j]'hj)
theorem ActRd.below {w w' : World} {A : Option Addr} {l : List Ac} (h : ActRd w A l) (hb : Below w.heap.size w w') : ActRd w' A l := fun k hk => by
  obtain ⟨b, off, e, hc⟩ := h k hk
  exact ⟨b, off, e, fun j hj => cell_later hb (hc j hj)⟩

/-- a struct of one-cell fields, by its cells -/
theorem trod_fields {H : Type} {enc : TypeId × Value → H} {P : Program} {w : World} {base fuel : Nat} {spare : Nat → Bool} {held : Bool} {t : TypeId} {fs : Array Field} {cs : List Value} {x : DataW H × List MemPlace} (hs : P.underlying t = some (.struct fs)) (hone : Go.Deep.oneCellFields P fs = true) (hC : P.cellsOf t = fs.size)
    (h : DataW.trod enc P w base spare held fuel t cs = some x) :
    ∃ (ys : List (DataW H × List MemPlace)) (n : Nat), cs.length = fs.size ∧ ys.length = fs.size ∧ x.1 = .agg (ys.map (·.1)) ∧
      ∀ (i : Nat) (f : Field) (c : Value) (y : DataW H × List MemPlace), fs[i]? = some f → cs[i]? = some c → ys[i]? = some y → DataW.trod enc P w base spare held n f.type [c] = some y := by
  obtain ⟨ys, n, _, hx, hl, hlen, hfs⟩ := DataW.trod_struct hs h
  refine ⟨ys, n, by rw [hl, hC], hlen, congrArg Prod.fst hx, fun i f c y h1 h2 h3 => ?_⟩
  obtain ⟨o, k⟩ := Go.Deep.hone_of hone i f h1
  have := hfs i f h1
  rw [o, k, h3, take_one _ i c h2] at this
  exact this
set_option maxRecDepth 100000 in
/-- a slice of acts -/
theorem open_acts {H : Type} {enc : TypeId × Value → H} {W : World} {r : Reach} {b0 : Nat} {v : Value} {d : DataW H} {p : List MemPlace} (hv : Value.okWide Tryd.prog W r b0 72 v)
    (h : DataW.Trod enc Tryd.prog W 0 (fun _ => true) true 72 v d p) :
    ∃ (A : Option Addr) (l : List Ac) (c : Nat), v = .slice A l.length c ∧ ActRd W A l ∧ (∀ a ∈ l, a.Go) ∧ l.length ≤ c ∧ c ≤ maxLen := by
  obtain ⟨a0, len, cap, rfl⟩ := okWide_slice Tryd.underlying72 hv
  obtain ⟨fuel, hf⟩ := h
  rcases Go.Deep.open_slice Tryd.underlying72 hf with ⟨hcs, _⟩ | ⟨a, len', cap', m, n, D, Pl, hcs, _, hl, hm, hmm, _, hx⟩
  · simp [Value.cells] at hcs
    obtain ⟨rfl, rfl, rfl⟩ := hcs
    exact ⟨none, [], 0, rfl, fun k hk => by simp at hk, by simp, Nat.le_refl _, by simp [maxLen]⟩
  · simp [Value.cells] at hcs
    obtain ⟨rfl, rfl, rfl⟩ := hcs
    simp only [if_true] at hmm
    have hC : Tryd.prog.cellsOf 81 = 5 := by kernel_rfl
    have hact : ∀ i, i < len → ∃ x : Ac, x.Go ∧ ∀ j (hj : j < 5), W.cell? ((a.add (i * 5)).add j) = some (x.cells[j]'hj) := fun i hi => by
      obtain ⟨cs, h1, h2⟩ := hx i (by omega)
      rw [hC] at h1
      obtain ⟨ys, n', hlen, hlen2, _, hfs⟩ := trod_fields Tryd.underlying81 (by kernel_rfl) (by kernel_rfl) h2
      simp at hlen hlen2
      obtain ⟨c0, c1, c2, c3, c4, rfl⟩ := list5 hlen
      obtain ⟨y0, y1, y2, y3, y4, rfl⟩ := list5 hlen2
      obtain ⟨_, _, hcell⟩ := World.cells?_some h1
      obtain ⟨a0, rfl, w0⟩ := num_of Tryd.underlying5 (hfs 0 _ _ _ rfl rfl rfl)
      obtain ⟨a1, rfl, w1⟩ := num_of Tryd.underlying5 (hfs 1 _ _ _ rfl rfl rfl)
      obtain ⟨a2, rfl, w2⟩ := num_of Tryd.underlying5 (hfs 2 _ _ _ rfl rfl rfl)
      obtain ⟨a3, rfl, w3⟩ := num_of Tryd.underlying22 (hfs 3 _ _ _ rfl rfl rfl)
      obtain ⟨a4, rfl, w4⟩ := num_of Tryd.underlying5 (hfs 4 _ _ _ rfl rfl rfl)
      obtain ⟨b0, q0, rfl⟩ := nat_of_u8 w0
      obtain ⟨b1, q1, rfl⟩ := nat_of_u8 w1
      obtain ⟨b2, q2, rfl⟩ := nat_of_u8 w2
      obtain ⟨b3, q3, rfl⟩ := nat_of_u16 w3
      obtain ⟨b4, q4, rfl⟩ := nat_of_u8 w4
      refine ⟨⟨b0, b1, b2, b3, b4⟩, ⟨q0, q1, q2, q3, q4⟩, fun j hj => ?_⟩
      rw [hcell j hj]
      match j, hj with
      | 0, _ => rfl
      | 1, _ => rfl
      | 2, _ => rfl
      | 3, _ => rfl
      | 4, _ => rfl
    have hind : ∀ n, n ≤ len → ∃ l : List Ac, l.length = n ∧ (∀ a ∈ l, a.Go) ∧ ∀ (i : Nat) (x : Ac), l[i]? = some x → ∀ j (hj : j < 5), W.cell? ((a.add (i * 5)).add j) = some (x.cells[j]'hj) := by
      intro n
      induction n with
      | zero => exact fun _ => ⟨[], rfl, by simp, fun i x hi => by simp at hi⟩
      | succ n ih =>
        intro hn
        obtain ⟨l, h1, h2, h3⟩ := ih (by omega)
        obtain ⟨x, h4, h5⟩ := hact n (by omega)
        refine ⟨l ++ [x], by simp [h1], fun y hy => by simp at hy; rcases hy with hy | rfl; exact h2 y hy; exact h4, fun i y hi j hj => ?_⟩
        by_cases hi2 : i < l.length
        · rw [List.getElem?_append_left hi2] at hi
          exact h3 i y hi j hj
        · rw [List.getElem?_append_right (by omega)] at hi
          obtain rfl : i = n := by have := (List.getElem?_eq_some_iff.1 hi).1; simp at this; omega
          simp [h1] at hi
          subst hi
          exact h5 j hj
    obtain ⟨l, h1, h2, h3⟩ := hind len (Nat.le_refl _)
    subst h1
    refine ⟨some a, l, cap, rfl, fun k hk => ?_, h2, hl, hm⟩
    have h4 := h3 k l[k] (List.getElem?_eq_getElem hk)
    simp only [add_add] at h4
    obtain ⟨b, off, spot⟩ := a
    have hspot : spot = none := by
      have := World.cell?_spot (h3 0 l[0] (List.getElem?_eq_getElem (by omega)) 0 (by decide))
      simpa [Addr.add] using this
    subst hspot
    refine ⟨b, off, rfl, fun j hj => ?_⟩
    rw [← h4 j hj]
    congr 1
    unfold Addr.add
    split <;> simp_all
    omega
end Go.Proofs.YthbbmpelldglmaaDoor
/- Law 38: a store agrees with a model. -/
namespace Go.Proofs.YthbbmpelldglmaaDoor
set_option linter.unusedVariables false
set_option linter.unusedSimpArgs false
open Go.RowKit

def modObj (A1 : Option Addr) (n1 c1 : Nat) (A2 : Option Addr) (n2 c2 : Nat) : Obj := .cells #[.slice A1 n1 c1, .slice A2 n2 c2] 76 (0, 0)
/-- the model at block g: its records, and the blocks they lie in -/
def ModAt (w : World) (g : Nat) (F : List Nat) (H : List HomeR) (V : List VisitR) : Prop :=
  ∃ A1 c1 A2 c2, F = g :: (blk A1 ++ blk A2) ∧ w.heap[g]? = some (modObj A1 H.length c1 A2 V.length c2) ∧ HomeRow w 0 A1 c1 H ∧ VisitRow w 0 A2 c2 V
theorem ModAt.chg {w w' : World} {g : Nat} {F F2 : List Nat} {H : List HomeR} {V : List VisitR} (h : ModAt w g F H V) (hc : Chg F2 w w') (hF : ∀ i ∈ F, i ∉ F2) : ModAt w' g F H V := by
  obtain ⟨A1, c1, A2, c2, rfl, h1, h2, h3⟩ := h
  exact ⟨A1, c1, A2, c2, rfl, hc.heap h1 (hF g (by simp)), Row.chg h2 hc (fun k e => hF k (by simp [mem_blk.2 e])), Row.chg h3 hc (fun k e => hF k (by simp [mem_blk.2 e]))⟩
theorem ModAt.below {w w' : World} {g : Nat} {F : List Nat} {H : List HomeR} {V : List VisitR} (h : ModAt w g F H V) (hb : Below w.heap.size w w') : ModAt w' g F H V := h.chg (Chg.of_below [] hb) (by simp)
theorem ModAt.lt {w : World} {g : Nat} {F : List Nat} {H : List HomeR} {V : List VisitR} (h : ModAt w g F H V) : ∀ i ∈ F, i < w.heap.size := by
  obtain ⟨A1, c1, A2, c2, rfl, h1, h2, h3⟩ := h
  intro i hi
  simp only [List.mem_cons, List.mem_append] at hi
  rcases hi with rfl | hi | hi
  · exact (Array.getElem?_eq_some_iff.1 h1).1
  · exact (Row.blk_lt h2 i hi).2
  · exact (Row.blk_lt h3 i hi).2
/-- the cells of a record in a row -/
theorem flat_get {α : Type} (cs : α → List Value) (n : Nat) (hn : ∀ x, (cs x).length = n) : ∀ (l : List α) (k j : Nat) (hk : k < l.length) (hj : j < n), (l.flatMap cs)[k * n + j]? = (cs l[k])[j]?
  | x :: l, 0, j, hk, hj => by
    rw [List.flatMap_cons, Nat.zero_mul, Nat.zero_add, List.getElem?_append_left (by rw [hn]; exact hj)]
    rfl
  | x :: l, k + 1, j, hk, hj => by
    rw [List.flatMap_cons, List.getElem?_append_right (by rw [hn, Nat.add_mul]; omega), hn]
    rw [show (k + 1) * n + j - n = k * n + j by rw [Nat.add_mul]; omega]
    exact flat_get cs n hn l k j (by simpa using hk) hj
theorem HomeRow.at {w : World} {B g c : Nat} {l : List HomeR} (h : HomeRow w B (some ⟨g, 0, none⟩) c l) {k : Nat} (hk : k < l.length) (j : Nat) (hj : j < 6) : w.cell? ⟨g, k * 6 + j, none⟩ = some (l[k].cells[j]'hj) := by
  refine Row.cell h ?_
  rw [flat_get (fun x : HomeR => x.cells.toList) 6 (fun _ => rfl) l k j hk hj]
  rw [Array.getElem?_toList]
  exact Array.getElem?_eq_getElem hj
theorem VisitRow.at {w : World} {B g c : Nat} {l : List VisitR} (h : VisitRow w B (some ⟨g, 0, none⟩) c l) {k : Nat} (hk : k < l.length) (j : Nat) (hj : j < 6) : w.cell? ⟨g, k * 6 + j, none⟩ = some (l[k].cells[j]'hj) := by
  refine Row.cell h ?_
  rw [flat_get (fun x : VisitR => x.cells.toList) 6 (fun _ => rfl) l k j hk hj]
  rw [Array.getElem?_toList]
  exact Array.getElem?_eq_getElem hj

set_option maxHeartbeats 4000000 in
set_option maxRecDepth 100000 in
theorem agrees_any (w : World) (g gm : Nat) (F FM : List Nat) (S : St) (h : StAt w g F S) (hf : S.Fit) (hp : S.puts ≤ 100000) (hm : ModAt w gm FM S.homes S.visits) (hl1 : S.homes.length ≤ 100000) (hl2 : S.visits.length ≤ 100000) :
    Calls Tryd.prog 34 #[.pointer (some ⟨g, 0, none⟩), .pointer (some ⟨gm, 0, none⟩)] w fun e w' => e = .returned (.bool true) ∧ Below w.heap.size w w' := by
  have hh := storeHomes_any w g F S h hf hp
  have hv := fun w1 (hb : Below w.heap.size w w1) => storeVisits_any w1 g F S (h.below hb) hf hp
  generalize S.homes = H at *
  generalize S.visits = V at *
  obtain ⟨A1, c1, A2, c2, rfl, hmo, hm1, hm2⟩ := hm
  have hgm : gm < w.heap.size := (Array.getElem?_eq_some_iff.1 hmo).1
  have HH := Lib.hid hh
  have HV := Lib.hid hv
  have HMO := Lib.hid hmo
  clear hh hv h hf hmo
  go_enter Tryd.func34, Tryd.ntmps34
  go_wp2_with (first
    | (go_at_call 91; (with_reducible refine HH.out.mono ?_); rintro e w1 ⟨A3, rfl, h3, hB1⟩)
    | (go_at_call 99; (with_reducible refine (HV.out _ hB1).mono ?_); rintro e w2 ⟨A4, rfl, h4, hB2⟩
       have hB := below_then hB1 hB2
       have ho2 := (hB.block gm hgm).trans HMO.out
       have k0 : w2.cell? ⟨gm, 0, none⟩ = some (.slice A1 H.length c1) := Go.Joins.cell_of_block ho2 0
       have k1 : w2.cell? ⟨gm, 1, none⟩ = some (.slice A2 V.length c2) := Go.Joins.cell_of_block ho2 1
       have HO2 := Lib.hid ho2
       clear ho2)
    | fail)
  go_loopw [7] (fun iv wr => ∃ k n : Nat, k ≤ H.length ∧ iv = .int .i64 k ∧ wr = w2.drewN n) (fun iv _ => H.length - (intOf iv).toNat)
  case atStart => exact ⟨0, 0, Nat.zero_le _, rfl, rfl⟩
  case round =>
    obtain ⟨k, n, hk, rfl, rfl⟩ := hrel
    by_cases hlt : k < H.length
    · obtain ⟨g3, rfl, -⟩ := Row.form h3 (by omega)
      obtain ⟨g1, rfl, -⟩ := Row.form hm1 (by omega)
      have x3 := HomeRow.at (show HomeRow w2 _ _ _ _ from Row.below h3 hB2) hlt
      have x1 := HomeRow.at (show HomeRow w2 _ _ _ _ from Row.below hm1 hB) hlt
      generalize H[k] = x at *
      obtain ⟨id, number, at_, move, barred, waiting⟩ := x
      have y0 : w2.cell? ⟨g3, k * 6 + 0, none⟩ = some (encStr id) := x3 0 (by decide)
      have y1 : w2.cell? ⟨g3, k * 6 + 1, none⟩ = some (encStr number) := x3 1 (by decide)
      have y2 : w2.cell? ⟨g3, k * 6 + 2, none⟩ = some (.int .u16 (at_ : Int)) := x3 2 (by decide)
      have y3 : w2.cell? ⟨g3, k * 6 + 3, none⟩ = some (.int .u32 (move : Int)) := x3 3 (by decide)
      have y4 : w2.cell? ⟨g3, k * 6 + 4, none⟩ = some (.bool barred) := x3 4 (by decide)
      have y5 : w2.cell? ⟨g3, k * 6 + 5, none⟩ = some (.bool waiting) := x3 5 (by decide)
      have z0 : w2.cell? ⟨g1, k * 6 + 0, none⟩ = some (encStr id) := x1 0 (by decide)
      have z1 : w2.cell? ⟨g1, k * 6 + 1, none⟩ = some (encStr number) := x1 1 (by decide)
      have z2 : w2.cell? ⟨g1, k * 6 + 2, none⟩ = some (.int .u16 (at_ : Int)) := x1 2 (by decide)
      have z3 : w2.cell? ⟨g1, k * 6 + 3, none⟩ = some (.int .u32 (move : Int)) := x1 3 (by decide)
      have z4 : w2.cell? ⟨g1, k * 6 + 4, none⟩ = some (.bool barred) := x1 4 (by decide)
      have z5 : w2.cell? ⟨g1, k * 6 + 5, none⟩ = some (.bool waiting) := x1 5 (by decide)
      have q1 : (0 : Int) ≤ (k : Int) := by omega
      have q2 : (k : Int) < (H.length : Int) := by omega
      clear x3 x1
      rw [Nat.add_zero] at y0 z0
      go_upto_region 8 with fail
      go_quiet (fail)
      go_wp2_with fail
      go_roundw
      case rel => exact ⟨k + 1, n + nq, by omega, by go_num, rfl⟩
      case measure => simp [intOf]; omega
    · obtain rfl : k = H.length := by omega
      go_wp2_with fail
      go_loopw [8] (fun iv wr => ∃ k n : Nat, k ≤ V.length ∧ iv = .int .i64 k ∧ wr = w2.drewN n) (fun iv _ => V.length - (intOf iv).toNat)
      case atStart => exact ⟨0, n, Nat.zero_le _, rfl, rfl⟩
      case round =>
        obtain ⟨k, n, hk, rfl, rfl⟩ := hrel
        by_cases hlt : k < V.length
        · obtain ⟨g3, rfl, -⟩ := Row.form h4 (by omega)
          obtain ⟨g1, rfl, -⟩ := Row.form hm2 (by omega)
          have x3 := VisitRow.at (show VisitRow w2 _ _ _ _ from h4) hlt
          have x1 := VisitRow.at (show VisitRow w2 _ _ _ _ from Row.below hm2 hB) hlt
          generalize V[k] = x at *
          obtain ⟨id, number, home, move, area, roam⟩ := x
          have y0 : w2.cell? ⟨g3, k * 6 + 0, none⟩ = some (encStr id) := x3 0 (by decide)
          have y1 : w2.cell? ⟨g3, k * 6 + 1, none⟩ = some (encStr number) := x3 1 (by decide)
          have y2 : w2.cell? ⟨g3, k * 6 + 2, none⟩ = some (.int .u16 (home : Int)) := x3 2 (by decide)
          have y3 : w2.cell? ⟨g3, k * 6 + 3, none⟩ = some (.int .u32 (move : Int)) := x3 3 (by decide)
          have y4 : w2.cell? ⟨g3, k * 6 + 4, none⟩ = some (.int .u16 (area : Int)) := x3 4 (by decide)
          have y5 : w2.cell? ⟨g3, k * 6 + 5, none⟩ = some (encStr roam) := x3 5 (by decide)
          have z0 : w2.cell? ⟨g1, k * 6 + 0, none⟩ = some (encStr id) := x1 0 (by decide)
          have z1 : w2.cell? ⟨g1, k * 6 + 1, none⟩ = some (encStr number) := x1 1 (by decide)
          have z2 : w2.cell? ⟨g1, k * 6 + 2, none⟩ = some (.int .u16 (home : Int)) := x1 2 (by decide)
          have z3 : w2.cell? ⟨g1, k * 6 + 3, none⟩ = some (.int .u32 (move : Int)) := x1 3 (by decide)
          have z4 : w2.cell? ⟨g1, k * 6 + 4, none⟩ = some (.int .u16 (area : Int)) := x1 4 (by decide)
          have z5 : w2.cell? ⟨g1, k * 6 + 5, none⟩ = some (encStr roam) := x1 5 (by decide)
          have q1 : (0 : Int) ≤ (k : Int) := by omega
          have q2 : (k : Int) < (V.length : Int) := by omega
          clear x3 x1
          rw [Nat.add_zero] at y0 z0
          go_upto_region 13 with fail
          go_quiet (fail)
          go_wp2_with fail
          go_roundw
          case rel => exact ⟨k + 1, n + nq, by omega, by go_num, rfl⟩
          case measure => simp [intOf]; omega
        · obtain rfl : k = V.length := by omega
          go_wp2_with fail
          go_ret
          exact ⟨rfl, hB.trans ((below_drewN (Below.refl w2.heap.size w2) n).mono hB.size)⟩
end Go.Proofs.YthbbmpelldglmaaDoor
/- Law 38: two stores have the same records. -/
namespace Go.Proofs.YthbbmpelldglmaaDoor
set_option linter.unusedVariables false
set_option linter.unusedSimpArgs false
open Go.RowKit

set_option maxHeartbeats 2000000 in
set_option maxRecDepth 100000 in
theorem same38_any (w : World) (g gt : Nat) (F FT : List Nat) (S T : St) (h : StAt w g F S) (ht : StAt w gt FT T) (hf : S.Fit) (hft : T.Fit) (hp : S.puts ≤ 100000) (hpt : T.puts ≤ 100000) (eh : T.homes = S.homes) (ev : T.visits = S.visits) (hl1 : S.homes.length ≤ 100000) (hl2 : S.visits.length ≤ 100000) :
    Calls Tryd.prog 41 #[.pointer (some ⟨g, 0, none⟩), .pointer (some ⟨gt, 0, none⟩)] w fun e w' => e = .returned (.bool true) ∧ Below w.heap.size w w' := by
  have hh := storeHomes_any w gt FT T ht hft hpt
  have hv := fun w1 (hb : Below w.heap.size w w1) => storeVisits_any w1 gt FT T (ht.below hb) hft hpt
  rw [eh] at hh
  rw [ev] at hv
  have ha := fun w1 (hb : Below w.heap.size w w1) gm FM hm => agrees_any w1 g gm F FM S (h.below hb) hf hp hm hl1 hl2
  generalize S.homes = H at *
  generalize S.visits = V at *
  have HH := Lib.hid hh
  have HV := Lib.hid hv
  have HA := Lib.hid ha
  clear hh hv ha h ht hf hft
  go_enter Tryd.func41, Tryd.ntmps41
  go_wp2_with (first
    | (go_at_call 91; (with_reducible refine HH.out.mono ?_); rintro e w1 ⟨A3, rfl, h3, hB1⟩)
    | (go_at_call 99; (with_reducible refine (HV.out _ hB1).mono ?_); rintro e w2 ⟨A4, rfl, h4, hB2⟩
       have hB := below_then hB1 hB2
       have hm : ModAt (w2.alloc (.cells #[.slice A3 H.length H.length, .slice A4 V.length V.length] 76)) w2.heap.size _ H V :=
         ⟨A3, H.length, A4, V.length, rfl, heap_alloc_new w2 _, Row.alloc (Row.mono (Row.below h3 hB2) (Nat.zero_le _)) _, Row.alloc (Row.mono h4 (Nat.zero_le _)) _⟩
       have hB4 := below_alloc hB (.cells #[.slice A3 H.length H.length, .slice A4 V.length V.length] 76)
       have HM := Lib.hid hm
       clear hm h3 h4)
    | (go_at_call 34; (with_reducible refine (HA.out _ hB4 _ _ HM.out).mono ?_); rintro e w5 ⟨rfl, hB5⟩)
    | fail)
  go_ret
  exact ⟨rfl, below_then hB4 hB5⟩
end Go.Proofs.YthbbmpelldglmaaDoor
