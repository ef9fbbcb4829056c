/- Law 38: 'SubscribersPlay'. -/
import Derived.Test.YthbbmpelldglmaaGreatDoorSubscribersPlayM7
import Derived.Deep.RegionHeld3
import Derived.Deep.CutBlock
namespace Go.Proofs.YthbbmpelldglmaaGreatDoor
set_option linter.unusedVariables false
set_option linter.unusedSimpArgs false
open Go.RowKit

theorem id_pos {x : HomeR} (h : x.ok = true) : x.id.isEmpty = false := by
  have := (HomeR.ok_len h).1.1
  cases e : x.id with
  | nil => rw [e] at this; simp at this
  | cons a b => rfl
theorem idv_pos {x : VisitR} (h : x.ok = true) : x.id.isEmpty = false := by
  have := (VisitR.ok_len h).1.1
  cases e : x.id with
  | nil => rw [e] at this; simp at this
  | cons a b => rfl
theorem home_empty {S : St} (hf : S.Fit) (k : List UInt8) : ((homeOf S k).getD homeZero).id.isEmpty = !(homeOf S k).isSome := by
  cases e : homeOf S k with
  | none => rfl
  | some x => exact id_pos (hf.hok x (List.mem_of_find?_eq_some e)).1
theorem num_empty {S : St} (hf : S.Fit) (k : List UInt8) : ((numOf S k).getD homeZero).id.isEmpty = !(numOf S k).isSome := by
  cases e : numOf S k with
  | none => rfl
  | some x => exact id_pos (hf.hok x (List.mem_of_find?_eq_some e)).1
theorem visit_empty {S : St} (hf : S.Fit) (k : List UInt8) : ((visitOf S k).getD visitZero).id.isEmpty = !(visitOf S k).isSome := by
  cases e : visitOf S k with
  | none => rfl
  | some x => exact idv_pos (hf.vok x (List.mem_of_find?_eq_some e)).1
theorem visit_roam {S : St} (hf : S.Fit) (k : List UInt8) : ((visitOf S k).getD visitZero).roam.length ≤ 15 ∧ (((visitOf S k).getD visitZero).roam ≠ [] → roamOf S ((visitOf S k).getD visitZero).roam = some ((visitOf S k).getD visitZero)) := by
  cases e : visitOf S k with
  | none => exact ⟨by show ([] : List UInt8).length ≤ 15; simp, fun h => absurd rfl h⟩
  | some x =>
    have hm := List.mem_of_find?_eq_some e
    refine ⟨(VisitR.ok_len (hf.vok x hm).1).2.2.1, fun h => ?_⟩
    have hr : x ∈ roamers S.visits := mem_roamers.2 ⟨hm, h⟩
    show roamOf S x.roam = some x
    unfold roamOf
    cases e2 : (roamers S.visits).find? (fun v => v.roam == x.roam) with
    | none =>
      rw [List.find?_eq_none] at e2
      exact absurd (by simp) (e2 x hr)
    | some y =>
      rw [roam_one hf (List.mem_of_find?_eq_some e2) hr (by simpa using List.find?_some e2)]

theorem find_hit {α : Type} {f : α → List UInt8} {l : List α} (h : l.Pairwise fun a b => f a ≠ f b) (k : Nat) (hk : k < l.length) {c : List UInt8} (e : f l[k] = c) : (l.take (k + 1)).find? (fun x => f x == c) = some l[k] := by
  have h2 : (l.take k ++ [l[k]]).Pairwise fun a b => f a ≠ f b := by rw [← List.take_succ_eq_append_getElem hk]; exact h.take
  rw [List.take_succ_eq_append_getElem hk, List.find?_append]
  have : (l.take k).find? (fun x => f x == c) = none := by
    rw [List.find?_eq_none]
    intro y hy hy2
    exact (List.pairwise_append.1 h2).2.2 y hy l[k] (by simp) ((by simpa using hy2 : f y = c).trans e.symm)
  rw [this]
  simp [e]
theorem find_miss {α : Type} {f : α → List UInt8} {l : List α} (k : Nat) (hk : k < l.length) {c : List UInt8} (e : ¬ f l[k] = c) : (l.take (k + 1)).find? (fun x => f x == c) = (l.take k).find? (fun x => f x == c) := by
  rw [List.take_succ_eq_append_getElem hk, List.find?_append]
  have : ([l[k]]).find? (fun x => f x == c) = none := by simp [e]
  rw [this, Option.or_none]

set_option maxHeartbeats 8000000 in
set_option maxRecDepth 100000 in
theorem walk_SubscribersPlay (w : World) (A : Option Addr) (l : List Ac) (c : Nat) (hA : ActRd w A l) (hgo : ∀ a ∈ l, a.Go) (hlc : l.length ≤ maxLen) :
    Calls Tryz.prog 4 #[.slice A l.length c] w fun e w' => e = .returned (.bool true) ∧ Below w.heap.size w w' := by
  have hliv := fun W => lives38_any W
  have hnew := storeNew_any w
  have HLIV := Lib.hid hliv
  have HNEW := Lib.hid hnew
  have HGO := Lib.hid hgo
  clear hliv hnew hgo
  simp only [maxLen] at hlc
  go_enter Tryz.func4, Tryz.ntmps4
  by_cases h60 : 60 < l.length
  · have q1 : (60 : Int) < (l.length : Int) := by omega
    go_wp2_with (first
      | (go_at_call 8; (with_reducible refine (HLIV.out _).mono ?_); rintro e w1 ⟨rfl, hB1⟩)
      | fail)
    go_ret
    exact ⟨rfl, hB1⟩
  have q1 : ¬ (60 : Int) < (l.length : Int) := by omega
  go_upto_block 0 with (first
    | (go_at_call 9; (with_reducible refine HNEW.out.mono ?_); rintro e w1 ⟨rfl, h1, hB1⟩)
    | fail)
  obtain ⟨w2, hw2⟩ : ∃ v, v = w1.alloc (.cells #[.slice none 0 0, .slice none 0 0] 33) := ⟨_, rfl⟩
  obtain ⟨gm, hgm⟩ : ∃ v, v = w1.heap.size := ⟨_, rfl⟩
  have hb2 : Below w1.heap.size w1 w2 := by rw [hw2]; exact (Below.refl _ _).alloc (Nat.le_refl _) _
  have hfour : Two w w2 l 0 w.heap.size gm [w.heap.size] [gm] := by
    exact ⟨h1.below hb2, ⟨none, 0, none, 0, by simp [blk], by rw [hw2, hgm]; exact heap_alloc_new w1 _, Row.nil _ _ _ _, Row.nil _ _ _ _⟩, hB1.trans (hb2.mono hB1.size), by simp, by rw [hgm]; simpa using hB1.size⟩
  rw [← hw2, ← hgm]
  have HFOUR := Lib.hid hfour
  clear hw2 hgm hb2 hfour h1 hB1
  go_wp2_with fail
  go_loopw [5] (fun iv wr => ∃ (k : Nat) (F FM : List Nat), k ≤ l.length ∧ iv = .int .i64 k ∧ Hid (Two w wr l k w.heap.size gm F FM))
    (fun iv _ => l.length - (intOf iv).toNat)
  case atStart => exact ⟨0, _, _, Nat.zero_le _, rfl, HFOUR⟩
  case round =>
    obtain ⟨k, F, FM, hk, rfl, H4⟩ := hrel
    by_cases hlt : k < l.length
    · obtain ⟨b0, off, rfl, -⟩ := hA k hlt
      have hac : ∀ W, Below w.heap.size w W → ∀ j (hj : j < 5), W.cell? ⟨b0, off + k * 5 + j, none⟩ = some (l[k].cells[j]'hj) := fun W hb j hj => by
        obtain ⟨b1, off1, e, hc⟩ := hA.below hb k hlt
        cases e
        exact hc j hj
      have hdo := fun W F (h : StAt W w.heap.size F (Sk l k)) => do_any l[k] (HGO.out _ (List.getElem_mem hlt)) W w.heap.size F (Sk l k) h (Sk_fit HGO.out k) (by have := Sk_puts l k; omega) (by have := Sk_len HGO.out k; omega)
      have hmo := fun W FM (h : ModAt W gm FM (Sk l k).homes (Sk l k).visits) => modDo_any l[k] (HGO.out _ (List.getElem_mem hlt)) W gm FM (Sk l k) (Sk_fit HGO.out k) h (by have := Sk_lens l k; omega) (by have := Sk_lens l k; omega)
      have hag := fun W F FM (h : StAt W w.heap.size F (Sk l (k + 1))) (h2 : ModAt W gm FM (Sk l (k + 1)).homes (Sk l (k + 1)).visits) => agrees_any W w.heap.size gm F FM (Sk l (k + 1)) h (Sk_fit HGO.out (k + 1)) (by have := Sk_puts l (k + 1); omega) h2 (by have := Sk_lens l (k + 1); omega) (by have := Sk_lens l (k + 1); omega)
      have HAG := Lib.hid hag
      clear hag
      unfold Done at hdo
      unfold ModDone at hmo
      rw [← Sk_succ l k hlt] at hdo hmo
      generalize l[k] = x at *
      generalize x.edit.er (Sk l k) = er at *
      obtain ⟨xk, xi, xn, xp, xf⟩ := x
      have HAC : Hid (∀ W, Below w.heap.size w W → W.cell? ⟨b0, off + k * 5, none⟩ = some (.int .u8 (xk : Int)) ∧ W.cell? ⟨b0, off + k * 5 + 1, none⟩ = some (.int .u8 (xi : Int)) ∧ W.cell? ⟨b0, off + k * 5 + 2, none⟩ = some (.int .u8 (xn : Int)) ∧ W.cell? ⟨b0, off + k * 5 + 3, none⟩ = some (.int .u16 (xp : Int)) ∧ W.cell? ⟨b0, off + k * 5 + 4, none⟩ = some (.int .u8 (xf : Int))) :=
        Lib.hid fun W hb => ⟨hac W hb 0 (by decide), hac W hb 1 (by decide), hac W hb 2 (by decide), hac W hb 3 (by decide), hac W hb 4 (by decide)⟩
      unfold Ac.val Ac.cells at hdo hmo
      simp only at hdo hmo
      have HDO := Lib.hid hdo
      have HMO := Lib.hid hmo
      have HLT := Lib.hid hlt
      have q3 : (0 : Int) ≤ (k : Int) := by omega
      have q4 : (k : Int) < (l.length : Int) := by omega
      have q5 : k ≤ 60 := by omega
      have HD : Hid (Two w wr.drew l k w.heap.size gm F FM) := Lib.hid (H4.out.later (Below.refl _ _).drew)
      have hlen := fun k' (h : k' ≤ 61) => show (Sk l k').log.length ≤ 100000000 by have := Sk_len HGO.out k'; omega
      have HLEN := Lib.hid hlen
      clear hdo hmo hac H4 hlen
      go_upto_region 8 with fail
      go_region_held3 (fun w' => w'.cell? ⟨b0, off + k * 5, none⟩ = some (.int .u8 (xk : Int)) ∧ w'.cell? ⟨b0, off + k * 5 + 1, none⟩ = some (.int .u8 (xi : Int)) ∧ w'.cell? ⟨b0, off + k * 5 + 2, none⟩ = some (.int .u8 (xn : Int)) ∧ w'.cell? ⟨b0, off + k * 5 + 3, none⟩ = some (.int .u16 (xp : Int)) ∧ w'.cell? ⟨b0, off + k * 5 + 4, none⟩ = some (.int .u8 (xf : Int)))
        (first | exact HAC.out _ HD.out.below | exact HAC.out _ HH2.out.2.1 | exact HAC.out _ HM5.out.below | exact HAC.out _ HM3.out.below | fail)
        (first
          | (go_at_call 10; (with_reducible refine (HDO.out _ _ HD.out.st).mono ?_); rintro e w3 ⟨F3, rfl, h3, hc3, hn3⟩
             have HH2 := Lib.hid (HD.out.half hc3 hn3)
             have HS3 := Lib.hid (And.intro h3 (And.intro hc3 hn3))
             clear h3 hc3 hn3)
          | (go_at_call 11; (with_reducible refine (HMO.out _ _ HH2.out.1).mono ?_); rintro e w4 ⟨FM4, rfl, h4, hc4, hn4⟩
             have HM3 := Lib.hid (Two.step HS3.out.1 HH2.out.2.1 HH2.out.2.2 HD.out.hFM HH2.out.1 h4 hc4 hn4)
             clear h4 hc4 hn4)
          | (go_at_call 17; (with_reducible refine (HAG.out _ _ _ HM3.out.st HM3.out.md).mono ?_); rintro e w5 ⟨rfl, hB5⟩
             have HM5 := Lib.hid (HM3.out.later hB5)
             clear hB5))
      clear HD HH2 HS3 HDO HMO HAC
      go_wp2_with fail
      go_roundw
      case rel => exact ⟨k + 1, _, _, by have := HLT.out; omega, by go_num, HM5⟩
      case measure => have := HLT.out; simp [intOf]; omega
    · obtain rfl : k = l.length := by omega
      have hfit := Sk_fit HGO.out l.length
      have hlns := Sk_lens l l.length
      obtain ⟨S, hS⟩ : ∃ S, S = Sk l l.length := ⟨_, rfl⟩
      rw [← hS] at hfit hlns
      have HT : Hid (∀ W, Below wr.heap.size wr W → StAt W w.heap.size F S ∧ ModAt W gm FM S.homes S.visits) := Lib.hid fun W hb => by rw [hS]; exact ⟨(H4.out.later hb).st, (H4.out.later hb).md⟩
      have HB0 := Lib.hid H4.out.below
      clear hS H4
      have HFIT := Lib.hid hfit
      clear hfit
      have hroam0 : roamOf S [] = none := by
        unfold roamOf
        rw [List.find?_eq_none]
        intro x hx
        have := (mem_roamers.1 hx).2
        simpa using this
      have HRM0 := Lib.hid hroam0
      clear hroam0
      have hbr := fun W k hl (h : StAt W w.heap.size F S) => storeByRoam_any W w.heap.size F S h HFIT.out k hl
      have hbn := fun W k hl (h : StAt W w.heap.size F S) => storeByNumber_any W w.heap.size F S h HFIT.out k hl
      have hho := fun W k hl (h : StAt W w.heap.size F S) => storeHome_any W w.heap.size F S h k hl
      have hvi := fun W k hl (h : StAt W w.heap.size F S) => storeVisit_any W w.heap.size F S h k hl
      have HBR := Lib.hid hbr
      have HBN := Lib.hid hbn
      have HHO := Lib.hid hho
      have HVI := Lib.hid hvi
      clear hbr hbn hho hvi
      have hlH : S.homes.length ≤ 60 := by omega
      have hlV : S.visits.length ≤ 60 := by omega
      clear hlns
      generalize hwq : wr = wq at *
      clear hwq
      go_wp2_with fail
      go_loopw [6] (fun iv wr => ∃ i : Nat, i ≤ 8 ∧ iv = .int .i64 i ∧ Hid (Below wq.heap.size wq wr))
        (fun iv _ => 8 - (intOf iv).toNat)
      case atStart => exact ⟨0, by omega, rfl, Lib.hid (Below.refl _ _)⟩
      case round =>
        obtain ⟨i, hi, rfl, HI⟩ := hrel
        by_cases hilt : i < 8
        · have HILT := Lib.hid hilt
          have u1 : IntKind.u8.wrap (i : Int) = (i : Int) := by rw [IntKind.wrap_u8]; omega
          have u2 : IntKind.u8.wrap (100 + (i : Int)) = 100 + (i : Int) := by rw [IntKind.wrap_u8]; omega
          have d1 := fun W => digits38' i W (i : Int) rfl (by omega)
          have d2 := fun W => digits38' (100 + i) W (100 + (i : Int)) (by omega) (by omega)
          have l1 : (digitsB i).length ≤ maxLen := by have := digitsB_len i; simp only [maxLen]; omega
          have l2 : (digitsB (100 + i)).length ≤ maxLen := by have := digitsB_len (100 + i); simp only [maxLen]; omega
          generalize digitsB i = D1 at *
          generalize digitsB (100 + i) = D2 at *
          have HD1 := Lib.hid d1
          have HD2 := Lib.hid d2
          have HL1 := Lib.hid l1
          have HL2 := Lib.hid l2
          clear d1 d2 l1 l2
          go_upto_region 17 with (first
            | (go_at_call 18; (with_reducible refine (HD1.out _).mono ?_); rintro e w1 ⟨rfl, h1⟩; obtain rfl := h1.symm)
            | (go_at_call 18; (with_reducible refine (HD2.out _).mono ?_); rintro e w1 ⟨rfl, h1⟩; obtain rfl := h1.symm)
            | fail)
          obtain ⟨w17, hw17⟩ : ∃ v, v = ((wr.alloc (.cells #[encStr [], encStr [], .int .u16 0, .int .u32 0, .bool false, .bool false] 52)).alloc (.cells #[encStr [], encStr [], .int .u16 0, .int .u32 0, .bool false, .bool false] 52)).alloc (.cells #[encStr [], encStr [], .int .u16 0, .int .u32 0, .int .u16 0, encStr []] 54) := ⟨_, rfl⟩
          have hz1 : w17.heap[wr.heap.size]? = some (.cells #[encStr [], encStr [], .int .u16 0, .int .u32 0, .bool false, .bool false] 52 (0, 0)) := by rw [hw17]; exact ((Below.refl _ _).alloc (Nat.le_refl _) _).block wr.heap.size (by simp; omega) |>.trans (heap_alloc2_old _ _ _)
          have hz2 : w17.heap[wr.heap.size + 1]? = some (.cells #[encStr [], encStr [], .int .u16 0, .int .u32 0, .bool false, .bool false] 52 (0, 0)) := by rw [hw17, show wr.heap.size + 1 = (wr.alloc (.cells #[encStr [], encStr [], .int .u16 0, .int .u32 0, .bool false, .bool false] 52)).heap.size by simp]; exact heap_alloc2_old _ _ _
          have hz3 : w17.heap[wr.heap.size + 1 + 1]? = some (.cells #[encStr [], encStr [], .int .u16 0, .int .u32 0, .int .u16 0, encStr []] 54 (0, 0)) := by rw [hw17, show wr.heap.size + 1 + 1 = ((wr.alloc (.cells #[encStr [], encStr [], .int .u16 0, .int .u32 0, .bool false, .bool false] 52)).alloc (.cells #[encStr [], encStr [], .int .u16 0, .int .u32 0, .bool false, .bool false] 52)).heap.size by simp]; exact heap_alloc_new _ _
          have hz4 : Below wr.heap.size wr w17 := by rw [hw17]; exact below_alloc (below_alloc ((Below.refl _ _).alloc (Nat.le_refl _) _) _) _
          have HT0 : Hid (∀ W, Below wr.heap.size wr W → StAt W w.heap.size F S ∧ ModAt W gm FM S.homes S.visits) := Lib.hid fun W hb => HT.out W (HI.out.trans (hb.mono HI.out.size))
          have HGM : Hid (gm < wr.heap.size) := Lib.hid (by obtain ⟨-, A1, c1, A2, c2, -, hmo, -, -⟩ := HT0.out wr (Below.refl _ _); exact (Array.getElem?_eq_some_iff.1 hmo).1)
          have HNI : Hid (S.homes.Pairwise fun a b => a.id ≠ b.id) := Lib.hid (HFIT.out.hs.imp (fun {a b} (h : a.id < b.id) (e : a.id = b.id) => List.lt_irrefl b.id (by rw [e] at h; exact h)))
          have HNV : Hid (S.visits.Pairwise fun a b => a.id ≠ b.id) := Lib.hid (HFIT.out.vs.imp (fun {a b} (h : a.id < b.id) (e : a.id = b.id) => List.lt_irrefl b.id (by rw [e] at h; exact h)))
          rw [← hw17]
          obtain ⟨ga, hga⟩ : ∃ v, v = wr.heap.size := ⟨_, rfl⟩
          obtain ⟨gb, hgb⟩ : ∃ v, v = wr.heap.size + 1 := ⟨_, rfl⟩
          obtain ⟨gv, hgv⟩ : ∃ v, v = wr.heap.size + 1 + 1 := ⟨_, rfl⟩
          rw [← hgv, ← hgb, ← hga]
          rw [← hgv] at hz3
          rw [← hgb] at hz2
          rw [← hga] at hz1
          have hgab : wr.heap.size ≤ ga ∧ ga < gb ∧ gb < gv := by omega
          obtain ⟨hgA, hgAB, hgBV⟩ := hgab
          clear hga hgb hgv
          generalize hw0 : wr = w0 at *
          have HSTART := Lib.hid (And.intro hz1 (And.intro hz2 (And.intro hz3 hz4)))
          clear hw17 hz1 hz2 hz3 hz4 hw0
          go_wp2_with fail
          go_loopw [12] (fun kv wr => ∃ k : Nat, k ≤ S.homes.length ∧ kv = .int .i64 k ∧ Hid (wr.heap[ga]? = some (.cells (((S.homes.take k).find? fun h => h.id == D1).getD homeZero).cells 52 (0, 0)) ∧ wr.heap[gb]? = some (.cells (((S.homes.take k).find? fun h => h.number == D2).getD homeZero).cells 52 (0, 0)) ∧ wr.heap[gv]? = some (.cells (visitZero).cells 54 (0, 0)) ∧ Below w0.heap.size w0 wr))
            (fun kv _ => S.homes.length - (intOf kv).toNat)
          case atStart => exact ⟨0, Nat.zero_le _, rfl, HSTART⟩
          case round =>
            obtain ⟨k, hk, rfl, HK⟩ := hrel
            have HKB : Hid (Below w0.heap.size w0 wr) := Lib.hid HK.out.2.2.2
            obtain ⟨-, A1, c1, A2, c2, -, hmo, hm1, hm2⟩ := HT0.out _ HKB.out
            have k0 : wr.cell? ⟨gm, 0, none⟩ = some (.slice A1 S.homes.length c1) := Go.Joins.cell_of_block hmo 0
            by_cases hlt : k < S.homes.length
            · obtain ⟨gR, rfl, -⟩ := Row.form hm1 (by omega)
              have hgml := (Array.getElem?_eq_some_iff.1 hmo).1
              have HC2 : Hid (∀ W, Below w0.heap.size w0 W → W.cell? ⟨gm, 0, none⟩ = some (.slice (some ⟨gR, 0, none⟩) S.homes.length c1) ∧ W.cell? ⟨gR, k * 6, none⟩ = some (encStr S.homes[k].id) ∧ W.cell? ⟨gR, k * 6 + 1, none⟩ = some (encStr S.homes[k].number) ∧ W.cell? ⟨gR, k * 6 + 2, none⟩ = some (.int .u16 (S.homes[k].at_ : Int)) ∧ W.cell? ⟨gR, k * 6 + 3, none⟩ = some (.int .u32 (S.homes[k].move : Int)) ∧ W.cell? ⟨gR, k * 6 + 4, none⟩ = some (.bool S.homes[k].barred) ∧ W.cell? ⟨gR, k * 6 + 5, none⟩ = some (.bool S.homes[k].waiting)) := Lib.hid fun W hb => by
                obtain ⟨-, A1', c1', A2', c2', -, b1, b2, b3⟩ := HT0.out W hb
                have hO := Below.block (HKB.out) gm (HGM.out)
                have hO2 := hb.block gm (HGM.out)
                have hsame : some (modObj A1' S.homes.length c1' A2' S.visits.length c2') = some (modObj (some ⟨gR, 0, none⟩) S.homes.length c1 A2 S.visits.length c2) := by rw [← b1, hO2, ← hO, hmo]
                simp only [modObj, Option.some.injEq, Obj.cells.injEq, Array.mk.injEq, List.cons.injEq, Value.slice.injEq, and_true, true_and] at hsame
                obtain ⟨⟨rfl, rfl⟩, rfl, rfl⟩ := hsame
                have x1 := HomeRow.at b2 hlt
                exact ⟨Go.Joins.cell_of_block b1 0, x1 0 (by decide), x1 1 (by decide), x1 2 (by decide), x1 3 (by decide), x1 4 (by decide), x1 5 (by decide)⟩
              have HFT1 : Hid (S.homes[k].id = D1 → ((S.homes.take (k + 1)).find? fun h => h.id == D1).getD homeZero = S.homes[k]) := Lib.hid fun e => by rw [find_hit HNI.out k hlt e]; rfl
              have HFM1 : Hid (¬ S.homes[k].id = D1 → ((S.homes.take (k + 1)).find? fun h => h.id == D1).getD homeZero = ((S.homes.take k).find? fun h => h.id == D1).getD homeZero) := Lib.hid fun e => by rw [find_miss (f := HomeR.id) k hlt e]
              have HFT2 : Hid (S.homes[k].number = D2 → ((S.homes.take (k + 1)).find? fun h => h.number == D2).getD homeZero = S.homes[k]) := Lib.hid fun e => by rw [find_hit HFIT.out.hn k hlt e]; rfl
              have HFM2 : Hid (¬ S.homes[k].number = D2 → ((S.homes.take (k + 1)).find? fun h => h.number == D2).getD homeZero = ((S.homes.take k).find? fun h => h.number == D2).getD homeZero) := Lib.hid fun e => by rw [find_miss (f := HomeR.number) k hlt e]
              generalize hra0 : (((S.homes.take k).find? fun h => h.id == D1).getD homeZero) = ra at *
              generalize hrb0 : (((S.homes.take k).find? fun h => h.number == D2).getD homeZero) = rb at *
              generalize S.homes[k] = x at *
              obtain ⟨mid, mnum, mat, mmv, mba, mwa⟩ := x
              obtain ⟨k0, y0, y1, y2, y3, y4, y5⟩ := HC2.out _ HKB.out
              have HLT := Lib.hid hlt
              have q2 : (0 : Int) ≤ (k : Int) := by omega
              have q3 : (k : Int) < (S.homes.length : Int) := by omega
              have q4 : k ≤ 60 := by omega
              have hszs := HKB.out.size
              have hgvl : gv < wr.heap.size := (Array.getElem?_eq_some_iff.1 HK.out.2.2.1).1
              clear hmo hm1 hm2 hgml hra0 hrb0
              by_cases i1 : mid = D1
              · have j1 : (mid == D1) = true := by simpa using i1
                have HI1 := Lib.hid i1
                clear i1
                by_cases i2 : mnum = D2
                · have j2 : (mnum == D2) = true := by simpa using i2
                  have HI2 := Lib.hid i2
                  clear i2
                  go_wp2_with (first
                    | ((with_reducible refine at_store 52 9 rfl ?_)
                       refine wpList_store_rowN rfl 52 (.tmp 9) (.tmp 92) rfl ga #[encStr mid, encStr mnum, .int .u16 (mat : Int), .int .u32 (mmv : Int), .bool mba, .bool mwa] rfl rfl 52 ra.cells HK.out.1 infoHome rfl (by simp [Value.oneCell']) ?_
                       intro w2 ow2 hsw2 hgw2
                       have hBw2 := HKB.out.grown hgw2 HKB.out.size (fun j hj => by cases hj; omega)
                       obtain ⟨k0, y0, y1, y2, y3, y4, y5⟩ := HC2.out _ hBw2
                       have HA2 := Lib.hid ow2
                       have HB2 := Lib.hid ((hgw2.block gb (by omega) (by simp; omega)).trans HK.out.2.1)
                       have HV2 := Lib.hid ((hgw2.block gv (by omega) (by simp; omega)).trans HK.out.2.2.1)
                       have hlt2 : gv < w2.heap.size := by omega
                       clear ow2 hgw2)
                    | ((with_reducible refine at_store 52 10 rfl ?_)
                       refine wpList_store_rowN rfl 52 (.tmp 10) (.tmp 109) rfl gb #[encStr mid, encStr mnum, .int .u16 (mat : Int), .int .u32 (mmv : Int), .bool mba, .bool mwa] rfl rfl 52 rb.cells HB2.out infoHome rfl (by simp [Value.oneCell']) ?_
                       intro w3 ow3 hsw3 hgw3
                       have hBw3 := hBw2.grown hgw3 hBw2.size (fun j hj => by cases hj; omega)
                       obtain ⟨k0, y0, y1, y2, y3, y4, y5⟩ := HC2.out _ hBw3
                       have HA3 := Lib.hid ((hgw3.block ga (by omega) (by simp; omega)).trans HA2.out)
                       have HB3 := Lib.hid ow3
                       have HV3 := Lib.hid ((hgw3.block gv (by omega) (by simp; omega)).trans HV2.out)
                       clear ow3 hgw3)
                    | fail)
                  have hra := HFT1.out HI1.out
                  have hrb := HFT2.out HI2.out
                  go_roundw
                  case rel => exact ⟨k + 1, by have := HLT.out; omega, by go_num, Lib.hid ⟨by rw [hra]; exact HA3.out, by rw [hrb]; exact HB3.out, HV3.out, hBw3⟩⟩
                  case measure => have := HLT.out; simp [intOf]; omega
                · have j2 : (mnum == D2) = false := by simpa using i2
                  have HI2 := Lib.hid i2
                  clear i2
                  go_wp2_with (first
                    | ((with_reducible refine at_store 52 9 rfl ?_)
                       refine wpList_store_rowN rfl 52 (.tmp 9) (.tmp 92) rfl ga #[encStr mid, encStr mnum, .int .u16 (mat : Int), .int .u32 (mmv : Int), .bool mba, .bool mwa] rfl rfl 52 ra.cells HK.out.1 infoHome rfl (by simp [Value.oneCell']) ?_
                       intro w2 ow2 hsw2 hgw2
                       have hBw2 := HKB.out.grown hgw2 HKB.out.size (fun j hj => by cases hj; omega)
                       obtain ⟨k0, y0, y1, y2, y3, y4, y5⟩ := HC2.out _ hBw2
                       have HA2 := Lib.hid ow2
                       have HB2 := Lib.hid ((hgw2.block gb (by omega) (by simp; omega)).trans HK.out.2.1)
                       have HV2 := Lib.hid ((hgw2.block gv (by omega) (by simp; omega)).trans HK.out.2.2.1)
                       clear ow2 hgw2)
                    | fail)
                  have hra := HFT1.out HI1.out
                  have hrb := HFM2.out HI2.out
                  go_roundw
                  case rel => exact ⟨k + 1, by have := HLT.out; omega, by go_num, Lib.hid ⟨by rw [hra]; exact HA2.out, by rw [hrb]; exact HB2.out, HV2.out, hBw2⟩⟩
                  case measure => have := HLT.out; simp [intOf]; omega
              · have j1 : (mid == D1) = false := by simpa using i1
                have HI1 := Lib.hid i1
                clear i1
                by_cases i2 : mnum = D2
                · have j2 : (mnum == D2) = true := by simpa using i2
                  have HI2 := Lib.hid i2
                  clear i2
                  go_wp2_with (first
                    | ((with_reducible refine at_store 52 10 rfl ?_)
                       refine wpList_store_rowN rfl 52 (.tmp 10) (.tmp 109) rfl gb #[encStr mid, encStr mnum, .int .u16 (mat : Int), .int .u32 (mmv : Int), .bool mba, .bool mwa] rfl rfl 52 rb.cells HK.out.2.1 infoHome rfl (by simp [Value.oneCell']) ?_
                       intro w2 ow2 hsw2 hgw2
                       have hBw2 := HKB.out.grown hgw2 HKB.out.size (fun j hj => by cases hj; omega)
                       obtain ⟨k0, y0, y1, y2, y3, y4, y5⟩ := HC2.out _ hBw2
                       have HA2 := Lib.hid ((hgw2.block ga (by omega) (by simp; omega)).trans HK.out.1)
                       have HB2 := Lib.hid ow2
                       have HV2 := Lib.hid ((hgw2.block gv (by omega) (by simp; omega)).trans HK.out.2.2.1)
                       clear ow2 hgw2)
                    | fail)
                  have hra := HFM1.out HI1.out
                  have hrb := HFT2.out HI2.out
                  go_roundw
                  case rel => exact ⟨k + 1, by have := HLT.out; omega, by go_num, Lib.hid ⟨by rw [hra]; exact HA2.out, by rw [hrb]; exact HB2.out, HV2.out, hBw2⟩⟩
                  case measure => have := HLT.out; simp [intOf]; omega
                · have j2 : (mnum == D2) = false := by simpa using i2
                  have HI2 := Lib.hid i2
                  clear i2
                  go_wp2_with fail
                  have hra := HFM1.out HI1.out
                  have hrb := HFM2.out HI2.out
                  go_roundw
                  case rel => exact ⟨k + 1, by have := HLT.out; omega, by go_num, Lib.hid ⟨by rw [hra]; exact HK.out.1, by rw [hrb]; exact HK.out.2.1, HK.out.2.2.1, HKB.out⟩⟩
                  case measure => have := HLT.out; simp [intOf]; omega
            · obtain rfl : k = S.homes.length := by omega
              have HS3 : Hid (wr.heap[ga]? = some (.cells ((homeOf S D1).getD homeZero).cells 52 (0, 0)) ∧ wr.heap[gb]? = some (.cells ((numOf S D2).getD homeZero).cells 52 (0, 0)) ∧ wr.heap[gv]? = some (.cells (((S.visits.take 0).find? fun v => v.id == D1).getD visitZero).cells 54 (0, 0)) ∧ Below w0.heap.size w0 wr) := Lib.hid (by
                have := HK.out
                rw [List.take_length] at this
                exact this)
              clear HK HKB hmo hm1 hm2
              go_wp2_with fail
              go_loopw [13] (fun kv wr => ∃ k : Nat, k ≤ S.visits.length ∧ kv = .int .i64 k ∧ Hid (wr.heap[ga]? = some (.cells ((homeOf S D1).getD homeZero).cells 52 (0, 0)) ∧ wr.heap[gb]? = some (.cells ((numOf S D2).getD homeZero).cells 52 (0, 0)) ∧ wr.heap[gv]? = some (.cells (((S.visits.take k).find? fun v => v.id == D1).getD visitZero).cells 54 (0, 0)) ∧ Below w0.heap.size w0 wr))
                (fun kv _ => S.visits.length - (intOf kv).toNat)
              case atStart => exact ⟨0, Nat.zero_le _, rfl, HS3⟩
              case round =>
                obtain ⟨k, hk, rfl, HK⟩ := hrel
                have HKB : Hid (Below w0.heap.size w0 wr) := Lib.hid HK.out.2.2.2
                obtain ⟨-, A1, c1, A2, c2, -, hmo, hm1, hm2⟩ := HT0.out _ HKB.out
                have k0 : wr.cell? ⟨gm, 1, none⟩ = some (.slice A2 S.visits.length c2) := Go.Joins.cell_of_block hmo 1
                by_cases hlt : k < S.visits.length
                · obtain ⟨gR, rfl, -⟩ := Row.form hm2 (by omega)
                  have hgml := (Array.getElem?_eq_some_iff.1 hmo).1
                  have HC2 : Hid (∀ W, Below w0.heap.size w0 W → W.cell? ⟨gm, 1, none⟩ = some (.slice (some ⟨gR, 0, none⟩) S.visits.length c2) ∧ W.cell? ⟨gR, k * 6, none⟩ = some (encStr S.visits[k].id) ∧ W.cell? ⟨gR, k * 6 + 1, none⟩ = some (encStr S.visits[k].number) ∧ W.cell? ⟨gR, k * 6 + 2, none⟩ = some (.int .u16 (S.visits[k].home : Int)) ∧ W.cell? ⟨gR, k * 6 + 3, none⟩ = some (.int .u32 (S.visits[k].move : Int)) ∧ W.cell? ⟨gR, k * 6 + 4, none⟩ = some (.int .u16 (S.visits[k].area : Int)) ∧ W.cell? ⟨gR, k * 6 + 5, none⟩ = some (encStr S.visits[k].roam)) := Lib.hid fun W hb => by
                    obtain ⟨-, A1', c1', A2', c2', -, b1, b2, b3⟩ := HT0.out W hb
                    have hO := Below.block (HKB.out) gm (HGM.out)
                    have hO2 := hb.block gm (HGM.out)
                    have hsame : some (modObj A1' S.homes.length c1' A2' S.visits.length c2') = some (modObj A1 S.homes.length c1 (some ⟨gR, 0, none⟩) S.visits.length c2) := by rw [← b1, hO2, ← hO, hmo]
                    simp only [modObj, Option.some.injEq, Obj.cells.injEq, Array.mk.injEq, List.cons.injEq, Value.slice.injEq, and_true, true_and] at hsame
                    obtain ⟨⟨rfl, rfl⟩, rfl, rfl⟩ := hsame
                    have x1 := VisitRow.at b3 hlt
                    exact ⟨Go.Joins.cell_of_block b1 1, x1 0 (by decide), x1 1 (by decide), x1 2 (by decide), x1 3 (by decide), x1 4 (by decide), x1 5 (by decide)⟩
                  have HFT1 : Hid (S.visits[k].id = D1 → ((S.visits.take (k + 1)).find? fun v => v.id == D1).getD visitZero = S.visits[k]) := Lib.hid fun e => by rw [find_hit HNV.out k hlt e]; rfl
                  have HFM1 : Hid (¬ S.visits[k].id = D1 → ((S.visits.take (k + 1)).find? fun v => v.id == D1).getD visitZero = ((S.visits.take k).find? fun v => v.id == D1).getD visitZero) := Lib.hid fun e => by rw [find_miss (f := VisitR.id) k hlt e]
                  generalize hrv0 : (((S.visits.take k).find? fun v => v.id == D1).getD visitZero) = rv at *
                  generalize S.visits[k] = x at *
                  obtain ⟨mid, mnum, mat, mmv, mar, mro⟩ := x
                  obtain ⟨k0, y0, y1, y2, y3, y4, y5⟩ := HC2.out _ HKB.out
                  have HLT := Lib.hid hlt
                  have q2 : (0 : Int) ≤ (k : Int) := by omega
                  have q3 : (k : Int) < (S.visits.length : Int) := by omega
                  have q4 : k ≤ 60 := by omega
                  have hszs := HKB.out.size
                  have hgvl : gv < wr.heap.size := (Array.getElem?_eq_some_iff.1 HK.out.2.2.1).1
                  clear hmo hm1 hm2 hgml hrv0
                  by_cases i1 : mid = D1
                  · have j1 : (mid == D1) = true := by simpa using i1
                    have HI1 := Lib.hid i1
                    clear i1
                    go_wp2_with (first
                      | ((with_reducible refine at_store 54 11 rfl ?_)
                         refine wpList_store_rowN rfl 54 (.tmp 11) (.tmp 135) rfl gv #[encStr mid, encStr mnum, .int .u16 (mat : Int), .int .u32 (mmv : Int), .int .u16 (mar : Int), encStr mro] rfl rfl 54 rv.cells HK.out.2.2.1 infoVisit rfl (by simp [Value.oneCell']) ?_
                         intro w2 ow2 hsw2 hgw2
                         have hBw2 := HKB.out.grown hgw2 HKB.out.size (fun j hj => by cases hj; omega)
                         obtain ⟨k0, y0, y1, y2, y3, y4, y5⟩ := HC2.out _ hBw2
                         have HA2 := Lib.hid ((hgw2.block ga (by omega) (by simp; omega)).trans HK.out.1)
                         have HB2 := Lib.hid ((hgw2.block gb (by omega) (by simp; omega)).trans HK.out.2.1)
                         have HV2 := Lib.hid ow2
                         clear ow2 hgw2)
                      | fail)
                    have hrv := HFT1.out HI1.out
                    go_roundw
                    case rel => exact ⟨k + 1, by have := HLT.out; omega, by go_num, Lib.hid ⟨HA2.out, HB2.out, by rw [hrv]; exact HV2.out, hBw2⟩⟩
                    case measure => have := HLT.out; simp [intOf]; omega
                  · have j1 : (mid == D1) = false := by simpa using i1
                    have HI1 := Lib.hid i1
                    clear i1
                    go_wp2_with fail
                    have hrv := HFM1.out HI1.out
                    go_roundw
                    case rel => exact ⟨k + 1, by have := HLT.out; omega, by go_num, Lib.hid ⟨HK.out.1, HK.out.2.1, by rw [hrv]; exact HK.out.2.2.1, HKB.out⟩⟩
                    case measure => have := HLT.out; simp [intOf]; omega
                · obtain rfl : k = S.visits.length := by omega
                  have HS4 : Hid (wr.heap[ga]? = some (.cells ((homeOf S D1).getD homeZero).cells 52 (0, 0)) ∧ wr.heap[gb]? = some (.cells ((numOf S D2).getD homeZero).cells 52 (0, 0)) ∧ wr.heap[gv]? = some (.cells ((visitOf S D1).getD visitZero).cells 54 (0, 0)) ∧ Below w0.heap.size w0 wr) := Lib.hid (by
                    have := HK.out
                    rw [List.take_length] at this
                    exact this)
                  clear HK HKB hmo hm1 hm2
                  have HEX := Lib.hid (home_empty (S := S) HFIT.out D1)
                  have HEY := Lib.hid (num_empty (S := S) HFIT.out D2)
                  have HEZ := Lib.hid (visit_empty (S := S) HFIT.out D1)
                  have HRZ := Lib.hid (visit_roam (S := S) HFIT.out D1)
                  have hho := fun W h => HHO.out W D1 HL1.out h
                  have hbn := fun W h => HBN.out W D2 HL2.out h
                  have hvi := fun W h => HVI.out W D1 HL1.out h
                  have hbr := fun W h => HBR.out W ((visitOf S D1).getD visitZero).roam (by have := HRZ.out.1; simp only [maxLen]; omega) h
                  generalize (homeOf S D1).isSome = s1 at *
                  generalize (numOf S D2).isSome = s2 at *
                  generalize (visitOf S D1).isSome = s3 at *
                  generalize (homeOf S D1).getD homeZero = X at *
                  generalize (numOf S D2).getD homeZero = Y at *
                  generalize (visitOf S D1).getD visitZero = Z at *
                  obtain ⟨xi, xn, xa, xm, xb, xw⟩ := X
                  obtain ⟨yi, yn, ya, ym, yb, yw⟩ := Y
                  obtain ⟨zi, zn, za, zm, zb, zw⟩ := Z
                  unfold HomeR.val HomeR.cells at hho hbn
                  unfold VisitR.val VisitR.cells at hvi
                  simp only at hho hbn hvi hbr
                  have hex := HEX.out
                  have hey := HEY.out
                  have hez := HEZ.out
                  simp only at hex hey hez
                  have hwB := HS4.out.2.2.2
                  have HHP : Hid (∀ W, Below wr.heap.size wr W → W.heap[ga]? = some (.cells #[encStr xi, encStr xn, .int .u16 (xa : Int), .int .u32 (xm : Int), .bool xb, .bool xw] 52 (0, 0)) ∧ W.heap[gb]? = some (.cells #[encStr yi, encStr yn, .int .u16 (ya : Int), .int .u32 (ym : Int), .bool yb, .bool yw] 52 (0, 0)) ∧ W.heap[gv]? = some (.cells #[encStr zi, encStr zn, .int .u16 (za : Int), .int .u32 (zm : Int), .int .u16 (zb : Int), encStr zw] 54 (0, 0))) := Lib.hid fun W hb =>
                    ⟨(hb.block ga (Array.getElem?_eq_some_iff.1 HS4.out.1).1).trans HS4.out.1, (hb.block gb (Array.getElem?_eq_some_iff.1 HS4.out.2.1).1).trans HS4.out.2.1, (hb.block gv (Array.getElem?_eq_some_iff.1 HS4.out.2.2.1).1).trans HS4.out.2.2.1⟩
                  have HT4 : Hid (∀ W, Below wr.heap.size wr W → StAt W w.heap.size F S) := Lib.hid fun W hb => (HT0.out W (hwB.trans (hb.mono hwB.size))).1
                  obtain ⟨er1, her1⟩ : ∃ v : Int, v = if s1 then 0 else 7 := ⟨_, rfl⟩
                  obtain ⟨er2, her2⟩ : ∃ v : Int, v = if s2 then 0 else 7 := ⟨_, rfl⟩
                  obtain ⟨er3, her3⟩ : ∃ v : Int, v = if s3 then 0 else 7 := ⟨_, rfl⟩
                  rw [← her1] at hho
                  rw [← her2] at hbn
                  rw [← her3] at hvi
                  have f1 : ((er1 : Int) == 7) = !s1 := by rw [her1]; cases s1 <;> rfl
                  have f2 : ((er2 : Int) == 7) = !s2 := by rw [her2]; cases s2 <;> rfl
                  have f3 : ((er3 : Int) == 7) = !s3 := by rw [her3]; cases s3 <;> rfl
                  have HHO1 := Lib.hid hho
                  have HBN1 := Lib.hid hbn
                  have HVI1 := Lib.hid hvi
                  have HBR1 := Lib.hid hbr
                  have HWB := Lib.hid hwB
                  have HF1 := Lib.hid (And.intro f1 hex)
                  have HF2 := Lib.hid (And.intro f2 hey)
                  have HF3 := Lib.hid (And.intro f3 hez)
                  clear hho hbn hvi hbr her1 her2 her3 hwB HS4 HEX HEY HEZ f1 f2 f3 hex hey hez
                  go_upto_region 32 with (first
                    | (go_at_call 19; (with_reducible refine (HHO1.out _ (HT4.out _ (Below.refl _ _))).mono ?_); rintro e w20 ⟨rfl, hB20⟩
                       have hBx : Below wr.heap.size wr (w20.alloc (.cells #[encStr xi, encStr xn, .int .u16 (xa : Int), .int .u32 (xm : Int), .bool xb, .bool xw] 52)) := below_alloc hB20 _
                       have HX := Lib.hid (heap_alloc_new w20 (.cells #[encStr xi, encStr xn, .int .u16 (xa : Int), .int .u32 (xm : Int), .bool xb, .bool xw] 52))
                       clear hB20)
                    | (go_at_call 20; (with_reducible refine (HBN1.out _ (HT4.out _ hBx)).mono ?_); rintro e w21 ⟨rfl, hB21⟩
                       have hBy1 := below_alloc hB21 (.cells #[encStr yi, encStr yn, .int .u16 (ya : Int), .int .u32 (ym : Int), .bool yb, .bool yw] 52)
                       have hBy : Below wr.heap.size wr (w21.alloc (.cells #[encStr yi, encStr yn, .int .u16 (ya : Int), .int .u32 (ym : Int), .bool yb, .bool yw] 52)) := below_then hBx hBy1
                       have HXy := Lib.hid ((hBy1.block _ (Array.getElem?_eq_some_iff.1 HX.out).1).trans HX.out)
                       have HY := Lib.hid (heap_alloc_new w21 (.cells #[encStr yi, encStr yn, .int .u16 (ya : Int), .int .u32 (ym : Int), .bool yb, .bool yw] 52))
                       clear hB21 hBx hBy1)
                    | (go_at_call 21; (with_reducible refine (HVI1.out _ (HT4.out _ hBy)).mono ?_); rintro e w22 ⟨rfl, hB22⟩
                       have hBz1 := below_alloc hB22 (.cells #[encStr zi, encStr zn, .int .u16 (za : Int), .int .u32 (zm : Int), .int .u16 (zb : Int), encStr zw] 54)
                       have hBz : Below wr.heap.size wr (w22.alloc (.cells #[encStr zi, encStr zn, .int .u16 (za : Int), .int .u32 (zm : Int), .int .u16 (zb : Int), encStr zw] 54)) := below_then hBy hBz1
                       have HXz := Lib.hid ((hBz1.block _ (Array.getElem?_eq_some_iff.1 HXy.out).1).trans HXy.out)
                       have HYz := Lib.hid ((hBz1.block _ (Array.getElem?_eq_some_iff.1 HY.out).1).trans HY.out)
                       have HZ := Lib.hid (heap_alloc_new w22 (.cells #[encStr zi, encStr zn, .int .u16 (za : Int), .int .u32 (zm : Int), .int .u16 (zb : Int), encStr zw] 54))
                       clear hB22 hBy hBz1)
                    | fail)
                  have HBZ := Lib.hid hBz
                  clear hBz
                  generalize hwz : w22.alloc (.cells #[encStr zi, encStr zn, .int .u16 (za : Int), .int .u32 (zm : Int), .int .u16 (zb : Int), encStr zw] 54) = wz at *
                  generalize w20.heap.size = gx at *
                  generalize w21.heap.size = gy at *
                  generalize w22.heap.size = gz at *
                  clear hwz
                  obtain ⟨hpa, hpb, hpv⟩ := HHP.out _ HBZ.out
                  have a0 := cell_of_row _ _ 0 _ _ _ hpa
                  have a1 := cell_of_row _ _ 1 _ _ _ hpa
                  have a2 := cell_of_row _ _ 2 _ _ _ hpa
                  have a3 := cell_of_row _ _ 3 _ _ _ hpa
                  have a4 := cell_of_row _ _ 4 _ _ _ hpa
                  have a5 := cell_of_row _ _ 5 _ _ _ hpa
                  have b0 := cell_of_row _ _ 0 _ _ _ hpb
                  have b1 := cell_of_row _ _ 1 _ _ _ hpb
                  have b2 := cell_of_row _ _ 2 _ _ _ hpb
                  have b3 := cell_of_row _ _ 3 _ _ _ hpb
                  have b4 := cell_of_row _ _ 4 _ _ _ hpb
                  have b5 := cell_of_row _ _ 5 _ _ _ hpb
                  have v0 := cell_of_row _ _ 0 _ _ _ hpv
                  have v1 := cell_of_row _ _ 1 _ _ _ hpv
                  have v2 := cell_of_row _ _ 2 _ _ _ hpv
                  have v3 := cell_of_row _ _ 3 _ _ _ hpv
                  have v4 := cell_of_row _ _ 4 _ _ _ hpv
                  have v5 := cell_of_row _ _ 5 _ _ _ hpv
                  have x0 := cell_of_row _ _ 0 _ _ _ HXz.out
                  have x1 := cell_of_row _ _ 1 _ _ _ HXz.out
                  have x2 := cell_of_row _ _ 2 _ _ _ HXz.out
                  have x3 := cell_of_row _ _ 3 _ _ _ HXz.out
                  have x4 := cell_of_row _ _ 4 _ _ _ HXz.out
                  have x5 := cell_of_row _ _ 5 _ _ _ HXz.out
                  have y0 := cell_of_row _ _ 0 _ _ _ HYz.out
                  have y1 := cell_of_row _ _ 1 _ _ _ HYz.out
                  have y2 := cell_of_row _ _ 2 _ _ _ HYz.out
                  have y3 := cell_of_row _ _ 3 _ _ _ HYz.out
                  have y4 := cell_of_row _ _ 4 _ _ _ HYz.out
                  have y5 := cell_of_row _ _ 5 _ _ _ HYz.out
                  have z0 := cell_of_row _ _ 0 _ _ _ HZ.out
                  have z1 := cell_of_row _ _ 1 _ _ _ HZ.out
                  have z2 := cell_of_row _ _ 2 _ _ _ HZ.out
                  have z3 := cell_of_row _ _ 3 _ _ _ HZ.out
                  have z4 := cell_of_row _ _ 4 _ _ _ HZ.out
                  have z5 := cell_of_row _ _ 5 _ _ _ HZ.out
                  obtain ⟨f1, g1⟩ := HF1.out
                  obtain ⟨f2, g2⟩ := HF2.out
                  obtain ⟨f3, g3⟩ := HF3.out
                  clear hpa hpb hpv HX HXy HY
                  have HB31 : Hid (Below wq.heap.size wq wz) := Lib.hid (HI.out.trans ((HWB.out.mono HI.out.size).trans (HBZ.out.mono (by have := HI.out.size; have := HWB.out.size; omega))))
                  by_cases hzr : zw = []
                  · have r1 : zw.isEmpty = true := by rw [hzr]; rfl
                    clear hzr
                    go_wp2_with fail
                    go_roundw
                    case rel => exact ⟨i + 1, by have := HILT.out; omega, by go_num, HB31⟩
                    case measure => have := HILT.out; simp [intOf]; omega
                  · have r1 : zw.isEmpty = false := by simpa using hzr
                    have hrz : roamOf S zw = some ⟨zi, zn, za, zm, zb, zw⟩ := HRZ.out.2 hzr
                    clear hzr
                    have hbr := HBR1.out
                    rw [hrz] at hbr
                    simp only [Option.getD_some, Option.isSome_some, if_true] at hbr
                    unfold VisitR.val VisitR.cells at hbr
                    simp only at hbr
                    have HBR2 := Lib.hid hbr
                    clear hbr hrz
                    go_upto_region 36 with (first
                      | (go_at_call 22; (with_reducible refine (HBR2.out _ (HT4.out _ HBZ.out)).mono ?_); rintro e w23 ⟨rfl, hB23⟩
                         have hB5 : Below wr.heap.size wr (w23.alloc (.cells #[encStr zi, encStr zn, .int .u16 (za : Int), .int .u32 (zm : Int), .int .u16 (zb : Int), encStr zw] 54)) := below_then HBZ.out (below_alloc hB23 _)
                         have HU := Lib.hid (heap_alloc_new w23 (.cells #[encStr zi, encStr zn, .int .u16 (za : Int), .int .u32 (zm : Int), .int .u16 (zb : Int), encStr zw] 54))
                         clear hB23)
                      | fail)
                    have HB5 := Lib.hid hB5
                    clear hB5
                    generalize hw5 : w23.alloc (.cells #[encStr zi, encStr zn, .int .u16 (za : Int), .int .u32 (zm : Int), .int .u16 (zb : Int), encStr zw] 54) = w5 at *
                    generalize w23.heap.size = gu at *
                    clear hw5
                    obtain ⟨-, -, hpv5⟩ := HHP.out _ HB5.out
                    have t0 := cell_of_row _ _ 0 _ _ _ hpv5
                    have t1 := cell_of_row _ _ 1 _ _ _ hpv5
                    have t2 := cell_of_row _ _ 2 _ _ _ hpv5
                    have t3 := cell_of_row _ _ 3 _ _ _ hpv5
                    have t4 := cell_of_row _ _ 4 _ _ _ hpv5
                    have t5 := cell_of_row _ _ 5 _ _ _ hpv5
                    have s0 := cell_of_row _ _ 0 _ _ _ HU.out
                    have s1 := cell_of_row _ _ 1 _ _ _ HU.out
                    have s2 := cell_of_row _ _ 2 _ _ _ HU.out
                    have s3 := cell_of_row _ _ 3 _ _ _ HU.out
                    have s4 := cell_of_row _ _ 4 _ _ _ HU.out
                    have s5 := cell_of_row _ _ 5 _ _ _ HU.out
                    clear hpv5
                    have HB41 : Hid (Below wq.heap.size wq w5) := Lib.hid (HI.out.trans ((HWB.out.mono HI.out.size).trans (HB5.out.mono (by have := HI.out.size; have := HWB.out.size; omega))))
                    go_wp2_with fail
                    go_roundw
                    case rel => exact ⟨i + 1, by have := HILT.out; omega, by go_num, HB41⟩
                    case measure => have := HILT.out; simp [intOf]; omega
        · obtain rfl : i = 8 := by omega
          have hbr := fun W h => HBR.out W [] (by simp) h
          rw [HRM0.out] at hbr
          simp only [Option.getD_none, Option.isSome_none, Bool.false_eq_true, if_false] at hbr
          unfold VisitR.val VisitR.cells visitZero at hbr
          simp only at hbr
          have HBR2 := Lib.hid hbr
          clear hbr
          have HST : Hid (StAt wr w.heap.size F S) := Lib.hid (HT.out _ HI.out).1
          go_wp2_with (first
            | (go_at_call 22; go_loud (refine (HBR2.out _ HST.out).mono ?_); rintro e w38 ⟨rfl, hB38⟩)
            | (go_at_call 8; (with_reducible refine (HLIV.out _).mono ?_); rintro e w39 ⟨rfl, hB39⟩)
            | fail)
          go_ret
          exact ⟨rfl, below_then HB0.out (below_then HI.out (below_then (below_alloc hB38 _) hB39))⟩
end Go.Proofs.YthbbmpelldglmaaGreatDoor
