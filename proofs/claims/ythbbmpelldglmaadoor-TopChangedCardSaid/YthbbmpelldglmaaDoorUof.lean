/- 'pointcodelaw04.U.Of': a valid unit out of plain data. -/
import Derived.Test.YthbbmpelldglmaaDoorDecode
namespace Go.Proofs.YthbbmpelldglmaaDoor
set_option linter.unusedVariables false
set_option linter.unusedSimpArgs false
open Go.RowKit

/-- the first k octets of a message of n -/
def msgL (n : Nat) (b : List UInt8) (k : Nat) : List UInt8 := (List.range n).map fun i => if i < k then b.getD (i % b.length) 0 else 0
theorem msgL_len (n : Nat) (b : List UInt8) (k : Nat) : (msgL n b k).length = n := by simp [msgL]
theorem msgL_zero (n : Nat) (b : List UInt8) : msgL n b 0 = List.replicate n 0 := by
  apply List.ext_getElem?
  intro i
  by_cases hi : i < n
  · simp [msgL, hi]
  · rw [List.getElem?_eq_none (by simp [msgL]; omega), List.getElem?_eq_none (by simp; omega)]
theorem msgL_set (n : Nat) (b : List UInt8) (k : Nat) : (msgL n b k).set k (b.getD (k % b.length) 0) = msgL n b (k + 1) := by
  apply List.ext_getElem?
  intro i
  rw [List.getElem?_set]
  by_cases hi : i < n
  · by_cases h : k = i
    · subst h
      rw [if_pos rfl, if_pos (by rw [msgL_len]; exact hi)]
      simp [msgL, hi]
    · rw [if_neg h]
      simp only [msgL, List.getElem?_map, List.getElem?_range hi, Option.map_some]
      by_cases h1 : i < k
      · rw [if_pos h1, if_pos (by omega)]
      · rw [if_neg h1, if_neg (by omega)]
  · rw [List.getElem?_eq_none (l := msgL n b (k + 1)) (by rw [msgL_len]; omega)]
    split
    · rw [if_neg (by rw [msgL_len]; omega)]
    · rw [List.getElem?_eq_none (by rw [msgL_len]; omega)]
def message (size : Nat) (b : List UInt8) : List UInt8 := if b.length = 0 then List.replicate (2 + size % 272) 0 else msgL (2 + size % 272) b (2 + size % 272)
theorem message_len (size : Nat) (b : List UInt8) : (message size b).length = 2 + size % 272 := by
  unfold message; split
  · simp
  · exact msgL_len _ _ _

set_option maxHeartbeats 2000000 in
set_option maxRecDepth 100000 in
theorem message_any (size : Nat) (hz : size < 65536) (A : Option Addr) (b : List UInt8) (c : Nat) (w : World) (hA : RdB w A b) (hb : b.length ≤ 140737488351232) :
    Calls Tryd.prog 71 #[.int .u16 (size : Int), .slice A b.length c] w fun e w' => ∃ A', e = .returned (.slice A' (message size b).length (message size b).length) ∧ RowB w' w.heap.size A' (message size b).length (message size b) ∧ Below w.heap.size w w' := by
  have hml := message_len size b
  have hm0 : b.length = 0 → message size b = List.replicate (2 + size % 272) 0 := fun h => by unfold message; rw [if_pos h]
  have hm1 : b.length ≠ 0 → message size b = msgL (2 + size % 272) b (2 + size % 272) := fun h => by unfold message; rw [if_neg h]
  obtain ⟨n, hn⟩ : ∃ n, n = 2 + size % 272 := ⟨_, rfl⟩
  rw [← hn] at hml hm0 hm1
  generalize message size b = M at *
  have e1 : (2 : Int) + (size : Int) % 272 = (n : Int) := by omega
  have e0 : Int.tmod (size : Int) 272 = (size : Int) % 272 := Int.tmod_eq_emod_of_nonneg (by omega)
  have hn2 : 2 ≤ n ∧ n ≤ 273 := by omega
  have HM0 := Lib.hid hm0
  have HM1 := Lib.hid hm1
  have HML := Lib.hid hml
  have HN := Lib.hid hn
  clear hm0 hm1 hml hn
  go_enter Tryd.func71, Tryd.ntmps71
  go_wp2_with (first
    | ((with_reducible refine at_dst 11 rfl ?_)
       refine make_bytes rfl (.tmp 10) (.tmp 10) rfl .i64 .i64 n n n rfl rfl rfl rfl (by omega) ?_
       intro w2 hS hB2)
    | fail)
  rw [← msgL_zero n b] at hS
  go_loopw [6] (fun i wr => ∃ k : Nat, k ≤ n ∧ i = .int .i64 k ∧ (b.length = 0 → k = 0) ∧ (∃ t, t = msgL n b k ∧ RowB wr w.heap.size (some ⟨w.heap.size, 0, none⟩) n t) ∧ Below w.heap.size w wr) (fun i _ => n - (intOf i).toNat)
  case atStart => exact ⟨0, by omega, rfl, fun _ => rfl, ⟨_, rfl, hS⟩, hB2⟩
  case round =>
    clear hS hB2
    obtain ⟨k, hk, rfl, hk0, ⟨t, ht, hR⟩, hB⟩ := hrel
    have htl : t.length = n := by rw [ht]; exact msgL_len _ _ _
    have HTL := Lib.hid htl
    have HT := Lib.hid ht
    have HK := Lib.hid hk0
    clear ht hk0
    by_cases hlt : k < n
    · by_cases h0 : 0 < b.length
      · have hmd : k % b.length < b.length := Nat.mod_lt _ h0
        obtain ⟨ad, e, hc⟩ := (hA.below hB).get hmd
        subst e
        have hgd : b.getD (k % b.length) 0 = b[k % b.length] := by simp [List.getD, hmd]
        have hst := msgL_set n b k
        rw [← HT.out, hgd] at hst
        have hset := RowB.set hR k b[k % b.length]
        have hcell := RowB.at_ hR (k := k) (by omega)
        have hf := Row.free hR k
        have hB3 := hB.setCell (p := ⟨w.heap.size, k, none⟩) (Nat.le_refl _) (.int .u8 (b[k % b.length].toNat : Int))
        have em : Int.tmod (k : Int) (b.length : Int) = ((k % b.length : Nat) : Int) := by rw [Int.tmod_eq_emod_of_nonneg (by omega)]; simp
        have em2 : (k : Int) % (b.length : Int) = ((k % b.length : Nat) : Int) := by simp
        generalize b[k % b.length] = x at *
        generalize k % b.length = j at *
        generalize t.set k x = t2 at *
        generalize t[k]'(by omega) = y at *
        have HS := Lib.hid hst
        clear hst hgd htl
        go_wp2
        go_roundw
        case rel => exact ⟨k + 1, by omega, by go_num, fun h => by omega, ⟨t2, HS.out, hset⟩, hB3⟩
        case measure => simp [intOf]; omega
      · have h1 : b.length = 0 := by omega
        obtain rfl := HK.out h1
        have hM : M = t := by rw [HM0.out h1, HT.out, msgL_zero]
        clear htl
        subst hM
        obtain rfl : b = [] := List.length_eq_zero_iff.1 h1
        go_wp2
        go_ret
        rw [HTL.out]
        exact ⟨_, rfl, hR, hB⟩
    · obtain rfl : k = n := by omega
      have hM : M = t := by
        by_cases h1 : b.length = 0
        · have := HK.out h1; omega
        · rw [HM1.out h1, HT.out]
      clear htl
      subst hM
      go_wp2
      go_ret
      rw [HTL.out]
      exact ⟨_, rfl, hR, hB⟩
theorem heap_alloc3_mid (w : World) (a b c : Obj) : (((w.alloc a).alloc b).alloc c).heap[w.heap.size + 1]? = some b := by
  have := heap_alloc2_old (w.alloc a) b c
  rwa [show (w.alloc a).heap.size = w.heap.size + 1 by simp] at this
theorem heap_alloc3_new (w : World) (a b c : Obj) : (((w.alloc a).alloc b).alloc c).heap[w.heap.size + 2]? = some c := by
  have := heap_alloc_new ((w.alloc a).alloc b) c
  rwa [show ((w.alloc a).alloc b).heap.size = w.heap.size + 2 by simp] at this

/-- a 'U' as an argument -/
def uArg (vb vf vk vs vz : Nat) (A : Option Addr) (l : List UInt8) (c : Nat) : Value := .agg #[.int .u8 vb, .int .u8 vf, .int .u8 vk, .int .u8 vs, .int .u16 vz, .slice A l.length c]
def uOf (vb vf vk vs vz : Nat) (l : List UInt8) : Un := ⟨vb % 128, decide (128 ≤ vb), vf % 128, decide (128 ≤ vf), vk % 3, if vk % 3 = 1 then vs % 6 else 0, if vk % 3 = 2 then message vz l else []⟩
theorem uOf_ok (vb vf vk vs vz : Nat) (l : List UInt8) : (uOf vb vf vk vs vz l).Ok where
  hb := Nat.mod_lt _ (by decide)
  hf := Nat.mod_lt _ (by decide)
  hk := by
    have hm := message_len vz l
    have : vk % 3 = 0 ∨ vk % 3 = 1 ∨ vk % 3 = 2 := by omega
    unfold uOf
    rcases this with h | h | h
    · left; simp [h]
    · right; left; simp [h]; omega
    · right; right; simp [h]; omega

set_option maxHeartbeats 4000000 in
set_option maxRecDepth 100000 in
theorem of_0 (vb vf vk vs vz : Nat) (A : Option Addr) (l : List UInt8) (c : Nat) (w : World) (hA : RdB w A l) (hl : l.length ≤ 140737488351232) (hb : vb < 256) (hf : vf < 256) (hk : vk < 256) (hs : vs < 256) (hz : vz < 65536) (h3 : vk % 3 = 0) :
    Calls Tryd.prog 15 #[uArg vb vf vk vs vz A l c] w fun e w' => ∃ A', e = .returned ((uOf vb vf vk vs vz l).val A' (uOf vb vf vk vs vz l).load.length) ∧ RdB w' A' (uOf vb vf vk vs vz l).load ∧ Below w.heap.size w w' := by
  have e1 : (vb : Int) % 128 = ((vb % 128 : Nat) : Int) := by simp
  have e2 : (vf : Int) % 128 = ((vf % 128 : Nat) : Int) := by simp
  have e3 : (vk : Int) % 3 = 0 := by omega
  have d1 : Int.tmod (vb : Int) 128 = (vb : Int) % 128 := Int.tmod_eq_emod_of_nonneg (by omega)
  have d2 : Int.tmod (vf : Int) 128 = (vf : Int) % 128 := Int.tmod_eq_emod_of_nonneg (by omega)
  have d3 : Int.tmod (vk : Int) 3 = (vk : Int) % 3 := Int.tmod_eq_emod_of_nonneg (by omega)
  have d4 : Int.tmod (vs : Int) 6 = (vs : Int) % 6 := Int.tmod_eq_emod_of_nonneg (by omega)
  have f1 : decide ((128 : Int) ≤ (vb : Int)) = decide (128 ≤ vb) := by rw [decide_eq_decide]; omega
  have f2 : decide ((128 : Int) ≤ (vf : Int)) = decide (128 ≤ vf) := by rw [decide_eq_decide]; omega
  have hu : uOf vb vf vk vs vz l = ⟨vb % 128, decide (128 ≤ vb), vf % 128, decide (128 ≤ vf), 0, 0, []⟩ := by unfold uOf; rw [h3]; rfl
  rw [hu]
  clear hu
  generalize vb % 128 = b7 at *
  generalize vf % 128 = f7 at *
  generalize decide (128 ≤ vb) = bb at *
  generalize decide (128 ≤ vf) = fb at *
  unfold uArg Un.val
  clear h3
  go_enter Tryd.func15, Tryd.ntmps15
  go_wp2
  exact bodyPost_ret (results_cell_row rfl _ _ (w.heap.size + 1) 45 #[.int .u8 (b7 : Int), .bool bb, .int .u8 (f7 : Int), .bool fb, .int .u8 0, .int .u8 0, .slice none 0 0] (0, 0) _ rfl (heap_alloc3_mid _ _ _ _) Tryd.underlying45 rfl infoUnit) rfl ⟨none, rfl, RdB.nil _ _, below_alloc (below_alloc ((Below.refl w.heap.size w).alloc (Nat.le_refl _) _) _) _⟩

set_option maxHeartbeats 4000000 in
set_option maxRecDepth 100000 in
theorem of_1 (vb vf vk vs vz : Nat) (A : Option Addr) (l : List UInt8) (c : Nat) (w : World) (hA : RdB w A l) (hl : l.length ≤ 140737488351232) (hb : vb < 256) (hf : vf < 256) (hk : vk < 256) (hs : vs < 256) (hz : vz < 65536) (h3 : vk % 3 = 1) :
    Calls Tryd.prog 15 #[uArg vb vf vk vs vz A l c] w fun e w' => ∃ A', e = .returned ((uOf vb vf vk vs vz l).val A' (uOf vb vf vk vs vz l).load.length) ∧ RdB w' A' (uOf vb vf vk vs vz l).load ∧ Below w.heap.size w w' := by
  have e1 : (vb : Int) % 128 = ((vb % 128 : Nat) : Int) := by simp
  have e2 : (vf : Int) % 128 = ((vf % 128 : Nat) : Int) := by simp
  have e3 : (vk : Int) % 3 = 1 := by omega
  have d1 : Int.tmod (vb : Int) 128 = (vb : Int) % 128 := Int.tmod_eq_emod_of_nonneg (by omega)
  have d2 : Int.tmod (vf : Int) 128 = (vf : Int) % 128 := Int.tmod_eq_emod_of_nonneg (by omega)
  have d3 : Int.tmod (vk : Int) 3 = (vk : Int) % 3 := Int.tmod_eq_emod_of_nonneg (by omega)
  have d4 : Int.tmod (vs : Int) 6 = (vs : Int) % 6 := Int.tmod_eq_emod_of_nonneg (by omega)
  have f1 : decide ((128 : Int) ≤ (vb : Int)) = decide (128 ≤ vb) := by rw [decide_eq_decide]; omega
  have f2 : decide ((128 : Int) ≤ (vf : Int)) = decide (128 ≤ vf) := by rw [decide_eq_decide]; omega
  have hu : uOf vb vf vk vs vz l = ⟨vb % 128, decide (128 ≤ vb), vf % 128, decide (128 ≤ vf), 1, vs % 6, []⟩ := by unfold uOf; rw [h3]; rfl
  have e6 : (vs : Int) % 6 = ((vs % 6 : Nat) : Int) := by simp
  rw [hu]
  clear hu
  generalize vs % 6 = s6 at *
  generalize vb % 128 = b7 at *
  generalize vf % 128 = f7 at *
  generalize decide (128 ≤ vb) = bb at *
  generalize decide (128 ≤ vf) = fb at *
  unfold uArg Un.val
  clear h3
  go_enter Tryd.func15, Tryd.ntmps15
  go_wp2
  exact bodyPost_ret (results_cell_row rfl _ _ (w.heap.size + 1) 45 #[.int .u8 (b7 : Int), .bool bb, .int .u8 (f7 : Int), .bool fb, .int .u8 1, .int .u8 (s6 : Int), .slice none 0 0] (0, 0) _ rfl (heap_alloc3_mid _ _ _ _) Tryd.underlying45 rfl infoUnit) rfl ⟨none, rfl, RdB.nil _ _, below_alloc (below_alloc ((Below.refl w.heap.size w).alloc (Nat.le_refl _) _) _) _⟩

set_option maxHeartbeats 4000000 in
set_option maxRecDepth 100000 in
theorem of_2 (vb vf vk vs vz : Nat) (A : Option Addr) (l : List UInt8) (c : Nat) (w : World) (hA : RdB w A l) (hl : l.length ≤ 140737488351232) (hb : vb < 256) (hf : vf < 256) (hk : vk < 256) (hs : vs < 256) (hz : vz < 65536) (h3 : vk % 3 = 2) :
    Calls Tryd.prog 15 #[uArg vb vf vk vs vz A l c] w fun e w' => ∃ A', e = .returned ((uOf vb vf vk vs vz l).val A' (uOf vb vf vk vs vz l).load.length) ∧ RdB w' A' (uOf vb vf vk vs vz l).load ∧ Below w.heap.size w w' := by
  have e1 : (vb : Int) % 128 = ((vb % 128 : Nat) : Int) := by simp
  have e2 : (vf : Int) % 128 = ((vf % 128 : Nat) : Int) := by simp
  have e3 : (vk : Int) % 3 = 2 := by omega
  have d1 : Int.tmod (vb : Int) 128 = (vb : Int) % 128 := Int.tmod_eq_emod_of_nonneg (by omega)
  have d2 : Int.tmod (vf : Int) 128 = (vf : Int) % 128 := Int.tmod_eq_emod_of_nonneg (by omega)
  have d3 : Int.tmod (vk : Int) 3 = (vk : Int) % 3 := Int.tmod_eq_emod_of_nonneg (by omega)
  have d4 : Int.tmod (vs : Int) 6 = (vs : Int) % 6 := Int.tmod_eq_emod_of_nonneg (by omega)
  have f1 : decide ((128 : Int) ≤ (vb : Int)) = decide (128 ≤ vb) := by rw [decide_eq_decide]; omega
  have f2 : decide ((128 : Int) ≤ (vf : Int)) = decide (128 ≤ vf) := by rw [decide_eq_decide]; omega
  have hu : uOf vb vf vk vs vz l = ⟨vb % 128, decide (128 ≤ vb), vf % 128, decide (128 ≤ vf), 2, 0, message vz l⟩ := by unfold uOf; rw [h3]; rfl
  rw [hu]
  have hml := message_len vz l
  have hmm := fun w' h => message_any vz hz A l c w' h hl
  generalize message vz l = M at *
  have HMM := Lib.hid hmm
  clear hmm hu
  generalize vb % 128 = b7 at *
  generalize vf % 128 = f7 at *
  generalize decide (128 ≤ vb) = bb at *
  generalize decide (128 ≤ vf) = fb at *
  unfold uArg Un.val
  clear h3
  go_enter Tryd.func15, Tryd.ntmps15
  have Z2 : Below w.heap.size w (((w.alloc (.cells #[.int .u8 (vb : Int), .int .u8 (vf : Int), .int .u8 (vk : Int), .int .u8 (vs : Int), .int .u16 (vz : Int), .slice A l.length c] 41)).alloc (.cells #[.int .u8 0, .bool false, .int .u8 0, .bool false, .int .u8 0, .int .u8 0, .slice none 0 0] 45)).alloc (.cells #[.int .u8 (b7 : Int), .bool bb, .int .u8 (f7 : Int), .bool fb, .int .u8 2, .int .u8 0, .slice none 0 0] 45)) := below_alloc (below_alloc ((Below.refl w.heap.size w).alloc (Nat.le_refl _) _) _) _
  have G1 := Lib.hid (show (((w.alloc (.cells #[.int .u8 (vb : Int), .int .u8 (vf : Int), .int .u8 (vk : Int), .int .u8 (vs : Int), .int .u16 (vz : Int), .slice A l.length c] 41)).alloc (.cells #[.int .u8 0, .bool false, .int .u8 0, .bool false, .int .u8 0, .int .u8 0, .slice none 0 0] 45)).alloc (.cells #[.int .u8 (b7 : Int), .bool bb, .int .u8 (f7 : Int), .bool fb, .int .u8 2, .int .u8 0, .slice none 0 0] 45)).heap[w.heap.size + 2]? = some (.cells #[.int .u8 (b7 : Int), .bool bb, .int .u8 (f7 : Int), .bool fb, .int .u8 2, .int .u8 0, .slice none 0 0] 45 (0, 0)) from heap_alloc3_new _ _ _ _)
  have G0 := Lib.hid (show (((w.alloc (.cells #[.int .u8 (vb : Int), .int .u8 (vf : Int), .int .u8 (vk : Int), .int .u8 (vs : Int), .int .u16 (vz : Int), .slice A l.length c] 41)).alloc (.cells #[.int .u8 0, .bool false, .int .u8 0, .bool false, .int .u8 0, .int .u8 0, .slice none 0 0] 45)).alloc (.cells #[.int .u8 (b7 : Int), .bool bb, .int .u8 (f7 : Int), .bool fb, .int .u8 2, .int .u8 0, .slice none 0 0] 45)).heap[w.heap.size + 1]? = some (.cells #[.int .u8 0, .bool false, .int .u8 0, .bool false, .int .u8 0, .int .u8 0, .slice none 0 0] 45 (0, 0)) from heap_alloc3_mid _ _ _ _)
  have hAZ := hA.below Z2
  have hsz : (((w.alloc (.cells #[.int .u8 (vb : Int), .int .u8 (vf : Int), .int .u8 (vk : Int), .int .u8 (vs : Int), .int .u16 (vz : Int), .slice A l.length c] 41)).alloc (.cells #[.int .u8 0, .bool false, .int .u8 0, .bool false, .int .u8 0, .int .u8 0, .slice none 0 0] 45)).alloc (.cells #[.int .u8 (b7 : Int), .bool bb, .int .u8 (f7 : Int), .bool fb, .int .u8 2, .int .u8 0, .slice none 0 0] 45)).heap.size = w.heap.size + 3 := by simp
  have HML := Lib.hid hml
  clear hml
  go_wp2_with (first
    | (go_at_call 71; (refine (HMM.out _ hAZ).mono ?_)
       rintro e w6 ⟨A6, rfl, hR6, hB6⟩
       have o1 : w6.heap[w.heap.size + 1 + 1]? = _ := (hB6.block (w.heap.size + 2) (by simp)).trans G1.out
       have o0 := (hB6.block (w.heap.size + 1) (by simp)).trans G0.out
       have y6 : w6.cell? ⟨w.heap.size + 1 + 1, 6, none⟩ = some (.slice none 0 0) := by rw [cell_of_row _ _ _ _ _ _ o1]; rfl
       have k6 : w6.frozen? ⟨w.heap.size + 1 + 1, 6, none⟩ = false := frozen_of_row _ _ _ _ _ o1)
    | ((with_reducible refine at_dst 36 rfl ?_); refine wpList_load_row rfl 45 (.tmp 3) rfl (w.heap.size + 1 + 1) rfl 45 #[.int .u8 (b7 : Int), .bool bb, .int .u8 (f7 : Int), .bool fb, .int .u8 2, .int .u8 0, .slice A6 M.length M.length] (0, 0) _ (by rw [heap_setCell_same _ _ _ _ _ _ o1]; rfl) Tryd.underlying45 rfl infoUnit ?_)
    | ((with_reducible refine at_store 45 2 rfl ?_)
       refine wpList_store_rowN rfl 45 (.tmp 2) (.tmp 36) rfl (w.heap.size + 1) #[.int .u8 (b7 : Int), .bool bb, .int .u8 (f7 : Int), .bool fb, .int .u8 2, .int .u8 0, .slice A6 M.length M.length] rfl rfl 45 #[.int .u8 0, .bool false, .int .u8 0, .bool false, .int .u8 0, .int .u8 0, .slice none 0 0] (by rw [heap_setCell_other _ _ _ _ (by simp)]; exact o0) infoUnit rfl (by simp [Value.oneCell']) ?_
       intro w8 o8 s8 g8)
    | fail)
  have hlow : ∀ j, A6.map (·.block) = some j → w.heap.size + 3 ≤ j := fun j hj => by
    have := (Row.lt hR6 j hj).1
    omega
  have r2 := RowB.other (k := 6) hR6 (g := w.heap.size + 1 + 1) (fun j hj => by have := hlow j hj; omega) (.slice A6 M.length M.length)
  have r3 := Row.kept r2 g8 (fun j hj e => by have := hlow j hj; injection e with e; omega)
  have b6 : Below w.heap.size w w6 := Z2.trans (hB6.mono (by omega))
  have b7' := b6.setCell (p := ⟨w.heap.size + 1 + 1, 6, none⟩) (by simp; omega) (.slice A6 M.length M.length)
  have b8 := b7'.grown g8 b7'.size (fun k hk => by injection hk with hk; omega)
  exact bodyPost_ret (results_cell_row rfl _ _ (w.heap.size + 1) 45 _ (0, 0) _ rfl o8 Tryd.underlying45 rfl infoUnit) rfl ⟨A6, rfl, Row.rd r3, b8⟩
theorem of_any_unit (vb vf vk vs vz : Nat) (A : Option Addr) (l : List UInt8) (c : Nat) (w : World) (hA : RdB w A l) (hl : l.length ≤ 140737488351232) (hb : vb < 256) (hf : vf < 256) (hk : vk < 256) (hs : vs < 256) (hz : vz < 65536) :
    Calls Tryd.prog 15 #[uArg vb vf vk vs vz A l c] w fun e w' => ∃ A', e = .returned ((uOf vb vf vk vs vz l).val A' (uOf vb vf vk vs vz l).load.length) ∧ RdB w' A' (uOf vb vf vk vs vz l).load ∧ Below w.heap.size w w' := by
  have : vk % 3 = 0 ∨ vk % 3 = 1 ∨ vk % 3 = 2 := by omega
  rcases this with h | h | h
  · exact of_0 vb vf vk vs vz A l c w hA hl hb hf hk hs hz h
  · exact of_1 vb vf vk vs vz A l c w hA hl hb hf hk hs hz h
  · exact of_2 vb vf vk vs vz A l c w hA hl hb hf hk hs hz h
end Go.Proofs.YthbbmpelldglmaaDoor
