/- Package subscribers: records looked up by number, by roaming number. -/
import Derived.Test.YthbbmpelldglmaaGreatDoorSubscribersPlayM6
import Derived.Deep.QuietTactic
import Derived.BigQuiet
import Derived.ProofKit
import Derived.Test.YthbbmpelldglmaaGreatDoorProg
import Derived.Lib.SmallJoins
import Derived.SizedLaws
import Derived.OpenShut
import Derived.Deep.Slices
namespace Go.Proofs.YthbbmpelldglmaaGreatDoor
set_option linter.unusedVariables false
set_option linter.unusedSimpArgs false
open Go.RowKit

def numOf (S : St) (k : List UInt8) : Option HomeR := S.homes.find? fun h => h.number == k
def roamOf (S : St) (k : List UInt8) : Option VisitR := (roamers S.visits).find? fun v => v.roam == k
theorem StAt.parts2 {w : World} {g : Nat} {F : List Nat} {S : St} (h : StAt w g F S) :
    ∃ m1 m2 m3 m4 A c, w.heap[g]? = some (stObj m1 m2 m3 m4 A S.log.length c S.dur) ∧ (∃ f, MapV w m3 S.puts f ∧ Tells f S.homes HomeR.number fun h => encStr h.id) ∧ (∃ f, MapV w m4 S.puts f ∧ Tells f (roamers S.visits) VisitR.roam fun v => encStr v.id) := by
  rcases h with ⟨b1, b2, b3, b4, A, c, rfl, h⟩ | ⟨A, c, rfl, h⟩
  · obtain ⟨f1, h1, t1⟩ := h.maps.numbers
    obtain ⟨f2, h2, t2⟩ := h.maps.roams
    exact ⟨_, _, _, _, A, c, h.obj, ⟨f1, .inr ⟨b3, rfl, h1⟩, t1⟩, ⟨f2, .inr ⟨b4, rfl, h2⟩, t2⟩⟩
  · exact ⟨_, _, _, _, A, c, h.obj, ⟨fun _ => none, .inl ⟨rfl, fun _ => rfl⟩, by rw [h.homes]; exact Tells.none _ _⟩, ⟨fun _ => none, .inl ⟨rfl, fun _ => rfl⟩, by rw [h.visits]; exact Tells.none _ _⟩⟩
theorem numOf_home {S : St} (hf : S.Fit) {k : List UInt8} {x : HomeR} (h : numOf S k = some x) : homeOf S x.id = some x := by
  have hm := List.mem_of_find?_eq_some h
  unfold homeOf
  cases e : S.homes.find? (fun h => h.id == x.id) with
  | none =>
    rw [List.find?_eq_none] at e
    exact absurd (by simp) (e x hm)
  | some y =>
    have e1 := List.mem_of_find?_eq_some e
    have e2 : y.id = x.id := by simpa using List.find?_some e
    rw [sorted_one hf.hs e1 hm e2]
theorem roamOf_visit {S : St} (hf : S.Fit) {k : List UInt8} {x : VisitR} (h : roamOf S k = some x) : visitOf S x.id = some x := by
  have hm := (mem_roamers.1 (List.mem_of_find?_eq_some h)).1
  unfold visitOf
  cases e : S.visits.find? (fun h => h.id == x.id) with
  | none =>
    rw [List.find?_eq_none] at e
    exact absurd (by simp) (e x hm)
  | some y =>
    have e1 := List.mem_of_find?_eq_some e
    have e2 : y.id = x.id := by simpa using List.find?_some e
    rw [sorted_one hf.vs e1 hm e2]

set_option maxHeartbeats 2000000 in
set_option maxRecDepth 100000 in
theorem foundStr_any (w : World) (m : Value) (n : Nat) (f : List UInt8 → Option Value) (h : MapV w m n f) (k : List UInt8) (hl : k.length ≤ maxLen) (o : Option (List UInt8)) (ho : f k = o.map encStr) :
    Calls Tryz.prog 44 #[m, encStr k] w fun e w' => e = .returned (.tuple #[encStr (o.getD []), .int .i64 (if o.isSome then 0 else 7)]) ∧ w = w' := by
  have hlk := h.look_ok Tryz.underlying98 (zeroStrV w) k hl
  rw [ho] at hlk
  clear h ho hl
  cases o with
  | none =>
    simp only [Option.map_none, Option.getD_none, Option.isSome_none, Option.isSome] at hlk ⊢
    go_enter Tryz.func44, Tryz.ntmps44
    go_wp2
    go_ret2
    exact ⟨rfl, rfl⟩
  | some r =>
    simp only [Option.map_some, Option.getD_some, Option.isSome_some, Option.isSome] at hlk ⊢
    go_enter Tryz.func44, Tryz.ntmps44
    go_wp2
    go_ret2
    exact ⟨rfl, rfl⟩

set_option maxHeartbeats 2000000 in
set_option maxRecDepth 100000 in
theorem storeByNumber_any (w : World) (g : Nat) (F : List Nat) (S : St) (h : StAt w g F S) (hf : S.Fit) (k : List UInt8) (hl : k.length ≤ maxLen) :
    Calls Tryz.prog 20 #[.pointer (some ⟨g, 0, none⟩), encStr k] w fun e w' => e = .returned (.tuple #[((numOf S k).getD homeZero).val, .int .i64 (if (numOf S k).isSome then 0 else 7)]) ∧ Below w.heap.size w w' := by
  obtain ⟨m1, m2, m3, m4, A, c, ho, ⟨f1, h1, t1⟩, ⟨f2, h2, t2⟩⟩ := h.parts2
  have hlt : g < w.heap.size := (Array.getElem?_eq_some_iff.1 ho).1
  have b0 := (Below.refl w.heap.size w).alloc (Nat.le_refl _) (.cells #[encStr [], encStr [], .int .u16 0, .int .u32 0, .bool false, .bool false] 52)
  have k0 : (w.alloc (.cells #[encStr [], encStr [], .int .u16 0, .int .u32 0, .bool false, .bool false] 52)).cell? ⟨g, 2, none⟩ = some m3 := stObj_cell ((b0.block g hlt).trans ho) 2
  have hfs := foundStr_any _ m3 S.puts f1 (h1.below b0) k hl ((numOf S k).map HomeR.id) (by rw [t1.get k]; unfold numOf; cases (S.homes).find? (fun x => HomeR.number x == k) <;> rfl)
  have hst := h.below b0
  have hz0 := heap_alloc_new w (.cells #[encStr [], encStr [], .int .u16 0, .int .u32 0, .bool false, .bool false] 52)
  cases ho1 : numOf S k with
  | none =>
    rw [ho1] at hfs
    simp only [Option.map_none, Option.getD_none, Option.isSome_none, Option.isSome] at hfs ⊢
    have HF := Lib.hid hfs
    have HZ := Lib.hid hz0
    clear hfs h1 h2 t1 t2 h ho hst hz0 ho1
    unfold homeZero HomeR.val HomeR.cells
    go_enter Tryz.func20, Tryz.ntmps20
    go_wp2_with (first
      | (go_at_call 44; (with_reducible refine HF.out.mono ?_); rintro e w1 ⟨rfl, rfl⟩)
      | ((with_reducible refine at_store 52 4 rfl ?_)
         refine wpList_store_rowN rfl 52 (.tmp 4) (.tmp 22) rfl w.heap.size #[encStr [], encStr [], .int .u16 0, .int .u32 0, .bool false, .bool false] rfl rfl 52 #[encStr [], encStr [], .int .u16 0, .int .u32 0, .bool false, .bool false] HZ.out infoHome rfl (by simp [Value.oneCell']) ?_
         intro w2 o2 hs2 hg2
         have hB2 := b0.grown hg2 b0.size (fun j hj => by cases hj; exact Nat.le_refl _)
         have HO2 := Lib.hid o2
         clear o2)
      | fail)
    exact bodyPost_ret (results_cell_tmp (p := 4) (q := 5) rfl _ _ w.heap.size 52 #[encStr [], encStr [], .int .u16 0, .int .u32 0, .bool false, .bool false] (0, 0) _ rfl HO2.out Tryz.underlying52 rfl infoHome) rfl ⟨rfl, hB2⟩
  | some x =>
    have hho := numOf_home hf ho1
    rw [ho1] at hfs
    simp only [Option.map_some, Option.getD_some, Option.isSome_some, Option.isSome] at hfs ⊢
    have hil : x.id.length ≤ maxLen := by
      have hm := List.mem_of_find?_eq_some ho1
      have := HomeR.ok_len (hf.hok x hm).1
      simp only [maxLen]; omega
    have hget := storeHome_any _ g F S hst x.id hil
    rw [hho] at hget
    simp only [Option.getD_some, Option.isSome_some, if_true] at hget
    have HF := Lib.hid hfs
    have HG := Lib.hid hget
    have HZ := Lib.hid hz0
    clear hfs h1 h2 t1 t2 h ho hst hz0 ho1 hho hil hget
    obtain ⟨id, number, at_, move, barred, waiting⟩ := x
    unfold HomeR.val HomeR.cells at *
    go_enter Tryz.func20, Tryz.ntmps20
    go_wp2_with (first
      | (go_at_call 44; (with_reducible refine HF.out.mono ?_); rintro e w1 ⟨rfl, rfl⟩)
      | (go_at_call 19; (with_reducible refine HG.out.mono ?_); rintro e w1 ⟨rfl, hB1⟩
         have HZ1 := Lib.hid ((hB1.block w.heap.size (by simp)).trans HZ.out)
         have hB := below_then b0 hB1)
      | ((with_reducible refine at_store 52 4 rfl ?_)
         refine wpList_store_rowN rfl 52 (.tmp 4) (.tmp 27) rfl w.heap.size #[encStr id, encStr number, .int .u16 (at_ : Int), .int .u32 (move : Int), .bool barred, .bool waiting] rfl rfl 52 #[encStr [], encStr [], .int .u16 0, .int .u32 0, .bool false, .bool false] HZ1.out infoHome rfl (by simp [Value.oneCell']) ?_
         intro w2 o2 hs2 hg2
         have hB2 := hB.grown hg2 hB.size (fun j hj => by cases hj; exact Nat.le_refl _)
         have HO2 := Lib.hid o2
         clear o2)
      | fail)
    exact bodyPost_ret (results_cell_tmp (p := 4) (q := 5) rfl _ _ w.heap.size 52 #[encStr id, encStr number, .int .u16 (at_ : Int), .int .u32 (move : Int), .bool barred, .bool waiting] (0, 0) _ rfl HO2.out Tryz.underlying52 rfl infoHome) rfl ⟨rfl, hB2⟩

set_option maxHeartbeats 2000000 in
set_option maxRecDepth 100000 in
theorem storeByRoam_any (w : World) (g : Nat) (F : List Nat) (S : St) (h : StAt w g F S) (hf : S.Fit) (k : List UInt8) (hl : k.length ≤ maxLen) :
    Calls Tryz.prog 22 #[.pointer (some ⟨g, 0, none⟩), encStr k] w fun e w' => e = .returned (.tuple #[((roamOf S k).getD visitZero).val, .int .i64 (if (roamOf S k).isSome then 0 else 7)]) ∧ Below w.heap.size w w' := by
  obtain ⟨m1, m2, m3, m4, A, c, ho, ⟨f1, h1, t1⟩, ⟨f2, h2, t2⟩⟩ := h.parts2
  have hlt : g < w.heap.size := (Array.getElem?_eq_some_iff.1 ho).1
  have b0 := (Below.refl w.heap.size w).alloc (Nat.le_refl _) (.cells #[encStr [], encStr [], .int .u16 0, .int .u32 0, .int .u16 0, encStr []] 54)
  have k0 : (w.alloc (.cells #[encStr [], encStr [], .int .u16 0, .int .u32 0, .int .u16 0, encStr []] 54)).cell? ⟨g, 3, none⟩ = some m4 := stObj_cell ((b0.block g hlt).trans ho) 3
  have hfs := foundStr_any _ m4 S.puts f2 (h2.below b0) k hl ((roamOf S k).map VisitR.id) (by rw [t2.get k]; unfold roamOf; cases (roamers S.visits).find? (fun x => VisitR.roam x == k) <;> rfl)
  have hst := h.below b0
  have hz0 := heap_alloc_new w (.cells #[encStr [], encStr [], .int .u16 0, .int .u32 0, .int .u16 0, encStr []] 54)
  cases ho1 : roamOf S k with
  | none =>
    rw [ho1] at hfs
    simp only [Option.map_none, Option.getD_none, Option.isSome_none, Option.isSome] at hfs ⊢
    have HF := Lib.hid hfs
    have HZ := Lib.hid hz0
    clear hfs h1 h2 t1 t2 h ho hst hz0 ho1
    unfold visitZero VisitR.val VisitR.cells
    go_enter Tryz.func22, Tryz.ntmps22
    go_wp2_with (first
      | (go_at_call 44; (with_reducible refine HF.out.mono ?_); rintro e w1 ⟨rfl, rfl⟩)
      | ((with_reducible refine at_store 54 4 rfl ?_)
         refine wpList_store_rowN rfl 54 (.tmp 4) (.tmp 22) rfl w.heap.size #[encStr [], encStr [], .int .u16 0, .int .u32 0, .int .u16 0, encStr []] rfl rfl 54 #[encStr [], encStr [], .int .u16 0, .int .u32 0, .int .u16 0, encStr []] HZ.out infoVisit rfl (by simp [Value.oneCell']) ?_
         intro w2 o2 hs2 hg2
         have hB2 := b0.grown hg2 b0.size (fun j hj => by cases hj; exact Nat.le_refl _)
         have HO2 := Lib.hid o2
         clear o2)
      | fail)
    exact bodyPost_ret (results_cell_tmp (p := 4) (q := 5) rfl _ _ w.heap.size 54 #[encStr [], encStr [], .int .u16 0, .int .u32 0, .int .u16 0, encStr []] (0, 0) _ rfl HO2.out Tryz.underlying54 rfl infoVisit) rfl ⟨rfl, hB2⟩
  | some x =>
    have hho := roamOf_visit hf ho1
    rw [ho1] at hfs
    simp only [Option.map_some, Option.getD_some, Option.isSome_some, Option.isSome] at hfs ⊢
    have hil : x.id.length ≤ maxLen := by
      have hm := (mem_roamers.1 (List.mem_of_find?_eq_some ho1)).1
      have := VisitR.ok_len (hf.vok x hm).1
      simp only [maxLen]; omega
    have hget := storeVisit_any _ g F S hst x.id hil
    rw [hho] at hget
    simp only [Option.getD_some, Option.isSome_some, if_true] at hget
    have HF := Lib.hid hfs
    have HG := Lib.hid hget
    have HZ := Lib.hid hz0
    clear hfs h1 h2 t1 t2 h ho hst hz0 ho1 hho hil hget
    obtain ⟨id, number, home, move, area, roam⟩ := x
    unfold VisitR.val VisitR.cells at *
    go_enter Tryz.func22, Tryz.ntmps22
    go_wp2_with (first
      | (go_at_call 44; (with_reducible refine HF.out.mono ?_); rintro e w1 ⟨rfl, rfl⟩)
      | (go_at_call 21; (with_reducible refine HG.out.mono ?_); rintro e w1 ⟨rfl, hB1⟩
         have HZ1 := Lib.hid ((hB1.block w.heap.size (by simp)).trans HZ.out)
         have hB := below_then b0 hB1)
      | ((with_reducible refine at_store 54 4 rfl ?_)
         refine wpList_store_rowN rfl 54 (.tmp 4) (.tmp 27) rfl w.heap.size #[encStr id, encStr number, .int .u16 (home : Int), .int .u32 (move : Int), .int .u16 (area : Int), encStr roam] rfl rfl 54 #[encStr [], encStr [], .int .u16 0, .int .u32 0, .int .u16 0, encStr []] HZ1.out infoVisit rfl (by simp [Value.oneCell']) ?_
         intro w2 o2 hs2 hg2
         have hB2 := hB.grown hg2 hB.size (fun j hj => by cases hj; exact Nat.le_refl _)
         have HO2 := Lib.hid o2
         clear o2)
      | fail)
    exact bodyPost_ret (results_cell_tmp (p := 4) (q := 5) rfl _ _ w.heap.size 54 #[encStr id, encStr number, .int .u16 (home : Int), .int .u32 (move : Int), .int .u16 (area : Int), encStr roam] (0, 0) _ rfl HO2.out Tryz.underlying54 rfl infoVisit) rfl ⟨rfl, hB2⟩
end Go.Proofs.YthbbmpelldglmaaGreatDoor
/- Package subscribers: 'Replay'. -/
namespace Go.Proofs.YthbbmpelldglmaaGreatDoor
set_option linter.unusedVariables false
set_option linter.unusedSimpArgs false
open Go.RowKit

theorem or_i64 (a b : Nat) (ha : a < 65536) (hb : b < 65536) : bits .or .i64 a b = ((a ||| b : Nat) : Int) :=
  (bits_nat .i64 16 (by decide) (fun n h0 h1 => by rw [IntKind.wrap_i64]; omega) a b ha hb).2
/-- 'sums.Check' at the first entry -/
theorem front_check (W : World) (A : Option Addr) (D : List UInt8) (c m n : Nat) (hA : RdB W A D) (hc : D.length ≤ c) (hm : m = lenAt D) (h4 : m + 4 ≤ D.length) (hl : D.length ≤ 16000) (hn : n = m + 4) :
    Calls Tryz.prog 59 #[.slice A n c] W fun e w' => Below W.heap.size W w' ∧ ((∃ b ad, front D = some b ∧ b.length = m ∧ e = .returned (.tuple #[.slice (some ad) (m + 2) (m + 2), .int .i64 0]) ∧ RdB w' (some (ad.add 2)) b ∧ W.heap.size ≤ ad.block ∧ ad.block < w'.heap.size) ∨
      (front D = none ∧ e = .returned (.tuple #[.slice none 0 0, .int .i64 10]))) := by
  subst hn
  have hl2 : (D.take (m + 4)).length = (m + 2) + 2 := by rw [List.length_take]; omega
  have hk0 : (D.take (m + 4))[m + 2]? = some (D[m + 2]'(by omega)) := by rw [List.getElem?_take_of_lt (by omega), List.getElem?_eq_getElem (by omega)]
  have hk1 : (D.take (m + 4))[m + 2 + 1]? = some (D[m + 3]'(by omega)) := by rw [List.getElem?_take_of_lt (by omega), List.getElem?_eq_getElem (by omega)]
  have ht : (D.take (m + 4)).take (m + 2) = D.take (m + 2) := by rw [List.take_take, Nat.min_eq_left (by omega)]
  have h := check_core A (D.take (m + 4)) (m + 2) c W (hA.take _) hl2 (by omega) (by omega) _ _ hk0 hk1
  have hd : (D.drop (m + 2)).take 2 = [D[m + 2]'(by omega), D[m + 3]'(by omega)] := by
    apply List.ext_getElem?
    intro i
    rw [List.getElem?_take]
    by_cases hi : i < 2
    · rw [if_pos hi, List.getElem?_drop]
      match i, hi with
      | 0, _ => rw [List.getElem?_eq_getElem (by omega)]; rfl
      | 1, _ => rw [List.getElem?_eq_getElem (by omega)]; rfl
    · rw [if_neg hi, List.getElem?_eq_none (by simp; omega)]
  refine h.mono ?_
  rintro e w' ⟨h1, h2⟩
  refine ⟨h2, ?_⟩
  rw [ht, ← hd] at h1
  by_cases hf : (D.drop (m + 2)).take 2 = fcs (D.take (m + 2))
  · rw [if_pos hf] at h1
    obtain ⟨A', rfl, hR⟩ := h1
    have hfr : front D = some ((D.take (m + 2)).drop 2) := by
      unfold front
      rw [← hm, if_pos ⟨by omega, h4, hf⟩]
    have hbl : (D.take (m + 2)).length = m + 2 := by rw [List.length_take]; omega
    unfold RowB at hR
    rw [hbl] at hR
    obtain ⟨g', rfl, hg1, hg2, _⟩ := Row.form hR (by omega)
    exact .inl ⟨_, _, hfr, by rw [List.length_drop, hbl]; omega, rfl, RdB.drop (Row.rd hR) 2, hg1, hg2⟩
  · rw [if_neg hf] at h1
    refine .inr ⟨?_, h1⟩
    unfold front
    rw [← hm, if_neg]
    rintro ⟨_, _, h5⟩
    exact hf h5

theorem addr2 (ad : Addr) : ad.add 2 = ⟨ad.block, ad.off + 2, none⟩ := by unfold Addr.add; split <;> simp_all
/-- how the walk ends -/
def Replayed (w : World) (log : List UInt8) (e : Ending) (w' : World) : Prop :=
  ∃ (g : Nat) (F : List Nat) (T : St) (n : Nat), e = .returned (.tuple #[.pointer (some ⟨g, 0, none⟩), .int .i64 (n : Int)]) ∧ Plays ⟨[], [], [], 0, 0⟩ log T n ∧ T.Fit ∧ 4 * T.puts ≤ n ∧
      StAt w' g F { T with log := log.take n, dur := n } ∧ Below w.heap.size w w' ∧ ∀ i ∈ F, w.heap.size ≤ i
theorem replay_end {w wz wy : World} {A : Option Addr} {log : List UInt8} {k : Nat} {S : St} {Fz : List Nat} {m1 m2 m3 m4 : Value} {Az Ay : Option Addr} {cz : Nat} (he : Eat ⟨[], [], [], 0, 0⟩ log S k) (hw : Way S k) (hp : ∀ b, front (log.drop k) = some b → (applied S b).1 = false)
    (hS : StAt wz w.heap.size Fz S) (hF : ∀ i ∈ Fz, w.heap.size ≤ i) (hB : Below w.heap.size w wz) (hBy : Below wz.heap.size wz wy) (hglt : w.heap.size < wz.heap.size)
    (hoy : wy.heap[w.heap.size]? = some (stObj m1 m2 m3 m4 Az S.log.length cz S.dur))
    (hset : ∀ (w' : World) (A' : Option Addr) (c' d : Nat) (l : List UInt8), w'.heap[w.heap.size]? = some (stObj m1 m2 m3 m4 A' l.length c' d) → RowB w' 0 A' c' l → Chg [w.heap.size] wz w' → ∃ F', StAt w' w.heap.size F' { S with log := l, dur := d } ∧ ∀ i ∈ F', i ∈ Fz ∨ i ∈ blk A')
    (hR : Row wy wz.heap.size 5 1 Ay (log.take k).length (log.take k).length ((log.take k).map byteV)) (hkl : (log.take k).length = k) :
    Replayed w log (.returned (.tuple #[.pointer (some ⟨w.heap.size, 0, none⟩), .int .i64 (k : Int)])) ((wy.setCell ⟨w.heap.size, 4, none⟩ (.slice Ay k k)).setCell ⟨w.heap.size, 5, none⟩ (.int .i64 (k : Int))) := by
  have hpl : Plays ⟨[], [], [], 0, 0⟩ log S k := he.plays (Plays.stop hp)
  have hgA : w.heap.size ∉ blk Ay := fun hi => by have := (Row.blk_lt hR _ hi).1; omega
  have o4 : (wy.setCell ⟨w.heap.size, 4, none⟩ (.slice Ay k k)).heap[w.heap.size]? = some (stObj m1 m2 m3 m4 Ay k k S.dur) := stObj_set4 hoy
  have o5 : ((wy.setCell ⟨w.heap.size, 4, none⟩ (.slice Ay k k)).setCell ⟨w.heap.size, 5, none⟩ (.int .i64 (k : Int))).heap[w.heap.size]? = some (stObj m1 m2 m3 m4 Ay k k k) := Go.Joins.block_setCell (i := 5) o4 _
  have c1 : Chg [w.heap.size] wy ((wy.setCell ⟨w.heap.size, 4, none⟩ (.slice Ay k k)).setCell ⟨w.heap.size, 5, none⟩ (.int .i64 (k : Int))) := ((Chg.refl _ _).setCell (by simp) _).setCell (by simp) _
  have c2 := (Chg.of_below [w.heap.size] hBy).then_ c1
  have hR2 : RowB ((wy.setCell ⟨w.heap.size, 4, none⟩ (.slice Ay k k)).setCell ⟨w.heap.size, 5, none⟩ (.int .i64 (k : Int))) 0 Ay (log.take k).length (log.take k) := Row.mono (Row.chg hR c1 (fun j e hi => hgA (by simp at hi; subst hi; exact mem_blk.2 e))) (Nat.zero_le _)
  rw [← hkl] at o5
  obtain ⟨F', h2, hF'⟩ := hset _ Ay (log.take k).length (log.take k).length (log.take k) (by simpa only [hkl] using o5) (by simpa only [hkl] using hR2) (by simpa only [hkl] using c2)
  rw [hkl] at h2
  refine ⟨w.heap.size, F', S, k, rfl, hpl, hw.fit, hw.puts, h2, hB.trans (c2.below (by simp) hB.size), fun i hi => ?_⟩
  rcases hF' i hi with h3 | h3
  · exact hF i h3
  · have := (Row.blk_lt hR _ h3).1; omega

set_option maxHeartbeats 8000000 in
set_option maxRecDepth 100000 in
theorem replay_any (w : World) (A : Option Addr) (c : Nat) (log : List UInt8) (hA : RdB w A log) (hc : log.length ≤ c) (hcm : c ≤ 9223372036854775807) (hl : log.length ≤ 16000) :
    Calls Tryz.prog 34 #[.slice A log.length c] w (Replayed w log) := by
  have hnew := storeNew_any w
  have HN := Lib.hid hnew
  clear hnew
  go_enter Tryz.func34, Tryz.ntmps34
  go_wp2_with (first
    | (go_at_call 9; (with_reducible refine HN.out.mono ?_); rintro e w1 ⟨rfl, h1, hB1⟩)
    | fail)
  have H1 := Lib.hid h1
  clear h1
  go_loopw [5] (fun v wr => ∃ (k : Nat) (S : St) (F : List Nat), v = .int .i64 k ∧ k ≤ log.length ∧ Hid (Eat ⟨[], [], [], 0, 0⟩ log S k ∧ Way S k) ∧ StAt wr w.heap.size F S ∧ Below w.heap.size w wr ∧ ∀ i ∈ F, w.heap.size ≤ i)
    (fun v _ => log.length - (intOf v).toNat)
  case atStart => exact ⟨0, _, _, rfl, Nat.zero_le _, Lib.hid ⟨Eat.start, Way.start [] 0 0⟩, H1.out, hB1, by simp⟩
  case round =>
    obtain ⟨k, S, F, rfl, hk, HE, hSt, hBz, hF⟩ := hrel
    have HSZ := Lib.hid hSt
    have HFZ := Lib.hid hF
    have HFZA := Lib.hid hF
    clear hSt hF
    have hkc : k ≤ c := by omega
    by_cases h2 : k + 2 ≤ log.length
    · obtain ⟨ad, rfl, hc0⟩ := (hA.below hBz).get (k := k) (by omega)
      obtain ⟨ad', e, hc1⟩ := (hA.below hBz).get (k := k + 1) (by omega)
      cases e
      rw [add_succ] at hc1
      have q1 : ((k : Int) + 2 ≤ (log.length : Int)) := by omega
      obtain ⟨x, hx⟩ : ∃ x, x = log[k].toNat := ⟨_, rfl⟩
      obtain ⟨y, hy⟩ : ∃ y, y = (log[k + 1]).toNat := ⟨_, rfl⟩
      rw [← hx] at hc0
      rw [← hy] at hc1
      have hxl : x < 256 := by rw [hx]; exact log[k].toNat_lt
      have hyl : y < 256 := by rw [hy]; exact (log[k + 1]).toNat_lt
      have HX := Lib.hid hx
      have HY := Lib.hid hy
      clear hx hy
      obtain ⟨m, hm⟩ : ∃ m, m = x + 256 * y := ⟨_, rfl⟩
      have e1 : bits .or .i64 (x : Int) ((y : Int) * 256) = (m : Int) := by
        have := or_i64 x (y * 256) (by omega) (by omega)
        rw [or_lift x y 8 (by omega)] at this
        rw [hm, ← this]
        simp
      have hm2 : m = lenAt (log.drop k) := by
        unfold lenAt
        rw [hm, HX.out, HY.out, List.getD_eq_getElem?_getD, List.getD_eq_getElem?_getD, List.getElem?_drop, List.getElem?_drop, List.getElem?_eq_getElem (by omega), List.getElem?_eq_getElem (by omega)]
        rfl
      have hml : m < 65536 := by omega
      have HM := Lib.hid hm2
      clear hm hm2
      go_upto_region 4 with fail
      have q2 : (0 : Int) ≤ (k : Int) := by omega
      have q3 : (k : Int) < (log.length : Int) := by omega
      have q4 : (0 : Int) ≤ (k : Int) + 1 := by omega
      have q5 : (k : Int) + 1 < (log.length : Int) := by omega
      go_quiet (fail)
      clear e1 hc0 hc1
      have hBn : Below w.heap.size w (wr.drewN nq) := below_drewN hBz _
      have HSN := Lib.hid (HSZ.out.below (below_drewN (Below.refl _ _) nq))
      have hsn : wr.heap.size = (wr.drewN nq).heap.size := rfl
      generalize ewn : wr.drewN nq = wn at *
      clear ewn
      have hBz := hBn
      have HSZ := HSN
      clear HSN hBn hsn
      by_cases h4 : k + m + 4 ≤ log.length
      · have q6 : ¬ (log.length : Int) < (k : Int) + (m : Int) + 4 := by omega
        have hck := front_check wn (some (ad.add k)) (log.drop k) (c - k) m (k + m + 4 - k) (RdB.drop (hA.below hBz) k) (by rw [List.length_drop]; omega) HM.out (by rw [List.length_drop]; omega) (by rw [List.length_drop]; omega) (by omega)
        have HCK := Lib.hid hck
        clear hck
        go_wp2_with fail
        refine HCK.out.mono ?_
        rintro e w5 ⟨hB5, hcase⟩
        have hBz := below_then hBz hB5
        have HSZ := Lib.hid (HSZ.out.below hB5)
        rcases hcase with ⟨b, ad2, hfr, hbl, rfl, hrb, hlo, hhi⟩ | ⟨hfr, rfl⟩
        · have hap := apply_any w5 w.heap.size F S HSZ.out HE.out.2.fit (by have := HE.out.2.puts; omega) (by have := HE.out.2.log; omega) (some (if m + 2 = 2 then ad2 else ad2.add 2)) b m (by
            split
            · have : b = [] := List.eq_nil_of_length_eq_zero (by omega)
              rw [this]; exact RdB.nil _ _
            · exact hrb) (fun a e => by cases e; split <;> (try rw [add_block]) <;> exact hhi) (by omega) (by omega)
          rw [hbl] at hap
          have hfr2 := hfr
          obtain ⟨res, S2, hX⟩ : ∃ r s, applied S b = (r, s) := ⟨_, _, rfl⟩
          rw [hX] at hap
          unfold Applied at hap
          simp only at hap
          by_cases hm0 : m = 0
          · have hb0 : b = [] := List.eq_nil_of_length_eq_zero (by omega)
            have hn : applied S b = (false, S) := by rw [hb0]; rfl
            rw [hn] at hX
            injection hX with hX1 hX2
            subst hX1
            subst hX2
            subst hm0
            rw [if_pos rfl] at hap
            have HPL := Lib.hid (show ∀ b, front (log.drop k) = some b → (applied S b).1 = false from fun b' hb => by rw [hfr] at hb; cases hb; rw [hn])
            have HAP := Lib.hid hap
            clear hfr hfr2 hap hbl hrb hn
            go_wp2_with fail
            refine HAP.out.mono ?_
            rintro e w6 ⟨F6, rfl, h6, hc6, hn6⟩
            have HFZ := Lib.hid (show ∀ i ∈ F6, w.heap.size ≤ i from fun i hi => (hn6 i hi).elim (fun h => HFZ.out i h) (fun h => by have := hBz.size; omega))
            have hBz := hBz.trans (hc6.below (fun i hi => HFZA.out i hi) hBz.size)
            have HSZ := Lib.hid h6
            clear h6 hc6 hn6
            obtain ⟨m1, m2, m3, m4, Az, cz, hoz, hrz, hgA, hAF, hgF, hset⟩ := HSZ.out.obj
            have hkl : (log.take k).length = k := by rw [List.length_take]; omega
            have hcl := fun W (hb : Below w.heap.size w W) => clone_any (some ad) c (log.take k) W ((hA.below hb).take k) (by omega)
            rw [hkl] at hcl
            have HCL := Lib.hid hcl
            have HSET := Lib.hid hset
            have HOZ := Lib.hid hoz
            have hglt : w.heap.size < w6.heap.size := (Array.getElem?_eq_some_iff.1 hoz).1
            have HKL := Lib.hid hkl
            clear hcl hset hoz hrz hAF hgA hkl
            go_wp2_with (first
              | (go_at_call 42; (with_reducible refine (HCL.out _ hBz).mono ?_); rintro e wy ⟨Ay, cy, rfl, hRy, hBy⟩; have hle := Row.le hRy; have hcap := Row.cap_le hRy; simp only [HKL.out] at hle
                 have hoy := (hBy.block _ hglt).trans HOZ.out
                 have k4 := stObj_cell hoy 4
                 have k5 := stObj_cell hoy 5
                 have f4 := stObj_free hoy 4
                 have f5 := stObj_free hoy 5
                 have HOY := Lib.hid hoy
                 clear hoy
                 simp only [show (#[m1, m2, m3, m4, Value.slice Az S.log.length cz, Value.int IntKind.i64 (S.dur : Int)] : Array Value)[4]? = some (Value.slice Az S.log.length cz) from rfl] at k4
                 simp only [show (#[m1, m2, m3, m4, Value.slice Az S.log.length cz, Value.int IntKind.i64 (S.dur : Int)] : Array Value)[5]? = some (Value.int IntKind.i64 (S.dur : Int)) from rfl] at k5)
              | (go_at_call 41; go_must (refine (clip_any _ _ _ _ hle hcap).mono ?_); rintro e wx ⟨rfl, rfl⟩)
              | fail)
            go_ret2
            exact replay_end (A := some ad) HE.out.1 HE.out.2 HPL.out HSZ.out HFZ.out hBz hBy hglt HOY.out HSET.out (Row.clip hRy) HKL.out
          · have hm1 : ¬ m + 2 = 2 := by omega
            rw [if_neg hm1, addr2] at hap
            cases res with
            | false =>
              have hS2 : S2 = S := by have := applied_false (S := S) (b := b) (by rw [hX]); rw [hX] at this; exact this
              subst hS2
              have HPL := Lib.hid (show ∀ b, front (log.drop k) = some b → (applied S2 b).1 = false from fun b' hb => by rw [hfr] at hb; cases hb; rw [hX])
              have HAP := Lib.hid hap
              clear hfr hfr2 hap hbl hrb hX
              go_wp2_with fail
              refine HAP.out.mono ?_
              rintro e w6 ⟨F6, rfl, h6, hc6, hn6⟩
              have HFZ := Lib.hid (show ∀ i ∈ F6, w.heap.size ≤ i from fun i hi => (hn6 i hi).elim (fun h => HFZ.out i h) (fun h => by have := hBz.size; omega))
              have hBz := hBz.trans (hc6.below (fun i hi => HFZA.out i hi) hBz.size)
              have HSZ := Lib.hid h6
              clear h6 hc6 hn6
              obtain ⟨m1, m2, m3, m4, Az, cz, hoz, hrz, hgA, hAF, hgF, hset⟩ := HSZ.out.obj
              have hkl : (log.take k).length = k := by rw [List.length_take]; omega
              have hcl := fun W (hb : Below w.heap.size w W) => clone_any (some ad) c (log.take k) W ((hA.below hb).take k) (by omega)
              rw [hkl] at hcl
              have HCL := Lib.hid hcl
              have HSET := Lib.hid hset
              have HOZ := Lib.hid hoz
              have hglt : w.heap.size < w6.heap.size := (Array.getElem?_eq_some_iff.1 hoz).1
              have HKL := Lib.hid hkl
              clear hcl hset hoz hrz hAF hgA hkl
              go_wp2_with (first
                | (go_at_call 42; (with_reducible refine (HCL.out _ hBz).mono ?_); rintro e wy ⟨Ay, cy, rfl, hRy, hBy⟩; have hle := Row.le hRy; have hcap := Row.cap_le hRy; simp only [HKL.out] at hle
                   have hoy := (hBy.block _ hglt).trans HOZ.out
                   have k4 := stObj_cell hoy 4
                   have k5 := stObj_cell hoy 5
                   have f4 := stObj_free hoy 4
                   have f5 := stObj_free hoy 5
                   have HOY := Lib.hid hoy
                   clear hoy
                   simp only [show (#[m1, m2, m3, m4, Value.slice Az S2.log.length cz, Value.int IntKind.i64 (S2.dur : Int)] : Array Value)[4]? = some (Value.slice Az S2.log.length cz) from rfl] at k4
                   simp only [show (#[m1, m2, m3, m4, Value.slice Az S2.log.length cz, Value.int IntKind.i64 (S2.dur : Int)] : Array Value)[5]? = some (Value.int IntKind.i64 (S2.dur : Int)) from rfl] at k5)
                | (go_at_call 41; go_must (refine (clip_any _ _ _ _ hle hcap).mono ?_); rintro e wx ⟨rfl, rfl⟩)
                | fail)
              go_ret2
              exact replay_end (A := some ad) HE.out.1 HE.out.2 HPL.out HSZ.out HFZ.out hBz hBy hglt HOY.out HSET.out (Row.clip hRy) HKL.out
            | true =>
              have HE2 := Lib.hid (And.intro (Eat.step HE.out.1 hfr hX) (Way.step HE.out.2 hX))
              rw [hbl] at HE2
              have HAP := Lib.hid hap
              clear hfr hfr2 hap hbl hrb hX
              go_wp2_with fail
              refine HAP.out.mono ?_
              rintro e w6 ⟨F6, rfl, h6, hc6, hn6⟩
              have hFn : ∀ i ∈ F6, w.heap.size ≤ i := fun i hi => (hn6 i hi).elim (fun h => HFZ.out i h) (fun h => by have := hBz.size; omega)
              have hBn := hBz.trans (hc6.below (fun i hi => HFZA.out i hi) hBz.size)
              have HSN := Lib.hid h6
              have HFN := Lib.hid hFn
              clear h6 hc6 hn6 hFn
              go_wp2_with fail
              go_roundw
              case rel => exact ⟨k + (m + 4), S2, F6, by go_num, by omega, HE2, HSN.out, hBn, HFN.out⟩
              case measure => simp [intOf]; omega
        · have HPL := Lib.hid (show ∀ b, front (log.drop k) = some b → (applied S b).1 = false from fun b hb => by rw [hfr] at hb; cases hb)
          clear hfr
          obtain ⟨m1, m2, m3, m4, Az, cz, hoz, hrz, hgA, hAF, hgF, hset⟩ := HSZ.out.obj
          have hkl : (log.take k).length = k := by rw [List.length_take]; omega
          have hcl := fun W (hb : Below w.heap.size w W) => clone_any (some ad) c (log.take k) W ((hA.below hb).take k) (by omega)
          rw [hkl] at hcl
          have HCL := Lib.hid hcl
          have HSET := Lib.hid hset
          have HOZ := Lib.hid hoz
          have hglt : w.heap.size < w5.heap.size := (Array.getElem?_eq_some_iff.1 hoz).1
          have HKL := Lib.hid hkl
          clear hcl hset hoz hrz hAF hgA hkl
          go_wp2_with (first
            | (go_at_call 42; (with_reducible refine (HCL.out _ hBz).mono ?_); rintro e wy ⟨Ay, cy, rfl, hRy, hBy⟩; have hle := Row.le hRy; have hcap := Row.cap_le hRy; simp only [HKL.out] at hle
               have hoy := (hBy.block _ hglt).trans HOZ.out
               have k4 := stObj_cell hoy 4
               have k5 := stObj_cell hoy 5
               have f4 := stObj_free hoy 4
               have f5 := stObj_free hoy 5
               have HOY := Lib.hid hoy
               clear hoy
               simp only [show (#[m1, m2, m3, m4, Value.slice Az S.log.length cz, Value.int IntKind.i64 (S.dur : Int)] : Array Value)[4]? = some (Value.slice Az S.log.length cz) from rfl] at k4
               simp only [show (#[m1, m2, m3, m4, Value.slice Az S.log.length cz, Value.int IntKind.i64 (S.dur : Int)] : Array Value)[5]? = some (Value.int IntKind.i64 (S.dur : Int)) from rfl] at k5)
            | (go_at_call 41; go_must (refine (clip_any _ _ _ _ hle hcap).mono ?_); rintro e wx ⟨rfl, rfl⟩)
            | fail)
          go_ret2
          exact replay_end (A := some ad) HE.out.1 HE.out.2 HPL.out HSZ.out HFZ.out hBz hBy hglt HOY.out HSET.out (Row.clip hRy) HKL.out
      · have q6 : (log.length : Int) < (k : Int) + (m : Int) + 4 := by omega
        have HPL := Lib.hid (show ∀ b, front (log.drop k) = some b → (applied S b).1 = false from fun b hb => by
          have := (front_len hb)
          rw [← HM.out, List.length_drop] at this
          omega)
        clear h4
        obtain ⟨m1, m2, m3, m4, Az, cz, hoz, hrz, hgA, hAF, hgF, hset⟩ := HSZ.out.obj
        have hkl : (log.take k).length = k := by rw [List.length_take]; omega
        have hcl := fun W (hb : Below w.heap.size w W) => clone_any (some ad) c (log.take k) W ((hA.below hb).take k) (by omega)
        rw [hkl] at hcl
        have HCL := Lib.hid hcl
        have HSET := Lib.hid hset
        have HOZ := Lib.hid hoz
        have hglt : w.heap.size < wn.heap.size := (Array.getElem?_eq_some_iff.1 hoz).1
        have HKL := Lib.hid hkl
        clear hcl hset hoz hrz hAF hgA hkl
        go_wp2_with (first
          | (go_at_call 42; (with_reducible refine (HCL.out _ hBz).mono ?_); rintro e wy ⟨Ay, cy, rfl, hRy, hBy⟩; have hle := Row.le hRy; have hcap := Row.cap_le hRy; simp only [HKL.out] at hle
             have hoy := (hBy.block _ hglt).trans HOZ.out
             have k4 := stObj_cell hoy 4
             have k5 := stObj_cell hoy 5
             have f4 := stObj_free hoy 4
             have f5 := stObj_free hoy 5
             have HOY := Lib.hid hoy
             clear hoy
             simp only [show (#[m1, m2, m3, m4, Value.slice Az S.log.length cz, Value.int IntKind.i64 (S.dur : Int)] : Array Value)[4]? = some (Value.slice Az S.log.length cz) from rfl] at k4
             simp only [show (#[m1, m2, m3, m4, Value.slice Az S.log.length cz, Value.int IntKind.i64 (S.dur : Int)] : Array Value)[5]? = some (Value.int IntKind.i64 (S.dur : Int)) from rfl] at k5)
          | (go_at_call 41; go_must (refine (clip_any _ _ _ _ hle hcap).mono ?_); rintro e wx ⟨rfl, rfl⟩)
          | fail)
        go_ret2
        exact replay_end (A := some ad) HE.out.1 HE.out.2 HPL.out HSZ.out HFZ.out hBz hBy hglt HOY.out HSET.out (Row.clip hRy) HKL.out
    · have q1 : ¬ ((k : Int) + 2 ≤ (log.length : Int)) := by omega
      have HPL := Lib.hid (show ∀ b, front (log.drop k) = some b → (applied S b).1 = false from fun b hb => by
        have := (front_some hb).1
        rw [List.length_drop] at this
        omega)
      obtain ⟨m1, m2, m3, m4, Az, cz, hoz, hrz, hgA, hAF, hgF, hset⟩ := HSZ.out.obj
      have hkl : (log.take k).length = k := by rw [List.length_take]; omega
      have hcl := fun W (hb : Below w.heap.size w W) => clone_any A c (log.take k) W ((hA.below hb).take k) (by omega)
      rw [hkl] at hcl
      have HCL := Lib.hid hcl
      have HSET := Lib.hid hset
      have HOZ := Lib.hid hoz
      have hglt : w.heap.size < wr.heap.size := (Array.getElem?_eq_some_iff.1 hoz).1
      have HKL := Lib.hid hkl
      clear hcl hset hoz hrz hAF hgA hkl
      go_wp2_with (first
        | (go_at_call 42; (with_reducible refine (HCL.out _ hBz).mono ?_); rintro e wy ⟨Ay, cy, rfl, hRy, hBy⟩; have hle := Row.le hRy; have hcap := Row.cap_le hRy; simp only [HKL.out] at hle
           have hoy := (hBy.block _ hglt).trans HOZ.out
           have k4 := stObj_cell hoy 4
           have k5 := stObj_cell hoy 5
           have f4 := stObj_free hoy 4
           have f5 := stObj_free hoy 5
           have HOY := Lib.hid hoy
           clear hoy
           simp only [show (#[m1, m2, m3, m4, Value.slice Az S.log.length cz, Value.int IntKind.i64 (S.dur : Int)] : Array Value)[4]? = some (Value.slice Az S.log.length cz) from rfl] at k4
           simp only [show (#[m1, m2, m3, m4, Value.slice Az S.log.length cz, Value.int IntKind.i64 (S.dur : Int)] : Array Value)[5]? = some (Value.int IntKind.i64 (S.dur : Int)) from rfl] at k5)
        | (go_at_call 41; go_must (refine (clip_any _ _ _ _ hle hcap).mono ?_); rintro e wx ⟨rfl, rfl⟩)
        | fail)
      go_ret2
      exact replay_end (A := A) HE.out.1 HE.out.2 HPL.out HSZ.out HFZ.out hBz hBy hglt HOY.out HSET.out (Row.clip hRy) HKL.out
end Go.Proofs.YthbbmpelldglmaaGreatDoor
/- Law 38: the chapter's example. -/
namespace Go.Proofs.YthbbmpelldglmaaGreatDoor
set_option linter.unusedVariables false
set_option linter.unusedSimpArgs false
open Go.RowKit

def livCells : Array Value := #[.string ⟨#[50, 54]⟩, .string ⟨#[52, 57, 49]⟩, .int .u16 5, .int .u32 258, .bool false, .bool true]
set_option maxHeartbeats 4000000 in
set_option maxRecDepth 100000 in
theorem lives38_any (w : World) :
    Calls Tryz.prog 8 #[] w fun e w' => e = .returned (.bool true) ∧ Below w.heap.size w w' := by
  have hput : ∀ W F, StAt W w.heap.size F S00 → Calls Tryz.prog 24 #[.pointer (some ⟨w.heap.size, 0, none⟩), .agg #[.string ⟨#[50, 54]⟩, .string ⟨#[52, 57, 49]⟩, .int .u16 5, .int .u32 258, .bool false, .bool true]] W fun e w' => ∃ F', e = .returned (.int .i64 0) ∧ StAt w' w.heap.size F' ⟨[livH], [], livL, 0, 1⟩ ∧ Chg F W w' ∧ NewIn W F F' := fun W F h => by
    refine (putHome_any W w.heap.size F S00 h S00_fit (by decide) (by decide) [50, 54] [52, 57, 49] 5 258 false true liv_go.1 liv_go.2.1 liv_go.2.2).mono ?_
    rintro e w' ⟨F', er, S', rfl, h1, h2, h3, h4⟩
    obtain ⟨rfl, rfl⟩ := out_putH h4
    rw [show Edit.after (.putH ⟨[50, 54], [52, 57, 49], 5, 258, false, true⟩) S00 = _ from liv_after] at h1
    exact ⟨F', by rw [show Edit.er S00 (.putH ⟨[50, 54], [52, 57, 49], 5, 258, false, true⟩) = _ from liv_er], h1, h2, h3⟩
  have hlog : ∀ W F, StAt W w.heap.size F ⟨[livH], [], livL, 0, 1⟩ → Calls Tryz.prog 12 #[.pointer (some ⟨w.heap.size, 0, none⟩)] W fun e w' => ∃ g', e = .returned (.slice (some ⟨g', 0, none⟩) 19 19) ∧ RowB w' W.heap.size (some ⟨g', 0, none⟩) 19 livL ∧ Below W.heap.size W w' := fun W F h => by
    refine (storeLog_any W w.heap.size F _ h (by show livL.length ≤ _; rw [livL_len]; decide)).mono ?_
    rintro e w' ⟨A, rfl, h1, h2⟩
    simp only [livL_len] at h1 ⊢
    obtain ⟨g', rfl, -⟩ := Row.form h1 (by rw [livL_len]; decide)
    exact ⟨g', rfl, h1, h2⟩
  have hrep : ∀ W g', RdB W (some ⟨g', 0, none⟩) livL → Calls Tryz.prog 34 #[.slice (some ⟨g', 0, none⟩) 19 19] W fun e w' => ∃ g F T, e = .returned (.tuple #[.pointer (some ⟨g, 0, none⟩), .int .i64 19]) ∧ StAt w' g F T ∧ T.homes = [livH] ∧ Below W.heap.size W w' := fun W g' h => by
    have := replay_any W (some ⟨g', 0, none⟩) 19 livL h (by rw [livL_len]; decide) (by decide) (by rw [livL_len]; decide)
    rw [livL_len] at this
    refine this.mono ?_
    rintro e w' ⟨g, F, T, n, rfl, h1, h2, h3, h4, h5, h6⟩
    obtain ⟨e1, e2, rfl⟩ := liv_all h1
    exact ⟨g, F, _, rfl, h4, e1, h5⟩
  have hrep2 : ∀ W g', RdB W (some ⟨g', 0, none⟩) livL → Calls Tryz.prog 34 #[.slice (some ⟨g', 0, none⟩) 18 19] W fun e w' => ∃ g F T, e = .returned (.tuple #[.pointer (some ⟨g, 0, none⟩), .int .i64 0]) ∧ StAt w' g F T ∧ T.homes = [] ∧ T.Fit ∧ T.puts ≤ 100000 ∧ Below W.heap.size W w' := fun W g' h => by
    have hl : (livL.take 18).length = 18 := by rw [List.length_take, livL_len]; rfl
    have := replay_any W (some ⟨g', 0, none⟩) 19 (livL.take 18) (h.take 18) (by rw [hl]; decide) (by decide) (by rw [hl]; decide)
    rw [hl] at this
    refine this.mono ?_
    rintro e w' ⟨g, F, T, n, rfl, h1, h2, h3, h4, h5, h6⟩
    obtain ⟨e1, e2, rfl⟩ := liv_part h1
    exact ⟨g, F, _, rfl, h4, e1, SameR.fit (S := T) ⟨rfl, rfl⟩ h2, by show T.puts ≤ 100000; omega, h5⟩
  have hget : ∀ W g F T, StAt W g F T → T.homes = [livH] → Calls Tryz.prog 19 #[.pointer (some ⟨g, 0, none⟩), .string ⟨#[50, 54]⟩] W fun e w' => e = .returned (.tuple #[.agg #[.string ⟨#[50, 54]⟩, .string ⟨#[52, 57, 49]⟩, .int .u16 5, .int .u32 258, .bool false, .bool true], .int .i64 0]) ∧ Below W.heap.size W w' := fun W g F T h e1 => by
    have := storeHome_any W g F T h [50, 54] (by decide)
    have e2 : homeOf T [50, 54] = some livH := by unfold homeOf; rw [e1]; rfl
    rw [e2] at this
    exact this
  have hhomes : ∀ W g F T, StAt W g F T → T.homes = [] → T.Fit → T.puts ≤ 100000 → Calls Tryz.prog 37 #[.pointer (some ⟨g, 0, none⟩)] W fun e w' => (∃ A, e = .returned (.slice A 0 0)) ∧ Below W.heap.size W w' := fun W g F T h e1 hf hp => by
    have := storeHomes_any W g F T h hf hp
    rw [e1] at this
    refine this.mono ?_
    rintro e w' ⟨A, rfl, _, h2⟩
    exact ⟨⟨A, rfl⟩, h2⟩
  have hnew := storeNew_any w
  have HNEW := Lib.hid hnew
  have HPUT := Lib.hid hput
  have HLOG := Lib.hid hlog
  have HREP := Lib.hid hrep
  have HREP2 := Lib.hid hrep2
  have HGET := Lib.hid hget
  have HHOMES := Lib.hid hhomes
  clear hput hlog hrep hrep2 hget hhomes hnew
  go_enter Tryz.func8, Tryz.ntmps8
  go_wp2_with (first
    | (go_at_call 9; (with_reducible refine HNEW.out.mono ?_); rintro e w1 ⟨rfl, h1, hB1⟩
       have HS1 := Lib.hid (h1.below ((Below.refl w1.heap.size w1).alloc (Nat.le_refl _) (.cells #[.string ⟨#[50, 54]⟩, .string ⟨#[52, 57, 49]⟩, .int .u16 5, .int .u32 258, .bool false, .bool true] 52)))
       have hB2 := below_alloc hB1 (.cells #[.string ⟨#[50, 54]⟩, .string ⟨#[52, 57, 49]⟩, .int .u16 5, .int .u32 258, .bool false, .bool true] 52)
       have HX := Lib.hid (heap_alloc_new w1 (.cells #[.string ⟨#[50, 54]⟩, .string ⟨#[52, 57, 49]⟩, .int .u16 5, .int .u32 258, .bool false, .bool true] 52))
       have HGW := Lib.hid (show w.heap.size < w1.heap.size from h1.lt _ (by simp))
       clear h1)
    | (go_at_call 24; (with_reducible refine (HPUT.out _ _ HS1.out).mono ?_); rintro e w3 ⟨F3, rfl, h3, hc3, hn3⟩
       have HS3 := Lib.hid h3
       have HX3 := Lib.hid (hc3.heap HX.out (by have := HGW.out; simp; omega))
       have hB3 := hB2.trans (hc3.below (by simp) hB2.size)
       clear h3 hc3 hn3)
    | (go_at_call 12; (with_reducible refine (HLOG.out _ _ HS3.out).mono ?_); rintro e w4 ⟨g4, rfl, h4, hB4⟩
       have HR4 := Lib.hid h4
       have HX4 := Lib.hid ((hB4.block _ (Array.getElem?_eq_some_iff.1 HX3.out).1).trans HX3.out)
       have hB5 := hB3.trans (hB4.mono hB3.size)
       clear h4)
    | fail)
  obtain ⟨w5, hw5⟩ : ∃ v, v = w4.alloc (.cells #[.int .u8 15, .int .u8 0, .int .u8 1, .int .u8 2, .int .u8 50, .int .u8 54, .int .u8 3, .int .u8 52, .int .u8 57, .int .u8 49, .int .u8 5, .int .u8 0, .int .u8 2, .int .u8 1, .int .u8 0, .int .u8 0, .int .u8 2] 5) := ⟨_, rfl⟩
  have hB5' : Below w.heap.size w w5 := by rw [hw5]; exact below_alloc hB5 _
  have hB45 : Below w4.heap.size w4 w5 := by rw [hw5]; exact (Below.refl _ _).alloc (Nat.le_refl _) _
  have hwant : RdB w5 (some ⟨w4.heap.size, 0, none⟩) [15, 0, 1, 2, 50, 54, 3, 52, 57, 49, 5, 0, 2, 1, 0, 0, 2] := by rw [hw5]; exact rd_lit w4 [15, 0, 1, 2, 50, 54, 3, 52, 57, 49, 5, 0, 2, 1, 0, 0, 2]
  have hlog5 : RowB w5 w3.heap.size (some ⟨g4, 0, none⟩) 19 livL := RowB.below HR4.out hB45
  have hcells : ∀ k, k < 17 → ∃ v : Nat, w5.cell? ⟨g4, k, none⟩ = some (.int .u8 (v : Int)) ∧ w5.cell? ⟨w4.heap.size, k, none⟩ = some (.int .u8 (v : Int)) := fun k hk => by
    have hlk : k < livL.length := by rw [livL_len]; omega
    obtain ⟨ad, e1, c1⟩ := (RowB.rd hlog5).get hlk
    obtain ⟨ad2, e2, c2⟩ := hwant.get (k := k) (by simpa using hk)
    cases e1
    cases e2
    rw [add_lit] at c1 c2
    refine ⟨_, c1, ?_⟩
    rw [c2]
    congr 3
    have h1 : (livL.take 17)[k]? = some livL[k] := by rw [List.getElem?_take_of_lt hk, List.getElem?_eq_getElem hlk]
    rw [livL_take] at h1
    have h2 := (List.getElem?_eq_some_iff.1 h1).2
    rw [h2]
  have hS5 := Lib.hid (HS3.out.chg (Chg.of_below [] hB4) (by simp))
  have HX5 : Hid (w5.heap[w1.heap.size]? = some (.cells #[.string ⟨#[50, 54]⟩, .string ⟨#[52, 57, 49]⟩, .int .u16 5, .int .u32 258, .bool false, .bool true] 52)) := Lib.hid ((hB45.block _ (Array.getElem?_eq_some_iff.1 HX4.out).1).trans HX4.out)
  have HL5 := Lib.hid (RowB.rd hlog5)
  have HCE := Lib.hid hcells
  rw [← hw5]
  generalize w4.heap.size = g5 at *
  clear hw5 hwant hlog5 hcells HX4 HX3 HX HS1 HR4 hB45
  go_loopw [6] (fun iv wr => ∃ k n : Nat, k ≤ 17 ∧ iv = .int .i64 k ∧ wr = w5.drewN n) (fun iv _ => 17 - (intOf iv).toNat)
  case atStart => exact ⟨0, 0, by omega, rfl, rfl⟩
  case round =>
    obtain ⟨k, n, hk, rfl, rfl⟩ := hrel
    by_cases hlt : k < 17
    · obtain ⟨v, c1, c2⟩ := HCE.out k hlt
      have q1 : (0 : Int) ≤ (k : Int) := by omega
      have q2 : (k : Int) < 17 := by omega
      have q3 : (k : Int) < 19 := by omega
      go_upto_region 11 with fail
      go_quiet (fail)
      go_wp2_with fail
      go_roundw
      case rel => exact ⟨k + 1, n + nq, by omega, by go_num, rfl⟩
      case measure => simp [intOf]; omega
    · obtain rfl : k = 17 := by omega
      have hB6 : Below w.heap.size w (w5.drewN n) := below_drewN hB5' n
      have HX6 : Hid ((w5.drewN n).heap[w1.heap.size]? = some (.cells #[.string ⟨#[50, 54]⟩, .string ⟨#[52, 57, 49]⟩, .int .u16 5, .int .u32 258, .bool false, .bool true] 52)) := HX5
      have HL6 : Hid (RdB (w5.drewN n) (some ⟨g4, 0, none⟩) livL) := Lib.hid (HL5.out.drewN n)
      generalize w5.drewN n = w6 at *
      clear hB5' HCE
      go_wp2_with (first
        | (go_at_call 34; (with_reducible refine (HREP.out _ _ HL6.out).mono ?_); rintro e w7 ⟨g7, F7, T7, rfl, h7, e7, hB7⟩
           have HS7 := Lib.hid (And.intro h7 e7)
           have HL7 := Lib.hid (HL6.out.below hB7)
           have hB8 := hB6.trans (hB7.mono hB6.size)
           have HX7 := Lib.hid ((hB7.block _ (Array.getElem?_eq_some_iff.1 HX6.out).1).trans HX6.out)
           clear h7 e7)
        | (go_at_call 34; (with_reducible refine (HREP2.out _ _ HL7.out).mono ?_); rintro e w8 ⟨g8, F8, T8, rfl, h8, e8, hf8, hp8, hB9⟩
           have HS8 := Lib.hid (And.intro h8 (And.intro e8 (And.intro hf8 hp8)))
           have HS7' := Lib.hid (And.intro (HS7.out.1.below hB9) HS7.out.2)
           have hB10 := hB8.trans (hB9.mono hB8.size)
           have HX8 := Lib.hid ((hB9.block _ (Array.getElem?_eq_some_iff.1 HX7.out).1).trans HX7.out)
           clear h8 e8 hf8 hp8)
        | (go_at_call 19; (with_reducible refine (HGET.out _ _ _ _ HS7'.out.1 HS7'.out.2).mono ?_); rintro e w9 ⟨rfl, hB11⟩
           have hB12 := below_alloc (hB10.trans (hB11.mono hB10.size)) (.cells #[.string ⟨#[50, 54]⟩, .string ⟨#[52, 57, 49]⟩, .int .u16 5, .int .u32 258, .bool false, .bool true] 52)
           have HS9 := Lib.hid (And.intro ((HS8.out.1.below hB11).below ((Below.refl w9.heap.size w9).alloc (Nat.le_refl _) (.cells #[.string ⟨#[50, 54]⟩, .string ⟨#[52, 57, 49]⟩, .int .u16 5, .int .u32 258, .bool false, .bool true] 52))) HS8.out.2)
           have x9 := (hB11.block _ (Array.getElem?_eq_some_iff.1 HX8.out).1).trans HX8.out
           have hlt9 := (Array.getElem?_eq_some_iff.1 x9).1
           have x10 := ((Below.refl w9.heap.size w9).alloc (Nat.le_refl _) (.cells #[.string ⟨#[50, 54]⟩, .string ⟨#[52, 57, 49]⟩, .int .u16 5, .int .u32 258, .bool false, .bool true] 52)).block _ hlt9 |>.trans x9
           have a0 := cell_of_row _ _ 0 _ _ _ x10
           have a1 := cell_of_row _ _ 1 _ _ _ x10
           have a2 := cell_of_row _ _ 2 _ _ _ x10
           have a3 := cell_of_row _ _ 3 _ _ _ x10
           have a4 := cell_of_row _ _ 4 _ _ _ x10
           have a5 := cell_of_row _ _ 5 _ _ _ x10)
        | (go_at_call 37; (with_reducible refine (HHOMES.out _ _ _ _ HS9.out.1 HS9.out.2.1 HS9.out.2.2.1 HS9.out.2.2.2).mono ?_); rintro e w11 ⟨⟨A11, rfl⟩, hB13⟩)
        | fail)
      go_ret
      exact ⟨rfl, hB12.trans (hB13.mono hB12.size)⟩
end Go.Proofs.YthbbmpelldglmaaGreatDoor
/- Arguments opened: numbers, slices of numbers, as natural numbers and octets. -/
namespace Go.Proofs.YthbbmpelldglmaaGreatDoor
set_option linter.unusedVariables false
set_option linter.unusedSimpArgs false
open Go.RowKit Go.ChangeShapes

theorem nat_of_u16 {a : Int} (h : (Lit.int .u16 a).wf = true) : ∃ x : Nat, x < 65536 ∧ a = x := by
  have h1 : 0 ≤ a ∧ a ≤ 65535 := by simpa [Lit.wf, IntKind.min, IntKind.max, IntKind.bits, IntKind.signed] using h
  exact ⟨a.toNat, by omega, by omega⟩
theorem nat_of_u8 {a : Int} (h : (Lit.int .u8 a).wf = true) : ∃ x : Nat, x < 256 ∧ a = x := by
  have h1 : 0 ≤ a ∧ a ≤ 255 := by simpa [Lit.wf, IntKind.min, IntKind.max, IntKind.bits, IntKind.signed] using h
  exact ⟨a.toNat, by omega, by omega⟩

theorem rdB_of_ints {W : World} {x : Addr} {zs : List Int} (hcell : ∀ i, i < zs.length → W.cell? (x.add i) = some (.int .u8 (zs.getD i 0))) (hwz : ∀ n ∈ zs, (Lit.int .u8 n).wf = true) {n : Nat} (hn : n ≤ zs.length) :
    ∃ l : List UInt8, l.length = n ∧ RdB W (some x) l := by
  refine ⟨(zs.take n).map fun z => UInt8.ofNat z.toNat, by simp; omega, fun k v hv => ⟨x, rfl, ?_⟩⟩
  rw [List.getElem?_map, List.getElem?_map, List.getElem?_take] at hv
  by_cases hk : k < n
  · rw [if_pos hk, List.getElem?_eq_getElem (by omega)] at hv
    simp at hv
    subst hv
    rw [hcell k (by omega)]
    obtain ⟨b, hb, e⟩ := nat_of_u8 (hwz zs[k] (List.getElem_mem _))
    simp only [List.getD, List.getElem?_eq_getElem (show k < zs.length by omega), Option.getD_some, byteV]
    rw [e]
    simp [UInt8.toNat_ofNat', Nat.mod_eq_of_lt hb]
  · rw [if_neg hk] at hv; simp at hv

/-- numbers of a kind as cells -/
def RdN (k : IntKind) (w : World) (A : Option Addr) (l : List Nat) : Prop := Rd w A (l.map fun n : Nat => .int k (n : Int))
theorem rdN_of_ints {k : IntKind} {W : World} {x : Addr} {zs : List Int} (hcell : ∀ i, i < zs.length → W.cell? (x.add i) = some (.int k (zs.getD i 0))) (hwz : ∀ n ∈ zs, (Lit.int k n).wf = true) (h0 : ∀ a, (Lit.int k a).wf = true → 0 ≤ a) {n : Nat} (hn : n ≤ zs.length) :
    ∃ l : List Nat, l.length = n ∧ RdN k W (some x) l ∧ ∀ m ∈ l, (Lit.int k m).wf = true := by
  refine ⟨(zs.take n).map Int.toNat, by simp; omega, fun i v hv => ⟨x, rfl, ?_⟩, ?_⟩
  · rw [List.getElem?_map, List.getElem?_map, List.getElem?_take] at hv
    by_cases hk : i < n
    · rw [if_pos hk, List.getElem?_eq_getElem (by omega)] at hv
      simp at hv
      subst hv
      rw [hcell i (by omega)]
      have := h0 _ (hwz zs[i] (List.getElem_mem _))
      simp only [List.getD, List.getElem?_eq_getElem (show i < zs.length by omega), Option.getD_some]
      congr 2
      omega
    · rw [if_neg hk] at hv; simp at hv
  · intro m hm
    simp only [List.mem_map] at hm
    obtain ⟨z, hz, rfl⟩ := hm
    have hw := hwz z (List.mem_of_mem_take hz)
    have := h0 _ hw
    rw [show ((z.toNat : Nat) : Int) = z by omega]
    exact hw
theorem rdN_of_u16 {W : World} {x : Addr} {zs : List Int} (hcell : ∀ i, i < zs.length → W.cell? (x.add i) = some (.int .u16 (zs.getD i 0))) (hwz : ∀ n ∈ zs, (Lit.int .u16 n).wf = true) {n : Nat} (hn : n ≤ zs.length) :
    ∃ l : List Nat, l.length = n ∧ RdN .u16 W (some x) l ∧ ∀ m ∈ l, m < 65536 := by
  obtain ⟨l, h1, h2, h3⟩ := rdN_of_ints hcell hwz (fun a h => by obtain ⟨y, _, rfl⟩ := nat_of_u16 h; omega) hn
  exact ⟨l, h1, h2, fun m hm => by obtain ⟨y, hy, e⟩ := nat_of_u16 (h3 m hm); omega⟩
theorem RdN.get {k : IntKind} {w : World} {A : Option Addr} {l : List Nat} (h : RdN k w A l) {i : Nat} (hi : i < l.length) : ∃ ad, A = some ad ∧ w.cell? (ad.add i) = some (.int k (l[i] : Int)) := by
  obtain ⟨ad, e, hc⟩ := Rd.get h (k := i) (by simpa using hi)
  exact ⟨ad, e, by rw [hc]; simp⟩
theorem RdN.below {k : IntKind} {w w' : World} {A : Option Addr} {l : List Nat} (h : RdN k w A l) (hb : Below w.heap.size w w') : RdN k w' A l := Rd.below h hb
end Go.Proofs.YthbbmpelldglmaaGreatDoor
/- Structs and arrays of one-cell parts, by value, opened; octets in a field. -/
namespace Go.Proofs.YthbbmpelldglmaaGreatDoor
set_option linter.unusedVariables false
set_option linter.unusedSimpArgs false
open Go.RowKit Go.ChangeShapes Go.WideShapes

theorem list3 {α : Type} {l : List α} (h : l.length = 3) : ∃ a b c, l = [a, b, c] := by
  match l, h with
  | [a, b, c], _ => exact ⟨a, b, c, rfl⟩
theorem list2 {α : Type} {l : List α} (h : l.length = 2) : ∃ a b, l = [a, b] := by
  match l, h with
  | [a, b], _ => exact ⟨a, b, rfl⟩
theorem list4 {α : Type} {l : List α} (h : l.length = 4) : ∃ a b c d, l = [a, b, c, d] := by
  match l, h with
  | [a, b, c, d], _ => exact ⟨a, b, c, d, rfl⟩
theorem list5 {α : Type} {l : List α} (h : l.length = 5) : ∃ a b c d e, l = [a, b, c, d, e] := by
  match l, h with
  | [a, b, c, d, e], _ => exact ⟨a, b, c, d, e, rfl⟩
theorem list6 {α : Type} {l : List α} (h : l.length = 6) : ∃ a b c d e f, l = [a, b, c, d, e, f] := by
  match l, h with
  | [a, b, c, d, e, f], _ => exact ⟨a, b, c, d, e, f, rfl⟩
section
variable {H : Type} {enc : TypeId × Value → H} {P : Program} {w : World} {base : Nat} {spare : Nat → Bool} {held : Bool}

theorem take_one {α : Type} (l : List α) (i : Nat) (c : α) (h : l[i]? = some c) : (l.drop i).take 1 = [c] := by
  have hi : i < l.length := (List.getElem?_eq_some_iff.1 h).1
  rw [List.drop_eq_getElem_cons hi]
  simp [(List.getElem?_eq_some_iff.1 h).2]
/-- a struct of one-cell fields, by value -/
theorem open_aggN {r : Reach} {b0 : Nat} {t : TypeId} {fs : Array Field} {v : Value} {d : DataW H} {p : List MemPlace} (hs : P.underlying t = some (.struct fs)) (hone : Go.Deep.oneCellFields P fs = true) (hC : P.cellsOf t = fs.size)
    (hv : Value.okWide P w r b0 t v) (h : DataW.Trod enc P w base spare held t v d p) :
    ∃ (l : List Value) (ys : List (DataW H × List MemPlace)) (n : Nat), v = .agg l.toArray ∧ l.length = fs.size ∧ ys.length = fs.size ∧ d = .agg (ys.map (·.1)) ∧
      ∀ (i : Nat) (f : Field) (c : Value) (y : DataW H × List MemPlace), fs[i]? = some f → l[i]? = some c → ys[i]? = some y → DataW.trod enc P w base spare held n f.type [c] = some y := by
  obtain ⟨cs, rfl, hsz⟩ := okWide_struct hs hv
  obtain ⟨l⟩ := cs
  obtain ⟨fuel, hf⟩ := h
  obtain ⟨ys, n, _, hx, _, hlen, hfs⟩ := DataW.trod_struct hs hf
  refine ⟨l, ys, n, rfl, by simpa [hC] using hsz, hlen, congrArg Prod.fst hx, fun i f c y h1 h2 h3 => ?_⟩
  obtain ⟨o, k⟩ := Go.Deep.hone_of hone i f h1
  have := hfs i f h1
  rw [o, k, h3, take_one _ i c (by simpa [Value.cells] using h2)] at this
  exact this
/-- an array of one-cell elements, by value -/
theorem open_arrN {b0 : Nat} {t e : TypeId} {m : Nat} {v : Value} {d : DataW H} {p : List MemPlace} (hs : P.underlying t = some (.array m e)) (hone : P.cellsOf e = 1) (cs : Array Value) (hv : v = .agg cs)
    (h : DataW.Trod enc P w base spare held t v d p) :
    ∃ (ys : List (DataW H × List MemPlace)) (n : Nat), cs.toList.length = P.cellsOf t ∧ ys.length = m ∧ d = .agg (ys.map (·.1)) ∧
      ∀ (i : Nat) (c : Value) (y : DataW H × List MemPlace), i < m → cs.toList[i]? = some c → ys[i]? = some y → DataW.trod enc P w base spare held n e [c] = some y := by
  subst hv
  obtain ⟨fuel, hf⟩ := h
  obtain ⟨ys, n, _, hx, hl, hlen, hfs⟩ := DataW.trod_array hs hf
  refine ⟨ys, n, by simpa [Value.cells] using hl, hlen, congrArg Prod.fst hx, fun i c y h1 h2 h3 => ?_⟩
  have := hfs i h1
  rw [hone, Nat.mul_one, h3, take_one _ i c (by simpa [Value.cells] using h2)] at this
  exact this
theorem sized_field {ts : List TypeId} {ds : List (DataW H)} (h : (DataW.weightsEach P ts ds).all (· ≤ reachBytes) = true) {j : Nat} {t : TypeId} {fs : Array Field} {parts : List (DataW H)} (ht : ts[j]? = some t) (hd : ds[j]? = some (.agg parts))
    (hu : P.underlying t = some (.struct fs)) {i : Nat} {f : Field} {d : DataW H} (hf : fs[i]? = some f) (hp : parts[i]? = some d) {n : Nat} (hn : n ∈ d.weights P f.type) : n ≤ reachBytes := by
  have h1 : n ∈ (DataW.agg parts).weights P t := by
    unfold DataW.weights
    rw [hu]
    exact DataW.weights_mem_each (j := i) (t := f.type) (by rw [List.getElem?_map, Array.getElem?_toList, hf]; rfl) hp n hn
  have := List.all_eq_true.1 h _ (DataW.weights_mem_each ht hd n h1)
  simpa using this
theorem num_of {k : IntKind} {t : TypeId} {n : Nat} {c : Value} {y : DataW H × List MemPlace} (hu : P.underlying t = some (.int k)) (h : DataW.trod enc P w base spare held n t [c] = some y) : ∃ a, c = .int k a ∧ (Lit.int k a).wf = true := by
  obtain ⟨a, e1, _, hw⟩ := DataW.trod_int hu h
  simp at e1
  exact ⟨a, e1, hw⟩
end

/-- octets in a field -/
theorem open_bytes {H : Type} {enc : TypeId × Value → H} {W : World} {n : Nat} {v : Value} {y : DataW H × List MemPlace} (h : DataW.trod enc Tryz.prog W 0 (fun _ => true) true n 39 [v] = some y) :
    ∃ (A : Option Addr) (l : List UInt8) (c : Nat), v = .slice A l.length c ∧ RdB W A l ∧ l.length ≤ c ∧ (c = 0 ∨ c ∈ y.1.weights Tryz.prog 39) := by
  rcases open_ints Tryz.underlying39 Tryz.underlying5 (by kernel_rfl) h with ⟨hcs, _⟩ | ⟨x, len, c, zs, hcs, _, hl, hm, hz, hx, hcell, hwz⟩
  · simp at hcs
    exact ⟨none, [], 0, hcs, by intro k v hv; simp at hv, by simp, .inl rfl⟩
  · simp at hcs
    simp only [if_true] at hz
    obtain ⟨l, hl2, hr⟩ := rdB_of_ints hcell hwz (n := len) (by omega)
    refine ⟨some x, l, c, by rw [hl2]; exact hcs, hr, by omega, .inr ?_⟩
    rw [hx]
    unfold DataW.weights
    rw [Tryz.underlying39]
    simp only [show Tryz.prog.bytesOf 5 = 1 from by kernel_rfl, lits, List.length_map, List.length_take, List.length_drop]
    exact List.mem_cons.2 (.inl (by omega))
end Go.Proofs.YthbbmpelldglmaaGreatDoor
/- Arguments opened: a slice of acts. -/
namespace Go.Proofs.YthbbmpelldglmaaGreatDoor
set_option linter.unusedVariables false
set_option linter.unusedSimpArgs false
open Go.RowKit Go.ChangeShapes Go.WideShapes

/-- the acts at A -/
def ActRd (w : World) (A : Option Addr) (l : List Ac) : Prop := ∀ k (hk : k < l.length), ∃ b off, A = some ⟨b, off, none⟩ ∧ ∀ j (hj : j < 5), w.cell? ⟨b, off + k * 5 + j, none⟩ = some (l[k].cells[j]'hj)
theorem ActRd.below {w w' : World} {A : Option Addr} {l : List Ac} (h : ActRd w A l) (hb : Below w.heap.size w w') : ActRd w' A l := fun k hk => by
  obtain ⟨b, off, e, hc⟩ := h k hk
  exact ⟨b, off, e, fun j hj => cell_later hb (hc j hj)⟩

/-- a struct of one-cell fields, by its cells -/
theorem trod_fields {H : Type} {enc : TypeId × Value → H} {P : Program} {w : World} {base fuel : Nat} {spare : Nat → Bool} {held : Bool} {t : TypeId} {fs : Array Field} {cs : List Value} {x : DataW H × List MemPlace} (hs : P.underlying t = some (.struct fs)) (hone : Go.Deep.oneCellFields P fs = true) (hC : P.cellsOf t = fs.size)
    (h : DataW.trod enc P w base spare held fuel t cs = some x) :
    ∃ (ys : List (DataW H × List MemPlace)) (n : Nat), cs.length = fs.size ∧ ys.length = fs.size ∧ x.1 = .agg (ys.map (·.1)) ∧
      ∀ (i : Nat) (f : Field) (c : Value) (y : DataW H × List MemPlace), fs[i]? = some f → cs[i]? = some c → ys[i]? = some y → DataW.trod enc P w base spare held n f.type [c] = some y := by
  obtain ⟨ys, n, _, hx, hl, hlen, hfs⟩ := DataW.trod_struct hs h
  refine ⟨ys, n, by rw [hl, hC], hlen, congrArg Prod.fst hx, fun i f c y h1 h2 h3 => ?_⟩
  obtain ⟨o, k⟩ := Go.Deep.hone_of hone i f h1
  have := hfs i f h1
  rw [o, k, h3, take_one _ i c h2] at this
  exact this
set_option maxRecDepth 100000 in
/-- a slice of acts -/
theorem open_acts {H : Type} {enc : TypeId × Value → H} {W : World} {r : Reach} {b0 : Nat} {v : Value} {d : DataW H} {p : List MemPlace} (hv : Value.okWide Tryz.prog W r b0 22 v)
    (h : DataW.Trod enc Tryz.prog W 0 (fun _ => true) true 22 v d p) :
    ∃ (A : Option Addr) (l : List Ac) (c : Nat), v = .slice A l.length c ∧ ActRd W A l ∧ (∀ a ∈ l, a.Go) ∧ l.length ≤ c ∧ c ≤ maxLen := by
  obtain ⟨a0, len, cap, rfl⟩ := okWide_slice Tryz.underlying22 hv
  obtain ⟨fuel, hf⟩ := h
  rcases Go.Deep.open_slice Tryz.underlying22 hf with ⟨hcs, _⟩ | ⟨a, len', cap', m, n, D, Pl, hcs, _, hl, hm, hmm, _, hx⟩
  · simp [Value.cells] at hcs
    obtain ⟨rfl, rfl, rfl⟩ := hcs
    exact ⟨none, [], 0, rfl, fun k hk => by simp at hk, by simp, Nat.le_refl _, by simp [maxLen]⟩
  · simp [Value.cells] at hcs
    obtain ⟨rfl, rfl, rfl⟩ := hcs
    simp only [if_true] at hmm
    have hC : Tryz.prog.cellsOf 37 = 5 := by kernel_rfl
    have hact : ∀ i, i < len → ∃ x : Ac, x.Go ∧ ∀ j (hj : j < 5), W.cell? ((a.add (i * 5)).add j) = some (x.cells[j]'hj) := fun i hi => by
      obtain ⟨cs, h1, h2⟩ := hx i (by omega)
      rw [hC] at h1
      obtain ⟨ys, n', hlen, hlen2, _, hfs⟩ := trod_fields Tryz.underlying37 (by kernel_rfl) (by kernel_rfl) h2
      simp at hlen hlen2
      obtain ⟨c0, c1, c2, c3, c4, rfl⟩ := list5 hlen
      obtain ⟨y0, y1, y2, y3, y4, rfl⟩ := list5 hlen2
      obtain ⟨_, _, hcell⟩ := World.cells?_some h1
      obtain ⟨a0, rfl, w0⟩ := num_of Tryz.underlying5 (hfs 0 _ _ _ rfl rfl rfl)
      obtain ⟨a1, rfl, w1⟩ := num_of Tryz.underlying5 (hfs 1 _ _ _ rfl rfl rfl)
      obtain ⟨a2, rfl, w2⟩ := num_of Tryz.underlying5 (hfs 2 _ _ _ rfl rfl rfl)
      obtain ⟨a3, rfl, w3⟩ := num_of Tryz.underlying23 (hfs 3 _ _ _ rfl rfl rfl)
      obtain ⟨a4, rfl, w4⟩ := num_of Tryz.underlying5 (hfs 4 _ _ _ rfl rfl rfl)
      obtain ⟨b0, q0, rfl⟩ := nat_of_u8 w0
      obtain ⟨b1, q1, rfl⟩ := nat_of_u8 w1
      obtain ⟨b2, q2, rfl⟩ := nat_of_u8 w2
      obtain ⟨b3, q3, rfl⟩ := nat_of_u16 w3
      obtain ⟨b4, q4, rfl⟩ := nat_of_u8 w4
      refine ⟨⟨b0, b1, b2, b3, b4⟩, ⟨q0, q1, q2, q3, q4⟩, fun j hj => ?_⟩
      rw [hcell j hj]
      match j, hj with
      | 0, _ => rfl
      | 1, _ => rfl
      | 2, _ => rfl
      | 3, _ => rfl
      | 4, _ => rfl
    have hind : ∀ n, n ≤ len → ∃ l : List Ac, l.length = n ∧ (∀ a ∈ l, a.Go) ∧ ∀ (i : Nat) (x : Ac), l[i]? = some x → ∀ j (hj : j < 5), W.cell? ((a.add (i * 5)).add j) = some (x.cells[j]'hj) := by
      intro n
      induction n with
      | zero => exact fun _ => ⟨[], rfl, by simp, fun i x hi => by simp at hi⟩
      | succ n ih =>
        intro hn
        obtain ⟨l, h1, h2, h3⟩ := ih (by omega)
        obtain ⟨x, h4, h5⟩ := hact n (by omega)
        refine ⟨l ++ [x], by simp [h1], fun y hy => by simp at hy; rcases hy with hy | rfl; exact h2 y hy; exact h4, fun i y hi j hj => ?_⟩
        by_cases hi2 : i < l.length
        · rw [List.getElem?_append_left hi2] at hi
          exact h3 i y hi j hj
        · rw [List.getElem?_append_right (by omega)] at hi
          obtain rfl : i = n := by have := (List.getElem?_eq_some_iff.1 hi).1; simp at this; omega
          simp [h1] at hi
          subst hi
          exact h5 j hj
    obtain ⟨l, h1, h2, h3⟩ := hind len (Nat.le_refl _)
    subst h1
    refine ⟨some a, l, cap, rfl, fun k hk => ?_, h2, hl, hm⟩
    have h4 := h3 k l[k] (List.getElem?_eq_getElem hk)
    simp only [add_add] at h4
    obtain ⟨b, off, spot⟩ := a
    have hspot : spot = none := by
      have := World.cell?_spot (h3 0 l[0] (List.getElem?_eq_getElem (by omega)) 0 (by decide))
      simpa [Addr.add] using this
    subst hspot
    refine ⟨b, off, rfl, fun j hj => ?_⟩
    rw [← h4 j hj]
    congr 1
    unfold Addr.add
    split <;> simp_all
    omega
end Go.Proofs.YthbbmpelldglmaaGreatDoor
