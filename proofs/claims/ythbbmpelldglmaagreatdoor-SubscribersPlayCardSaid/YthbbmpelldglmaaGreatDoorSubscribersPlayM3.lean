/- Package subscribers: all records in order. -/
import Derived.Test.YthbbmpelldglmaaGreatDoorSubscribersPlayM2
import Derived.Deep.CutBlock
namespace Go.Proofs.YthbbmpelldglmaaGreatDoor
set_option linter.unusedVariables false
set_option linter.unusedSimpArgs false
open Go.RowKit Go.Maps

theorem MapV.look {w : World} {m : Value} {n : Nat} {f : List UInt8 → Option Value} (h : MapV w m n f) {t e : TypeId} (ht : Tryz.prog.underlying t = some (.map 9 e)) {z : Value} (hz : (zeroValue e).run Tryz.prog w = .ok z w) (k : List UInt8) (hl : k.length ≤ maxLen) :
    (Instr.lookup t m (encStr k) false).run Tryz.prog w = .ok ((f k).getD z) w := by
  rcases h with ⟨rfl, h⟩ | ⟨b, rfl, h⟩
  · rw [h k]
    exact Maps.look_nil false (Go.Maps.string_keyed Tryz.underlying9) ht hz (key_str Tryz.underlying9 k hl)
  · exact h.look Tryz.underlying9 ht hz k hl
theorem infoStr : (Tryz.prog.info? 9).map (fun i => (i.zero, i.size, i.bytes)) = some (some (encStr []), 1, 16) := by kernel_rfl
theorem infoHome48 : (Tryz.prog.info? 52).map (fun i => (i.zero, i.size, i.bytes)) = some (some homeZero.val, 6, 48) := by kernel_rfl
theorem infoVisit64 : (Tryz.prog.info? 54).map (fun i => (i.zero, i.size, i.bytes)) = some (some visitZero.val, 6, 64) := by kernel_rfl
theorem info_of {P : Program} {t : TypeId} {z : Value} {s b : Nat} (h : (P.info? t).map (fun i => (i.zero, i.size, i.bytes)) = some (some z, s, b)) : ∃ i, P.info? t = some i ∧ i.zero = some z ∧ i.size = s ∧ i.bytes = b := by
  cases hi : P.info? t with
  | none => rw [hi] at h; simp at h
  | some i => rw [hi] at h; simp at h; exact ⟨i, rfl, h.1, h.2.1, h.2.2⟩
theorem tells_some {α : Type} {f : List UInt8 → Option Value} {l : List α} {kf : α → List UInt8} {vf : α → Value} (h : Tells f l kf vf) (k : List UInt8) : (f k).isSome = true ↔ ∃ x ∈ l, kf x = k := by
  constructor
  · intro h1
    obtain ⟨v, hv⟩ := Option.isSome_iff_exists.1 h1
    obtain ⟨x, hx, e, _⟩ := (h k v).1 hv
    exact ⟨x, hx, e⟩
  · rintro ⟨x, hx, e⟩
    rw [(h k (vf x)).2 ⟨x, hx, e, rfl⟩]
    rfl
theorem rd_cells (w : World) (g : Nat) (cs : Array Value) (E : TypeId) (h : w.heap[g]? = some (.cells cs E (0, 0))) : Rd w (some ⟨g, 0, none⟩) cs.toList := fun k v hv =>
  ⟨_, rfl, by rw [add_lit, cell_of_row w g k cs E (0, 0) h]; simpa using hv⟩
/-- the records of package subscribers in a row -/
def HomeRow (w : World) (B : Nat) (A : Option Addr) (c : Nat) (l : List HomeR) : Prop := Row w B 52 6 A l.length c (l.flatMap fun h => h.cells.toList)
def VisitRow (w : World) (B : Nat) (A : Option Addr) (c : Nat) (l : List VisitR) : Prop := Row w B 54 6 A l.length c (l.flatMap fun h => h.cells.toList)
theorem flatMap_take_snoc {α : Type} (l : List α) (g : α → List Value) (k : Nat) (h : k < l.length) : (l.take (k + 1)).flatMap g = (l.take k).flatMap g ++ g l[k] := by
  rw [List.take_succ_eq_append_getElem h, List.flatMap_append]; simp

set_option maxHeartbeats 400000 in
theorem clipHome_any (A : Option Addr) (n c : Nat) (w : World) (h : n ≤ c) (hc : c ≤ maxLen) :
    Calls Tryz.prog 91 #[.slice A n c] w fun e w' => e = .returned (.slice A n n) ∧ w = w' := by
  unfold maxLen at hc
  go_enter Tryz.func91, Tryz.ntmps91
  go_wp2
  go_ret
  exact ⟨rfl, rfl⟩

set_option maxHeartbeats 4000000 in
set_option maxRecDepth 100000 in
theorem sortedHome_any (w : World) (b n : Nat) (f : List UInt8 → Option Value) (h : MapIs Tryz.prog 9 w b n f) (l : List HomeR) (ht : Tells f l HomeR.id HomeR.val) (hs : l.Pairwise fun a b => a.id < b.id) (hlk : ∀ x ∈ l, x.id.length ≤ maxLen) (hn : n ≤ 100000) :
    Calls Tryz.prog 62 #[.map (some b)] w fun e w' => ∃ A, e = .returned (.slice A l.length l.length) ∧ HomeRow w' w.heap.size A l.length l ∧ Below w.heap.size w w' := by
  obtain ⟨D, hown, hDm, hD⟩ := h
  have hbl := hown.lt
  have hsz : Maps.size D ≤ 100000 := Nat.le_trans hown.size_le hn
  have hlook : ∀ w', Below w.heap.size w w' → ∀ x ∈ l, (Instr.lookup 96 (.map (some b)) (encStr x.id) false).run Tryz.prog w' = .ok x.val w' := fun w' hB x hx => by
    have h2 := (MapIs.chg ⟨D, hown, hDm, hD⟩ (Chg.of_below [] hB) (by simp)).look Tryz.underlying9 Tryz.underlying96 (zeroHomeV w') x.id (hlk x hx)
    rw [(ht x.id x.val).2 ⟨x, hx, rfl, rfl⟩] at h2
    exact h2
  obtain ⟨i0, hi0, hz0, hz1, hz2⟩ := info_of infoStr
  obtain ⟨i1, hi1, hy0, hy1, hy2⟩ := info_of infoHome48
  have HLK := Lib.hid hlook
  have HTS := Lib.hid (tells_some ht)
  have HS := Lib.hid hs
  clear hlook ht hs
  go_enter Tryz.func62, Tryz.ntmps62
  go_wp2_with (first
    | ((with_reducible refine at_dst 9 rfl ?_); refine wpList_len_own _ rfl _ 96 rfl 9 52 Tryz.underlying96 _ b n _ rfl hown ?_)
    | ((with_reducible refine at_dst 10 rfl ?_); refine wpList_make_own _ rfl _ _ 136 rfl w.heap.size 9 i0 (encStr []) 1 Tryz.underlying136 hi0 hz0 hz1 _ _ _ (Maps.size D) rfl rfl rfl (by rw [hz2]; omega) (by simp only [maxLen]; omega) (Nat.le_refl _) ?_; intro w1 hrow1 hg1)
    | ((with_reducible refine at_dst 12 rfl ?_); refine wpList_range_own _ rfl _ 96 rfl 9 52 (string_keyed Tryz.underlying9) Tryz.underlying96 _ b n _ rfl (hown.kept hg1 (by simp)) ?_; intro w0 hrg0 hg0 hs0)
    | fail)
  go_frame
  obtain ⟨A0, c0, ev0, hrow0⟩ := Row.of_own hrow1
  injection ev0 with e1 e2 e3
  subst e1
  subst e3
  have hB1 : Below w.heap.size w w1 := (Below.refl _ _).grown hg1 (Nat.le_refl _) (fun j hj => by cases hj)
  have hB0 : Below w.heap.size w w0 := hB1.grown hg0 hB1.size (fun j hj => by cases hj)
  have hs1 := hg1.size
  go_loopw [3] (fun v wr => ∃ (left : Lit → Bool) (cnt : Nat) (ss : List (List UInt8)) (g c : Nat), wr.ranges Tryz.prog 9 heldR b w1.heap.size n D left cnt ∧ ss.length + cnt ≤ Maps.size D ∧
      v = .slice (some ⟨g, 0, none⟩) ss.length c ∧ Row wr w.heap.size 9 1 (some ⟨g, 0, none⟩) ss.length c (ss.map encStr) ∧ g ≠ w1.heap.size ∧ Collected D left ss ∧ Below w.heap.size w wr)
    (fun _ wr => wr.rangeLeft b w1.heap.size)
  case atStart =>
    have hlt1 : w.heap.size < w1.heap.size := (Row.lt hrow0 _ rfl).2
    exact ⟨_, _, [], w.heap.size, _, hrg0, by simp, rfl, hrow0.kept hg0 (fun _ _ => by simp), by omega, Collected.start D, hB0⟩
  case round =>
    obtain ⟨left, cnt, ss, g, c, hrg, hcs, rfl, hrow, hgne, hC, hBr⟩ := hrel
    go_wp2_with (first
      | ((with_reducible refine at_dst 13 rfl ?_); refine wpList_next_ranges _ rfl _ rfl 9 (string_keyed Tryz.underlying9) heldR encStr id (fun key kl hk => by obtain ⟨x, hx, _⟩ := Maps.keyOf_str Tryz.underlying9 hk; exact ⟨x, hx⟩) (fun v y hv => ⟨v, rfl⟩) b w1.heap.size n _ _ _ rfl hrg ?_ ?_)
      | fail)
    · intro hc0 hl0
      obtain ⟨hkeys, hlen⟩ := sorted_keys hD HTS.out HS.out hC hl0
      have hsort := sort_any wr w.heap.size g c ss hrow (by omega)
      rw [hkeys, hlen] at hsort
      have hle : l.length ≤ 100000 := by omega
      have HSORT := Lib.hid hsort
      have HKEYS := Lib.hid hkeys
      rw [hlen]
      have HHL := Lib.hid hlen
      have HRG := Lib.hid hrg
      have HC := Lib.hid hC
      clear hsort hkeys hlen hcs hrow hrg hC
      go_wp2_with (first
        | (go_at_call 89; (with_reducible refine HSORT.out.mono ?_); rintro e w2 ⟨rfl, hrow2, hg2⟩)
        | ((with_reducible refine at_dst 25 rfl ?_); refine wpList_make_own _ rfl _ _ 30 rfl w2.heap.size 52 i1 homeZero.val 6 Tryz.underlying30 hi1 hy0 hy1 _ _ _ l.length rfl rfl rfl (by rw [hy2]; omega) (by simp only [maxLen]; omega) (Nat.le_refl _) ?_; intro w3 hrow3 hg3)
        | fail)
      obtain ⟨A3, c3, ev3, hrow3'⟩ := Row.of_own hrow3
      injection ev3 with e1 e2 e3
      subst e1
      subst e3
      have hB2 : Below w.heap.size w w2 := hBr.grown hg2 hBr.size (fun j hj => by cases hj; exact (Row.ge hrow2))
      have hB3 : Below w2.heap.size w2 w3 := (Below.refl _ _).grown hg3 (Nat.le_refl _) (fun j hj => by cases hj)
      have hgl : g < w2.heap.size := (Row.lt hrow2 _ rfl).2
      (try go_frame)
      go_loopw [5, 28] (fun ov iv wr2 => ∃ (k c5 : Nat) (A5 : Option Addr), k ≤ l.length ∧ iv = .int .i64 k ∧ ov = .slice A5 k c5 ∧ HomeRow wr2 w2.heap.size A5 c5 (l.take k) ∧ Below w2.heap.size w2 wr2)
        (fun _ iv _ => l.length - (intOf iv).toNat)
      case atStart => exact ⟨0, _, _, Nat.zero_le _, rfl, rfl, hrow3', hB3⟩
      case round =>
        obtain ⟨k, c5, A5, hk, rfl, rfl, hrow5, hB5⟩ := hrel
        by_cases hlt : k < l.length
        · have hkey := (hrow2.below hB5).cell (k := k) (v := encStr l[k].id) (by simp [hlt])
          have hB6 : Below w.heap.size w wr := hB2.trans (hB5.mono hB2.size)
          have hlook := HLK.out wr hB6 l[k] (List.getElem_mem hlt)
          have hsn := flatMap_take_snoc l (fun h => h.cells.toList) k hlt
          have hsn' : (l.take k).length = k := by simp; omega
          unfold HomeRow at hrow5
          rw [hsn'] at hrow5
          have HSN := Lib.hid hsn
          generalize l[k] = x at *
          obtain ⟨id, number, at_, move, barred, waiting⟩ := x
          unfold HomeR.val HomeR.cells at hlook
          simp only at hlook hkey
          clear hsn hsn' HLK HTS HS HC HRG HSORT HKEYS HHL
          go_wp2_with (first
            | ((with_reducible refine at_dst 37 rfl ?_)
               refine wpList_append_row rfl (.tmp 32) (.tmp 36) 30 rfl w2.heap.size 52 _ 6 48 Tryz.underlying30 infoHome48 rfl A5 k c5 _ rfl (Row.alloc hrow5 _) (some ⟨wr.heap.size, 0, none⟩) 1 1 [encStr id, encStr number, .int .u16 (at_ : Int), .int .u32 (move : Int), .bool barred, .bool waiting] rfl
                 (rd_cells _ _ _ _ (heap_alloc_new _ _)) rfl (by intro v hv; simp at hv; rcases hv with rfl | rfl | rfl | rfl | rfl | rfl <;> rfl) (by simp only [maxLen]; omega) (by omega) (by have := hB5.size; simp; omega) ?_
               intro A6 c6 w6 h6 hg6 hA6)
            | fail)
          go_roundw
          case rel =>
            refine ⟨k + 1, c6, A6, by omega, by go_num, rfl, ?_, ?_⟩
            · unfold HomeRow
              rw [HSN.out, show (l.take (k + 1)).length = k + 1 by simp; omega]
              exact h6
            · exact (hB5.alloc hB5.size _).grown hg6 (by have := hB5.size; simp; omega) (fun j hj => (Row.lt hrow5 j hj).1)
          case measure => simp [intOf]; omega
        · obtain rfl : k = l.length := by omega
          rw [List.take_length] at hrow5
          have hcl := fun w' => clipHome_any A5 l.length c5 w' (Row.le hrow5) (Row.cap_le hrow5)
          have HCL := Lib.hid hcl
          clear hcl
          go_wp2_with (first
            | (go_at_call 91; (with_reducible refine (HCL.out _).mono ?_); rintro e w7 ⟨rfl, rfl⟩)
            | fail)
          go_ret
          exact ⟨A5, rfl, (Row.clip hrow5).mono hB2.size, hB2.trans (hB5.mono hB2.size)⟩
    · intro x c2 kl yd yp w2 cnt2 hkey hlk2 hv hat hrg2 hlt hg2 hs2 hen
      obtain ⟨x', ex, rfl, _⟩ := Maps.keyOf_str Tryz.underlying9 hkey
      obtain rfl : x = x' := encStr_inj ex
      have hrow2 := hrow.kept hg2 (fun j hj => by simp at hj; subst hj; simp; omega)
      have hCn := hC.step hlk2 hat
      have HRG := Lib.hid hrg
      have HRG2 := Lib.hid hrg2
      have HCN := Lib.hid hCn
      clear hs2 hrg hrg2 hCn hC hat hv hkey
      have hsz2 := hg2.size
      have hszr := hBr.size
      go_wp2_with (first
        | ((with_reducible refine at_dst 20 rfl ?_)
           refine wpList_append_row rfl (.tmp 17) (.tmp 19) 136 rfl w.heap.size 9 _ 1 16 Tryz.underlying136 infoStr rfl (some ⟨g, 0, none⟩) ss.length c _ rfl (Row.alloc hrow2 _) (some ⟨w2.heap.size, 0, none⟩) 1 1 [encStr x] rfl
             (rd_cells _ _ _ _ (heap_alloc_new _ _)) rfl (by intro v hv; simp at hv; subst hv; rfl) (by simp only [maxLen]; omega) (by omega) (by simp; omega) ?_
           intro A6 c6 w6 h6 hg6 hA6)
        | fail)
      have hgw : g < w2.heap.size := (Row.lt hrow2 _ rfl).2
      obtain ⟨g6, rfl, hg6n⟩ : ∃ g6, A6 = some ⟨g6, 0, none⟩ ∧ g6 ≠ w1.heap.size := by
        rcases hA6 with rfl | rfl
        · exact ⟨g, rfl, hgne⟩
        · have := HRG2.out.lt
          exact ⟨_, rfl, by simp; omega⟩
      have hrg3 := (HRG2.out.alloc (.cells #[encStr x] 9)).kept hg6 (by simp; have := (Row.ge hrow2); omega) (by simp; omega)
      go_roundw
      case rel =>
        refine ⟨_, cnt2, ss ++ [x], g6, c6, hrg3, by simp; omega, by simp, ?_, hg6n, HCN.out, ?_⟩
        · simpa using h6
        · exact ((hBr.grown hg2 hBr.size (fun j hj => by cases hj; omega)).alloc (by omega) _).grown hg6 (by simp; omega) (fun j hj => by simp at hj; subst hj; exact Row.ge hrow2)
      case measure => rw [hrg3.left_eq, HRG.out.left_eq]; exact hlt

set_option maxHeartbeats 4000000 in
set_option maxRecDepth 100000 in
/-- a nil map has no records -/
theorem sortedHome_nil (w : World) :
    Calls Tryz.prog 62 #[.map none] w fun e w' => ∃ A, e = .returned (.slice A 0 0) ∧ HomeRow w' w.heap.size A 0 [] ∧ Below w.heap.size w w' := by
  obtain ⟨i0, hi0, hz0, hz1, hz2⟩ := info_of infoStr
  obtain ⟨i1, hi1, hy0, hy1, hy2⟩ := info_of infoHome48
  go_enter Tryz.func62, Tryz.ntmps62
  go_wp2_with (first
    | ((with_reducible refine at_dst 10 rfl ?_); refine wpList_make_own _ rfl _ _ 136 rfl w.heap.size 9 i0 (encStr []) 1 Tryz.underlying136 hi0 hz0 hz1 _ _ _ 0 rfl rfl rfl (by omega) (by simp only [maxLen]; omega) (Nat.le_refl _) ?_; intro w1 hrow1 hg1
       have hrg := run_range_nilMap (P := Tryz.prog) w1 96 9 52 Tryz.underlying96
       have hnx : ∀ ty, (Instr.next (.pointer (some ⟨w1.heap.size, 0, none⟩)) false ty).run Tryz.prog (w1.alloc (.mapIter none 0 #[] 0)) = _ := fun ty => run_next_nilMap _ ty 0 0 #[])
    | fail)
  obtain ⟨A0, c0, ev0, hrow0⟩ := Row.of_own hrow1
  injection ev0 with e1 e2 e3
  subst e1
  subst e3
  have hB1 : Below w.heap.size w (w1.alloc (.mapIter none 0 #[] 0)) := ((Below.refl _ _).grown hg1 (Nat.le_refl _) (fun j hj => by cases hj)).alloc hg1.size _
  have hsort := sort_any (w1.alloc (.mapIter none 0 #[] 0)) w.heap.size w.heap.size 0 [] (Row.alloc hrow0 _) (by simp)
  simp only [List.length_nil] at hsort
  have HSORT := Lib.hid hsort
  clear hsort
  refine wp_loop_rounds 1 ?_
  rw [rounds_succ]
  go_wp2_with (first
    | (go_at_call 89; (with_reducible refine HSORT.out.mono ?_); rintro e w2 ⟨rfl, hrow2, hg2⟩)
    | ((with_reducible refine at_dst 25 rfl ?_); refine wpList_make_own _ rfl _ _ 30 rfl w.heap.size 52 i1 homeZero.val 6 Tryz.underlying30 hi1 hy0 hy1 _ _ _ 0 rfl rfl rfl (by omega) (by simp only [maxLen]; omega) (by have := hg2.size; have := hB1.size; omega) ?_; intro w3 hrow3 hg3)
    | fail)
  obtain ⟨A3, c3, ev3, hrow3'⟩ := Row.of_own hrow3
  injection ev3 with e1 e2 e3
  subst e1
  subst e3
  have hB2 : Below w.heap.size w w2 := hB1.grown hg2 hB1.size (fun j hj => by cases hj; exact Nat.le_refl _)
  have hB3 : Below w.heap.size w w3 := hB2.grown hg3 hB2.size (fun j hj => by cases hj)
  have hcl := fun w' => clipHome_any (some ⟨w2.heap.size, 0, none⟩) 0 0 w' (Nat.le_refl _) (Nat.zero_le _)
  have HCL := Lib.hid hcl
  clear hcl
  refine wp_loop_rounds 1 ?_
  rw [rounds_succ]
  go_wp2_with (first
    | (go_at_call 91; (with_reducible refine (HCL.out _).mono ?_); rintro e w7 ⟨rfl, rfl⟩)
    | fail)
  go_ret
  exact ⟨_, rfl, hrow3', hB3⟩

/-- 'Homes' -/
theorem storeHomes_any (w : World) (g : Nat) (F : List Nat) (S : St) (h : StAt w g F S) (hf : S.Fit) (hp : S.puts ≤ 100000) :
    Calls Tryz.prog 37 #[.pointer (some ⟨g, 0, none⟩)] w fun e w' => ∃ A, e = .returned (.slice A S.homes.length S.homes.length) ∧ HomeRow w' w.heap.size A S.homes.length S.homes ∧ Below w.heap.size w w' := by
  rcases h with ⟨b1, b2, b3, b4, A, c, rfl, h⟩ | ⟨A, c, rfl, h⟩
  · obtain ⟨f1, m1, t1⟩ := h.maps.homes
    have k0 : w.cell? ⟨g, 0, none⟩ = some (.map (some b1)) := stObj_cell h.obj 0
    have hs := sortedHome_any w b1 S.puts f1 m1 S.homes t1 hf.hs (fun x hx => by have := (HomeR.ok_len (hf.hok x hx).1).1; unfold maxLen; omega) hp
    have HS := Lib.hid hs
    clear hs h m1 t1 hf
    go_enter Tryz.func37, Tryz.ntmps37
    go_wp2_with (first
      | (go_at_call 62; (with_reducible refine HS.out.mono ?_); rintro e w7 ⟨A7, rfl, h7, hB7⟩)
      | fail)
    go_ret
    exact ⟨_, rfl, h7, hB7⟩
  · have k0 : w.cell? ⟨g, 0, none⟩ = some (.map none) := stObj_cell h.obj 0
    have hs := sortedHome_nil w
    have HS := Lib.hid hs
    rw [h.homes]
    clear hs h hf
    go_enter Tryz.func37, Tryz.ntmps37
    go_wp2_with (first
      | (go_at_call 62; (with_reducible refine HS.out.mono ?_); rintro e w7 ⟨A7, rfl, h7, hB7⟩)
      | fail)
    go_ret
    exact ⟨_, rfl, h7, hB7⟩

set_option maxHeartbeats 400000 in
theorem clipVisit_any (A : Option Addr) (n c : Nat) (w : World) (h : n ≤ c) (hc : c ≤ maxLen) :
    Calls Tryz.prog 92 #[.slice A n c] w fun e w' => e = .returned (.slice A n n) ∧ w = w' := by
  unfold maxLen at hc
  go_enter Tryz.func92, Tryz.ntmps92
  go_wp2
  go_ret
  exact ⟨rfl, rfl⟩

set_option maxHeartbeats 4000000 in
set_option maxRecDepth 100000 in
theorem sortedVisit_any (w : World) (b n : Nat) (f : List UInt8 → Option Value) (h : MapIs Tryz.prog 9 w b n f) (l : List VisitR) (ht : Tells f l VisitR.id VisitR.val) (hs : l.Pairwise fun a b => a.id < b.id) (hlk : ∀ x ∈ l, x.id.length ≤ maxLen) (hn : n ≤ 100000) :
    Calls Tryz.prog 63 #[.map (some b)] w fun e w' => ∃ A, e = .returned (.slice A l.length l.length) ∧ VisitRow w' w.heap.size A l.length l ∧ Below w.heap.size w w' := by
  obtain ⟨D, hown, hDm, hD⟩ := h
  have hbl := hown.lt
  have hsz : Maps.size D ≤ 100000 := Nat.le_trans hown.size_le hn
  have hlook : ∀ w', Below w.heap.size w w' → ∀ x ∈ l, (Instr.lookup 97 (.map (some b)) (encStr x.id) false).run Tryz.prog w' = .ok x.val w' := fun w' hB x hx => by
    have h2 := (MapIs.chg ⟨D, hown, hDm, hD⟩ (Chg.of_below [] hB) (by simp)).look Tryz.underlying9 Tryz.underlying97 (zeroVisitV w') x.id (hlk x hx)
    rw [(ht x.id x.val).2 ⟨x, hx, rfl, rfl⟩] at h2
    exact h2
  obtain ⟨i0, hi0, hz0, hz1, hz2⟩ := info_of infoStr
  obtain ⟨i1, hi1, hy0, hy1, hy2⟩ := info_of infoVisit64
  have HLK := Lib.hid hlook
  have HTS := Lib.hid (tells_some ht)
  have HS := Lib.hid hs
  clear hlook ht hs
  go_enter Tryz.func63, Tryz.ntmps63
  go_wp2_with (first
    | ((with_reducible refine at_dst 9 rfl ?_); refine wpList_len_own _ rfl _ 97 rfl 9 54 Tryz.underlying97 _ b n _ rfl hown ?_)
    | ((with_reducible refine at_dst 10 rfl ?_); refine wpList_make_own _ rfl _ _ 136 rfl w.heap.size 9 i0 (encStr []) 1 Tryz.underlying136 hi0 hz0 hz1 _ _ _ (Maps.size D) rfl rfl rfl (by rw [hz2]; omega) (by simp only [maxLen]; omega) (Nat.le_refl _) ?_; intro w1 hrow1 hg1)
    | ((with_reducible refine at_dst 12 rfl ?_); refine wpList_range_own _ rfl _ 97 rfl 9 54 (string_keyed Tryz.underlying9) Tryz.underlying97 _ b n _ rfl (hown.kept hg1 (by simp)) ?_; intro w0 hrg0 hg0 hs0)
    | fail)
  go_frame
  obtain ⟨A0, c0, ev0, hrow0⟩ := Row.of_own hrow1
  injection ev0 with e1 e2 e3
  subst e1
  subst e3
  have hB1 : Below w.heap.size w w1 := (Below.refl _ _).grown hg1 (Nat.le_refl _) (fun j hj => by cases hj)
  have hB0 : Below w.heap.size w w0 := hB1.grown hg0 hB1.size (fun j hj => by cases hj)
  have hs1 := hg1.size
  go_loopw [3] (fun v wr => ∃ (left : Lit → Bool) (cnt : Nat) (ss : List (List UInt8)) (g c : Nat), wr.ranges Tryz.prog 9 heldR b w1.heap.size n D left cnt ∧ ss.length + cnt ≤ Maps.size D ∧
      v = .slice (some ⟨g, 0, none⟩) ss.length c ∧ Row wr w.heap.size 9 1 (some ⟨g, 0, none⟩) ss.length c (ss.map encStr) ∧ g ≠ w1.heap.size ∧ Collected D left ss ∧ Below w.heap.size w wr)
    (fun _ wr => wr.rangeLeft b w1.heap.size)
  case atStart =>
    have hlt1 : w.heap.size < w1.heap.size := (Row.lt hrow0 _ rfl).2
    exact ⟨_, _, [], w.heap.size, _, hrg0, by simp, rfl, hrow0.kept hg0 (fun _ _ => by simp), by omega, Collected.start D, hB0⟩
  case round =>
    obtain ⟨left, cnt, ss, g, c, hrg, hcs, rfl, hrow, hgne, hC, hBr⟩ := hrel
    go_wp2_with (first
      | ((with_reducible refine at_dst 13 rfl ?_); refine wpList_next_ranges _ rfl _ rfl 9 (string_keyed Tryz.underlying9) heldR encStr id (fun key kl hk => by obtain ⟨x, hx, _⟩ := Maps.keyOf_str Tryz.underlying9 hk; exact ⟨x, hx⟩) (fun v y hv => ⟨v, rfl⟩) b w1.heap.size n _ _ _ rfl hrg ?_ ?_)
      | fail)
    · intro hc0 hl0
      obtain ⟨hkeys, hlen⟩ := sorted_keys hD HTS.out HS.out hC hl0
      have hsort := sort_any wr w.heap.size g c ss hrow (by omega)
      rw [hkeys, hlen] at hsort
      have hle : l.length ≤ 100000 := by omega
      have HSORT := Lib.hid hsort
      have HKEYS := Lib.hid hkeys
      rw [hlen]
      have HHL := Lib.hid hlen
      have HRG := Lib.hid hrg
      have HC := Lib.hid hC
      clear hsort hkeys hlen hcs hrow hrg hC
      go_wp2_with (first
        | (go_at_call 89; (with_reducible refine HSORT.out.mono ?_); rintro e w2 ⟨rfl, hrow2, hg2⟩)
        | ((with_reducible refine at_dst 25 rfl ?_); refine wpList_make_own _ rfl _ _ 31 rfl w2.heap.size 54 i1 visitZero.val 6 Tryz.underlying31 hi1 hy0 hy1 _ _ _ l.length rfl rfl rfl (by rw [hy2]; omega) (by simp only [maxLen]; omega) (Nat.le_refl _) ?_; intro w3 hrow3 hg3)
        | fail)
      obtain ⟨A3, c3, ev3, hrow3'⟩ := Row.of_own hrow3
      injection ev3 with e1 e2 e3
      subst e1
      subst e3
      have hB2 : Below w.heap.size w w2 := hBr.grown hg2 hBr.size (fun j hj => by cases hj; exact (Row.ge hrow2))
      have hB3 : Below w2.heap.size w2 w3 := (Below.refl _ _).grown hg3 (Nat.le_refl _) (fun j hj => by cases hj)
      have hgl : g < w2.heap.size := (Row.lt hrow2 _ rfl).2
      (try go_frame)
      go_loopw [5, 28] (fun ov iv wr2 => ∃ (k c5 : Nat) (A5 : Option Addr), k ≤ l.length ∧ iv = .int .i64 k ∧ ov = .slice A5 k c5 ∧ VisitRow wr2 w2.heap.size A5 c5 (l.take k) ∧ Below w2.heap.size w2 wr2)
        (fun _ iv _ => l.length - (intOf iv).toNat)
      case atStart => exact ⟨0, _, _, Nat.zero_le _, rfl, rfl, hrow3', hB3⟩
      case round =>
        obtain ⟨k, c5, A5, hk, rfl, rfl, hrow5, hB5⟩ := hrel
        by_cases hlt : k < l.length
        · have hkey := (hrow2.below hB5).cell (k := k) (v := encStr l[k].id) (by simp [hlt])
          have hB6 : Below w.heap.size w wr := hB2.trans (hB5.mono hB2.size)
          have hlook := HLK.out wr hB6 l[k] (List.getElem_mem hlt)
          have hsn := flatMap_take_snoc l (fun h => h.cells.toList) k hlt
          have hsn' : (l.take k).length = k := by simp; omega
          unfold VisitRow at hrow5
          rw [hsn'] at hrow5
          have HSN := Lib.hid hsn
          generalize l[k] = x at *
          obtain ⟨id, number, home, move, area, roam⟩ := x
          unfold VisitR.val VisitR.cells at hlook
          simp only at hlook hkey
          clear hsn hsn' HLK HTS HS HC HRG HSORT HKEYS HHL
          go_wp2_with (first
            | ((with_reducible refine at_dst 37 rfl ?_)
               refine wpList_append_row rfl (.tmp 32) (.tmp 36) 31 rfl w2.heap.size 54 _ 6 64 Tryz.underlying31 infoVisit64 rfl A5 k c5 _ rfl (Row.alloc hrow5 _) (some ⟨wr.heap.size, 0, none⟩) 1 1 [encStr id, encStr number, .int .u16 (home : Int), .int .u32 (move : Int), .int .u16 (area : Int), encStr roam] rfl
                 (rd_cells _ _ _ _ (heap_alloc_new _ _)) rfl (by intro v hv; simp at hv; rcases hv with rfl | rfl | rfl | rfl | rfl | rfl <;> rfl) (by simp only [maxLen]; omega) (by omega) (by have := hB5.size; simp; omega) ?_
               intro A6 c6 w6 h6 hg6 hA6)
            | fail)
          go_roundw
          case rel =>
            refine ⟨k + 1, c6, A6, by omega, by go_num, rfl, ?_, ?_⟩
            · unfold VisitRow
              rw [HSN.out, show (l.take (k + 1)).length = k + 1 by simp; omega]
              exact h6
            · exact (hB5.alloc hB5.size _).grown hg6 (by have := hB5.size; simp; omega) (fun j hj => (Row.lt hrow5 j hj).1)
          case measure => simp [intOf]; omega
        · obtain rfl : k = l.length := by omega
          rw [List.take_length] at hrow5
          have hcl := fun w' => clipVisit_any A5 l.length c5 w' (Row.le hrow5) (Row.cap_le hrow5)
          have HCL := Lib.hid hcl
          clear hcl
          go_wp2_with (first
            | (go_at_call 92; (with_reducible refine (HCL.out _).mono ?_); rintro e w7 ⟨rfl, rfl⟩)
            | fail)
          go_ret
          exact ⟨A5, rfl, (Row.clip hrow5).mono hB2.size, hB2.trans (hB5.mono hB2.size)⟩
    · intro x c2 kl yd yp w2 cnt2 hkey hlk2 hv hat hrg2 hlt hg2 hs2 hen
      obtain ⟨x', ex, rfl, _⟩ := Maps.keyOf_str Tryz.underlying9 hkey
      obtain rfl : x = x' := encStr_inj ex
      have hrow2 := hrow.kept hg2 (fun j hj => by simp at hj; subst hj; simp; omega)
      have hCn := hC.step hlk2 hat
      have HRG := Lib.hid hrg
      have HRG2 := Lib.hid hrg2
      have HCN := Lib.hid hCn
      clear hs2 hrg hrg2 hCn hC hat hv hkey
      have hsz2 := hg2.size
      have hszr := hBr.size
      go_wp2_with (first
        | ((with_reducible refine at_dst 20 rfl ?_)
           refine wpList_append_row rfl (.tmp 17) (.tmp 19) 136 rfl w.heap.size 9 _ 1 16 Tryz.underlying136 infoStr rfl (some ⟨g, 0, none⟩) ss.length c _ rfl (Row.alloc hrow2 _) (some ⟨w2.heap.size, 0, none⟩) 1 1 [encStr x] rfl
             (rd_cells _ _ _ _ (heap_alloc_new _ _)) rfl (by intro v hv; simp at hv; subst hv; rfl) (by simp only [maxLen]; omega) (by omega) (by simp; omega) ?_
           intro A6 c6 w6 h6 hg6 hA6)
        | fail)
      have hgw : g < w2.heap.size := (Row.lt hrow2 _ rfl).2
      obtain ⟨g6, rfl, hg6n⟩ : ∃ g6, A6 = some ⟨g6, 0, none⟩ ∧ g6 ≠ w1.heap.size := by
        rcases hA6 with rfl | rfl
        · exact ⟨g, rfl, hgne⟩
        · have := HRG2.out.lt
          exact ⟨_, rfl, by simp; omega⟩
      have hrg3 := (HRG2.out.alloc (.cells #[encStr x] 9)).kept hg6 (by simp; have := (Row.ge hrow2); omega) (by simp; omega)
      go_roundw
      case rel =>
        refine ⟨_, cnt2, ss ++ [x], g6, c6, hrg3, by simp; omega, by simp, ?_, hg6n, HCN.out, ?_⟩
        · simpa using h6
        · exact ((hBr.grown hg2 hBr.size (fun j hj => by cases hj; omega)).alloc (by omega) _).grown hg6 (by simp; omega) (fun j hj => by simp at hj; subst hj; exact Row.ge hrow2)
      case measure => rw [hrg3.left_eq, HRG.out.left_eq]; exact hlt

set_option maxHeartbeats 4000000 in
set_option maxRecDepth 100000 in
/-- a nil map has no records -/
theorem sortedVisit_nil (w : World) :
    Calls Tryz.prog 63 #[.map none] w fun e w' => ∃ A, e = .returned (.slice A 0 0) ∧ VisitRow w' w.heap.size A 0 [] ∧ Below w.heap.size w w' := by
  obtain ⟨i0, hi0, hz0, hz1, hz2⟩ := info_of infoStr
  obtain ⟨i1, hi1, hy0, hy1, hy2⟩ := info_of infoVisit64
  go_enter Tryz.func63, Tryz.ntmps63
  go_wp2_with (first
    | ((with_reducible refine at_dst 10 rfl ?_); refine wpList_make_own _ rfl _ _ 136 rfl w.heap.size 9 i0 (encStr []) 1 Tryz.underlying136 hi0 hz0 hz1 _ _ _ 0 rfl rfl rfl (by omega) (by simp only [maxLen]; omega) (Nat.le_refl _) ?_; intro w1 hrow1 hg1
       have hrg := run_range_nilMap (P := Tryz.prog) w1 97 9 54 Tryz.underlying97
       have hnx : ∀ ty, (Instr.next (.pointer (some ⟨w1.heap.size, 0, none⟩)) false ty).run Tryz.prog (w1.alloc (.mapIter none 0 #[] 0)) = _ := fun ty => run_next_nilMap _ ty 0 0 #[])
    | fail)
  obtain ⟨A0, c0, ev0, hrow0⟩ := Row.of_own hrow1
  injection ev0 with e1 e2 e3
  subst e1
  subst e3
  have hB1 : Below w.heap.size w (w1.alloc (.mapIter none 0 #[] 0)) := ((Below.refl _ _).grown hg1 (Nat.le_refl _) (fun j hj => by cases hj)).alloc hg1.size _
  have hsort := sort_any (w1.alloc (.mapIter none 0 #[] 0)) w.heap.size w.heap.size 0 [] (Row.alloc hrow0 _) (by simp)
  simp only [List.length_nil] at hsort
  have HSORT := Lib.hid hsort
  clear hsort
  refine wp_loop_rounds 1 ?_
  rw [rounds_succ]
  go_wp2_with (first
    | (go_at_call 89; (with_reducible refine HSORT.out.mono ?_); rintro e w2 ⟨rfl, hrow2, hg2⟩)
    | ((with_reducible refine at_dst 25 rfl ?_); refine wpList_make_own _ rfl _ _ 31 rfl w.heap.size 54 i1 visitZero.val 6 Tryz.underlying31 hi1 hy0 hy1 _ _ _ 0 rfl rfl rfl (by omega) (by simp only [maxLen]; omega) (by have := hg2.size; have := hB1.size; omega) ?_; intro w3 hrow3 hg3)
    | fail)
  obtain ⟨A3, c3, ev3, hrow3'⟩ := Row.of_own hrow3
  injection ev3 with e1 e2 e3
  subst e1
  subst e3
  have hB2 : Below w.heap.size w w2 := hB1.grown hg2 hB1.size (fun j hj => by cases hj; exact Nat.le_refl _)
  have hB3 : Below w.heap.size w w3 := hB2.grown hg3 hB2.size (fun j hj => by cases hj)
  have hcl := fun w' => clipVisit_any (some ⟨w2.heap.size, 0, none⟩) 0 0 w' (Nat.le_refl _) (Nat.zero_le _)
  have HCL := Lib.hid hcl
  clear hcl
  refine wp_loop_rounds 1 ?_
  rw [rounds_succ]
  go_wp2_with (first
    | (go_at_call 92; (with_reducible refine (HCL.out _).mono ?_); rintro e w7 ⟨rfl, rfl⟩)
    | fail)
  go_ret
  exact ⟨_, rfl, hrow3', hB3⟩

/-- 'Visits' -/
theorem storeVisits_any (w : World) (g : Nat) (F : List Nat) (S : St) (h : StAt w g F S) (hf : S.Fit) (hp : S.puts ≤ 100000) :
    Calls Tryz.prog 38 #[.pointer (some ⟨g, 0, none⟩)] w fun e w' => ∃ A, e = .returned (.slice A S.visits.length S.visits.length) ∧ VisitRow w' w.heap.size A S.visits.length S.visits ∧ Below w.heap.size w w' := by
  rcases h with ⟨b1, b2, b3, b4, A, c, rfl, h⟩ | ⟨A, c, rfl, h⟩
  · obtain ⟨f1, m1, t1⟩ := h.maps.visits
    have k0 : w.cell? ⟨g, 1, none⟩ = some (.map (some b2)) := stObj_cell h.obj 1
    have hs := sortedVisit_any w b2 S.puts f1 m1 S.visits t1 hf.vs (fun x hx => by have := (VisitR.ok_len (hf.vok x hx).1).1; unfold maxLen; omega) hp
    have HS := Lib.hid hs
    clear hs h m1 t1 hf
    go_enter Tryz.func38, Tryz.ntmps38
    go_wp2_with (first
      | (go_at_call 63; (with_reducible refine HS.out.mono ?_); rintro e w7 ⟨A7, rfl, h7, hB7⟩)
      | fail)
    go_ret
    exact ⟨_, rfl, h7, hB7⟩
  · have k0 : w.cell? ⟨g, 1, none⟩ = some (.map none) := stObj_cell h.obj 1
    have hs := sortedVisit_nil w
    have HS := Lib.hid hs
    rw [h.visits]
    clear hs h hf
    go_enter Tryz.func38, Tryz.ntmps38
    go_wp2_with (first
      | (go_at_call 63; (with_reducible refine HS.out.mono ?_); rintro e w7 ⟨A7, rfl, h7, hB7⟩)
      | fail)
    go_ret
    exact ⟨_, rfl, h7, hB7⟩

end Go.Proofs.YthbbmpelldglmaaGreatDoor
/- Package subscribers: the reader of an entry's fields. -/
namespace Go.Proofs.YthbbmpelldglmaaGreatDoor
set_option linter.unusedVariables false
set_option linter.unusedSimpArgs false
open Go.RowKit

/-- what a reader has before it -/
structure Rdr where
  rest : List UInt8
  bad : Bool
def Rdr.take (r : Rdr) (n : Nat) : List UInt8 := if r.rest.length < n then List.replicate n 0 else r.rest.take n
def Rdr.after (r : Rdr) (n : Nat) : Rdr := if r.rest.length < n then ⟨r.rest, true⟩ else ⟨r.rest.drop n, r.bad⟩
theorem Rdr.take_len (r : Rdr) (n : Nat) : (r.take n).length = n := by unfold Rdr.take; split <;> simp <;> omega
def Rdr.byte (r : Rdr) : UInt8 := (r.take 1).getD 0 0
def Rdr.text (r : Rdr) : List UInt8 := (r.after 1).take r.byte.toNat
def Rdr.afterText (r : Rdr) : Rdr := (r.after 1).after r.byte.toNat
def Rdr.pair (r : Rdr) : Nat := ((r.take 2).getD 0 0).toNat + 256 * ((r.take 2).getD 1 0).toNat
def Rdr.afterPair (r : Rdr) : Rdr := r.after 2
def Rdr.long (r : Rdr) : Nat := r.pair + 65536 * r.afterPair.pair
def Rdr.afterLong (r : Rdr) : Rdr := r.afterPair.afterPair
theorem Rdr.pair_lt (r : Rdr) : r.pair < 65536 := by
  have h1 := ((r.take 2).getD 0 0).toNat_lt
  have h2 := ((r.take 2).getD 1 0).toNat_lt
  unfold Rdr.pair; omega
theorem Rdr.long_lt (r : Rdr) : r.long < 4294967296 := by have := r.pair_lt; have := r.afterPair.pair_lt; unfold Rdr.long; omega
theorem Rdr.text_len (r : Rdr) : r.text.length ≤ 255 := by
  unfold Rdr.text; rw [Rdr.take_len]
  have := r.byte.toNat_lt
  omega

def rdObj (A : Option Addr) (n c : Nat) (bad : Bool) : Obj := .cells #[.slice A n c, .bool bad] 155 (0, 0)
/-- the reader at block g -/
def RdrAt (w : World) (g : Nat) (r : Rdr) : Prop :=
  ∃ A c, w.heap[g]? = some (rdObj A r.rest.length c r.bad) ∧ RdB w A r.rest ∧ r.rest.length ≤ c ∧ c ≤ 9223372036854775807 ∧ (∀ ad, A = some ad → ad.block < g)
theorem rdObj_cell {w : World} {g n c : Nat} {A : Option Addr} {bad : Bool} (h : w.heap[g]? = some (rdObj A n c bad)) (k : Nat) : w.cell? ⟨g, k, none⟩ = #[.slice A n c, .bool bad][k]? := Go.Joins.cell_of_block h k
theorem rdObj_free {w : World} {g n c : Nat} {A : Option Addr} {bad : Bool} (h : w.heap[g]? = some (rdObj A n c bad)) (k : Nat) : w.frozen? ⟨g, k, none⟩ = false := Go.Joins.unfrozen_of_block h k
theorem RdrAt.lt {w : World} {g : Nat} {r : Rdr} (h : RdrAt w g r) : g < w.heap.size := by
  obtain ⟨A, c, h, _⟩ := h
  exact (Array.getElem?_eq_some_iff.1 h).1
theorem RdrAt.chg {w w' : World} {F : List Nat} {g : Nat} {r : Rdr} (h : RdrAt w g r) (hc : Chg F w w') (hF : ∀ i ∈ F, g < i) : RdrAt w' g r := by
  obtain ⟨A, c, h, h1, h2, h3, h4⟩ := h
  exact ⟨A, c, hc.heap h (fun hi => by have := hF g hi; omega), RdB.chg h1 hc (fun ad e hi => by have := hF _ hi; have := h4 ad e; omega), h2, h3, h4⟩
theorem RdrAt.below {w w' : World} {g : Nat} {r : Rdr} (h : RdrAt w g r) (hb : Below w.heap.size w w') : RdrAt w' g r := h.chg (Chg.of_below [] hb) (by simp)
theorem rd_none {w : World} {l : List UInt8} (h : RdB w none l) : l = [] := by
  cases l with
  | nil => rfl
  | cons b l => obtain ⟨ad, h, _⟩ := h 0 (byteV b) rfl; cases h
theorem addr0 (ad : Addr) : ad.add 0 = ad := by unfold Addr.add; split <;> simp_all
theorem addr1 (ad : Addr) : ad.add 1 = ⟨ad.block, ad.off + 1, none⟩ := by unfold Addr.add; split <;> simp_all
theorem getD_rd {w : World} {A : Option Addr} {l : List UInt8} (h : RdB w A l) {k : Nat} (hk : k < l.length) : ∃ ad, A = some ad ∧ w.cell? (ad.add k) = some (.int .u8 ((l.getD k 0).toNat : Int)) := by
  obtain ⟨ad, e, hc⟩ := h.get hk
  exact ⟨ad, e, by rw [hc, List.getD_eq_getElem?_getD, List.getElem?_eq_getElem hk]; rfl⟩

theorem or_lift (x y k : Nat) (h : x < 2 ^ k) : x ||| (y * 2 ^ k) = x + 2 ^ k * y := by
  rw [Nat.mul_comm, Nat.or_comm, ← Nat.two_pow_add_eq_or_of_lt h, Nat.add_comm]
theorem or_u32 (a b : Nat) (ha : a < 4294967296) (hb : b < 4294967296) : bits .or .u32 a b = ((a ||| b : Nat) : Int) :=
  (bits_nat .u32 32 (by decide) (fun n h0 h1 => by simp [IntKind.wrap, IntKind.bits, IntKind.signed]; omega) a b ha hb).2

set_option maxHeartbeats 1000000 in
set_option maxRecDepth 100000 in
theorem take_any (w : World) (g : Nat) (r : Rdr) (n : Nat) (h : RdrAt w g r) (hn : n ≤ 255) :
    Calls Tryz.prog 82 #[.pointer (some ⟨g, 0, none⟩), .int .i64 (n : Int)] w fun e w' => ∃ A' c', e = .returned (.slice A' n c') ∧ RdB w' A' (r.take n) ∧ n ≤ c' ∧ RdrAt w' g (r.after n) ∧ Chg [g] w w' := by
  obtain ⟨A, c, ho, hr, hc, hcm, hap⟩ := h
  have hgl : g < w.heap.size := (Array.getElem?_eq_some_iff.1 ho).1
  have k0 : w.cell? ⟨g, 0, none⟩ = some (.slice A r.rest.length c) := rdObj_cell ho 0
  have HO := Lib.hid ho
  clear ho
  unfold Rdr.take Rdr.after
  by_cases hlt : r.rest.length < n
  · rw [if_pos hlt, if_pos hlt]
    have q1 : (r.rest.length : Int) < (n : Int) := by omega
    have f1 := rdObj_free HO.out 1
    have k1 : w.cell? ⟨g, 1, none⟩ = some (.bool r.bad) := rdObj_cell HO.out 1
    have HLT := Lib.hid hlt
    clear hlt
    go_enter Tryz.func82, Tryz.ntmps82
    go_wp2_with (first
      | ((with_reducible refine at_dst 17 rfl ?_)
         refine make_bytes rfl (.tmp 16) (.tmp 16) rfl .i64 .i64 n n n rfl rfl rfl rfl (by omega) ?_
         intro w1 h1 hB1)
      | fail)
    go_ret
    have hset : Chg [g] w (w.setCell ⟨g, 1, none⟩ (.bool true)) := (Chg.refl _ _).setCell (by simp) _
    have ho2 : (w.setCell ⟨g, 1, none⟩ (.bool true)).heap[g]? = some (rdObj A r.rest.length c true) := Go.Joins.block_setCell (i := 1) HO.out _
    refine ⟨some ⟨w.heap.size, 0, none⟩, n, rfl, RowB.rd (by simpa [World.setCell] using h1), Nat.le_refl _, ?_, hset.then_ (Chg.of_below _ hB1)⟩
    exact RdrAt.below ⟨A, c, ho2, Rd.setCell hr (p := ⟨g, 1, none⟩) (fun ad e => Nat.ne_of_lt (hap ad e)) _, hc, hcm, hap⟩ hB1
  · rw [if_neg hlt, if_neg hlt]
    have q1 : ¬ (r.rest.length : Int) < (n : Int) := by omega
    have q2 : (0 : Int) ≤ (n : Int) := by omega
    have q3 : (n : Int) ≤ (c : Int) := by omega
    have q4 : (n : Int) ≤ (r.rest.length : Int) := by omega
    have f0 := rdObj_free HO.out 0
    have hle : n ≤ r.rest.length := by omega
    have HLE := Lib.hid hle
    clear hlt hle
    cases A with
    | none =>
      have e0 := rd_none hr
      have hn0 : n = 0 := by have := HLE.out; rw [e0] at this; simpa using this
      subst hn0
      go_enter Tryz.func82, Tryz.ntmps82
      go_wp2
      go_ret
      have hset : Chg [g] w (w.setCell ⟨g, 0, none⟩ (.slice none 0 c)) := (Chg.refl _ _).setCell (by simp) _
      have ho2 : (w.setCell ⟨g, 0, none⟩ (.slice none 0 c)).heap[g]? = some (rdObj none 0 c r.bad) := Go.Joins.block_setCell (i := 0) HO.out _
      exact ⟨none, ⟨c, rfl⟩, RdB.nil _ _, ⟨none, c, ho2, RdB.nil _ _, Nat.zero_le _, hcm, fun _ h => by cases h⟩, hset⟩
    | some ad =>
      have hadl : ad.block < g := hap ad rfl
      have hadg : ad.block ≠ g := Nat.ne_of_lt hadl
      go_enter Tryz.func82, Tryz.ntmps82
      go_wp2
      · subst_vars
        have hl0 : r.rest.length - c = 0 := by have := HLE.out; omega
        have hd0 : r.rest.drop c = [] := List.eq_nil_of_length_eq_zero (by rw [List.length_drop]; exact hl0)
        rw [hl0, hd0]
        go_ret
        have hset : Chg [g] w (w.setCell ⟨g, 0, none⟩ (.slice (some ad) 0 0)) := (Chg.refl _ _).setCell (by simp) _
        have ho2 : (w.setCell ⟨g, 0, none⟩ (.slice (some ad) 0 0)).heap[g]? = some (rdObj (some ad) 0 0 r.bad) := Go.Joins.block_setCell (i := 0) HO.out _
        exact ⟨_, _, rfl, (RdB.take hr c).setCell (p := ⟨g, 0, none⟩) (fun a e => by cases e; exact hadg) _, Nat.le_refl _, ⟨some ad, 0, ho2, RdB.nil _ _, Nat.le_refl _, Nat.zero_le _, fun a e => by cases e; exact hadl⟩, hset⟩
      · go_ret
        have hset : Chg [g] w (w.setCell ⟨g, 0, none⟩ (.slice (some (ad.add n)) (r.rest.length - n) (c - n))) := (Chg.refl _ _).setCell (by simp) _
        have ho2 : (w.setCell ⟨g, 0, none⟩ (.slice (some (ad.add n)) (r.rest.length - n) (c - n))).heap[g]? = some (rdObj (some (ad.add n)) (r.rest.length - n) (c - n) r.bad) := Go.Joins.block_setCell (i := 0) HO.out _
        refine ⟨_, _, rfl, (RdB.take hr n).setCell (p := ⟨g, 0, none⟩) (fun a e => by cases e; exact hadg) _, by have := HLE.out; omega, ⟨some (ad.add n), c - n, ?_, (RdB.drop hr n).setCell (p := ⟨g, 0, none⟩) (fun a e => by cases e; rw [add_block]; exact hadg) _, by simp; omega, by omega, fun a e => by cases e; rw [add_block]; exact hadl⟩, hset⟩
        simpa using ho2

theorem conv_text {w : World} {A : Option Addr} {l : List UInt8} {n c : Nat} (h : RdB w A l) (hn : l.length = n) : (convert 39 9 (.slice A n c)).run Tryz.prog w = .ok (encStr l) w := by
  subst hn
  cases A with
  | none =>
    obtain rfl := rd_none h
    simp only [List.length_nil]
    rw [Go.run_convert_bytes_string w 39 9 5 none 0 c Tryz.underlying39 Tryz.underlying5 Tryz.underlying9]
    simp [Conv.bytesToString, encStr]
    rfl
  | some ad =>
    exact Go.run_convert_bytes_back w 39 9 5 ad c l Tryz.underlying39 Tryz.underlying5 Tryz.underlying9 (fun j hj => by
      obtain ⟨a, e, hc⟩ := h.get hj
      cases e
      exact hc)

set_option maxHeartbeats 1000000 in
set_option maxRecDepth 100000 in
theorem rtext_any (w : World) (g : Nat) (r : Rdr) (h : RdrAt w g r) :
    Calls Tryz.prog 81 #[.pointer (some ⟨g, 0, none⟩)] w fun e w' => e = .returned (encStr r.text) ∧ RdrAt w' g r.afterText ∧ Chg [g] w w' := by
  have hgl := h.lt
  have h1 := take_any w g r 1 h (by omega)
  simp only [show ((1 : Nat) : Int) = 1 from rfl] at h1
  have h2 := fun w' h => take_any w' g (r.after 1) r.byte.toNat h (by have := r.byte.toNat_lt; omega)
  have t1 := r.take_len 1
  have t2 := (r.after 1).take_len r.byte.toNat
  have hgx : ∀ (w : World) (A : Option Addr), RdB w A (r.take 1) → ∃ ad, A = some ad ∧ w.cell? (ad.add 0) = some (.int .u8 (r.byte.toNat : Int)) := fun w A h => getD_rd h (by rw [t1]; omega)
  have hn8 : r.byte.toNat < 256 := r.byte.toNat_lt
  unfold Rdr.text Rdr.afterText
  generalize r.byte.toNat = n at *
  generalize ht : (r.after 1).take n = T at *
  generalize hu : (r.after 1).after n = U at *
  generalize r.after 1 = r1 at *
  have H1 := Lib.hid h1
  have H2 := Lib.hid h2
  have HX := Lib.hid hgx
  have HT2 := Lib.hid t2
  clear h1 h2 hgx ht hu h t2 t1
  go_enter Tryz.func81, Tryz.ntmps81
  go_wp2_with (first
    | (go_at_call 82; (with_reducible refine H1.out.mono ?_); rintro e w1 ⟨A1, c1, rfl, hr1, hc1, hrd1, hC1⟩; obtain ⟨ad, rfl, hcell⟩ := HX.out w1 A1 hr1; rw [addr0] at hcell)
    | (go_at_call 82; (with_reducible refine (H2.out w1 hrd1).mono ?_); rintro e w2 ⟨A2, c2, rfl, hr2, hc2, hrd2, hC2⟩; have hcv := conv_text (c := c2) hr2 HT2.out)
    | fail)
  go_ret
  exact ⟨rfl, hrd2, hC1.then_ hC2⟩

set_option maxHeartbeats 1000000 in
set_option maxRecDepth 100000 in
theorem rpair_any (w : World) (g : Nat) (r : Rdr) (h : RdrAt w g r) :
    Calls Tryz.prog 83 #[.pointer (some ⟨g, 0, none⟩)] w fun e w' => e = .returned (.int .u16 (r.pair : Int)) ∧ RdrAt w' g r.afterPair ∧ Chg [g] w w' := by
  have hgl := h.lt
  have h1 := take_any w g r 2 h (by omega)
  simp only [show ((2 : Nat) : Int) = 2 from rfl] at h1
  have t1 := r.take_len 2
  have hg0 : ∀ (w : World) (A : Option Addr), RdB w A (r.take 2) → ∃ ad, A = some ad ∧ w.cell? (ad.add 0) = some (.int .u8 (((r.take 2).getD 0 0).toNat : Int)) := fun w A h => getD_rd h (by rw [t1]; omega)
  have hg1 : ∀ (w : World) (A : Option Addr), RdB w A (r.take 2) → ∃ ad, A = some ad ∧ w.cell? (ad.add 1) = some (.int .u8 (((r.take 2).getD 1 0).toNat : Int)) := fun w A h => getD_rd h (by rw [t1]; omega)
  unfold Rdr.pair Rdr.afterPair
  have b0 := ((r.take 2).getD 0 0).toNat_lt
  have b1 := ((r.take 2).getD 1 0).toNat_lt
  generalize ((r.take 2).getD 0 0).toNat = x at *
  generalize ((r.take 2).getD 1 0).toNat = y at *
  generalize r.after 2 = r1 at *
  have H1 := Lib.hid h1
  have HX := Lib.hid hg0
  have HY := Lib.hid hg1
  clear h1 hg0 hg1 h t1
  have e1 : bits .or .u16 (x : Int) ((y : Int) * 256) = ((x + 256 * y : Nat) : Int) := by
    have := or_u16 x (y * 256) (by omega) (by omega)
    rw [or_lift x y 8 (by omega)] at this
    rw [← this]
    simp
  go_enter Tryz.func83, Tryz.ntmps83
  go_wp2_with (first
    | (go_at_call 82; (with_reducible refine H1.out.mono ?_); rintro e w1 ⟨A1, c1, rfl, hr1, hc1, hrd1, hC1⟩; obtain ⟨ad, rfl, hcell⟩ := HX.out w1 A1 hr1; obtain ⟨ad', ead, hcell2⟩ := HY.out w1 _ hr1; cases ead; rw [addr0] at hcell; rw [addr1] at hcell2)
    | fail)
  go_quiet (fail)
  go_wp2
  go_ret
  exact ⟨by simp, hrd1.below (below_drewN (Below.refl _ _) _), hC1.drewN _⟩

set_option maxHeartbeats 1000000 in
set_option maxRecDepth 100000 in
theorem rlong_any (w : World) (g : Nat) (r : Rdr) (h : RdrAt w g r) :
    Calls Tryz.prog 84 #[.pointer (some ⟨g, 0, none⟩)] w fun e w' => e = .returned (.int .u32 (r.long : Int)) ∧ RdrAt w' g r.afterLong ∧ Chg [g] w w' := by
  have h1 := rpair_any w g r h
  have h2 := fun w' h => rpair_any w' g r.afterPair h
  unfold Rdr.long Rdr.afterLong
  have b0 := r.pair_lt
  have b1 := r.afterPair.pair_lt
  generalize r.afterPair.pair = y at *
  generalize r.pair = x at *
  generalize r.afterPair.afterPair = r2 at *
  generalize r.afterPair = r1 at *
  have H1 := Lib.hid h1
  have H2 := Lib.hid h2
  clear h1 h2 h
  have e1 : bits .or .u32 (x : Int) ((y : Int) * 65536) = ((x + 65536 * y : Nat) : Int) := by
    have := or_u32 x (y * 65536) (by omega) (by omega)
    rw [or_lift x y 16 (by omega)] at this
    rw [← this]
    simp
  go_enter Tryz.func84, Tryz.ntmps84
  go_wp2_with (first
    | (go_at_call 83; (with_reducible refine (H2.out w1 hrd1).mono ?_); rintro e w2 ⟨rfl, hrd2, hC2⟩)
    | (go_at_call 83; (with_reducible refine H1.out.mono ?_); rintro e w1 ⟨rfl, hrd1, hC1⟩)
    | fail)
  go_ret
  exact ⟨by simp, hrd2, hC1.then_ hC2⟩
end Go.Proofs.YthbbmpelldglmaaGreatDoor
/- Lists of records in the order of their keys. Plain. -/
namespace Go.Proofs.YthbbmpelldglmaaGreatDoor
set_option linter.unusedVariables false
set_option linter.unusedSimpArgs false

/-- an element put into a list in the order of its keys -/
def putK {α : Type} (key : α → List UInt8) (x : α) : List α → List α
  | [] => [x]
  | y :: r => if key y < key x then y :: putK key x r else if key y = key x then x :: r else x :: y :: r
theorem lt_of_not {a b : List UInt8} (h : ¬ a < b) (h2 : a ≠ b) : b < a := by
  apply Classical.byContradiction
  intro h3
  exact h2 (List.le_antisymm (List.not_lt.1 h3) (List.not_lt.1 h))
theorem mem_putK {α : Type} {key : α → List UInt8} {x : α} : ∀ {l : List α}, l.Pairwise (fun a b => key a < key b) → ∀ y, y ∈ putK key x l ↔ y = x ∨ (y ∈ l ∧ key y ≠ key x)
  | [], _, y => by simp [putK]
  | z :: r, h, y => by
    obtain ⟨h1, h2⟩ := List.pairwise_cons.1 h
    unfold putK
    by_cases hz : key z < key x
    · rw [if_pos hz, List.mem_cons, mem_putK h2 y, List.mem_cons]
      have hne : key z ≠ key x := fun e => List.lt_irrefl _ (e ▸ hz)
      constructor
      · rintro (rfl | h3 | h3)
        · exact .inr ⟨.inl rfl, hne⟩
        · exact .inl h3
        · exact .inr ⟨.inr h3.1, h3.2⟩
      · rintro (h3 | ⟨rfl | h3, h4⟩)
        · exact .inr (.inl h3)
        · exact .inl rfl
        · exact .inr (.inr ⟨h3, h4⟩)
    · rw [if_neg hz]
      by_cases he : key z = key x
      · rw [if_pos he, List.mem_cons, List.mem_cons]
        constructor
        · rintro (h3 | h3)
          · exact .inl h3
          · exact .inr ⟨.inr h3, fun e => List.lt_irrefl _ (by have := h1 y h3; rw [he, ← e] at this; exact this)⟩
        · rintro (h3 | ⟨rfl | h3, h4⟩)
          · exact .inl h3
          · exact absurd he h4
          · exact .inr h3
      · rw [if_neg he, List.mem_cons, List.mem_cons]
        constructor
        · rintro (h3 | rfl | h3)
          · exact .inl h3
          · exact .inr ⟨.inl rfl, he⟩
          · exact .inr ⟨.inr h3, fun e => hz (e ▸ h1 y h3)⟩
        · rintro (h3 | ⟨h3, _⟩)
          · exact .inl h3
          · exact .inr h3
theorem sorted_putK {α : Type} {key : α → List UInt8} {x : α} : ∀ {l : List α}, l.Pairwise (fun a b => key a < key b) → (putK key x l).Pairwise (fun a b => key a < key b)
  | [], _ => by simp [putK]
  | z :: r, h => by
    obtain ⟨h1, h2⟩ := List.pairwise_cons.1 h
    unfold putK
    by_cases hz : key z < key x
    · rw [if_pos hz, List.pairwise_cons]
      refine ⟨fun y hy => ?_, sorted_putK h2⟩
      rcases (mem_putK h2 y).1 hy with rfl | ⟨hy, _⟩
      · exact hz
      · exact h1 y hy
    · rw [if_neg hz]
      by_cases he : key z = key x
      · rw [if_pos he, List.pairwise_cons]
        exact ⟨fun y hy => he ▸ h1 y hy, h2⟩
      · rw [if_neg he, List.pairwise_cons]
        have hx : key x < key z := lt_of_not hz he
        refine ⟨fun y hy => ?_, h⟩
        rcases List.mem_cons.1 hy with rfl | hy
        · exact hx
        · exact List.lt_trans hx (h1 y hy)
theorem Tells.put {α : Type} {f : List UInt8 → Option Value} {l : List α} {key : α → List UInt8} {vf : α → Value} (h : Tells f l key vf) (hs : l.Pairwise (fun a b => key a < key b)) (x : α) : Tells (upd f (key x) (vf x)) (putK key x l) key vf := fun k v => by
  unfold upd
  by_cases e : k = key x
  · rw [if_pos e]
    constructor
    · intro h1; cases h1
      exact ⟨x, (mem_putK hs x).2 (.inl rfl), e.symm, rfl⟩
    · rintro ⟨y, hy, h1, h2⟩
      rcases (mem_putK hs y).1 hy with rfl | ⟨_, h3⟩
      · rw [h2]
      · exact absurd (h1.trans e) h3
  · rw [if_neg e, h k v]
    constructor
    · rintro ⟨y, hy, h1, h2⟩
      exact ⟨y, (mem_putK hs y).2 (.inr ⟨hy, fun e2 => e (h1.symm.trans e2)⟩), h1, h2⟩
    · rintro ⟨y, hy, h1, h2⟩
      rcases (mem_putK hs y).1 hy with rfl | ⟨h3, _⟩
      · exact absurd h1.symm e
      · exact ⟨y, h3, h1, h2⟩
/-- the second key: the old one goes, the new one comes -/
theorem Tells.put2 {α : Type} {f : List UInt8 → Option Value} {l l2 : List α} {key num : α → List UInt8} {vf : α → Value} (h : Tells f l num vf) (x : α) (old : List UInt8)
    (hm : ∀ y, y ∈ l2 ↔ y = x ∨ (y ∈ l ∧ key y ≠ key x)) (hold : ∀ y ∈ l, num y = old ↔ key y = key x) (hne : ∀ y ∈ l, num y = num x → key y = key x) :
    Tells (upd (cut f old) (num x) (vf x)) l2 num vf := fun k v => by
  unfold upd cut
  by_cases e : k = num x
  · rw [if_pos e]
    constructor
    · intro h1; cases h1
      exact ⟨x, (hm x).2 (.inl rfl), e.symm, rfl⟩
    · rintro ⟨y, hy, h1, h2⟩
      rcases (hm y).1 hy with rfl | ⟨h3, h4⟩
      · rw [h2]
      · exact absurd (hne y h3 (h1.trans e)) h4
  · rw [if_neg e]
    by_cases e2 : k = old
    · rw [if_pos e2]
      constructor
      · intro h1; cases h1
      · rintro ⟨y, hy, h1, h2⟩
        rcases (hm y).1 hy with rfl | ⟨h3, h4⟩
        · exact absurd h1.symm e
        · exact absurd ((hold y h3).1 (h1.trans e2)) h4
    · rw [if_neg e2, h k v]
      constructor
      · rintro ⟨y, hy, h1, h2⟩
        exact ⟨y, (hm y).2 (.inr ⟨hy, fun h3 => e2 (h1.symm.trans ((hold y hy).2 h3))⟩), h1, h2⟩
      · rintro ⟨y, hy, h1, h2⟩
        rcases (hm y).1 hy with rfl | ⟨h3, _⟩
        · exact absurd h1.symm e
        · exact ⟨y, h3, h1, h2⟩
theorem sorted_one {α : Type} {key : α → List UInt8} {l : List α} (h : l.Pairwise (fun a b => key a < key b)) {x y : α} (hx : x ∈ l) (hy : y ∈ l) (e : key x = key y) : x = y := by
  induction l with
  | nil => cases hx
  | cons a r ih =>
    obtain ⟨h1, h2⟩ := List.pairwise_cons.1 h
    rcases List.mem_cons.1 hx with ex | hx
    · rcases List.mem_cons.1 hy with ey | hy
      · rw [ex, ey]
      · rw [ex] at e
        exact absurd (h1 _ hy) (by rw [e]; exact List.lt_irrefl _)
    · rcases List.mem_cons.1 hy with ey | hy
      · rw [ey] at e
        exact absurd (h1 _ hx) (by rw [e]; exact List.lt_irrefl _)
      · exact ih h2 hx hy
theorem pair_one {α β : Type} {l : List α} {f : α → β} (h : l.Pairwise fun a b => f a ≠ f b) {x y : α} (hx : x ∈ l) (hy : y ∈ l) (e : f x = f y) : x = y := by
  induction l with
  | nil => cases hx
  | cons a r ih =>
    obtain ⟨h1, h2⟩ := List.pairwise_cons.1 h
    rcases List.mem_cons.1 hx with ex | hx
    · rcases List.mem_cons.1 hy with ey | hy
      · rw [ex, ey]
      · rw [ex] at e
        exact absurd e (h1 _ hy)
    · rcases List.mem_cons.1 hy with ey | hy
      · rw [ey] at e
        exact absurd e.symm (h1 _ hx)
      · exact ih h2 hx hy
/-- elements that differ pairwise still do when one is put in -/
theorem pair_putK {α : Type} {key num : α → List UInt8} {x : α} : ∀ {l : List α}, l.Pairwise (fun a b => key a < key b) → l.Pairwise (fun a b => num a ≠ num b) → (∀ y ∈ l, num y = num x → key y = key x) → (putK key x l).Pairwise (fun a b => num a ≠ num b)
  | [], _, _, _ => by simp [putK]
  | z :: r, h, hn, hx => by
    obtain ⟨h1, h2⟩ := List.pairwise_cons.1 h
    obtain ⟨n1, n2⟩ := List.pairwise_cons.1 hn
    have hx2 := fun y hy => hx y (List.mem_cons_of_mem _ hy)
    unfold putK
    by_cases hz : key z < key x
    · rw [if_pos hz, List.pairwise_cons]
      refine ⟨fun y hy => ?_, pair_putK h2 n2 hx2⟩
      rcases (mem_putK h2 y).1 hy with rfl | ⟨hy, _⟩
      · intro e
        have := hx z (List.mem_cons_self ..) e
        rw [this] at hz
        exact List.lt_irrefl _ hz
      · exact n1 y hy
    · rw [if_neg hz]
      by_cases he : key z = key x
      · rw [if_pos he, List.pairwise_cons]
        refine ⟨fun y hy e => ?_, n2⟩
        have e2 := hx2 y hy e.symm
        have := h1 y hy
        rw [he, e2] at this
        exact List.lt_irrefl _ this
      · rw [if_neg he, List.pairwise_cons]
        refine ⟨fun y hy e => ?_, hn⟩
        have e2 := hx y hy e.symm
        rcases List.mem_cons.1 hy with rfl | hy
        · exact he e2
        · have := h1 y hy
          rw [e2] at this
          exact hz this
end Go.Proofs.YthbbmpelldglmaaGreatDoor
/- Package subscribers: 'PutHome'. -/
namespace Go.Proofs.YthbbmpelldglmaaGreatDoor
set_option linter.unusedVariables false
set_option linter.unusedSimpArgs false
open Go.RowKit

/-- the object of a map -/
theorem MapIs.obj {P : Program} {K : TypeId} {w : World} {b n : Nat} {f : List UInt8 → Option Value} (h : MapIs P K w b n f) : ∃ es clock, w.heap[b]? = some (.map es clock) := by
  obtain ⟨D, ⟨es, clock, hb, _⟩, _⟩ := h
  exact ⟨es, clock, hb⟩
theorem MapIs.obj_le {P : Program} {K : TypeId} {w : World} {b n : Nat} {f : List UInt8 → Option Value} (h : MapIs P K w b n f) : ∃ es clock, w.heap[b]? = some (.map es clock) ∧ es.size ≤ n := by
  obtain ⟨D, ⟨es, clock, hb, _, hs, _⟩, _⟩ := h
  exact ⟨es, clock, hb, hs⟩
theorem len_obj {P : Program} {w : World} {b : Nat} {es : Array MapEntry} {clock : Nat} (hb : w.heap[b]? = some (.map es clock)) {t k e : TypeId} (ht : P.underlying t = some (.map k e)) (ty : TypeId) : (Builtin.len_ #[t] ty #[.map (some b)]).run P w = .ok (.int .i64 (es.size : Int)) w := by
  simp [Builtin.len_, run_underlying ht, MapKept.run_getObj_map hb, goInt, Result.andThen]
theorem MapIs.look_at {P : Program} {K : TypeId} {w : World} {b n : Nat} {f : List UInt8 → Option Value} (h : MapIs P K w b n f) {o : Obj} (ho : w.heap[b]? = some o) {t e : TypeId} (hk : P.underlying K = some .string) (ht : P.underlying t = some (.map K e)) {z : Value} (hz : ∀ w, (zeroValue e).run P w = .ok z w) (k : List UInt8) (hl : k.length ≤ maxLen) (v : Value) (b2 : Bool) (hv : (f k).getD z = v) (hb2 : (f k).isSome = b2) :
    ∀ w' : World, w'.heap[b]? = some o → (Instr.lookup t (.map (some b)) (encStr k) true).run P w' = .ok (.tuple #[v, .bool b2]) w' := fun w' hw => by
  rw [← hv, ← hb2]
  exact (h.of_block (hw.trans ho.symm)).look_ok hk ht (hz _) k hl

/-- 'delete(m, k)' as one step of a region that draws -/
theorem step_delete {P : Program} {w : World} {ops : Array Oper} {o : Oper} {a : Act} {K : Act → World → Prop} {Q : Exit → Act → World → Prop} {F : Prop} (hgd : o.guard = none) (m x : Operand) (t k : TypeId)
    (ho : o.op = .call { callee := .builtin .delete, args := #[m, x], argTypes := #[t, k] }) (b : Nat) (key : Value) (hm : a.eval m = .map (some b)) (hx : a.eval x = key) (w' : World)
    (hrun : ∀ ty, (Builtin.delete_ #[t, k] ty #[.map (some b), key]).run P w = .ok (.tuple #[]) w') (h : K (a.put o.dst (.tuple #[])) w') :
    if Region.wanted o (yielded ops a.tmps) = true then Oper.wp P o a w K Q else F := by
  have hw : Region.wanted o (yielded ops a.tmps) = true := by simp [Region.wanted, hgd]
  rw [if_pos hw]
  unfold Oper.wp
  simp [execOp, ho, resolve, invoke, builtin, hm, hx, hrun, Result.andThen]
  exact h
/-- 'PutHome', as plain data -/
def clash (S : St) (h : HomeR) : Prop := ∃ x ∈ S.homes, x.number = h.number ∧ x.id ≠ h.id
def putHomeS (S : St) (h : HomeR) : St := { S with homes := putK HomeR.id h S.homes, log := S.log ++ entryB 1 h.fields, puts := S.puts + 1 }

theorem map_apart {P : Program} {K : TypeId} {w : World} {b n B c : Nat} {f : List UInt8 → Option Value} {A : Option Addr} {l : List UInt8} (hm : MapIs P K w b n f) (hr : RowB w B A c l) : b ∉ blk A := fun hi => by
  obtain ⟨es, k, ho⟩ := hm.obj
  rw [mem_blk] at hi
  rcases hr.2 with ⟨rfl, _⟩ | ⟨g', cur, rfl, _, hg, _⟩
  · simp at hi
  · simp at hi; subst hi
    rw [ho] at hg
    simp at hg
theorem StM.apart {w : World} {g b1 b2 b3 b4 : Nat} {A : Option Addr} {c : Nat} {S : St} (h : StM w g b1 b2 b3 b4 A c S) : (g ≠ b1 ∧ g ≠ b2 ∧ g ≠ b3 ∧ g ≠ b4) ∧ g ∉ blk A ∧ b1 ∉ blk A ∧ b2 ∉ blk A ∧ b3 ∉ blk A ∧ b4 ∉ blk A := by
  obtain ⟨hn, ⟨f1, m1, t1⟩, ⟨f2, m2, t2⟩, ⟨f3, m3, t3⟩, ⟨f4, m4, t4⟩⟩ := h.maps
  have key : ∀ {b n : Nat} {f : List UInt8 → Option Value}, MapIs Tryz.prog 9 w b n f → g ≠ b := fun {b n f} m e => by
    obtain ⟨es, k, hm⟩ := m.obj
    rw [← e, h.obj] at hm
    simp [stObj] at hm
  exact ⟨⟨key m1, key m2, key m3, key m4⟩, stObj_apart h.obj h.log, map_apart m1 h.log, map_apart m2 h.log, map_apart m3 h.log, map_apart m4 h.log⟩
def Good (S : St) (h : HomeR) : Prop := h.ok = true ∧ ¬ clash S h
theorem number_one {S : St} (h : S.Fit) {x y : HomeR} (hx : x ∈ S.homes) (hy : y ∈ S.homes) (e : x.number = y.number) : x = y := pair_one h.hn hx hy e
theorem Fit.put {S : St} (h : S.Fit) {x : HomeR} (hx : x.Go) (hg : Good S x) : (putHomeS S x).Fit where
  hs := sorted_putK h.hs
  hn := pair_putK h.hs h.hn (fun y hy e => Classical.byContradiction fun h2 => hg.2 ⟨y, hy, e, h2⟩)
  hok := fun y hy => by
    rcases (mem_putK h.hs y).1 hy with rfl | ⟨hy, _⟩
    · exact ⟨hg.1, hx⟩
    · exact h.hok y hy
  vs := h.vs
  vr := h.vr
  vok := h.vok
/-- the number of the record that is replaced -/
theorem old_num {S : St} (h : S.Fit) (id : List UInt8) : ∀ y ∈ S.homes, y.number = ((homeOf S id).getD homeZero).number ↔ y.id = id := fun y hy => by
  unfold homeOf
  cases e : S.homes.find? (fun x => x.id == id) with
  | none =>
    rw [List.find?_eq_none] at e
    have h1 : y.id ≠ id := fun h2 => e y hy (by simpa using h2)
    have h3 := (HomeR.ok_len (h.hok y hy).1).2.1.1
    constructor
    · intro h4
      simp only [Option.getD_none, homeZero] at h4
      rw [h4] at h3; simp at h3
    · exact fun h4 => absurd h4 h1
  | some x =>
    have e1 := List.mem_of_find?_eq_some e
    have e2 : x.id = id := by simpa using List.find?_some e
    simp only [Option.getD_some]
    constructor
    · intro h4
      rw [← e2, pair_one h.hn hy e1 h4]
    · intro h4
      rw [sorted_one h.hs hy e1 (h4.trans e2.symm)]
theorem old_len {S : St} (h : S.Fit) (id : List UInt8) : ((homeOf S id).getD homeZero).number.length ≤ 15 := by
  unfold homeOf
  cases e : S.homes.find? (fun x => x.id == id) with
  | none => simp [homeZero]
  | some x => exact (HomeR.ok_len (h.hok x (List.mem_of_find?_eq_some e)).1).2.1.2
/-- what 'PutHome' answers, and the store behind it -/
def PutOut (S : St) (h : HomeR) (er : Int) (S' : St) : Prop := (h.ok = false ∧ er = 1 ∧ S' = S) ∨ (h.ok = true ∧ clash S h ∧ er = 8 ∧ S' = S) ∨ (h.ok = true ∧ ¬ clash S h ∧ er = 0 ∧ S' = putHomeS S h)

set_option maxHeartbeats 8000000 in
set_option maxRecDepth 100000 in
theorem putHome_any (w : World) (g : Nat) (F : List Nat) (S : St) (h : StAt w g F S) (hfit : S.Fit) (hp : S.puts < 4096) (hll : S.log.length ≤ 100000000) (id number : List UInt8) (at_ move : Nat) (barred waiting : Bool) (hg : (HomeR.mk id number at_ move barred waiting).Go) (l1 : id.length ≤ maxLen) (l2 : number.length ≤ maxLen) :
    Calls Tryz.prog 24 #[.pointer (some ⟨g, 0, none⟩), .agg #[encStr id, encStr number, .int .u16 (at_ : Int), .int .u32 (move : Int), .bool barred, .bool waiting]] w fun e w' => ∃ F' er S', e = .returned (.int .i64 er) ∧ StAt w' g F' S' ∧ Chg F w w' ∧ NewIn w F F' ∧ PutOut S ⟨id, number, at_, move, barred, waiting⟩ er S' := by
  have hlt := h.lt
  have b0 := (Below.refl w.heap.size w).alloc (Nat.le_refl _) (.cells #[encStr id, encStr number, .int .u16 (at_ : Int), .int .u32 (move : Int), .bool barred, .bool waiting] 52)
  have hrd := ready_any _ g F S (h.below b0)
  have hvd := fun w => homeValid_any ⟨id, number, at_, move, barred, waiting⟩ w hg (by simp only [maxLen] at l1; simp only; omega) (by simp only [maxLen] at l2; simp only; omega)
  have hb0 := heap_alloc_new w (.cells #[encStr id, encStr number, .int .u16 (at_ : Int), .int .u32 (move : Int), .bool barred, .bool waiting] 52)
  unfold HomeR.val HomeR.cells at hvd
  simp only at hvd
  obtain ⟨ok, hok⟩ : ∃ ok, (HomeR.mk id number at_ move barred waiting).ok = ok := ⟨_, rfl⟩
  rw [hok] at hvd
  have HOK := Lib.hid hok
  have HG := Lib.hid hg
  have HRD := Lib.hid hrd
  have HVD := Lib.hid hvd
  have HB0 := Lib.hid hb0
  have HLT := Lib.hid hlt
  have HFIT := Lib.hid hfit
  clear hrd hvd hb0 h hok hg hlt hfit
  go_enter Tryz.func24, Tryz.ntmps24
  go_upto_region 4 with (first
    | (go_at_call 49; (with_reducible refine HRD.out.mono ?_); rintro e w1 ⟨rfl, b1, b2, b3, b4, A, c, h1, hc1, hn1⟩)
    | fail)
  have o1 := hc1.heap HB0.out (fun hi => by have := HLT.out _ hi; omega)
  have HC1 := Lib.hid ((Chg.of_below F b0).then_ hc1)
  have HN1 := Lib.hid hn1.alloc
  obtain ⟨f1, mh, th⟩ := h1.maps.homes
  obtain ⟨f3, mn, tn⟩ := h1.maps.numbers
  obtain ⟨old, hold⟩ : ∃ r, r = (homeOf S id).getD homeZero := ⟨_, rfl⟩
  obtain ⟨there, hthere⟩ : ∃ b, b = (homeOf S id).isSome := ⟨_, rfl⟩
  obtain ⟨uid, huid⟩ : ∃ r, r = ((S.homes.find? fun x => x.number == number).map HomeR.id).getD [] := ⟨_, rfl⟩
  obtain ⟨used, hused⟩ : ∃ b, b = (S.homes.find? fun x => x.number == number).isSome := ⟨_, rfl⟩
  obtain ⟨oid, onum, oat, omv, oba, owa⟩ := old
  obtain ⟨es1, k1, hm1, hesn⟩ := mh.obj_le
  obtain ⟨es3, k3, hm3⟩ := mn.obj
  have kl1 := mh.look_at hm1 Tryz.underlying9 Tryz.underlying96 zeroHomeV id l1 (HomeR.mk oid onum oat omv oba owa).val there (by rw [th.get id, hold]; unfold homeOf; cases S.homes.find? (fun x => x.id == id) <;> rfl) (by rw [th.get id, hthere]; unfold homeOf; cases S.homes.find? (fun x => x.id == id) <;> rfl)
  have kl3 := mn.look_at hm3 Tryz.underlying9 Tryz.underlying98 zeroStrV number l2 (encStr uid) used (by rw [tn.get number, huid]; cases S.homes.find? (fun x => x.number == number) <;> rfl) (by rw [tn.get number, hused]; cases S.homes.find? (fun x => x.number == number) <;> rfl)
  unfold HomeR.val HomeR.cells at kl1
  simp only at kl1
  have kg0 : ∀ w' : World, w'.heap[g]? = some (stObj (.map (some b1)) (.map (some b2)) (.map (some b3)) (.map (some b4)) A S.log.length c S.dur) → w'.cell? ⟨g, 0, none⟩ = some (.map (some b1)) := fun w' e => stObj_cell e 0
  have kg2 : ∀ w' : World, w'.heap[g]? = some (stObj (.map (some b1)) (.map (some b2)) (.map (some b3)) (.map (some b4)) A S.log.length c S.dur) → w'.cell? ⟨g, 2, none⟩ = some (.map (some b3)) := fun w' e => stObj_cell e 2
  have kh0 : ∀ w' : World, w'.heap[w.heap.size]? = some (.cells #[encStr id, encStr number, .int .u16 (at_ : Int), .int .u32 (move : Int), .bool barred, .bool waiting] 52) → w'.cell? ⟨w.heap.size, 0, none⟩ = some (encStr id) := fun w' e => cell_of_row _ _ 0 _ _ _ e
  have kh1 : ∀ w' : World, w'.heap[w.heap.size]? = some (.cells #[encStr id, encStr number, .int .u16 (at_ : Int), .int .u32 (move : Int), .bool barred, .bool waiting] 52) → w'.cell? ⟨w.heap.size, 1, none⟩ = some (encStr number) := fun w' e => cell_of_row _ _ 1 _ _ _ e
  have hgl : g < w1.heap.size := (Array.getElem?_eq_some_iff.1 h1.obj).1
  have htl : w.heap.size < w1.heap.size := (Array.getElem?_eq_some_iff.1 o1).1
  have hbl : b1 < w1.heap.size := (Array.getElem?_eq_some_iff.1 hm1).1
  have hbl3 : b3 < w1.heap.size := (Array.getElem?_eq_some_iff.1 hm3).1
  have ho1 := h1.obj
  have H1 := Lib.hid h1
  have HOLD := Lib.hid hold
  have HTHERE := Lib.hid hthere
  have HUID := Lib.hid huid
  have HUSED := Lib.hid hused
  clear h1 hold hthere huid hused b0 hc1 hn1
  go_cut [5, 6] from 9 (fun s5 s6 wc => s5 = .pointer (some ⟨w1.heap.size, 0, none⟩) ∧ s6 = .bool there ∧ Below w1.heap.size w1 wc ∧ wc.heap[w1.heap.size]? = some (.cells #[encStr oid, encStr onum, .int .u16 (oat : Int), .int .u32 (omv : Int), .bool oba, .bool owa] 52))
  case first =>
    go_region_held3 (fun w' => w'.heap[g]? = some (stObj (.map (some b1)) (.map (some b2)) (.map (some b3)) (.map (some b4)) A S.log.length c S.dur) ∧ w'.heap[w.heap.size]? = some (.cells #[encStr id, encStr number, .int .u16 (at_ : Int), .int .u32 (move : Int), .bool barred, .bool waiting] 52) ∧ w'.heap[b1]? = some (.map es1 k1))
      (first | exact ⟨ho1, o1, hm1⟩ | exact ⟨(Below.heap_alloc _ _ _ hgl).trans ho1, (Below.heap_alloc _ _ _ htl).trans o1, (Below.heap_alloc _ _ _ hbl).trans hm1⟩ | fail)
      (fail)
    all_goals go_wp2_with fail
    all_goals go_meet
    all_goals exact ⟨rfl, rfl, ((Below.refl _ _).alloc (Nat.le_refl _) _).drew, heap_alloc_new w1 _⟩
  case rest =>
    obtain ⟨rfl, rfl, hB2, oo2⟩ := hcut
    have og2 := (hB2.block g hgl).trans ho1
    have oh2 := (hB2.block w.heap.size htl).trans o1
    have om2 := (hB2.block b3 hbl3).trans hm3
    have HB2 := Lib.hid hB2
    have HOO2 := Lib.hid oo2
    have HBM2 := Lib.hid ((hB2.block b1 hbl).trans hm1)
    clear ho1 o1 hm1 hm3 hB2 oo2 kl1
    go_upto_region 5 with fail
    go_cut [7, 8] from 9 (fun s7 s8 wd => s7 = encStr uid ∧ s8 = .bool used ∧ wd = wc.drew)
    case first =>
      go_region_held3 (fun w' => w'.heap[g]? = some (stObj (.map (some b1)) (.map (some b2)) (.map (some b3)) (.map (some b4)) A S.log.length c S.dur) ∧ w'.heap[w.heap.size]? = some (.cells #[encStr id, encStr number, .int .u16 (at_ : Int), .int .u32 (move : Int), .bool barred, .bool waiting] 52) ∧ w'.heap[b3]? = some (.map es3 k3))
        (first | exact ⟨og2, oh2, om2⟩ | fail)
        (fail)
      all_goals go_wp2_with fail
      all_goals go_meet
      all_goals exact ⟨rfl, rfl, rfl⟩
    case rest =>
      obtain ⟨rfl, rfl, rfl⟩ := hcut
      have hB3 : Below w1.heap.size w1 wc.drew := HB2.out.drew
      have oo3 : wc.drew.heap[w1.heap.size]? = some (.cells #[encStr oid, encStr onum, .int .u16 (oat : Int), .int .u32 (omv : Int), .bool oba, .bool owa] 52) := HOO2.out
      have og3 : wc.drew.heap[g]? = some (stObj (.map (some b1)) (.map (some b2)) (.map (some b3)) (.map (some b4)) A S.log.length c S.dur) := og2
      have oh3 : wc.drew.heap[w.heap.size]? = some (.cells #[encStr id, encStr number, .int .u16 (at_ : Int), .int .u32 (move : Int), .bool barred, .bool waiting] 52) := oh2
      have hbm3 : b1 < wc.drew.heap.size ∧ wc.drew.heap[b1]? = some (.map es1 k1) := ⟨(Array.getElem?_eq_some_iff.1 HBM2.out).1, HBM2.out⟩
      have HBM3 := Lib.hid hbm3
      clear hbm3
      clear HBM2
      generalize wc.drew = w3 at *
      clear og2 oh2 om2 HB2 HOO2 kl3
      have y0 : w3.cell? ⟨w.heap.size, 0, none⟩ = some (encStr id) := kh0 w3 oh3
      have y1 : w3.cell? ⟨w.heap.size, 1, none⟩ = some (encStr number) := kh1 w3 oh3
      have y2 : w3.cell? ⟨w.heap.size, 2, none⟩ = some (.int .u16 (at_ : Int)) := cell_of_row _ _ 2 _ _ _ oh3
      have y3 : w3.cell? ⟨w.heap.size, 3, none⟩ = some (.int .u32 (move : Int)) := cell_of_row _ _ 3 _ _ _ oh3
      have y4 : w3.cell? ⟨w.heap.size, 4, none⟩ = some (.bool barred) := cell_of_row _ _ 4 _ _ _ oh3
      have y5 : w3.cell? ⟨w.heap.size, 5, none⟩ = some (.bool waiting) := cell_of_row _ _ 5 _ _ _ oh3
      have HB3 := Lib.hid hB3
      have HOO3 := Lib.hid oo3
      have HOG3 := Lib.hid og3
      have HOH3 := Lib.hid oh3
      clear hB3 oo3 og3 oh3 kh0 kh1 kg0 kg2
      have hcl : clash S ⟨id, number, at_, move, barred, waiting⟩ ↔ used = true ∧ uid ≠ id := by
        unfold clash
        rw [HUSED.out, HUID.out]
        cases e : S.homes.find? (fun x => x.number == number) with
        | none =>
          rw [List.find?_eq_none] at e
          constructor
          · rintro ⟨x, hx, h1, _⟩
            exact absurd (by simpa using h1) (e x hx)
          · rintro ⟨h1, _⟩; cases h1
        | some x =>
          have e1 := List.mem_of_find?_eq_some e
          have e2 : x.number = number := by simpa using List.find?_some e
          constructor
          · rintro ⟨y, hy, h1, h2⟩
            refine ⟨rfl, ?_⟩
            have := number_one HFIT.out e1 hy (e2.trans h1.symm)
            subst this
            exact h2
          · rintro ⟨_, h2⟩
            exact ⟨x, e1, e2, h2⟩
      have hes : (es1.size : Int) < 4096 := by have := hesn; omega
      have HCL := Lib.hid hcl
      clear hcl
      go_upto_block 0 with fail
      go_cut [] from 9 (fun wd => Good S ⟨id, number, at_, move, barred, waiting⟩ ∧ Below w3.heap.size w3 wd)
      case first =>
        cases ok with
        | false =>
          go_wp2_with (first
            | (go_at_call 50; (with_reducible refine (HVD.out _).mono ?_); rintro e w4 ⟨rfl, hB4⟩)
            | fail)
          go_ret
          have cW : Chg F w w4 := HC1.out.then_ (Chg.of_below F (below_then HB3.out hB4))
          exact ⟨_, 1, S, rfl, .inl ⟨b1, b2, b3, b4, A, c, rfl, H1.out.chg (Chg.of_below [] (below_then HB3.out hB4)) (by simp)⟩, cW, HN1.out, .inl ⟨HOK.out, rfl, rfl⟩⟩
        | true =>
          cases used with
          | true =>
            by_cases hu : uid = id
            · have hu2 : (uid == id) = true := by simpa using hu
              have HU := Lib.hid hu
              clear hu
              cases there with
              | true =>
                go_wp2_with (first
                  | (go_at_call 50; (with_reducible refine (HVD.out _).mono ?_); rintro e w4 ⟨rfl, hB4⟩
                     have z0 := cell_later hB4 y0
                     have zg : w4.cell? ⟨g, 0, none⟩ = some (.map (some b1)) := stObj_cell ((hB4.block g (Array.getElem?_eq_some_iff.1 HOG3.out).1).trans HOG3.out) 0
                     have zm : w4.heap[b1]? = some (.map es1 k1) := (hB4.block b1 HBM3.out.1).trans HBM3.out.2
                     have zl := fun ty => len_obj (P := Tryz.prog) zm Tryz.underlying96 ty)
                  | fail)
                go_meet
                exact ⟨⟨HOK.out, fun h => (HCL.out.1 h).2 HU.out⟩, hB4⟩
              | false =>
                go_wp2_with (first
                  | (go_at_call 50; (with_reducible refine (HVD.out _).mono ?_); rintro e w4 ⟨rfl, hB4⟩
                     have z0 := cell_later hB4 y0
                     have zg : w4.cell? ⟨g, 0, none⟩ = some (.map (some b1)) := stObj_cell ((hB4.block g (Array.getElem?_eq_some_iff.1 HOG3.out).1).trans HOG3.out) 0
                     have zm : w4.heap[b1]? = some (.map es1 k1) := (hB4.block b1 HBM3.out.1).trans HBM3.out.2
                     have zl := fun ty => len_obj (P := Tryz.prog) zm Tryz.underlying96 ty)
                  | fail)
                go_meet
                exact ⟨⟨HOK.out, fun h => (HCL.out.1 h).2 HU.out⟩, hB4⟩
            · have hu2 : (uid == id) = false := by simpa using hu
              have HU := Lib.hid hu
              clear hu
              go_wp2_with (first
                | (go_at_call 50; (with_reducible refine (HVD.out _).mono ?_); rintro e w4 ⟨rfl, hB4⟩
                   have z0 := cell_later hB4 y0
                   have zg : w4.cell? ⟨g, 0, none⟩ = some (.map (some b1)) := stObj_cell ((hB4.block g (Array.getElem?_eq_some_iff.1 HOG3.out).1).trans HOG3.out) 0
                   have zm : w4.heap[b1]? = some (.map es1 k1) := (hB4.block b1 HBM3.out.1).trans HBM3.out.2
                   have zl := fun ty => len_obj (P := Tryz.prog) zm Tryz.underlying96 ty)
                | fail)
              go_ret
              have cW : Chg F w w4 := HC1.out.then_ (Chg.of_below F (below_then HB3.out hB4))
              exact ⟨_, 8, S, rfl, .inl ⟨b1, b2, b3, b4, A, c, rfl, H1.out.chg (Chg.of_below [] (below_then HB3.out hB4)) (by simp)⟩, cW, HN1.out, .inr (.inl ⟨HOK.out, HCL.out.2 ⟨trivial, HU.out⟩, rfl, rfl⟩)⟩
          | false =>
            cases there with
            | true =>
              go_wp2_with (first
                | (go_at_call 50; (with_reducible refine (HVD.out _).mono ?_); rintro e w4 ⟨rfl, hB4⟩
                   have z0 := cell_later hB4 y0
                   have zg : w4.cell? ⟨g, 0, none⟩ = some (.map (some b1)) := stObj_cell ((hB4.block g (Array.getElem?_eq_some_iff.1 HOG3.out).1).trans HOG3.out) 0
                   have zm : w4.heap[b1]? = some (.map es1 k1) := (hB4.block b1 HBM3.out.1).trans HBM3.out.2
                   have zl := fun ty => len_obj (P := Tryz.prog) zm Tryz.underlying96 ty)
                | fail)
              go_meet
              exact ⟨⟨HOK.out, fun h => by have := (HCL.out.1 h).1; cases this⟩, hB4⟩
            | false =>
              go_wp2_with (first
                | (go_at_call 50; (with_reducible refine (HVD.out _).mono ?_); rintro e w4 ⟨rfl, hB4⟩
                   have z0 := cell_later hB4 y0
                   have zg : w4.cell? ⟨g, 0, none⟩ = some (.map (some b1)) := stObj_cell ((hB4.block g (Array.getElem?_eq_some_iff.1 HOG3.out).1).trans HOG3.out) 0
                   have zm : w4.heap[b1]? = some (.map es1 k1) := (hB4.block b1 HBM3.out.1).trans HBM3.out.2
                   have zl := fun ty => len_obj (P := Tryz.prog) zm Tryz.underlying96 ty)
                | fail)
              go_meet
              exact ⟨⟨HOK.out, fun h => by have := (HCL.out.1 h).1; cases this⟩, hB4⟩
      case rest =>
        obtain ⟨hgood, hB4⟩ := hcut
        have hB := below_then HB3.out hB4
        have og : wc.heap[g]? = some (stObj (.map (some b1)) (.map (some b2)) (.map (some b3)) (.map (some b4)) A S.log.length c S.dur) := (hB4.block g (Array.getElem?_eq_some_iff.1 HOG3.out).1).trans HOG3.out
        have oh : wc.heap[w.heap.size]? = some (.cells #[encStr id, encStr number, .int .u16 (at_ : Int), .int .u32 (move : Int), .bool barred, .bool waiting] 52) := (hB4.block _ (Array.getElem?_eq_some_iff.1 HOH3.out).1).trans HOH3.out
        have oo : wc.heap[w1.heap.size]? = some (.cells #[encStr oid, encStr onum, .int .u16 (oat : Int), .int .u32 (omv : Int), .bool oba, .bool owa] 52) := (hB4.block _ (Array.getElem?_eq_some_iff.1 HOO3.out).1).trans HOO3.out
        have mhc := mh.chg (Chg.of_below [] hB) (by simp)
        have mnc := mn.chg (Chg.of_below [] hB) (by simp)
        have hol : onum.length ≤ maxLen := by
          have := old_len HFIT.out id
          rw [← HOLD.out] at this
          simp only [maxLen]; simp only at this; omega
        have H1c := H1.out.chg (Chg.of_below [] hB) (by simp)
        obtain ⟨w5, hrun0, mn5, tu5⟩ := (show MapIs Tryz.prog 9 wc.drew b3 S.puts f3 from mnc.of_block rfl).drop Tryz.underlying9 Tryz.underlying98 onum hol 0
        have hrun : ∀ ty, (Builtin.delete_ #[98, 9] ty #[.map (some b3), encStr onum]).run Tryz.prog wc.drew = .ok (.tuple #[]) w5 := fun ty => hrun0
        have c5 : Chg [b3] wc w5 := (Chg.refl _ _).drew.then_ (Chg.of_turned tu5 (by simp))
        have hn5 : g ≠ b3 ∧ w.heap.size ≠ b3 ∧ w1.heap.size ≠ b3 := by
          refine ⟨fun e => ?_, fun e => ?_, fun e => by omega⟩
          · obtain ⟨es, k, hm⟩ := mnc.obj
            rw [← e, og] at hm
            simp [stObj] at hm
          · obtain ⟨es, k, hm⟩ := mnc.obj
            rw [← e, oh] at hm
            simp at hm
        have og5 := c5.heap og (by simpa using hn5.1)
        have oo5 := c5.heap oo (by simpa using hn5.2.2)
        have oh5 := c5.heap oh (by simpa using hn5.2.1)
        have kg2 : ∀ w' : World, w'.heap[g]? = some (stObj (.map (some b1)) (.map (some b2)) (.map (some b3)) (.map (some b4)) A S.log.length c S.dur) → w'.cell? ⟨g, 2, none⟩ = some (.map (some b3)) := fun w' e => stObj_cell e 2
        have kg0 : ∀ w' : World, w'.heap[g]? = some (stObj (.map (some b1)) (.map (some b2)) (.map (some b3)) (.map (some b4)) A S.log.length c S.dur) → w'.cell? ⟨g, 0, none⟩ = some (.map (some b1)) := fun w' e => stObj_cell e 0
        have ko1 : ∀ w' : World, w'.heap[w1.heap.size]? = some (.cells #[encStr oid, encStr onum, .int .u16 (oat : Int), .int .u32 (omv : Int), .bool oba, .bool owa] 52) → w'.cell? ⟨w1.heap.size, 1, none⟩ = some (encStr onum) := fun w' e => cell_of_row _ _ 1 _ _ _ e
        have HG5 := Lib.hid og5
        have HH5 := Lib.hid oh5
        have HH1 := Lib.hid H1c
        have HMH := Lib.hid mhc
        have HTU := Lib.hid tu5
        have HMN5 := Lib.hid mn5
        have HC5 := Lib.hid c5
        have HGOOD := Lib.hid hgood
        have HB := Lib.hid hB
        clear mnc mhc hrun0 H1c tu5 mn5 c5 oh oh5 hgood hB hB4 y0 y1 y2 y3 y4 y5
        go_upto_region 12 with fail
        go_cut [] from 9 (fun wd => wd = w5)
        case first =>
          go_region_held3 (fun w' => w'.heap[g]? = some (stObj (.map (some b1)) (.map (some b2)) (.map (some b3)) (.map (some b4)) A S.log.length c S.dur) ∧ w'.heap[w1.heap.size]? = some (.cells #[encStr oid, encStr onum, .int .u16 (oat : Int), .int .u32 (omv : Int), .bool oba, .bool owa] 52))
            (first | exact ⟨og, oo⟩ | exact ⟨og5, oo5⟩ | fail)
            (first
              | (refine step_delete (by rfl) (.tmp 59) (.tmp 61) 98 9 (by rfl) b3 (encStr onum) (by rfl) (by rfl) w5 hrun ?_)
              | fail)
          all_goals go_wp2_with fail
          all_goals go_meet
          all_goals rfl
        case rest =>
          subst hcut
          have hnd := HH1.out.maps.nodup
          have hlm : S.puts < maxLen := by simp only [maxLen]; omega
          have hb5 : b1 ∉ [b3] := by simpa using hnd.2.1
          have mh5 : MapIs Tryz.prog 9 wc.drew b1 S.puts f1 := (HMH.out.chg HC5.out hb5).of_block rfl
          obtain ⟨v1, st1, wA, wB, rA, tA, rB, tB, mB⟩ := mh5.entry Tryz.underlying9 Tryz.underlying96 zeroHomeV hlm id l1 (.agg #[encStr id, encStr number, .int .u16 (at_ : Int), .int .u32 (move : Int), .bool barred, .bool waiting])
          have cA : Chg [b1] wc wA := (Chg.refl _ _).drew.then_ (Chg.of_turned tA (by simp))
          have cB : Chg [b1] wc wB := (Chg.refl _ _).drew.then_ (Chg.of_turned tB (by simp))
          have hb6 : b3 ∉ [b1] := by simpa using hnd.2.1.symm
          obtain ⟨v3, st3, wC, wD, rC, tC, rD, tD, mD⟩ := (HMN5.out.chg cB hb6).entry Tryz.underlying9 Tryz.underlying98 zeroStrV hlm number l2 (encStr id)
          have cC : Chg [b1, b3] wc wC := (cB.mono (by simp)).then_ (Chg.of_turned tC (by simp))
          have cD : Chg [b1, b3] wc wD := (cB.mono (by simp)).then_ (Chg.of_turned tD (by simp))
          have hn6 : g ≠ b1 ∧ w.heap.size ≠ b1 := by
            refine ⟨fun e => ?_, fun e => ?_⟩
            · obtain ⟨es, k, hm⟩ := mh5.obj
              rw [← e] at hm
              have := HG5.out.symm.trans hm
              simp [stObj] at this
            · obtain ⟨es, k, hm⟩ := mh5.obj
              rw [← e] at hm
              have := HH5.out.symm.trans hm
              simp at this
          have hgA := cA.heap HG5.out (by simpa using hn6.1)
          have hhA := cA.heap HH5.out (by simpa using hn6.2)
          have hgB := cB.heap HG5.out (by simpa using hn6.1)
          have hhB := cB.heap HH5.out (by simpa using hn6.2)
          have hgC := cC.heap HG5.out (by simpa using ⟨hn6.1, hn5.1⟩)
          have hhC := cC.heap HH5.out (by simpa using ⟨hn6.2, hn5.2.1⟩)
          have hgD := cD.heap HG5.out (by simpa using ⟨hn6.1, hn5.1⟩)
          have hhD := cD.heap HH5.out (by simpa using ⟨hn6.2, hn5.2.1⟩)
          have hg0 := HG5.out
          have hh0 := HH5.out
          have kh0 : ∀ w' : World, w'.heap[w.heap.size]? = some (.cells #[encStr id, encStr number, .int .u16 (at_ : Int), .int .u32 (move : Int), .bool barred, .bool waiting] 52) → w'.cell? ⟨w.heap.size, 0, none⟩ = some (encStr id) := fun w' e => cell_of_row _ _ 0 _ _ _ e
          have kh1 : ∀ w' : World, w'.heap[w.heap.size]? = some (.cells #[encStr id, encStr number, .int .u16 (at_ : Int), .int .u32 (move : Int), .bool barred, .bool waiting] 52) → w'.cell? ⟨w.heap.size, 1, none⟩ = some (encStr number) := fun w' e => cell_of_row _ _ 1 _ _ _ e
          have kh2 : ∀ w' : World, w'.heap[w.heap.size]? = some (.cells #[encStr id, encStr number, .int .u16 (at_ : Int), .int .u32 (move : Int), .bool barred, .bool waiting] 52) → w'.cell? ⟨w.heap.size, 2, none⟩ = some (.int .u16 (at_ : Int)) := fun w' e => cell_of_row _ _ 2 _ _ _ e
          have kh3 : ∀ w' : World, w'.heap[w.heap.size]? = some (.cells #[encStr id, encStr number, .int .u16 (at_ : Int), .int .u32 (move : Int), .bool barred, .bool waiting] 52) → w'.cell? ⟨w.heap.size, 3, none⟩ = some (.int .u32 (move : Int)) := fun w' e => cell_of_row _ _ 3 _ _ _ e
          have kh4 : ∀ w' : World, w'.heap[w.heap.size]? = some (.cells #[encStr id, encStr number, .int .u16 (at_ : Int), .int .u32 (move : Int), .bool barred, .bool waiting] 52) → w'.cell? ⟨w.heap.size, 4, none⟩ = some (.bool barred) := fun w' e => cell_of_row _ _ 4 _ _ _ e
          have kh5 : ∀ w' : World, w'.heap[w.heap.size]? = some (.cells #[encStr id, encStr number, .int .u16 (at_ : Int), .int .u32 (move : Int), .bool barred, .bool waiting] 52) → w'.cell? ⟨w.heap.size, 5, none⟩ = some (.bool waiting) := fun w' e => cell_of_row _ _ 5 _ _ _ e
          have HmB := Lib.hid mB
          have HmD := Lib.hid mD
          have HCB := Lib.hid cB
          have HCD := Lib.hid cD
          have HTD := Lib.hid tD
          clear mh5 mB mD cA cB cC cD tA tB tC tD og oo og5 oo5 ko1 hrun hb5 hb6
          go_upto_region 13 with fail
          go_cut [] from 9 (fun wd => wd = wD)
          case first =>
            go_region_held3 (fun w' => w'.heap[g]? = some (stObj (.map (some b1)) (.map (some b2)) (.map (some b3)) (.map (some b4)) A S.log.length c S.dur) ∧ w'.heap[w.heap.size]? = some (.cells #[encStr id, encStr number, .int .u16 (at_ : Int), .int .u32 (move : Int), .bool barred, .bool waiting] 52))
              (first | exact ⟨hg0, hh0⟩ | exact ⟨hgA, hhA⟩ | exact ⟨hgB, hhB⟩ | exact ⟨hgC, hhC⟩ | exact ⟨hgD, hhD⟩ | fail)
              (fail)
            all_goals go_wp2_with fail
            all_goals go_meet
            all_goals rfl
          case rest =>
            subst hcut
            have y0 := kh0 wc hhD
            have y1 := kh1 wc hhD
            have y2 := kh2 wc hhD
            have y3 := kh3 wc hhD
            have y4 := kh4 wc hhD
            have y5 := kh5 wc hhD
            have HGD := Lib.hid hgD
            have hflen : (HomeR.mk id number at_ move barred waiting).fields.length ≤ 39 := HomeR.fields_len HGOOD.out.1
            have hfld := homeFields_any ⟨id, number, at_, move, barred, waiting⟩ wc HGOOD.out.1 HG.out
            have hputs : putHomeS S ⟨id, number, at_, move, barred, waiting⟩ = { S with homes := putK HomeR.id ⟨id, number, at_, move, barred, waiting⟩ S.homes, log := S.log ++ entryB 1 (HomeR.mk id number at_ move barred waiting).fields, puts := S.puts + 1 } := rfl
            generalize hfl : (HomeR.mk id number at_ move barred waiting).fields = fl at *
            unfold HomeR.val HomeR.cells at hfld
            simp only at hfld
            have HF := Lib.hid hfld
            have HPUT := Lib.hid hputs
            have HFL := Lib.hid hfl
            have HX := Lib.hid hn5
            have HX6 := Lib.hid hn6
            clear hfld hputs hfl kh0 kh1 kh2 kh3 kh4 kh5 hg0 hh0 hgA hhA hgB hhB hgC hhC hgD hhD rA rB rC rD kg0 kg2 hn5 hn6
            have hcAll : Chg (b1 :: b3 :: []) w1 wc := ((Chg.of_below [b1, b3] HB.out).then_ (HC5.out.mono (by simp))).then_ HCD.out
            have hbl := Row.blk_lt HH1.out.log
            have hap := H1.out.apart
            have hlogD : RowB wc 0 A c S.log := Row.chg H1.out.log hcAll (fun k e => by
              simp only [List.mem_cons, List.not_mem_nil, or_false, not_or]
              exact ⟨fun e2 => hap.2.2.1 (e2 ▸ mem_blk.2 e), fun e2 => hap.2.2.2.2.1 (e2 ▸ mem_blk.2 e)⟩)
            have HAP := Lib.hid hap
            have HCALL := Lib.hid hcAll
            clear hap hcAll
            go_wp2_with (first
              | (go_at_call 47; (with_reducible refine HF.out.mono ?_); rintro e w6 ⟨Af, cf, rfl, h6, hB6⟩
                 have hg6 := (hB6.block g (Array.getElem?_eq_some_iff.1 HGD.out).1).trans HGD.out
                 have hent := entry_any w6 g _ _ _ _ A c S.dur S.log hg6 (hlogD.below hB6) hll 1 Af fl cf h6.rd (by omega)
                 simp only [show ((1 : UInt8).toNat : Int) = 1 from rfl] at hent
                 have HE := Lib.hid hent
                 clear hent)
              | (go_at_call 46; (with_reducible refine HE.out.mono ?_); rintro e w7 ⟨rfl, A7, c7, o7, h7, hc7, hn7⟩)
              | fail)
            go_ret
            have hap := HAP.out
            have hnd := HH1.out.maps.nodup
            have hnf := HN1.out
            have nF : NewIn w F [b1, b3] := fun i hi => hnf i (by simp at hi ⊢; rcases hi with rfl | rfl <;> simp)
            have nG : NewIn w F (g :: blk A) := fun i hi => hnf i (by simp at hi ⊢; rcases hi with rfl | hi <;> simp [*])
            have cF : Chg F w w6 := (HC1.out.trans HCALL.out nF).then_ (Chg.of_below F hB6)
            have s6 : w.heap.size ≤ w6.heap.size := cF.size
            have c6D : Chg (g :: blk A) wc w7 := (Chg.of_below _ hB6).then_ hc7
            have cBD : Chg [b3] wB wc := Chg.of_turned HTD.out (by simp)
            refine ⟨_, 0, putHomeS S ⟨id, number, at_, move, barred, waiting⟩, rfl, .inl ⟨b1, b2, b3, b4, A7, c7, rfl, ?_⟩, cF.trans hc7 nG, ?_, .inr (.inr ⟨HGOOD.out.1, HGOOD.out.2, rfl, rfl⟩)⟩
            · rw [HPUT.out]
              refine ⟨o7, h7, ⟨hnd, ⟨_, (HmB.out.chg cBD (by simpa using hnd.2.1)).chg c6D (by simp; exact ⟨fun e => hap.1.1 e.symm, hap.2.2.1⟩), ?_⟩, ?_, ⟨_, HmD.out.chg c6D (by simp; exact ⟨fun e => hap.1.2.2.1 e.symm, hap.2.2.2.2.1⟩), ?_⟩, ?_⟩⟩
              · exact th.put HFIT.out.hs ⟨id, number, at_, move, barred, waiting⟩
              · obtain ⟨f2, m2, t2⟩ := H1.out.maps.visits
                exact ⟨f2, (((m2.chg HCALL.out (by simp; exact ⟨fun e => hnd.1 e.symm, hnd.2.2.2.1⟩)).chg c6D (by simp; exact ⟨fun e => hap.1.2.1 e.symm, hap.2.2.2.1⟩))).mono (Nat.le_succ _), t2⟩
              · have hon := HOLD.out
                have := Tells.put2 (l2 := putK HomeR.id ⟨id, number, at_, move, barred, waiting⟩ S.homes) (key := HomeR.id) tn ⟨id, number, at_, move, barred, waiting⟩ onum (mem_putK HFIT.out.hs) (by
                  have h9 := old_num HFIT.out id
                  rw [← hon] at h9
                  exact h9) (fun y hy e => Classical.byContradiction fun h2 => HGOOD.out.2 ⟨y, hy, e, h2⟩)
                exact this
              · obtain ⟨f4, m4, t4⟩ := H1.out.maps.roams
                exact ⟨f4, (((m4.chg HCALL.out (by simp; exact ⟨fun e => hnd.2.2.1 e.symm, fun e => hnd.2.2.2.2.2 e.symm⟩)).chg c6D (by simp; exact ⟨fun e => hap.1.2.2.2 e.symm, hap.2.2.2.2.2⟩))).mono (Nat.le_succ _), t4⟩
            · intro i hi
              simp only [List.mem_cons] at hi
              rcases hi with rfl | rfl | rfl | rfl | rfl | hi
              · exact hnf _ (by simp)
              · exact hnf _ (by simp)
              · exact hnf _ (by simp)
              · exact hnf _ (by simp)
              · exact hnf _ (by simp)
              · rcases hn7 i hi with h8 | h8
                · exact hnf _ (by simp [h8])
                · exact .inr (Nat.le_trans s6 h8)
end Go.Proofs.YthbbmpelldglmaaGreatDoor
