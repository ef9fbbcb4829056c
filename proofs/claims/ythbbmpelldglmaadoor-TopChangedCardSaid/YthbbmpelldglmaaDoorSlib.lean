/- Go's library on slices of octets: Clip, Clone, Grow (of nil), Concat. -/
import Derived.Test.YthbbmpelldglmaaDoorProg
import Derived.Test.YthbbmpelldglmaaDoorRow
namespace Go.Proofs.YthbbmpelldglmaaDoor
set_option linter.unusedVariables false
set_option linter.unusedSimpArgs false
open Go.RowKit

theorem infoByte : (Tryd.prog.info? 5).map (fun i => (i.zero, i.size, i.bytes)) = some (some (.int .u8 0), 1, 1) := by kernel_rfl
/-- rows of octets -/
def RowB (w : World) (B : Nat) (A : Option Addr) (c : Nat) (l : List UInt8) : Prop := Row w B 5 1 A l.length c (l.map byteV)
theorem RowB.rd {w : World} {B : Nat} {A : Option Addr} {c : Nat} {l : List UInt8} (h : RowB w B A c l) : RdB w A l := Row.rd h
theorem RowB.of {w : World} {B : Nat} {A : Option Addr} {c : Nat} {a b : List UInt8} (h : Row w B 5 1 A (a.length + b.length) c (a.map byteV ++ b.map byteV)) : RowB w B A c (a ++ b) := by
  unfold RowB
  rw [List.length_append, List.map_append]
  exact h
/-- octets given in the text -/
theorem rd_lit (w : World) (l : List UInt8) (fr : Nat × Nat := (0, 0)) : RdB (w.alloc (.cells (l.map byteV).toArray 5 fr)) (some ⟨w.heap.size, 0, none⟩) l := fun k v hk => by
  refine ⟨_, rfl, ?_⟩
  rw [add_lit, cell_of_row _ _ _ _ _ _ (heap_alloc_new _ _)]
  simpa using hk

theorem rd_lit_at (w : World) (g : Nat) (hg : g = w.heap.size) (l : List UInt8) : RdB (w.alloc (.cells (l.map byteV).toArray 5)) (some ⟨g, 0, none⟩) l := by
  subst hg; exact rd_lit w l

theorem RowB.new (w : World) (B : Nat) (hB : B ≤ w.heap.size) (l : List UInt8) (h : l.length ≤ maxLen) : RowB (w.alloc (.cells (l.map byteV).toArray 5)) B (some ⟨w.heap.size, 0, none⟩) l.length l := by
  have := Row.new w (l.map byteV).toArray 5 1 l.length l.length hB (Nat.le_refl _) h (by simp)
  unfold RowB
  have e : (List.map byteV l).toArray.toList.take (l.length * 1) = l.map byteV := by simp [List.take_of_length_le]
  rwa [e] at this
theorem byte_one (l : List UInt8) : ∀ u ∈ l.map byteV, u.oneCell' = true := by
  intro v hv; simp at hv; obtain ⟨b, _, rfl⟩ := hv; rfl

theorem RowB.nil (w : World) (B : Nat) : RowB w B none 0 [] := Row.nil _ _ _ _
theorem RowB.below {w w' : World} {B : Nat} {A : Option Addr} {c : Nat} {l : List UInt8} (h : RowB w B A c l) (hb : Below w.heap.size w w') : RowB w' B A c l := Row.below h hb
theorem RowB.set {w : World} {B g c : Nat} {l : List UInt8} (h : RowB w B (some ⟨g, 0, none⟩) c l) (k : Nat) (v : UInt8) : RowB (w.setCell ⟨g, k, none⟩ (.int .u8 (v.toNat : Int))) B (some ⟨g, 0, none⟩) c (l.set k v) := by
  have := Row.set h k (.int .u8 (v.toNat : Int))
  unfold RowB
  rw [List.length_set, List.map_set]
  exact this
theorem RowB.other {w : World} {B g c k : Nat} {A : Option Addr} {l : List UInt8} (h : RowB w B A c l) (hne : ∀ j, A.map (·.block) = some j → j ≠ g) (v : Value) : RowB (w.setCell ⟨g, k, none⟩ v) B A c l :=
  Row.setOther h (p := ⟨g, k, none⟩) hne v
theorem RowB.at_ {w : World} {B g c : Nat} {l : List UInt8} (h : RowB w B (some ⟨g, 0, none⟩) c l) {k : Nat} (hk : k < l.length) : w.cell? ⟨g, k, none⟩ = some (.int .u8 (l[k].toNat : Int)) :=
  Row.cell h (by simp [hk, byteV])
theorem u8_inc (x : UInt8) : IntKind.u8.wrap ((x.toNat : Int) + 1) = ((x + 1).toNat : Int) := by
  rw [IntKind.wrap_u8, UInt8.toNat_add]
  simp
/-- append(s, x...) on octets: the lengths and the list as the caller spells them; and where the new row lies -/
theorem append_bytes2 {w : World} {ops : Array Oper} {rest : List Oper} {o : Oper} {a : Act} {Q : Exit → Act → World → Prop} (hgd : o.guard = none) (s x : Operand)
    (ho : o.op = .call { callee := .builtin .append, args := #[s, x], argTypes := #[27, 27] })
    (B : Nat) (A : Option Addr) (n c : Nat) (la : List UInt8) (hs : a.eval s = .slice A n c) (hn : n = la.length) (hrow : RowB w B A c la)
    (A2 : Option Addr) (m c2 : Nat) (lb : List UInt8) (hx : a.eval x = .slice A2 m c2) (hm : m = lb.length) (hr : RdB w A2 lb)
    (L : List UInt8) (hL : L = la ++ lb) (hlen : L.length ≤ 140737488351232) (w0 : World) (hb : Below B w0 w) (hB : B ≤ w.heap.size)
    (h : ∀ A' c' w', RowB w' B A' c' L → w.grownBy w' (A.map (·.block)) → Below B w0 w' → B ≤ w'.heap.size → (A' = A ∨ A' = some ⟨w.heap.size, 0, none⟩) → wpList Tryd.prog ops Q rest (a.put o.dst (.slice A' L.length c')) w') :
    wpList Tryd.prog ops Q (o :: rest) a w := by
  subst hn hm hL
  rw [List.length_append] at hlen
  refine wpList_append_row hgd s x 27 ho B 5 _ 1 1 Tryd.underlying27 infoByte rfl A la.length c _ hs hrow A2 lb.length c2 _ hx hr (by simp) (byte_one lb) (by simp only [maxLen]; omega) (by omega) hB ?_
  intro A' c' w' h1 h2 h3
  have := h A' c' w' (RowB.of h1) h2 (hb.grown h2 hB (fun k hk => (Row.lt hrow k hk).1)) (Nat.le_trans hB h2.size) h3
  rwa [List.length_append] at this

/-- append(s, x...) on octets: the lengths and the list as the caller spells them -/
theorem append_bytes {w : World} {ops : Array Oper} {rest : List Oper} {o : Oper} {a : Act} {Q : Exit → Act → World → Prop} (hgd : o.guard = none) (s x : Operand)
    (ho : o.op = .call { callee := .builtin .append, args := #[s, x], argTypes := #[27, 27] })
    (B : Nat) (A : Option Addr) (n c : Nat) (la : List UInt8) (hs : a.eval s = .slice A n c) (hn : n = la.length) (hrow : RowB w B A c la)
    (A2 : Option Addr) (m c2 : Nat) (lb : List UInt8) (hx : a.eval x = .slice A2 m c2) (hm : m = lb.length) (hr : RdB w A2 lb)
    (L : List UInt8) (hL : L = la ++ lb) (hlen : L.length ≤ 140737488351232) (w0 : World) (hb : Below B w0 w) (hB : B ≤ w.heap.size)
    (h : ∀ A' c' w', RowB w' B A' c' L → w.grownBy w' (A.map (·.block)) → Below B w0 w' → B ≤ w'.heap.size → wpList Tryd.prog ops Q rest (a.put o.dst (.slice A' L.length c')) w') :
    wpList Tryd.prog ops Q (o :: rest) a w := by
  exact append_bytes2 hgd s x ho B A n c la hs hn hrow A2 m c2 lb hx hm hr L hL hlen w0 hb hB fun A' c' w' h1 h2 h3 h4 _ => h A' c' w' h1 h2 h3 h4

theorem step_bytes {w : World} {ops : Array Oper} {o : Oper} {a : Act} {K : Act → World → Prop} {Q : Exit → Act → World → Prop} {F : Prop} (hgd : o.guard = none) (s x : Operand)
    (ho : o.op = .call { callee := .builtin .append, args := #[s, x], argTypes := #[27, 27] })
    (B : Nat) (A : Option Addr) (n c : Nat) (la : List UInt8) (hs : a.eval s = .slice A n c) (hn : n = la.length) (hrow : RowB w B A c la)
    (A2 : Option Addr) (m c2 : Nat) (lb : List UInt8) (hx : a.eval x = .slice A2 m c2) (hm : m = lb.length) (hr : RdB w A2 lb)
    (L : List UInt8) (hL : L = la ++ lb) (hlen : L.length ≤ 140737488351232) (w0 : World) (hb : Below B w0 w) (hB : B ≤ w.heap.size)
    (h : ∀ A' c' w', RowB w' B A' c' L → w.grownBy w' (A.map (·.block)) → Below B w0 w' → B ≤ w'.heap.size → (A' = A ∨ A' = some ⟨w.heap.size, 0, none⟩) → K (a.put o.dst (.slice A' L.length c')) w') :
    if Region.wanted o (yielded ops a.tmps) = true then Oper.wp Tryd.prog o a w K Q else F := by
  subst hn hm hL
  rw [List.length_append] at hlen
  refine step_append_row hgd s x 27 ho B 5 _ 1 1 Tryd.underlying27 infoByte rfl A la.length c _ hs hrow A2 lb.length c2 _ hx hr (by simp) (byte_one lb) (by simp only [maxLen]; omega) (by omega) hB ?_
  intro A' c' w' h1 h2 h3
  have := h A' c' w' (RowB.of h1) h2 (hb.grown h2 hB (fun k hk => (Row.lt hrow k hk).1)) (Nat.le_trans hB h2.size) h3
  rwa [List.length_append] at this

/-- two rows in different blocks -/
def Apart (A A2 : Option Addr) : Prop := ∀ j, A.map (·.block) = some j → A2.map (·.block) ≠ some j
theorem Apart.symm {A A2 : Option Addr} (h : Apart A A2) : Apart A2 A := fun j h1 h2 => h j h2 h1
theorem Apart.none (A : Option Addr) : Apart .none A := fun j h => by simp at h
theorem Apart.none' (A : Option Addr) : Apart A .none := fun j _ h => by simp at h
theorem RowB.kept {w w' : World} {B c : Nat} {A A2 : Option Addr} {l : List UInt8} (h : RowB w B A c l) (hg : w.grownBy w' (A2.map (·.block))) (ha : Apart A A2) : RowB w' B A c l :=
  Row.kept h hg (fun k hk => ha k hk)
theorem Apart.grown {w : World} {B c : Nat} {A A2 A2' : Option Addr} {l : List UInt8} (ha : Apart A A2) (h : RowB w B A c l) (hg : A2' = A2 ∨ A2' = some ⟨w.heap.size, 0, .none⟩) : Apart A A2' := by
  rcases hg with rfl | rfl
  · exact ha
  · intro j hj e
    have := (Row.lt h j hj).2
    simp at e
    omega

set_option maxHeartbeats 400000 in
theorem clip_any (A : Option Addr) (n c : Nat) (w : World) (h : n ≤ c) (hc : c ≤ maxLen) :
    Calls Tryd.prog 62 #[.slice A n c] w fun e w' => e = .returned (.slice A n n) ∧ w = w' := by
  unfold maxLen at hc
  go_enter Tryd.func62, Tryd.ntmps62
  go_wp2
  go_ret
  exact ⟨rfl, rfl⟩

theorem below_grown {B : Nat} {w w' : World} {A : Option Addr} (hb : Below B w w') {w2 : World} (hg : w'.grownBy w2 (A.map (·.block))) (hB : B ≤ w'.heap.size) (h : ∀ k, A.map (·.block) = some k → B ≤ k) : Below B w w2 := hb.grown hg hB h

set_option maxRecDepth 100000 in
set_option maxHeartbeats 400000 in
theorem clone_any (A : Option Addr) (c : Nat) (l : List UInt8) (w : World) (hA : RdB w A l) (hl : l.length ≤ 140737488351232) :
    Calls Tryd.prog 70 #[.slice A l.length c] w fun e w' => ∃ A' c', e = .returned (.slice A' l.length c') ∧ RowB w' w.heap.size A' c' l ∧ Below w.heap.size w w' := by
  have hq := fun n w => Lib.run_eql_slice_nil (P := Tryd.prog) w 27 5 A n c 0 0 Tryd.underlying27
  cases A with
  | none =>
    have : l = [] := by
      cases l with
      | nil => rfl
      | cons b l => obtain ⟨ad, h, _⟩ := hA 0 (byteV b) rfl; cases h
    subst this
    go_enter Tryd.func70, Tryd.ntmps70
    go_wp2
    go_ret
    exact ⟨none, 0, rfl, Row.nil _ _ _ _, Below.refl _ _⟩
  | some ad =>
    go_enter Tryd.func70, Tryd.ntmps70
    go_wp2_with (
      (with_reducible refine at_dst 7 rfl ?_)
      refine wpList_append_row rfl (.tmp 5) (.tmp 6) 27 rfl w.heap.size 5 _ 1 1 Tryd.underlying27 infoByte rfl (some ⟨w.heap.size, 0, none⟩) 0 0 _ rfl (Row.new w #[] 5 1 0 0 (Nat.le_refl _) (Nat.le_refl _) (by simp [maxLen]) (by simp)) (some ad) l.length c (l.map byteV) rfl (hA.alloc _) (by simp) (byte_one l) (by simp [maxLen]; omega) (by omega) (by simp) ?_
      intro A1 c1 w1 h1 hg1 _)
    go_ret
    refine ⟨A1, c1, rfl, ?_, ?_⟩
    · unfold RowB
      simpa using h1
    · exact ((Below.refl _ _).alloc (Nat.le_refl _) _).grown hg1 (by simp) (by intro k hk; simp at hk; omega)

set_option maxRecDepth 100000 in
set_option maxHeartbeats 400000 in
theorem grow_any (n : Nat) (w : World) (hn : n ≤ 140737488351232) :
    Calls Tryd.prog 124 #[.slice none 0 0, .int .i64 n] w fun e w' => ∃ A' c', e = .returned (.slice A' 0 c') ∧ RowB w' w.heap.size A' c' [] ∧ Below w.heap.size w w' := by
  obtain ⟨i, hi, hz, hs, hb⟩ := info_parts infoByte
  rcases Nat.eq_zero_or_pos n with rfl | h0
  · go_enter Tryd.func124, Tryd.ntmps124
    go_wp2
    go_ret
    exact ⟨none, 0, rfl, Row.nil _ _ _ _, Below.refl _ _⟩
  · have hrz := fun ty => Lib.run_append_grow_zeros w 27 3 ty 5 i (.int .u8 0) .i64 .i64 Tryd.underlying27 Tryd.underlying3 hi hz none 0 0 [] (run_firstCells_none w.drew i.size 0 0 0) n h0 (by omega) (by omega) (by omega) (by rw [hb]; omega)
      (growslice_fits (by omega) (by rw [hb]; omega))
    simp only [Nat.zero_add] at hrz
    have hge := grownCap_ge w n 0 5
    have hcm := grownCap_le_maxLen w n 0 5 (by simp [maxLen]; omega)
    have hsz : ((#[] : Array Value) ++ Builtin.zeroCells (Value.int .u8 0).cells n ++ Builtin.zeroCells (Value.int .u8 0).cells (grownCap w n 0 5 - n)).size = grownCap w n 0 5 := by
      simp only [Array.size_append, size_zeroCells]
      simp [Value.cells]
      omega
    generalize ((#[] : Array Value) ++ Builtin.zeroCells (Value.int .u8 0).cells n ++ Builtin.zeroCells (Value.int .u8 0).cells (grownCap w n 0 5 - n)) = cs at *
    generalize grownCap w n 0 5 = G at *
    have HZ := Lib.hid hsz
    have HR := Lib.hid hrz
    clear hsz hrz
    unfold maxLen at hcm
    go_enter Tryd.func124, Tryd.ntmps124
    go_wp2_with (
      at_builtin
      refine Lib.wpList_append_run _ rfl _ _ _ _ rfl _ _ rfl rfl _ _ (HR.out _) ?_)
    go_ret
    refine ⟨some ⟨w.heap.size, 0, none⟩, G, rfl, ?_, ((Below.refl _ _).drew).alloc (Nat.le_refl _) _⟩
    have := Row.new w.drew cs 5 1 0 G (Nat.le_refl _) (Nat.zero_le _) (by unfold maxLen; omega) (by have := HZ.out; omega)
    exact this

/-- slices of octets, side by side -/
def RdS (w : World) (A : Option Addr) (ss : List (Option Addr × Nat × List UInt8)) : Prop :=
  ∀ k s, ss[k]? = some s → (∃ ad, A = some ad ∧ w.cell? (ad.add k) = some (.slice s.1 s.2.2.length s.2.1)) ∧ RdB w s.1 s.2.2
def catS (ss : List (Option Addr × Nat × List UInt8)) : List UInt8 := ss.flatMap (·.2.2)
theorem catS_snoc (ss : List (Option Addr × Nat × List UInt8)) (k : Nat) (h : k < ss.length) : catS (ss.take (k + 1)) = catS (ss.take k) ++ ss[k].2.2 := by
  unfold catS; rw [List.take_succ_eq_append_getElem h, List.flatMap_append]; simp
theorem catS_le (ss : List (Option Addr × Nat × List UInt8)) (k : Nat) : (catS (ss.take k)).length ≤ (catS ss).length := by
  conv => rhs; rw [← List.take_append_drop k ss]
  unfold catS
  rw [List.flatMap_append, List.length_append]
  omega

set_option maxRecDepth 100000 in
set_option maxHeartbeats 1000000 in
theorem concat_any (A : Option Addr) (c : Nat) (ss : List (Option Addr × Nat × List UInt8)) (w : World) (hA : RdS w A ss) (hl : (catS ss).length ≤ 140737488351232) (hs : ss.length ≤ 140737488351232) :
    Calls Tryd.prog 76 #[.slice A ss.length c] w fun e w' => ∃ A' c', e = .returned (.slice A' (catS ss).length c') ∧ RowB w' w.heap.size A' c' (catS ss) ∧ Below w.heap.size w w' := by
  go_enter Tryd.func76, Tryd.ntmps76
  go_wp2
  go_loop [3, 5, 11] (fun n _ i => ∃ k : Nat, k ≤ ss.length ∧ i = .int .i64 k ∧ n = .int .i64 (catS (ss.take k)).length) (fun _ _ i => ss.length - (intOf i).toNat)
  case atStart => exact ⟨0, by omega, rfl, by simp [catS]⟩
  case round =>
    obtain ⟨k, hk, rfl, rfl⟩ := hrel
    have hle := catS_le ss k
    by_cases hlt : k < ss.length
    · obtain ⟨⟨ad, rfl, hc⟩, _⟩ := hA k _ (List.getElem?_eq_getElem hlt)
      have hle2 := catS_le ss (k + 1)
      have hn := catS_snoc ss k hlt
      rw [hn, List.length_append] at hle2
      have HN := Lib.hid hn
      clear hn hA
      generalize ss[k] = s at *
      obtain ⟨s1, s2, s3⟩ := s
      simp only at hc hle2
      generalize catS (List.take k ss) = t at *
      go_wp2
      go_round
      case rel => exact ⟨k + 1, by omega, by go_num, by rw [HN.out]; simp⟩
      case measure => simp [intOf]; omega
    · obtain rfl : k = ss.length := by omega
      rw [List.take_length] at *
      go_wp2_with (go_at_call 124; (with_reducible refine (grow_any _ _ (by omega)).mono ?_); rintro e w1 ⟨A1, c1, rfl, hR, hB⟩)
      go_loopw [6, 8, 27] (fun v _ i wr => ∃ k : Nat, k ≤ ss.length ∧ i = .int .i64 k ∧ (∃ A2 c2, v = .slice A2 (catS (ss.take k)).length c2 ∧ RowB wr w.heap.size A2 c2 (catS (ss.take k))) ∧ Below w.heap.size w wr) (fun _ _ i _ => ss.length - (intOf i).toNat)
      case atStart => exact ⟨0, by omega, rfl, ⟨A1, c1, by simp [catS], by simpa [catS] using hR⟩, hB⟩
      case round =>
        obtain ⟨k, hk, rfl, ⟨A2, c2, rfl, hRk⟩, hBk⟩ := hrel
        by_cases hlt : k < ss.length
        · obtain ⟨⟨ad, rfl, hc⟩, hrd⟩ := hA k _ (List.getElem?_eq_getElem hlt)
          replace hc := cell_later hBk hc
          replace hrd := hrd.below hBk
          have hle2 := catS_le ss (k + 1)
          have hn := catS_snoc ss k hlt
          rw [hn, List.length_append] at hle2
          have HN := Lib.hid hn
          clear hn
          have HA := Lib.hid hA
          clear hA
          generalize hs : ss[k] = s at *
          obtain ⟨s1, s2, s3⟩ := s
          simp only at hc hle2 hrd
          clear hs
          generalize catS (List.take k ss) = t at *
          have h63 : t.length + s3.length ≤ maxLen := by simp only [maxLen]; omega
          have hsz := hBk.size
          have hlt2 := hRk.lt
          go_wp2_with (
            (with_reducible refine at_dst 33 rfl ?_)
            refine wpList_append_row rfl (.tmp 31) (.tmp 32) 27 rfl w.heap.size 5 _ 1 1 Tryd.underlying27 infoByte rfl A2 t.length c2 _ rfl hRk s1 s3.length s2 (s3.map byteV) rfl hrd (by simp) (byte_one s3) h63 (by omega) hsz ?_
            intro A3 c3 w3 h3 hg3 _
            clear hlt2 hsz h63)
          have hlt2 := Row.lt hRk
          go_roundw
          case rel => exact ⟨k + 1, by omega, by go_num, ⟨A3, c3, by rw [HN.out]; simp, by rw [HN.out]; exact RowB.of h3⟩, hBk.grown hg3 hBk.size (fun k hk => (hlt2 k hk).1)⟩
          case measure => simp [intOf]; omega
        · obtain rfl : k = ss.length := by omega
          rw [List.take_length] at *
          go_wp2
          go_ret
          exact ⟨A2, c2, rfl, hRk, hBk⟩
end Go.Proofs.YthbbmpelldglmaaDoor
