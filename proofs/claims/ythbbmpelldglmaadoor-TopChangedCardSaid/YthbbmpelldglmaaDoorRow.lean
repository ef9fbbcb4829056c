/- Rows of a call's own: slices in new memory, whatever their capacity; 'append' onto them from slices and strings. No program. -/
import Derived.Test.YthbbmpelldglmaaDoorBase
import Derived.Lib.AppendZerosOnto
namespace Go.Proofs.YthbbmpelldglmaaDoor
set_option linter.unusedVariables false
set_option linter.unusedSimpArgs false
open Go.RowKit

theorem take_set_comm {α : Type} (l : List α) (n k : Nat) (v : α) : (l.set k v).take n = (l.take n).set k v := by
  apply List.ext_getElem?
  intro i
  simp only [List.getElem?_take, List.getElem?_set, List.length_take]
  by_cases h1 : i < n
  · by_cases h2 : k = i
    · subst h2
      by_cases h3 : k < l.length <;> simp [h1, h3] <;> omega
    · simp [h1, h2]
  · by_cases h2 : k = i
    · subst h2
      simp [h1]
      omega
    · simp [h1, h2]
/-- The slice (A, n, c) is a row of block number at least B, of elements of type E with sz cells each; its elements' cells are xs. -/
def Row (w : World) (B : Nat) (E : TypeId) (sz : Nat) (A : Option Addr) (n c : Nat) (xs : List Value) : Prop :=
  xs.length = n * sz ∧ ((A = none ∧ n = 0 ∧ c = 0) ∨
    ∃ g cur, A = some ⟨g, 0, none⟩ ∧ B ≤ g ∧ w.heap[g]? = some (.cells cur E (0, 0)) ∧ n ≤ c ∧ c ≤ maxLen ∧ c * sz ≤ cur.size ∧ cur.toList.take (n * sz) = xs)

section
variable {w w' : World} {B B' : Nat} {E : TypeId} {sz : Nat} {A : Option Addr} {n c : Nat} {xs : List Value}

theorem Row.nil (w : World) (B : Nat) (E : TypeId) (sz : Nat) : Row w B E sz none 0 0 [] := ⟨by simp, .inl ⟨rfl, rfl, rfl⟩⟩
theorem Row.le (h : Row w B E sz A n c xs) : n ≤ c := by
  rcases h.2 with ⟨_, rfl, rfl⟩ | ⟨g, cur, _, _, _, h, _⟩ <;> omega
theorem Row.cap_le (h : Row w B E sz A n c xs) : c ≤ maxLen := by
  rcases h.2 with ⟨_, rfl, rfl⟩ | ⟨g, cur, _, _, _, _, h, _⟩
  · simp [maxLen]
  · exact h
theorem Row.lt (h : Row w B E sz A n c xs) : ∀ k, A.map (·.block) = some k → B ≤ k ∧ k < w.heap.size := by
  intro k hk
  rcases h.2 with ⟨rfl, _⟩ | ⟨g, cur, rfl, hb, hg, _⟩
  · simp at hk
  · simp at hk; subst hk
    exact ⟨hb, (Array.getElem?_eq_some_iff.1 hg).1⟩
theorem Row.kept {row : Option Nat} (h : Row w B E sz A n c xs) (hg : w.grownBy w' row) (hne : ∀ k, A.map (·.block) = some k → row ≠ some k) : Row w' B E sz A n c xs := by
  refine ⟨h.1, ?_⟩
  rcases h.2 with h0 | ⟨g, cur, rfl, hb, hgg, r⟩
  · exact .inl h0
  · exact .inr ⟨g, cur, rfl, hb, (hg.block g (Array.getElem?_eq_some_iff.1 hgg).1 (fun e => hne g rfl e.symm)).trans hgg, r⟩
theorem Row.below (h : Row w B E sz A n c xs) (hb : Below w.heap.size w w') : Row w' B E sz A n c xs :=
  h.kept (row := none) ⟨hb.os, hb.tape, hb.output, hb.size, fun k hk _ => hb.block k hk⟩ (fun _ _ => by simp)
theorem Row.alloc (h : Row w B E sz A n c xs) (o : Obj) : Row (w.alloc o) B E sz A n c xs := h.kept (World.grownBy_alloc w o none) (fun _ _ => by simp)
theorem Row.drew (h : Row w B E sz A n c xs) : Row w.drew B E sz A n c xs := h
theorem Row.drewN (h : Row w B E sz A n c xs) (k : Nat) : Row (w.drewN k) B E sz A n c xs := h
theorem Row.mono (h : Row w B E sz A n c xs) (hB : B' ≤ B) : Row w B' E sz A n c xs := by
  refine ⟨h.1, ?_⟩
  rcases h.2 with h0 | ⟨g, cur, rfl, hb, r⟩
  · exact .inl h0
  · exact .inr ⟨g, cur, rfl, by omega, r⟩
theorem Row.clip (h : Row w B E sz A n c xs) : Row w B E sz A n n xs := by
  refine ⟨h.1, ?_⟩
  rcases h.2 with ⟨a, b, _⟩ | ⟨g, cur, rfl, hb, hg, h1, h2, h3, h4⟩
  · exact .inl ⟨a, b, b⟩
  · exact .inr ⟨g, cur, rfl, hb, hg, Nat.le_refl _, by omega, Nat.le_trans (Nat.mul_le_mul_right _ h1) h3, h4⟩
theorem Row.rd (h : Row w B E sz A n c xs) : Rd w A xs := fun k v hv => by
  rcases h.2 with ⟨rfl, rfl, _⟩ | ⟨g, cur, rfl, hb, hg, h1, h2, h3, h4⟩
  · have h1 := h.1
    simp at h1
    subst h1
    simp at hv
  · refine ⟨_, rfl, ?_⟩
    rw [add_lit, cell_of_row w g k cur E (0, 0) hg]
    rw [← h4, List.getElem?_take] at hv
    split at hv
    · simpa using hv
    · cases hv
/-- where an element lies, that it may be written, and what the row is then -/
theorem Row.form (h : Row w B E sz A n c xs) (h0 : 0 < n) : ∃ g, A = some ⟨g, 0, none⟩ ∧ B ≤ g ∧ g < w.heap.size ∧ (∀ k, w.frozen? ⟨g, k, none⟩ = false) ∧ (∀ k v, xs[k]? = some v → w.cell? ⟨g, k, none⟩ = some v) := by
  rcases h.2 with ⟨_, rfl, _⟩ | ⟨g, cur, rfl, hb, hg, h1, h2, h3, h4⟩
  · omega
  · refine ⟨g, rfl, hb, (Array.getElem?_eq_some_iff.1 hg).1, fun k => frozen_of_row _ _ _ _ _ hg, fun k v hv => ?_⟩
    have := Rd.at_ h.rd hv
    rwa [add_lit] at this
theorem Row.cell {g : Nat} (h : Row w B E sz (some ⟨g, 0, none⟩) n c xs) {k : Nat} {v : Value} (hv : xs[k]? = some v) : w.cell? ⟨g, k, none⟩ = some v := by
  have := Rd.at_ h.rd hv
  rwa [add_lit] at this
theorem Row.free {g : Nat} (h : Row w B E sz (some ⟨g, 0, none⟩) n c xs) (k : Nat) : w.frozen? ⟨g, k, none⟩ = false := by
  rcases h.2 with ⟨h0, _⟩ | ⟨g', cur, he, hb, hg, _⟩
  · cases h0
  · injection he with he
    injection he with he
    subst he
    exact frozen_of_row _ _ _ _ _ hg
theorem Row.ge {g : Nat} (h : Row w B E sz (some ⟨g, 0, none⟩) n c xs) : B ≤ g := (h.lt g rfl).1
theorem Row.set {g : Nat} (h : Row w B E sz (some ⟨g, 0, none⟩) n c xs) (k : Nat) (v : Value) : Row (w.setCell ⟨g, k, none⟩ v) B E sz (some ⟨g, 0, none⟩) n c (xs.set k v) := by
  refine ⟨by rw [List.length_set]; exact h.1, ?_⟩
  rcases h.2 with ⟨h0, _⟩ | ⟨g', cur, he, hb, hg, h1, h2, h3, h4⟩
  · cases h0
  · injection he with he
    injection he with he
    subst he
    refine .inr ⟨g, _, rfl, hb, heap_setCell_same _ _ _ _ _ _ hg, h1, h2, by simpa using h3, ?_⟩
    rw [← h4, Array.toList_setIfInBounds]
    exact take_set_comm _ _ _ _
theorem Row.setOther (h : Row w B E sz A n c xs) {p : Addr} (hp : ∀ k, A.map (·.block) = some k → k ≠ p.block) (u : Value) : Row (w.setCell p u) B E sz A n c xs :=
  h.kept (row := some p.block) ⟨rfl, rfl, rfl, by simp [World.setCell], fun k _ hk => heap_setCell_other _ _ _ _ (fun e => hk (by rw [e]))⟩ (fun k hk e => hp k hk (by injection e with e; exact e.symm))
theorem Row.of_own {v : Value} (h : w.ownsRow B E sz v n xs) : ∃ A c, v = .slice A n c ∧ Row w B E sz A n c xs := by
  rcases h.2 with ⟨rfl, rfl⟩ | ⟨g, cap, cur, rfl, hb, hg, h1, h2, h3, h4⟩
  · exact ⟨none, 0, rfl, h.1, .inl ⟨rfl, rfl, rfl⟩⟩
  · exact ⟨_, _, rfl, h.1, .inr ⟨g, cur, rfl, hb, hg, h1, h2, by omega, h4⟩⟩
/-- a block that has just been made is a row -/
theorem Row.new (w : World) (cs : Array Value) (E : TypeId) (sz n c : Nat) (hB : B ≤ w.heap.size) (h1 : n ≤ c) (h2 : c ≤ maxLen) (h3 : c * sz ≤ cs.size) :
    Row (w.alloc (.cells cs E)) B E sz (some ⟨w.heap.size, 0, none⟩) n c (cs.toList.take (n * sz)) :=
  ⟨by have := Nat.mul_le_mul_right sz h1; rw [List.length_take]; simp; omega, .inr ⟨w.heap.size, cs, rfl, hB, heap_alloc_new w _, h1, h2, h3, rfl⟩⟩
end

section
variable {P : Program}
theorem run_append_src (w : World) (B : Nat) (t u ty e : TypeId) (i : TypeInfo) (z : Value) (ht : P.underlying t = some (.slice e)) (hu : (∃ e', P.underlying u = some (.slice e')) ∨ P.underlying u = some .string)
    (hi : P.info? e = some i) (hz : i.zero = some z) (hzs : z.cells.size = i.size)
    (A : Option Addr) (n c : Nat) (xs : List Value) (hrow : Row w B e i.size A n c xs)
    (x : Value) (m : Nat) (news : List Value) (hx : ∀ w', (Builtin.lenOf x).run P w' = .ok m w') (hf0 : (Builtin.firstCells i.size m x).run P w = .ok news.toArray w)
    (hf1 : (Builtin.firstCells i.size m x).run P w.drew = .ok news.toArray w.drew) (hl : news.length = m * i.size) (h1 : ∀ u ∈ news, u.oneCell' = true)
    (h63 : n + m ≤ maxLen) (hbytes : (n + m) * i.bytes ≤ 140737488355328) (hB : B ≤ w.heap.size) :
    ∃ A' c' w', (Builtin.append_ #[t, u] ty #[.slice A n c, x]).run P w = .ok (.slice A' (n + m) c') w' ∧ Row w' B e i.size A' (n + m) c' (xs ++ news) ∧ w.grownBy w' (A.map (·.block)) ∧
      (A' = A ∨ A' = some ⟨w.heap.size, 0, none⟩) := by
  have hlen : (xs ++ news).length = (n + m) * i.size := by rw [List.length_append, hrow.1, hl, Nat.add_mul]
  by_cases hroom : n + m ≤ c
  · rcases hrow.2 with ⟨rfl, rfl, rfl⟩ | ⟨g, cur, rfl, hb, hg, hnc, hcm, hcs, htake⟩
    · obtain rfl : m = 0 := by omega
      have hn : news = [] := List.eq_nil_of_length_eq_zero (by simpa using hl)
      subst hn
      refine ⟨none, 0, w, ?_, by simpa using hrow, ⟨rfl, rfl, rfl, Nat.le_refl _, fun _ _ _ => rfl⟩, .inl rfl⟩
      rcases hu with ⟨e', hu⟩ | hu <;> simp [Builtin.append_, run_underlying ht, run_underlying hu, sizeOf, typeInfo, hi, hx, hf0]
    · have hfit : n * i.size + news.length ≤ cur.size := by
        rw [hl, ← Nat.add_mul]; exact Nat.le_trans (Nat.mul_le_mul_right _ hroom) hcs
      have hst := run_storeCells_at P g (n * i.size) e news 0 cur w hg (by simpa using hfit) h1
      simp only [Nat.add_zero] at hst
      refine ⟨_, c, w.setRow g (cur.toList.take (n * i.size) ++ news ++ cur.toList.drop (n * i.size + news.length)).toArray, ?_, ⟨hlen, .inr ⟨g, _, rfl, hb, setRow_heap w g cur _ e _ hg, hroom, hcm, ?_, ?_⟩⟩,
        ⟨rfl, rfl, rfl, by simp, fun k _ hk => setRow_other w g k _ (fun e => hk (by simp [e]))⟩, .inl rfl⟩
      · rcases hu with ⟨e', hu⟩ | hu <;> simp [Builtin.append_, run_underlying ht, run_underlying hu, sizeOf, typeInfo, hi, hx, hroom, hf0, Addr.add_lit, hst]
      · simp only [List.size_toArray, List.length_append, List.length_take, List.length_drop, Array.length_toList]
        omega
      · rw [htake, ← hlen]
        exact List.take_left
  · have hge := grownCap_ge w (n + m) c e
    have hcm : grownCap w (n + m) c e ≤ maxLen := grownCap_le_maxLen w (n + m) c e h63
    have h63' : ¬ (9223372036854775807 < ((n : Int) + (m : Int))) := by simp only [maxLen] at h63; omega
    have hfit := growslice_fits (show c < n + m by omega) hbytes
    have h48' : ¬ (281474976710656 < Builtin.nextslicecap (n + m) c * i.bytes) := by omega
    have hold : (Builtin.firstCells i.size n (.slice A n c)).run P w.drew = .ok xs.toArray w.drew := by
      rcases hrow.2 with ⟨rfl, rfl, rfl⟩ | ⟨g, cur, rfl, hb, hg, hnc, hcm, hcs, htake⟩
      · have h0 := hrow.1
        simp at h0
        subst h0
        exact run_firstCells_none w.drew i.size 0 0 0
      · exact run_firstCells_some w.drew i.size n _ n c xs hrow.1 (fun j v hj => Rd.at_ (Rd.drew hrow.rd) hj)
    refine ⟨some ⟨w.heap.size, 0, none⟩, grownCap w (n + m) c e, w.drew.alloc (.cells (xs.toArray ++ news.toArray ++ Builtin.zeroCells z.cells (grownCap w (n + m) c e - (n + m))) e), ?_,
      ⟨hlen, .inr ⟨w.heap.size, _, rfl, hB, heap_alloc_new w.drew _, hge, hcm, ?_, ?_⟩⟩, ⟨rfl, rfl, rfl, by simp, fun k hk _ => Below.heap_alloc w.drew _ k hk⟩, .inr rfl⟩
    · rcases hu with ⟨e', hu⟩ | hu <;> simp [Builtin.append_, run_underlying ht, run_underlying hu, sizeOf, typeInfo, zeroValue, hi, hz, hx, hroom, h63', h48', Question.forced, hf1, hold, newRow, grownCap] <;> (congr 2; apply Array.ext'; simp [List.append_assoc])
    · have := Nat.add_mul (n + m) (grownCap w (n + m) c e - (n + m)) i.size
      rw [Nat.add_sub_cancel' hge] at this
      simp only [Array.size_append, List.size_toArray, size_zeroCells, hzs, hrow.1, hl]
      rw [this, Nat.add_mul]
      exact Nat.le_refl _
    · simp only [Array.toList_append, List.append_assoc]
      rw [← List.append_assoc, ← hlen]
      exact List.take_left

theorem firstCells_rd (w : World) (A : Option Addr) (sz m c : Nat) (news : List Value) (hr : Rd w A news) (hl : news.length = m * sz) :
    (Builtin.firstCells sz m (.slice A m c)).run P w = .ok news.toArray w := by
  cases A with
  | none =>
    have : news = [] := by
      cases news with
      | nil => rfl
      | cons v l => obtain ⟨ad, h, _⟩ := hr 0 v rfl; cases h
    subst this
    exact run_firstCells_none w sz m m c
  | some a => exact run_firstCells_some w sz m a m c news hl (fun j v hj => hr.at_ hj)

/-- append(s, x...), s a row of the call's own, x any slice -/
theorem run_append_row (w : World) (B : Nat) (t ty e : TypeId) (z : Value) (sz bytes : Nat) (ht : P.underlying t = some (.slice e)) (hi : (P.info? e).map (fun i => (i.zero, i.size, i.bytes)) = some (some z, sz, bytes)) (hzs : z.cells.size = sz)
    (A : Option Addr) (n c : Nat) (xs : List Value) (hrow : Row w B e sz A n c xs)
    (A2 : Option Addr) (m c2 : Nat) (news : List Value) (hr : Rd w A2 news) (hl : news.length = m * sz) (h1 : ∀ u ∈ news, u.oneCell' = true)
    (h63 : n + m ≤ maxLen) (hbytes : (n + m) * bytes ≤ 140737488355328) (hB : B ≤ w.heap.size) :
    ∃ A' c' w', (Builtin.append_ #[t, t] ty #[.slice A n c, .slice A2 m c2]).run P w = .ok (.slice A' (n + m) c') w' ∧ Row w' B e sz A' (n + m) c' (xs ++ news) ∧ w.grownBy w' (A.map (·.block)) ∧
      (A' = A ∨ A' = some ⟨w.heap.size, 0, none⟩) := by
  obtain ⟨i, hi', hz, rfl, rfl⟩ := info_parts hi
  exact run_append_src w B t t ty e i z ht (.inl ⟨_, ht⟩) hi' hz hzs A n c xs hrow _ m news (fun w' => by simp [Builtin.lenOf])
    (firstCells_rd w A2 i.size m c2 news hr hl) (firstCells_rd w.drew A2 i.size m c2 news hr hl) hl h1 h63 hbytes hB
theorem wpList_append_row {w : World} {ops : Array Oper} {rest : List Oper} {o : Oper} {a : Act} {Q : Exit → Act → World → Prop} (hgd : o.guard = none) (s x : Operand) (t : TypeId)
    (ho : o.op = .call { callee := .builtin .append, args := #[s, x], argTypes := #[t, t] })
    (B : Nat) (e : TypeId) (z : Value) (sz bytes : Nat) (ht : P.underlying t = some (.slice e)) (hi : (P.info? e).map (fun i => (i.zero, i.size, i.bytes)) = some (some z, sz, bytes)) (hzs : z.cells.size = sz)
    (A : Option Addr) (n c : Nat) (xs : List Value) (hs : a.eval s = .slice A n c) (hrow : Row w B e sz A n c xs)
    (A2 : Option Addr) (m c2 : Nat) (news : List Value) (hx : a.eval x = .slice A2 m c2) (hr : Rd w A2 news) (hl : news.length = m * sz) (h1 : ∀ u ∈ news, u.oneCell' = true)
    (h63 : n + m ≤ maxLen) (hbytes : (n + m) * bytes ≤ 140737488355328) (hB : B ≤ w.heap.size)
    (h : ∀ A' c' w', Row w' B e sz A' (n + m) c' (xs ++ news) → w.grownBy w' (A.map (·.block)) → (A' = A ∨ A' = some ⟨w.heap.size, 0, none⟩) → wpList P ops Q rest (a.put o.dst (.slice A' (n + m) c')) w') :
    wpList P ops Q (o :: rest) a w := by
  obtain ⟨A', c', w', hrun, h2, h3, h4⟩ := run_append_row (P := P) w B t o.type e z sz bytes ht hi hzs A n c xs hrow A2 m c2 news hr hl h1 h63 hbytes hB
  exact Lib.wpList_append_run w hgd s x t t ho _ _ hs hx _ w' hrun (h A' c' w' h2 h3 h4)
/-- append(s, x...), x a string -/
theorem wpList_append_str {w : World} {ops : Array Oper} {rest : List Oper} {o : Oper} {a : Act} {Q : Exit → Act → World → Prop} (hgd : o.guard = none) (s x : Operand) (t u : TypeId)
    (ho : o.op = .call { callee := .builtin .append, args := #[s, x], argTypes := #[t, u] })
    (B : Nat) (e : TypeId) (z : Value) (bytes : Nat) (ht : P.underlying t = some (.slice e)) (hu : P.underlying u = some .string) (hi : (P.info? e).map (fun i => (i.zero, i.size, i.bytes)) = some (some z, 1, bytes)) (hzs : z.cells.size = 1)
    (A : Option Addr) (n c : Nat) (xs : List Value) (hs : a.eval s = .slice A n c) (hrow : Row w B e 1 A n c xs)
    (str : ByteArray) (hx : a.eval x = .string str)
    (h63 : n + str.size ≤ maxLen) (hbytes : (n + str.size) * bytes ≤ 140737488355328) (hB : B ≤ w.heap.size)
    (h : ∀ A' c' w', Row w' B e 1 A' (n + str.size) c' (xs ++ str.data.toList.map byteV) → w.grownBy w' (A.map (·.block)) → (A' = A ∨ A' = some ⟨w.heap.size, 0, none⟩) → wpList P ops Q rest (a.put o.dst (.slice A' (n + str.size) c')) w') :
    wpList P ops Q (o :: rest) a w := by
  obtain ⟨i, hi', hz, hsz, rfl⟩ := info_parts hi
  have hf : ∀ w' : World, (Builtin.firstCells i.size str.size (.string str)).run P w' = .ok (str.data.toList.map byteV).toArray w' := fun w' => by
    simp only [Builtin.firstCells, Sem.run_pure]
    congr 1
    apply Array.ext'
    rw [show str.extract 0 str.size = str by simp]
    simp [byteV, Function.comp_def]
  rw [← hsz] at hrow hzs
  obtain ⟨A', c', w', hrun, h2, h3, h4⟩ := run_append_src (P := P) w B t u o.type e i z ht (.inr hu) hi' hz hzs A n c xs hrow (.string str) str.size (str.data.toList.map byteV) (fun w' => by simp [Builtin.lenOf])
    (hf w) (hf w.drew) (by rw [hsz]; simp) (by intro v hv; simp at hv; obtain ⟨b, _, rfl⟩ := hv; rfl) h63 hbytes hB
  rw [hsz] at h2
  exact Lib.wpList_append_run w hgd s x t u ho _ _ hs hx _ w' hrun (h A' c' w' h2 h3 h4)

/-- append(s, make([]T, k)...), s a row of the call's own -/
theorem run_append_zeros_row (w : World) (B : Nat) (t u ty e : TypeId) (z : Value) (sz bytes : Nat) (ik : IntKind) (ht : P.underlying t = some (.slice e)) (hu : P.underlying u = some (.int ik)) (hi : (P.info? e).map (fun i => (i.zero, i.size, i.bytes)) = some (some z, sz, bytes))
    (hzs : z.cells.size = sz) (hsz : 0 < sz) (hz1 : ∀ u ∈ z.cells.toList, u.oneCell' = true)
    (A : Option Addr) (n c : Nat) (xs : List Value) (hrow : Row w B e sz A n c xs) (kq : IntKind) (k : Nat) (h0 : 0 < k)
    (h63 : n + k ≤ maxLen) (hbytes : (n + k) * bytes ≤ 140737488355328) (hB : B ≤ w.heap.size) :
    ∃ A' c' w', (Builtin.append_ #[t, u] ty #[.slice A n c, .int kq k]).run P w = .ok (.slice A' (n + k) c') w' ∧ Row w' B e sz A' (n + k) c' (xs ++ (Builtin.zeroCells z.cells k).toList) ∧ w.grownBy w' (A.map (·.block)) ∧
      (A' = A ∨ A' = some ⟨w.heap.size, 0, none⟩) := by
  obtain ⟨i, hi', hz, rfl, rfl⟩ := info_parts hi
  have hl : (Builtin.zeroCells z.cells k).toList.length = k * i.size := by simp [size_zeroCells, hzs]
  have h1 : ∀ u ∈ (Builtin.zeroCells z.cells k).toList, u.oneCell' = true := by
    intro v hv
    simp only [Builtin.zeroCells, Array.toList_map, List.mem_map] at hv
    obtain ⟨j, _, rfl⟩ := hv
    apply hz1
    have hlt : j % z.cells.size < z.cells.size := Nat.mod_lt _ (by omega)
    rw [getElem!_pos z.cells _ hlt]
    exact Array.getElem_mem_toList hlt
  have hlen : (xs ++ (Builtin.zeroCells z.cells k).toList).length = (n + k) * i.size := by rw [List.length_append, hrow.1, hl, Nat.add_mul]
  have hkm : k ≤ n + k := by omega
  have hbk : k * i.bytes ≤ (n + k) * i.bytes := Nat.mul_le_mul_right _ hkm
  have hk63 : k ≤ 9223372036854775807 := by simp only [maxLen] at h63; omega
  have hwr : IntKind.i64.wrap (k : Int) = k := by rw [IntKind.wrap_i64]; omega
  by_cases hroom : n + k ≤ c
  · rcases hrow.2 with ⟨rfl, rfl, rfl⟩ | ⟨g, cur, rfl, hb, hg, hnc, hcm, hcs, htake⟩
    · omega
    · have hfit : n * i.size + (Builtin.zeroCells z.cells k).toList.length ≤ cur.size := by
        rw [hl, ← Nat.add_mul]; exact Nat.le_trans (Nat.mul_le_mul_right _ hroom) hcs
      have hst := run_storeCells_at P g (n * i.size) e (Builtin.zeroCells z.cells k).toList 0 cur w hg (by simpa using hfit) h1
      simp only [Nat.add_zero] at hst
      refine ⟨_, c, w.setRow g (cur.toList.take (n * i.size) ++ (Builtin.zeroCells z.cells k).toList ++ cur.toList.drop (n * i.size + (Builtin.zeroCells z.cells k).toList.length)).toArray, ?_, ⟨hlen, .inr ⟨g, _, rfl, hb, setRow_heap w g cur _ e _ hg, hroom, hcm, ?_, ?_⟩⟩,
        ⟨rfl, rfl, rfl, by simp, fun k _ hk => setRow_other w g k _ (fun e => hk (by simp [e]))⟩, .inl rfl⟩
      · have h48i : ¬ (281474976710656 < (k : Int) * (i.bytes : Int)) := by
          rw [← Int.natCast_mul]; omega
        have hks : k * i.size ≠ 0 := by
          have := Nat.mul_pos h0 hsz
          omega
        generalize hZ : Builtin.zeroCells z.cells k = Z at *
        simp only [List.append_assoc] at hst
        simp [Builtin.append_, run_underlying ht, run_underlying hu, sizeOf, typeInfo, zeroValue, hi', hz, asInt, asIntOf, hwr, h48i, hroom, hks, hZ, show ¬ ((k : Int) < 0) by omega, Addr.add_lit, hst]
      · simp only [List.size_toArray, List.length_append, List.length_take, List.length_drop, Array.length_toList]
        simp at hfit
        omega
      · rw [htake, ← hlen]
        exact List.take_left
  · have hold : (Builtin.firstCells i.size n (.slice A n c)).run P w.drew = .ok xs.toArray w.drew := firstCells_rd w.drew A i.size n c xs (Rd.drew hrow.rd) hrow.1
    have hr := Lib.run_append_grow_zeros w t u ty e i z kq ik ht hu hi' hz A n c xs hold k h0 hsz (by omega) (by simp only [maxLen] at h63; omega) (by omega) (growslice_fits (show c < n + k by omega) hbytes)
    have hge := grownCap_ge w (n + k) c e
    have hcm : grownCap w (n + k) c e ≤ maxLen := grownCap_le_maxLen w (n + k) c e h63
    refine ⟨_, _, _, hr, ⟨hlen, .inr ⟨w.heap.size, _, rfl, hB, heap_alloc_new w.drew _, hge, hcm, ?_, ?_⟩⟩, ⟨rfl, rfl, rfl, by simp, fun k hk _ => Below.heap_alloc w.drew _ k hk⟩, .inr rfl⟩
    · have := Nat.add_mul (n + k) (grownCap w (n + k) c e - (n + k)) i.size
      rw [Nat.add_sub_cancel' hge] at this
      simp only [Array.size_append, List.size_toArray, size_zeroCells, hzs, hrow.1]
      rw [this, Nat.add_mul]
      exact Nat.le_refl _
    · simp only [Array.toList_append, List.append_assoc]
      rw [← List.append_assoc, ← hlen]
      exact List.take_left

theorem wpList_append_zeros_row {w : World} {ops : Array Oper} {rest : List Oper} {o : Oper} {a : Act} {Q : Exit → Act → World → Prop} (hgd : o.guard = none) (s x : Operand) (t u : TypeId)
    (ho : o.op = .call { callee := .builtin .append, args := #[s, x], argTypes := #[t, u] })
    (B : Nat) (e : TypeId) (z : Value) (sz bytes : Nat) (ik : IntKind) (ht : P.underlying t = some (.slice e)) (hu : P.underlying u = some (.int ik)) (hi : (P.info? e).map (fun i => (i.zero, i.size, i.bytes)) = some (some z, sz, bytes))
    (hzs : z.cells.size = sz) (hsz : 0 < sz) (hz1 : ∀ u ∈ z.cells.toList, u.oneCell' = true)
    (A : Option Addr) (n c : Nat) (xs : List Value) (hs : a.eval s = .slice A n c) (hrow : Row w B e sz A n c xs) (kq : IntKind) (k : Nat) (hx : a.eval x = .int kq k) (h0 : 0 < k)
    (h63 : n + k ≤ maxLen) (hbytes : (n + k) * bytes ≤ 140737488355328) (hB : B ≤ w.heap.size)
    (h : ∀ A' c' w', Row w' B e sz A' (n + k) c' (xs ++ (Builtin.zeroCells z.cells k).toList) → w.grownBy w' (A.map (·.block)) → (A' = A ∨ A' = some ⟨w.heap.size, 0, none⟩) → wpList P ops Q rest (a.put o.dst (.slice A' (n + k) c')) w') :
    wpList P ops Q (o :: rest) a w := by
  obtain ⟨A', c', w', hrun, h2, h3, h4⟩ := run_append_zeros_row (P := P) w B t u o.type e z sz bytes ik ht hu hi hzs hsz hz1 A n c xs hrow kq k h0 h63 hbytes hB
  exact Lib.wpList_append_run w hgd s x t u ho _ _ hs hx _ w' hrun (h A' c' w' h2 h3 h4)

/-- the same in a region that draws its order -/
theorem step_append_row {w : World} {ops : Array Oper} {o : Oper} {a : Act} {K : Act → World → Prop} {Q : Exit → Act → World → Prop} {F : Prop} (hgd : o.guard = none) (s x : Operand) (t : TypeId)
    (ho : o.op = .call { callee := .builtin .append, args := #[s, x], argTypes := #[t, t] })
    (B : Nat) (e : TypeId) (z : Value) (sz bytes : Nat) (ht : P.underlying t = some (.slice e)) (hi : (P.info? e).map (fun i => (i.zero, i.size, i.bytes)) = some (some z, sz, bytes)) (hzs : z.cells.size = sz)
    (A : Option Addr) (n c : Nat) (xs : List Value) (hs : a.eval s = .slice A n c) (hrow : Row w B e sz A n c xs)
    (A2 : Option Addr) (m c2 : Nat) (news : List Value) (hx : a.eval x = .slice A2 m c2) (hr : Rd w A2 news) (hl : news.length = m * sz) (h1 : ∀ u ∈ news, u.oneCell' = true)
    (h63 : n + m ≤ maxLen) (hbytes : (n + m) * bytes ≤ 140737488355328) (hB : B ≤ w.heap.size)
    (h : ∀ A' c' w', Row w' B e sz A' (n + m) c' (xs ++ news) → w.grownBy w' (A.map (·.block)) → (A' = A ∨ A' = some ⟨w.heap.size, 0, none⟩) → K (a.put o.dst (.slice A' (n + m) c')) w') :
    if Region.wanted o (yielded ops a.tmps) = true then Oper.wp P o a w K Q else F := by
  have hw : Region.wanted o (yielded ops a.tmps) = true := by simp [Region.wanted, hgd]
  rw [if_pos hw]
  obtain ⟨A', c', w', hrun, h2, h3, h4⟩ := run_append_row (P := P) w B t o.type e z sz bytes ht hi hzs A n c xs hrow A2 m c2 news hr hl h1 h63 hbytes hB
  unfold Oper.wp execOp
  simp only [ho, resolve, invoke, builtin, Sem.run_bind, Sem.run_pure, Result.andThen_ok, List.map_toArray, List.map_cons, List.map_nil, hs, hx, hrun]
  exact h A' c' w' h2 h3 h4
end
end Go.Proofs.YthbbmpelldglmaaDoor
