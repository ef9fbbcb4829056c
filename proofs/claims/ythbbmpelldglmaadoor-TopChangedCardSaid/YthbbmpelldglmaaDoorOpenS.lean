/- Structs and arrays of one-cell parts, by value, opened; octets in a field. -/
import Derived.Test.YthbbmpelldglmaaDoorOpen
import Derived.Test.YthbbmpelldglmaaDoorProg
import Derived.Test.YthbbmpelldglmaaDoorRow
import Derived.Lib.SmallJoins
import Derived.SizedLaws
import Derived.OpenShut
namespace Go.Proofs.YthbbmpelldglmaaDoor
set_option linter.unusedVariables false
set_option linter.unusedSimpArgs false
open Go.RowKit Go.ChangeShapes Go.WideShapes

theorem list3 {α : Type} {l : List α} (h : l.length = 3) : ∃ a b c, l = [a, b, c] := by
  match l, h with
  | [a, b, c], _ => exact ⟨a, b, c, rfl⟩
theorem list2 {α : Type} {l : List α} (h : l.length = 2) : ∃ a b, l = [a, b] := by
  match l, h with
  | [a, b], _ => exact ⟨a, b, rfl⟩
theorem list4 {α : Type} {l : List α} (h : l.length = 4) : ∃ a b c d, l = [a, b, c, d] := by
  match l, h with
  | [a, b, c, d], _ => exact ⟨a, b, c, d, rfl⟩
theorem list5 {α : Type} {l : List α} (h : l.length = 5) : ∃ a b c d e, l = [a, b, c, d, e] := by
  match l, h with
  | [a, b, c, d, e], _ => exact ⟨a, b, c, d, e, rfl⟩
theorem list6 {α : Type} {l : List α} (h : l.length = 6) : ∃ a b c d e f, l = [a, b, c, d, e, f] := by
  match l, h with
  | [a, b, c, d, e, f], _ => exact ⟨a, b, c, d, e, f, rfl⟩
section
variable {H : Type} {enc : TypeId × Value → H} {P : Program} {w : World} {base : Nat} {spare : Nat → Bool} {held : Bool}

theorem take_one {α : Type} (l : List α) (i : Nat) (c : α) (h : l[i]? = some c) : (l.drop i).take 1 = [c] := by
  have hi : i < l.length := (List.getElem?_eq_some_iff.1 h).1
  rw [List.drop_eq_getElem_cons hi]
  simp [(List.getElem?_eq_some_iff.1 h).2]
/-- a struct of one-cell fields, by value -/
theorem open_aggN {r : Reach} {b0 : Nat} {t : TypeId} {fs : Array Field} {v : Value} {d : DataW H} {p : List MemPlace} (hs : P.underlying t = some (.struct fs)) (hone : Go.Deep.oneCellFields P fs = true) (hC : P.cellsOf t = fs.size)
    (hv : Value.okWide P w r b0 t v) (h : DataW.Trod enc P w base spare held t v d p) :
    ∃ (l : List Value) (ys : List (DataW H × List MemPlace)) (n : Nat), v = .agg l.toArray ∧ l.length = fs.size ∧ ys.length = fs.size ∧ d = .agg (ys.map (·.1)) ∧
      ∀ (i : Nat) (f : Field) (c : Value) (y : DataW H × List MemPlace), fs[i]? = some f → l[i]? = some c → ys[i]? = some y → DataW.trod enc P w base spare held n f.type [c] = some y := by
  obtain ⟨cs, rfl, hsz⟩ := okWide_struct hs hv
  obtain ⟨l⟩ := cs
  obtain ⟨fuel, hf⟩ := h
  obtain ⟨ys, n, _, hx, _, hlen, hfs⟩ := DataW.trod_struct hs hf
  refine ⟨l, ys, n, rfl, by simpa [hC] using hsz, hlen, congrArg Prod.fst hx, fun i f c y h1 h2 h3 => ?_⟩
  obtain ⟨o, k⟩ := Go.Deep.hone_of hone i f h1
  have := hfs i f h1
  rw [o, k, h3, take_one _ i c (by simpa [Value.cells] using h2)] at this
  exact this
/-- an array of one-cell elements, by value -/
theorem open_arrN {b0 : Nat} {t e : TypeId} {m : Nat} {v : Value} {d : DataW H} {p : List MemPlace} (hs : P.underlying t = some (.array m e)) (hone : P.cellsOf e = 1) (cs : Array Value) (hv : v = .agg cs)
    (h : DataW.Trod enc P w base spare held t v d p) :
    ∃ (ys : List (DataW H × List MemPlace)) (n : Nat), cs.toList.length = P.cellsOf t ∧ ys.length = m ∧ d = .agg (ys.map (·.1)) ∧
      ∀ (i : Nat) (c : Value) (y : DataW H × List MemPlace), i < m → cs.toList[i]? = some c → ys[i]? = some y → DataW.trod enc P w base spare held n e [c] = some y := by
  subst hv
  obtain ⟨fuel, hf⟩ := h
  obtain ⟨ys, n, _, hx, hl, hlen, hfs⟩ := DataW.trod_array hs hf
  refine ⟨ys, n, by simpa [Value.cells] using hl, hlen, congrArg Prod.fst hx, fun i c y h1 h2 h3 => ?_⟩
  have := hfs i h1
  rw [hone, Nat.mul_one, h3, take_one _ i c (by simpa [Value.cells] using h2)] at this
  exact this
theorem sized_field {ts : List TypeId} {ds : List (DataW H)} (h : (DataW.weightsEach P ts ds).all (· ≤ reachBytes) = true) {j : Nat} {t : TypeId} {fs : Array Field} {parts : List (DataW H)} (ht : ts[j]? = some t) (hd : ds[j]? = some (.agg parts))
    (hu : P.underlying t = some (.struct fs)) {i : Nat} {f : Field} {d : DataW H} (hf : fs[i]? = some f) (hp : parts[i]? = some d) {n : Nat} (hn : n ∈ d.weights P f.type) : n ≤ reachBytes := by
  have h1 : n ∈ (DataW.agg parts).weights P t := by
    unfold DataW.weights
    rw [hu]
    exact DataW.weights_mem_each (j := i) (t := f.type) (by rw [List.getElem?_map, Array.getElem?_toList, hf]; rfl) hp n hn
  have := List.all_eq_true.1 h _ (DataW.weights_mem_each ht hd n h1)
  simpa using this
theorem num_of {k : IntKind} {t : TypeId} {n : Nat} {c : Value} {y : DataW H × List MemPlace} (hu : P.underlying t = some (.int k)) (h : DataW.trod enc P w base spare held n t [c] = some y) : ∃ a, c = .int k a ∧ (Lit.int k a).wf = true := by
  obtain ⟨a, e1, _, hw⟩ := DataW.trod_int hu h
  simp at e1
  exact ⟨a, e1, hw⟩
end

/-- octets in a field -/
theorem open_bytes {H : Type} {enc : TypeId × Value → H} {W : World} {n : Nat} {v : Value} {y : DataW H × List MemPlace} (h : DataW.trod enc Tryd.prog W 0 (fun _ => true) true n 27 [v] = some y) :
    ∃ (A : Option Addr) (l : List UInt8) (c : Nat), v = .slice A l.length c ∧ RdB W A l ∧ l.length ≤ c ∧ (c = 0 ∨ c ∈ y.1.weights Tryd.prog 27) := by
  rcases open_ints Tryd.underlying27 Tryd.underlying5 (by kernel_rfl) h with ⟨hcs, _⟩ | ⟨x, len, c, zs, hcs, _, hl, hm, hz, hx, hcell, hwz⟩
  · simp at hcs
    exact ⟨none, [], 0, hcs, by intro k v hv; simp at hv, by simp, .inl rfl⟩
  · simp at hcs
    simp only [if_true] at hz
    obtain ⟨l, hl2, hr⟩ := rdB_of_ints hcell hwz (n := len) (by omega)
    refine ⟨some x, l, c, by rw [hl2]; exact hcs, hr, by omega, .inr ?_⟩
    rw [hx]
    unfold DataW.weights
    rw [Tryd.underlying27]
    simp only [show Tryd.prog.bytesOf 5 = 1 from by kernel_rfl, lits, List.length_map, List.length_take, List.length_drop]
    exact List.mem_cons.2 (.inl (by omega))
end Go.Proofs.YthbbmpelldglmaaDoor
