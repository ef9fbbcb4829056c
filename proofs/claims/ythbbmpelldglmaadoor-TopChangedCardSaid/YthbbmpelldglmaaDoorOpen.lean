/- Arguments opened: numbers, slices of numbers, as natural numbers and octets. -/
import Derived.Test.YthbbmpelldglmaaDoorBase
import Derived.ProofKit
namespace Go.Proofs.YthbbmpelldglmaaDoor
set_option linter.unusedVariables false
set_option linter.unusedSimpArgs false
open Go.RowKit Go.ChangeShapes

theorem nat_of_u16 {a : Int} (h : (Lit.int .u16 a).wf = true) : ∃ x : Nat, x < 65536 ∧ a = x := by
  have h1 : 0 ≤ a ∧ a ≤ 65535 := by simpa [Lit.wf, IntKind.min, IntKind.max, IntKind.bits, IntKind.signed] using h
  exact ⟨a.toNat, by omega, by omega⟩
theorem nat_of_u8 {a : Int} (h : (Lit.int .u8 a).wf = true) : ∃ x : Nat, x < 256 ∧ a = x := by
  have h1 : 0 ≤ a ∧ a ≤ 255 := by simpa [Lit.wf, IntKind.min, IntKind.max, IntKind.bits, IntKind.signed] using h
  exact ⟨a.toNat, by omega, by omega⟩

theorem rdB_of_ints {W : World} {x : Addr} {zs : List Int} (hcell : ∀ i, i < zs.length → W.cell? (x.add i) = some (.int .u8 (zs.getD i 0))) (hwz : ∀ n ∈ zs, (Lit.int .u8 n).wf = true) {n : Nat} (hn : n ≤ zs.length) :
    ∃ l : List UInt8, l.length = n ∧ RdB W (some x) l := by
  refine ⟨(zs.take n).map fun z => UInt8.ofNat z.toNat, by simp; omega, fun k v hv => ⟨x, rfl, ?_⟩⟩
  rw [List.getElem?_map, List.getElem?_map, List.getElem?_take] at hv
  by_cases hk : k < n
  · rw [if_pos hk, List.getElem?_eq_getElem (by omega)] at hv
    simp at hv
    subst hv
    rw [hcell k (by omega)]
    obtain ⟨b, hb, e⟩ := nat_of_u8 (hwz zs[k] (List.getElem_mem _))
    simp only [List.getD, List.getElem?_eq_getElem (show k < zs.length by omega), Option.getD_some, byteV]
    rw [e]
    simp [UInt8.toNat_ofNat', Nat.mod_eq_of_lt hb]
  · rw [if_neg hk] at hv; simp at hv

/-- numbers of a kind as cells -/
def RdN (k : IntKind) (w : World) (A : Option Addr) (l : List Nat) : Prop := Rd w A (l.map fun n : Nat => .int k (n : Int))
theorem rdN_of_ints {k : IntKind} {W : World} {x : Addr} {zs : List Int} (hcell : ∀ i, i < zs.length → W.cell? (x.add i) = some (.int k (zs.getD i 0))) (hwz : ∀ n ∈ zs, (Lit.int k n).wf = true) (h0 : ∀ a, (Lit.int k a).wf = true → 0 ≤ a) {n : Nat} (hn : n ≤ zs.length) :
    ∃ l : List Nat, l.length = n ∧ RdN k W (some x) l ∧ ∀ m ∈ l, (Lit.int k m).wf = true := by
  refine ⟨(zs.take n).map Int.toNat, by simp; omega, fun i v hv => ⟨x, rfl, ?_⟩, ?_⟩
  · rw [List.getElem?_map, List.getElem?_map, List.getElem?_take] at hv
    by_cases hk : i < n
    · rw [if_pos hk, List.getElem?_eq_getElem (by omega)] at hv
      simp at hv
      subst hv
      rw [hcell i (by omega)]
      have := h0 _ (hwz zs[i] (List.getElem_mem _))
      simp only [List.getD, List.getElem?_eq_getElem (show i < zs.length by omega), Option.getD_some]
      congr 2
      omega
    · rw [if_neg hk] at hv; simp at hv
  · intro m hm
    simp only [List.mem_map] at hm
    obtain ⟨z, hz, rfl⟩ := hm
    have hw := hwz z (List.mem_of_mem_take hz)
    have := h0 _ hw
    rw [show ((z.toNat : Nat) : Int) = z by omega]
    exact hw
theorem rdN_of_u16 {W : World} {x : Addr} {zs : List Int} (hcell : ∀ i, i < zs.length → W.cell? (x.add i) = some (.int .u16 (zs.getD i 0))) (hwz : ∀ n ∈ zs, (Lit.int .u16 n).wf = true) {n : Nat} (hn : n ≤ zs.length) :
    ∃ l : List Nat, l.length = n ∧ RdN .u16 W (some x) l ∧ ∀ m ∈ l, m < 65536 := by
  obtain ⟨l, h1, h2, h3⟩ := rdN_of_ints hcell hwz (fun a h => by obtain ⟨y, _, rfl⟩ := nat_of_u16 h; omega) hn
  exact ⟨l, h1, h2, fun m hm => by obtain ⟨y, hy, e⟩ := nat_of_u16 (h3 m hm); omega⟩
theorem RdN.get {k : IntKind} {w : World} {A : Option Addr} {l : List Nat} (h : RdN k w A l) {i : Nat} (hi : i < l.length) : ∃ ad, A = some ad ∧ w.cell? (ad.add i) = some (.int k (l[i] : Int)) := by
  obtain ⟨ad, e, hc⟩ := Rd.get h (k := i) (by simpa using hi)
  exact ⟨ad, e, by rw [hc]; simp⟩
theorem RdN.below {k : IntKind} {w w' : World} {A : Option Addr} {l : List Nat} (h : RdN k w A l) (hb : Below w.heap.size w w') : RdN k w' A l := Rd.below h hb
end Go.Proofs.YthbbmpelldglmaaDoor
