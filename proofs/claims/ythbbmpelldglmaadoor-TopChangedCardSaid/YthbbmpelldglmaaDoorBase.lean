/- Small lemmas that know nothing of the program: bit operations on natural numbers, arrays behind a pointer. -/
import Derived.WalkKit
import Derived.WalkSpells
import Derived.WalkLawsBesides
import Derived.Lib.Hide
namespace Go.Proofs.YthbbmpelldglmaaDoor
set_option linter.unusedVariables false
set_option linter.unusedSimpArgs false
open Go.RowKit

theorem wrap_u16 (n : Int) : IntKind.u16.wrap n = n % 65536 := by simp [IntKind.wrap, IntKind.bits, IntKind.signed]
theorem wrap_u64 (n : Int) : IntKind.u64.wrap n = n % 18446744073709551616 := by simp [IntKind.wrap, IntKind.bits, IntKind.signed]
theorem u16_nat (n : Nat) (h : n < 65536) : IntKind.u16.wrap (n : Int) = n := by rw [wrap_u16]; omega
theorem u8_nat (n : Nat) (h : n < 256) : IntKind.u8.wrap (n : Int) = n := by rw [IntKind.wrap_u8]; omega
theorem u8_mod (n : Nat) : IntKind.u8.wrap (n : Int) = ((n % 256 : Nat) : Int) := by rw [IntKind.wrap_u8]; omega

theorem and_u16 (a b : Nat) (ha : a < 65536) (hb : b < 65536) : bits .and .u16 a b = ((a &&& b : Nat) : Int) :=
  (bits_nat .u16 16 (by decide) (fun n h0 h1 => by rw [wrap_u16]; omega) a b ha hb).1
theorem or_u16 (a b : Nat) (ha : a < 65536) (hb : b < 65536) : bits .or .u16 a b = ((a ||| b : Nat) : Int) :=
  (bits_nat .u16 16 (by decide) (fun n h0 h1 => by rw [wrap_u16]; omega) a b ha hb).2
theorem xor_nat (k : IntKind) (j : Nat) (hj : j ≤ k.bits) (hk : ∀ n : Int, 0 ≤ n → n < 2 ^ j → k.wrap n = n) (a b : Nat) (ha : a < 2 ^ j) (hb : b < 2 ^ j) :
    bits .xor k a b = ((a ^^^ b : Nat) : Int) := by
  have hp : 2 ^ j ≤ 2 ^ k.bits := Nat.pow_le_pow_right (by decide) hj
  have ha' : a % 2 ^ k.bits = a := Nat.mod_eq_of_lt (Nat.lt_of_lt_of_le ha hp)
  have hb' : b % 2 ^ k.bits = b := Nat.mod_eq_of_lt (Nat.lt_of_lt_of_le hb hp)
  simp only [bits, BitVec.ofInt_natCast, BitVec.toNat_xor, BitVec.toNat_ofNat, ha', hb']
  exact hk _ (Int.natCast_nonneg _) (by exact_mod_cast Nat.xor_lt_two_pow ha hb)
theorem xor_u16 (a b : Nat) (ha : a < 65536) (hb : b < 65536) : bits .xor .u16 a b = ((a ^^^ b : Nat) : Int) :=
  xor_nat .u16 16 (by decide) (fun n h0 h1 => by rw [wrap_u16]; omega) a b ha hb
theorem xor_u8 (a b : Nat) (ha : a < 256) (hb : b < 256) : bits .xor .u8 a b = ((a ^^^ b : Nat) : Int) :=
  xor_nat .u8 8 (by decide) wraps_u8 a b ha hb

section
variable {P : Program} {ops : Array Oper} {rest : List Oper} {o : Oper} {a : Act} {Q : Exit → Act → World → Prop} {W : World}
/-- Gates: an arm that begins with one is tried at one operation alone. -/
theorem at_dst (N : Tmp) (_h : o.dst = some N) (h : wpList P ops Q (o :: rest) a W) : wpList P ops Q (o :: rest) a W := h
theorem at_store (t : TypeId) (p : Tmp) {v : Operand} (_h : o.op = .store t (.tmp p) v) (h : wpList P ops Q (o :: rest) a W) : wpList P ops Q (o :: rest) a W := h
end

theorem add_block (a : Addr) (n : Nat) : (a.add n).block = a.block := by unfold Addr.add; split <;> rfl
theorem add_add (a : Addr) (i j : Nat) : (a.add i).add j = a.add (i + j) := by
  unfold Addr.add
  by_cases hi : i = 0 <;> by_cases hj : j = 0 <;> simp [hi, hj, Nat.add_assoc]
theorem add_lit (g k : Nat) : (⟨g, 0, none⟩ : Addr).add k = ⟨g, k, none⟩ := by unfold Addr.add; split <;> simp_all

theorem byte_ne {a b : UInt8} (h : ¬ a = b) : ((a.toNat : Int) == (b.toNat : Int)) = false := by
  rw [beq_eq_false_iff_ne]
  intro e
  exact h (UInt8.toNat_inj.1 (by exact_mod_cast e))
theorem byte_ne' {a b : UInt8} (h : ¬ a = b) : ((a.toNat : Int) != (b.toNat : Int)) = true := by
  unfold bne; rw [byte_ne h]; rfl

/-- The slice at A reads as the cells xs. -/
def Rd (w : World) (A : Option Addr) (xs : List Value) : Prop := ∀ k v, xs[k]? = some v → ∃ ad, A = some ad ∧ w.cell? (ad.add k) = some v
section
variable {w w' : World} {A : Option Addr} {xs ys : List Value}
theorem Rd.nil (w : World) (A : Option Addr) : Rd w A [] := fun k v h => by simp at h
theorem Rd.at_ {ad : Addr} (h : Rd w (some ad) xs) {k : Nat} {v : Value} (hk : xs[k]? = some v) : w.cell? (ad.add k) = some v := by
  obtain ⟨ad', e, hc⟩ := h k v hk
  injection e with e
  subst e
  exact hc
theorem Rd.get (h : Rd w A xs) {k : Nat} (hk : k < xs.length) : ∃ ad, A = some ad ∧ w.cell? (ad.add k) = some xs[k] :=
  h k _ (List.getElem?_eq_getElem hk)
theorem Rd.keep (h : Rd w A xs) (hk : ∀ p : Addr, p.block < w.heap.size → w'.cell? p = w.cell? p) : Rd w' A xs := fun k v hv => by
  obtain ⟨ad, e, hc⟩ := h k v hv
  exact ⟨ad, e, (hk _ (block_lt_of_cell hc)).trans hc⟩
theorem Rd.below (h : Rd w A xs) (hb : Below w.heap.size w w') : Rd w' A xs := h.keep fun _ hp => hb.cell hp
theorem Rd.alloc (h : Rd w A xs) (o : Obj) : Rd (w.alloc o) A xs := h.keep fun p hp => World.cell?_alloc_lt w o p hp
theorem Rd.drew (h : Rd w A xs) : Rd w.drew A xs := h
theorem Rd.drewN (h : Rd w A xs) (n : Nat) : Rd (w.drewN n) A xs := h
theorem Rd.setCell (h : Rd w A xs) {p : Addr} (hp : ∀ ad, A = some ad → ad.block ≠ p.block) (u : Value) : Rd (w.setCell p u) A xs := fun k v hv => by
  obtain ⟨ad, e, hc⟩ := h k v hv
  refine ⟨ad, e, ?_⟩
  rw [World.cell?_setCell_other w p _ u (fun e2 => hp ad e (by rw [← add_block ad k, e2]))]
  exact hc
theorem Rd.take (h : Rd w A xs) (n : Nat) : Rd w A (xs.take n) := fun k v hv => by
  rw [List.getElem?_take] at hv
  split at hv
  · exact h k v hv
  · cases hv
theorem Rd.drop {ad : Addr} (h : Rd w (some ad) xs) (n : Nat) : Rd w (some (ad.add n)) (xs.drop n) := fun k v hv => by
  rw [List.getElem?_drop] at hv
  exact ⟨_, rfl, by rw [add_add]; exact h.at_ hv⟩
theorem Rd.of_own {base E n : Nat} {c : Nat} (h : w.ownsRow base E 1 (.slice A n c) n xs) : Rd w A xs := fun k v hv => by
  rcases h.2 with ⟨e, hn⟩ | ⟨g, cap, cur, e, _⟩
  · have h1 := h.1
    subst hn
    simp at h1
    subst h1
    simp at hv
  · injection e with e1
    subst e1
    exact ⟨_, rfl, h.cells (g := g) rfl k v hv⟩
end

theorem below_then {w X w2 : World} (h1 : Below w.heap.size w X) (h2 : Below X.heap.size X w2) : Below w.heap.size w w2 := h1.trans (h2.mono h1.size)
theorem below_alloc {w X : World} (h : Below w.heap.size w X) (o : Obj) : Below w.heap.size w (X.alloc o) := h.alloc h.size o

/-- octets as cells -/
def byteV (b : UInt8) : Value := .int .u8 (b.toNat : Int)
def RdB (w : World) (A : Option Addr) (l : List UInt8) : Prop := Rd w A (l.map byteV)
section
variable {w w' : World} {A : Option Addr} {l : List UInt8}
theorem RdB.below (h : RdB w A l) (hb : Below w.heap.size w w') : RdB w' A l := Rd.below h hb
theorem RdB.alloc (h : RdB w A l) (o : Obj) : RdB (w.alloc o) A l := Rd.alloc h o
theorem RdB.drew (h : RdB w A l) : RdB w.drew A l := h
theorem RdB.drewN (h : RdB w A l) (n : Nat) : RdB (w.drewN n) A l := h
theorem RdB.nil (w : World) (A : Option Addr) : RdB w A [] := Rd.nil w A
theorem RdB.take (h : RdB w A l) (n : Nat) : RdB w A (l.take n) := by unfold RdB at *; rw [List.map_take]; exact Rd.take h n
theorem RdB.drop {ad : Addr} (h : RdB w (some ad) l) (n : Nat) : RdB w (some (ad.add n)) (l.drop n) := by unfold RdB at *; rw [List.map_drop]; exact Rd.drop h n
end
theorem RdB.get {w : World} {A : Option Addr} {l : List UInt8} (h : RdB w A l) {k : Nat} (hk : k < l.length) : ∃ ad, A = some ad ∧ w.cell? (ad.add k) = some (.int .u8 (l[k].toNat : Int)) := by
  obtain ⟨ad, e, hc⟩ := Rd.get h (k := k) (by simpa using hk)
  exact ⟨ad, e, by rw [hc]; simp [byteV]⟩

section
variable {P : Program}
/-- a whole array is stored into its block; of the world behind it the block is known, and that nothing else has turned -/
theorem wpList_store_rowN {ops : Array Oper} {rest : List Oper} {o : Oper} {a : Act} {w : World} {Q : Exit → Act → World → Prop} (hgd : o.guard = none) (ty : TypeId) (x y : Operand) (ho : o.op = .store ty x y)
    (g : Nat) (cells : Array Value) (hx : a.eval x = .pointer (some ⟨g, 0, none⟩)) (hy : a.eval y = .agg cells)
    (t : TypeId) (old : Array Value) (hg : w.heap[g]? = some (.cells old t (0, 0))) (hi : (P.info? ty).map (·.size) = some cells.size)
    (hold : old.size = cells.size) (h1 : cells.all (·.oneCell') = true)
    (h : ∀ w2 : World, w2.heap[g]? = some (.cells cells t (0, 0)) → w2.heap.size = w.heap.size → w.grownBy w2 (some g) → wpList P ops Q rest (a.put o.dst undef) w2) : wpList P ops Q (o :: rest) a w :=
  wpList_store_row hgd ty x y ho g cells hx hy t old hg hi hold h1
    (h _ (setRow_heap w g old _ t _ hg) (by simp) ⟨rfl, rfl, rfl, by simp, fun k _ hne => setRow_other _ _ _ _ (by rintro rfl; exact hne rfl)⟩)
end

end Go.Proofs.YthbbmpelldglmaaDoor
