/- Small lemmas that know nothing of the program: bit operations on natural numbers, arrays behind a pointer. -/
import Derived.WalkKit
import Derived.WalkSpells
import Derived.WalkLawsBesides
import Derived.Lib.Hide
import Derived.Test.YthbbmpelldglmaaGreatDoorProg
import Derived.Lib.AppendZerosOnto
import Derived.Maps.RangeWalk
import Derived.Sort.KeysCollected
import Derived.WideKeyEntry
namespace Go.Proofs.YthbbmpelldglmaaGreatDoor
set_option linter.unusedVariables false
set_option linter.unusedSimpArgs false
open Go.RowKit

theorem wrap_u16 (n : Int) : IntKind.u16.wrap n = n % 65536 := by simp [IntKind.wrap, IntKind.bits, IntKind.signed]
theorem wrap_u64 (n : Int) : IntKind.u64.wrap n = n % 18446744073709551616 := by simp [IntKind.wrap, IntKind.bits, IntKind.signed]
theorem u16_nat (n : Nat) (h : n < 65536) : IntKind.u16.wrap (n : Int) = n := by rw [wrap_u16]; omega
theorem u8_nat (n : Nat) (h : n < 256) : IntKind.u8.wrap (n : Int) = n := by rw [IntKind.wrap_u8]; omega
theorem u8_mod (n : Nat) : IntKind.u8.wrap (n : Int) = ((n % 256 : Nat) : Int) := by rw [IntKind.wrap_u8]; omega

theorem and_u16 (a b : Nat) (ha : a < 65536) (hb : b < 65536) : bits .and .u16 a b = ((a &&& b : Nat) : Int) :=
  (bits_nat .u16 16 (by decide) (fun n h0 h1 => by rw [wrap_u16]; omega) a b ha hb).1
theorem or_u16 (a b : Nat) (ha : a < 65536) (hb : b < 65536) : bits .or .u16 a b = ((a ||| b : Nat) : Int) :=
  (bits_nat .u16 16 (by decide) (fun n h0 h1 => by rw [wrap_u16]; omega) a b ha hb).2
theorem xor_nat (k : IntKind) (j : Nat) (hj : j ≤ k.bits) (hk : ∀ n : Int, 0 ≤ n → n < 2 ^ j → k.wrap n = n) (a b : Nat) (ha : a < 2 ^ j) (hb : b < 2 ^ j) :
    bits .xor k a b = ((a ^^^ b : Nat) : Int) := by
  have hp : 2 ^ j ≤ 2 ^ k.bits := Nat.pow_le_pow_right (by decide) hj
  have ha' : a % 2 ^ k.bits = a := Nat.mod_eq_of_lt (Nat.lt_of_lt_of_le ha hp)
  have hb' : b % 2 ^ k.bits = b := Nat.mod_eq_of_lt (Nat.lt_of_lt_of_le hb hp)
  simp only [bits, BitVec.ofInt_natCast, BitVec.toNat_xor, BitVec.toNat_ofNat, ha', hb']
  exact hk _ (Int.natCast_nonneg _) (by exact_mod_cast Nat.xor_lt_two_pow ha hb)
theorem xor_u16 (a b : Nat) (ha : a < 65536) (hb : b < 65536) : bits .xor .u16 a b = ((a ^^^ b : Nat) : Int) :=
  xor_nat .u16 16 (by decide) (fun n h0 h1 => by rw [wrap_u16]; omega) a b ha hb
theorem xor_u8 (a b : Nat) (ha : a < 256) (hb : b < 256) : bits .xor .u8 a b = ((a ^^^ b : Nat) : Int) :=
  xor_nat .u8 8 (by decide) wraps_u8 a b ha hb

section
variable {P : Program} {ops : Array Oper} {rest : List Oper} {o : Oper} {a : Act} {Q : Exit → Act → World → Prop} {W : World}
/-- Gates: an arm that begins with one is tried at one operation alone. -/
theorem at_dst (N : Tmp) (_h : o.dst = some N) (h : wpList P ops Q (o :: rest) a W) : wpList P ops Q (o :: rest) a W := h
theorem at_store (t : TypeId) (p : Tmp) {v : Operand} (_h : o.op = .store t (.tmp p) v) (h : wpList P ops Q (o :: rest) a W) : wpList P ops Q (o :: rest) a W := h
end

theorem add_block (a : Addr) (n : Nat) : (a.add n).block = a.block := by unfold Addr.add; split <;> rfl
theorem add_add (a : Addr) (i j : Nat) : (a.add i).add j = a.add (i + j) := by
  unfold Addr.add
  by_cases hi : i = 0 <;> by_cases hj : j = 0 <;> simp [hi, hj, Nat.add_assoc]
theorem add_lit (g k : Nat) : (⟨g, 0, none⟩ : Addr).add k = ⟨g, k, none⟩ := by unfold Addr.add; split <;> simp_all

theorem byte_ne {a b : UInt8} (h : ¬ a = b) : ((a.toNat : Int) == (b.toNat : Int)) = false := by
  rw [beq_eq_false_iff_ne]
  intro e
  exact h (UInt8.toNat_inj.1 (by exact_mod_cast e))
theorem byte_ne' {a b : UInt8} (h : ¬ a = b) : ((a.toNat : Int) != (b.toNat : Int)) = true := by
  unfold bne; rw [byte_ne h]; rfl

/-- The slice at A reads as the cells xs. -/
def Rd (w : World) (A : Option Addr) (xs : List Value) : Prop := ∀ k v, xs[k]? = some v → ∃ ad, A = some ad ∧ w.cell? (ad.add k) = some v
section
variable {w w' : World} {A : Option Addr} {xs ys : List Value}
theorem Rd.nil (w : World) (A : Option Addr) : Rd w A [] := fun k v h => by simp at h
theorem Rd.at_ {ad : Addr} (h : Rd w (some ad) xs) {k : Nat} {v : Value} (hk : xs[k]? = some v) : w.cell? (ad.add k) = some v := by
  obtain ⟨ad', e, hc⟩ := h k v hk
  injection e with e
  subst e
  exact hc
theorem Rd.get (h : Rd w A xs) {k : Nat} (hk : k < xs.length) : ∃ ad, A = some ad ∧ w.cell? (ad.add k) = some xs[k] :=
  h k _ (List.getElem?_eq_getElem hk)
theorem Rd.keep (h : Rd w A xs) (hk : ∀ p : Addr, p.block < w.heap.size → w'.cell? p = w.cell? p) : Rd w' A xs := fun k v hv => by
  obtain ⟨ad, e, hc⟩ := h k v hv
  exact ⟨ad, e, (hk _ (block_lt_of_cell hc)).trans hc⟩
theorem Rd.below (h : Rd w A xs) (hb : Below w.heap.size w w') : Rd w' A xs := h.keep fun _ hp => hb.cell hp
theorem Rd.alloc (h : Rd w A xs) (o : Obj) : Rd (w.alloc o) A xs := h.keep fun p hp => World.cell?_alloc_lt w o p hp
theorem Rd.drew (h : Rd w A xs) : Rd w.drew A xs := h
theorem Rd.drewN (h : Rd w A xs) (n : Nat) : Rd (w.drewN n) A xs := h
theorem Rd.setCell (h : Rd w A xs) {p : Addr} (hp : ∀ ad, A = some ad → ad.block ≠ p.block) (u : Value) : Rd (w.setCell p u) A xs := fun k v hv => by
  obtain ⟨ad, e, hc⟩ := h k v hv
  refine ⟨ad, e, ?_⟩
  rw [World.cell?_setCell_other w p _ u (fun e2 => hp ad e (by rw [← add_block ad k, e2]))]
  exact hc
theorem Rd.take (h : Rd w A xs) (n : Nat) : Rd w A (xs.take n) := fun k v hv => by
  rw [List.getElem?_take] at hv
  split at hv
  · exact h k v hv
  · cases hv
theorem Rd.drop {ad : Addr} (h : Rd w (some ad) xs) (n : Nat) : Rd w (some (ad.add n)) (xs.drop n) := fun k v hv => by
  rw [List.getElem?_drop] at hv
  exact ⟨_, rfl, by rw [add_add]; exact h.at_ hv⟩
theorem Rd.of_own {base E n : Nat} {c : Nat} (h : w.ownsRow base E 1 (.slice A n c) n xs) : Rd w A xs := fun k v hv => by
  rcases h.2 with ⟨e, hn⟩ | ⟨g, cap, cur, e, _⟩
  · have h1 := h.1
    subst hn
    simp at h1
    subst h1
    simp at hv
  · injection e with e1
    subst e1
    exact ⟨_, rfl, h.cells (g := g) rfl k v hv⟩
end

theorem below_then {w X w2 : World} (h1 : Below w.heap.size w X) (h2 : Below X.heap.size X w2) : Below w.heap.size w w2 := h1.trans (h2.mono h1.size)
theorem below_alloc {w X : World} (h : Below w.heap.size w X) (o : Obj) : Below w.heap.size w (X.alloc o) := h.alloc h.size o

/-- octets as cells -/
def byteV (b : UInt8) : Value := .int .u8 (b.toNat : Int)
def RdB (w : World) (A : Option Addr) (l : List UInt8) : Prop := Rd w A (l.map byteV)
section
variable {w w' : World} {A : Option Addr} {l : List UInt8}
theorem RdB.below (h : RdB w A l) (hb : Below w.heap.size w w') : RdB w' A l := Rd.below h hb
theorem RdB.alloc (h : RdB w A l) (o : Obj) : RdB (w.alloc o) A l := Rd.alloc h o
theorem RdB.drew (h : RdB w A l) : RdB w.drew A l := h
theorem RdB.drewN (h : RdB w A l) (n : Nat) : RdB (w.drewN n) A l := h
theorem RdB.nil (w : World) (A : Option Addr) : RdB w A [] := Rd.nil w A
theorem RdB.take (h : RdB w A l) (n : Nat) : RdB w A (l.take n) := by unfold RdB at *; rw [List.map_take]; exact Rd.take h n
theorem RdB.drop {ad : Addr} (h : RdB w (some ad) l) (n : Nat) : RdB w (some (ad.add n)) (l.drop n) := by unfold RdB at *; rw [List.map_drop]; exact Rd.drop h n
end
theorem RdB.get {w : World} {A : Option Addr} {l : List UInt8} (h : RdB w A l) {k : Nat} (hk : k < l.length) : ∃ ad, A = some ad ∧ w.cell? (ad.add k) = some (.int .u8 (l[k].toNat : Int)) := by
  obtain ⟨ad, e, hc⟩ := Rd.get h (k := k) (by simpa using hk)
  exact ⟨ad, e, by rw [hc]; simp [byteV]⟩

section
variable {P : Program}
/-- a whole array is stored into its block; of the world behind it the block is known, and that nothing else has turned -/
theorem wpList_store_rowN {ops : Array Oper} {rest : List Oper} {o : Oper} {a : Act} {w : World} {Q : Exit → Act → World → Prop} (hgd : o.guard = none) (ty : TypeId) (x y : Operand) (ho : o.op = .store ty x y)
    (g : Nat) (cells : Array Value) (hx : a.eval x = .pointer (some ⟨g, 0, none⟩)) (hy : a.eval y = .agg cells)
    (t : TypeId) (old : Array Value) (hg : w.heap[g]? = some (.cells old t (0, 0))) (hi : (P.info? ty).map (·.size) = some cells.size)
    (hold : old.size = cells.size) (h1 : cells.all (·.oneCell') = true)
    (h : ∀ w2 : World, w2.heap[g]? = some (.cells cells t (0, 0)) → w2.heap.size = w.heap.size → w.grownBy w2 (some g) → wpList P ops Q rest (a.put o.dst undef) w2) : wpList P ops Q (o :: rest) a w :=
  wpList_store_row hgd ty x y ho g cells hx hy t old hg hi hold h1
    (h _ (setRow_heap w g old _ t _ hg) (by simp) ⟨rfl, rfl, rfl, by simp, fun k _ hne => setRow_other _ _ _ _ (by rintro rfl; exact hne rfl)⟩)
end

end Go.Proofs.YthbbmpelldglmaaGreatDoor
/- The register of the check sequence, in natural numbers: no program, no memory. -/
namespace Go.Proofs.YthbbmpelldglmaaGreatDoor
set_option linter.unusedVariables false
set_option linter.unusedSimpArgs false

/-- the register behind a bit that is 0 -/
def crcZ (r : Nat) : Nat := if r &&& 1 = 1 then (r / 2) ^^^ 33800 else r / 2
def crcI : Nat → Nat → Nat
  | 0, r => r
  | j + 1, r => crcZ (crcI j r)
theorem crcZ_lt (r : Nat) (h : r < 65536) : crcZ r < 65536 := by
  unfold crcZ
  split
  · exact Nat.xor_lt_two_pow (n := 16) (by omega) (by omega)
  · omega
theorem crcI_lt (j r : Nat) (h : r < 65536) : crcI j r < 65536 := by
  induction j with
  | zero => exact h
  | succ j ih => exact crcZ_lt _ ih


theorem crcZ_eq (r : Nat) : crcZ r = (r / 2) ^^^ (r % 2 * 33800) := by
  unfold crcZ
  rw [Nat.and_one_is_mod]
  rcases Nat.mod_two_eq_zero_or_one r with h | h <;> simp [h]
theorem xor_half (a b : Nat) : (a ^^^ b) / 2 = (a / 2) ^^^ (b / 2) := by
  have := Nat.shiftRight_xor_distrib (a := a) (b := b) (i := 1)
  simpa [Nat.shiftRight_eq_div_pow] using this
theorem xor_par (a b : Nat) : (a ^^^ b) % 2 = (a % 2 + b % 2) % 2 := by
  have h := Nat.testBit_xor a b 0
  simp only [Nat.testBit_zero] at h
  rcases Nat.mod_two_eq_zero_or_one a with ha | ha <;> rcases Nat.mod_two_eq_zero_or_one b with hb | hb <;> rcases Nat.mod_two_eq_zero_or_one (a ^^^ b) with hc | hc <;> simp [ha, hb, hc] at h ⊢
theorem crcZ_xor (a b : Nat) : crcZ (a ^^^ b) = crcZ a ^^^ crcZ b := by
  rw [crcZ_eq, crcZ_eq, crcZ_eq, xor_half, xor_par]
  have e : ((a % 2 + b % 2) % 2) * 33800 = (a % 2 * 33800) ^^^ (b % 2 * 33800) := by
    rcases Nat.mod_two_eq_zero_or_one a with ha | ha <;> rcases Nat.mod_two_eq_zero_or_one b with hb | hb <;> simp [ha, hb]
  rw [e]
  ac_rfl
theorem crcI_xor (j a b : Nat) : crcI j (a ^^^ b) = crcI j a ^^^ crcI j b := by
  induction j with
  | zero => rfl
  | succ j ih => simp only [crcI, ih, crcZ_xor]
theorem crcZ_even (q : Nat) : crcZ (2 * q) = q := by
  rw [crcZ_eq]; simp
theorem crcI_add (i j r : Nat) : crcI (i + j) r = crcI i (crcI j r) := by
  induction i with
  | zero => simp [crcI]
  | succ i ih => rw [Nat.succ_add]; simp only [crcI, ih]
theorem crcI_succ' (j r : Nat) : crcI (j + 1) r = crcI j (crcZ r) := crcI_add j 1 r
theorem crcI_four (q : Nat) : crcI 4 (16 * q) = q := by
  rw [crcI_succ', crcI_succ', crcI_succ', crcI_succ', show 16 * q = 2 * (2 * (2 * (2 * q))) by omega]
  simp only [crcZ_even, crcI]
theorem split16 (r : Nat) : r = (16 * (r / 16)) ^^^ (r % 16) := by
  have := Nat.two_pow_add_eq_or_of_lt (i := 4) (b := r % 16) (by omega) (r / 16)
  have h2 : (2 ^ 4 * (r / 16)) ^^^ (r % 16) = 2 ^ 4 * (r / 16) ||| r % 16 := by
    apply Nat.eq_of_testBit_eq
    intro i
    simp only [Nat.testBit_xor, Nat.testBit_or, Nat.testBit_two_pow_mul]
    by_cases h : 4 ≤ i
    · have : (r % 16).testBit i = false := Nat.testBit_lt_two_pow (Nat.lt_of_lt_of_le (by omega) (Nat.pow_le_pow_right (by decide) h))
      simp [this]
    · simp [h]
  have : 16 * (r / 16) + r % 16 = r := by omega
  simp at *
  omega
theorem crc_nibble (r : Nat) : (r / 16) ^^^ crcI 4 (r % 16) = crcI 4 r := by
  conv => rhs; rw [split16 r, crcI_xor, crcI_four]

/-- the register behind an octet, and behind octets -/
def crcB (r : Nat) (b : UInt8) : Nat := crcI 8 (r ^^^ b.toNat)
def crc (r : Nat) (l : List UInt8) : Nat := l.foldl crcB r
theorem crcB_eq (r : Nat) (b : UInt8) : crcB r b = ((crcI 4 (r ^^^ b.toNat)) / 16) ^^^ crcI 4 ((crcI 4 (r ^^^ b.toNat)) % 16) := by
  rw [crc_nibble, ← crcI_add]; rfl
theorem xor_byte_lt (r : Nat) (b : UInt8) (h : r < 65536) : r ^^^ b.toNat < 65536 :=
  Nat.xor_lt_two_pow (n := 16) h (by have := b.toNat_lt; omega)
theorem crcB_lt (r : Nat) (b : UInt8) (h : r < 65536) : crcB r b < 65536 := crcI_lt _ _ (xor_byte_lt r b h)
theorem crc_lt (r : Nat) (l : List UInt8) (h : r < 65536) : crc r l < 65536 := by
  induction l generalizing r with
  | nil => exact h
  | cons b l ih => exact ih _ (crcB_lt r b h)
theorem crc_append (r : Nat) (a b : List UInt8) : crc r (a ++ b) = crc (crc r a) b := List.foldl_append
theorem crc_snoc (r : Nat) (l : List UInt8) (k : Nat) (h : k < l.length) : crc r (l.take (k + 1)) = crcB (crc r (l.take k)) l[k] := by
  rw [List.take_succ_eq_append_getElem h, crc_append]; rfl

theorem xor_all (r : Nat) (h : r < 65536) : 65535 ^^^ r = 65535 - r := by
  apply Nat.eq_of_testBit_eq
  intro i
  have h1 := Nat.testBit_two_pow_sub_succ (n := 16) (x := r) h i
  have h2 := Nat.testBit_two_pow_sub_one 16 i
  rw [show (2 : Nat) ^ 16 - (r + 1) = 65535 - r by omega] at h1
  rw [show (2 : Nat) ^ 16 - 1 = 65535 from rfl] at h2
  rw [Nat.testBit_xor, h1, h2]
  by_cases hi : i < 16
  · simp [hi]
  · have := Nat.testBit_lt_two_pow (x := r) (i := i) (Nat.lt_of_lt_of_le h (Nat.pow_le_pow_right (n := 2) (by decide) (show 16 ≤ i by omega)))
    simp [hi, this]
/-- the check sequence -/
def crcSum (l : List UInt8) : Nat := 65535 - crc 65535 l
theorem crcSum_lt (l : List UInt8) : crcSum l < 65536 := by unfold crcSum; omega

theorem crcI_eight (q : Nat) : crcI 8 (256 * q) = q := by
  rw [show (8 : Nat) = 4 + 4 from rfl, crcI_add, show 256 * q = 16 * (16 * q) by omega, crcI_four, crcI_four]
theorem split256 (r : Nat) : r = (r % 256) ^^^ (256 * (r / 256)) := by
  have h2 : (2 ^ 8 * (r / 256)) ||| (r % 256) = 2 ^ 8 * (r / 256) + r % 256 := (Nat.two_pow_add_eq_or_of_lt (i := 8) (b := r % 256) (by omega) (r / 256)).symm
  have h3 : (2 ^ 8 * (r / 256)) ^^^ (r % 256) = 2 ^ 8 * (r / 256) ||| r % 256 := by
    apply Nat.eq_of_testBit_eq
    intro i
    simp only [Nat.testBit_xor, Nat.testBit_or, Nat.testBit_two_pow_mul]
    by_cases h : 8 ≤ i
    · have : (r % 256).testBit i = false := Nat.testBit_lt_two_pow (Nat.lt_of_lt_of_le (by omega) (Nat.pow_le_pow_right (by decide) h))
      simp [this]
    · simp [h]
  rw [Nat.xor_comm]
  have e : 256 * (r / 256) = 2 ^ 8 * (r / 256) := rfl
  rw [e, h3, h2]
  omega
/-- the octets of the check sequence -/
def fcs (l : List UInt8) : List UInt8 := [UInt8.ofNat (crcSum l % 256), UInt8.ofNat (crcSum l / 256)]
theorem crc_two (r : Nat) (b0 b1 : UInt8) : crc r [b0, b1] = crcI 16 (r ^^^ (b0.toNat ^^^ (256 * b1.toNat))) := by
  show crcI 8 (crcI 8 (r ^^^ b0.toNat) ^^^ b1.toNat) = _
  rw [show (16 : Nat) = 8 + 8 from rfl, crcI_add, ← Nat.xor_assoc, crcI_xor 8 (r ^^^ b0.toNat), crcI_eight]
theorem crc_res : crcI 16 65535 = 61624 := by decide +kernel
theorem crc_fcs (l : List UInt8) : crc 65535 (l ++ fcs l) = 61624 := by
  have hlt := crc_lt 65535 l (by omega)
  have hs := crcSum_lt l
  rw [crc_append]
  unfold fcs
  rw [crc_two]
  have h0 : (UInt8.ofNat (crcSum l % 256)).toNat = crcSum l % 256 := by rw [UInt8.toNat_ofNat']; omega
  have h1 : (UInt8.ofNat (crcSum l / 256)).toNat = crcSum l / 256 := by rw [UInt8.toNat_ofNat']; omega
  rw [h0, h1, ← split256]
  unfold crcSum
  rw [← xor_all _ hlt, ← Nat.xor_assoc, Nat.xor_comm (crc 65535 l) 65535, Nat.xor_assoc, Nat.xor_self, Nat.xor_zero]
  exact crc_res

end Go.Proofs.YthbbmpelldglmaaGreatDoor
/- The table of the check sequence: what 'made' returns. -/
namespace Go.Proofs.YthbbmpelldglmaaGreatDoor
set_option linter.unusedVariables false
set_option linter.unusedSimpArgs false
open Go.RowKit

def mTab (k : Nat) : Array Value := ((List.range 16).map fun i => if i < k then Value.int .u16 (crcI 4 i) else Value.int .u16 0).toArray
theorem mTab_size (k : Nat) : (mTab k).size = 16 := by simp [mTab]
theorem mTab_set (k : Nat) : (mTab k).setIfInBounds k (.int .u16 (crcI 4 k)) = mTab (k + 1) := by
  unfold mTab
  rw [List.setIfInBounds_toArray]
  congr 1
  apply List.ext_getElem?
  intro i
  rw [List.getElem?_set]
  simp only [List.getElem?_map, List.length_map, List.length_range]
  by_cases h : k = i
  · subst h
    by_cases h16 : k < 16
    · simp [h16]
    · simp [h16]
  · rw [if_neg h]
    by_cases h16 : i < 16
    · simp only [List.getElem?_range h16, Option.map_some]
      by_cases h3 : i < k
      · rw [if_pos h3, if_pos (by omega)]
      · rw [if_neg h3, if_neg (by omega)]
    · simp [h16]
theorem mTab_get (k : Nat) (h : k < 16) (j : Nat) (hj : j < 16) : (mTab k)[j]? = some (if j < k then .int .u16 (crcI 4 j) else .int .u16 0) := by
  simp [mTab, hj]
theorem mTab_one (k : Nat) : (mTab k).all (·.oneCell') = true := by
  simp only [mTab, Array.all_eq_true]
  intro i hi
  simp only [List.getElem_toArray, List.getElem_map, List.getElem_range]
  split <;> rfl

set_option maxHeartbeats 400000 in
theorem made_any (w : World) : Calls Tryz.prog 119 #[] w fun e w' => e = .returned (.agg (mTab 16)) ∧ Below w.heap.size w w' := by
  go_enter Tryz.func119, Tryz.ntmps119
  go_wp2
  go_loopw [2, 3, 4, 5, 10] (fun a b c i d wr => ∃ k : Nat, k ≤ 16 ∧ i = .int .i64 k ∧ wr.heap[w.heap.size]? = some (.cells (mTab 0) 202 (0, 0)) ∧ wr.heap[w.heap.size + 1]? = some (.cells (mTab k) 202 (0, 0)) ∧ Below w.heap.size w wr)
    (fun _ _ _ i _ _ => 16 - (intOf i).toNat)
  case atStart =>
    refine ⟨0, by omega, rfl, heap_alloc2_old _ _ _, heap_alloc2_new _ _ _, ((Below.refl _ _).alloc (Nat.le_refl _) _).alloc (by simp) _⟩
  case round =>
    obtain ⟨k, hk, rfl, h0, hT, hB⟩ := hrel
    by_cases hlt : k < 16
    · go_wp2
      obtain ⟨wo, rfl⟩ : ∃ wo : World, wo = wr := ⟨_, rfl⟩
      go_loopw [3, 4, 10] (fun b c d w2 => ∃ j : Nat, j ≤ 4 ∧ w2 = wo ∧ d = .int .i64 j ∧ b = .int .u16 (crcI j k)) (fun _ _ d _ => 4 - (intOf d).toNat)
      case atStart => exact ⟨0, by omega, rfl, rfl, rfl⟩
      case round =>
        obtain ⟨j, hj, rfl, rfl, rfl⟩ := hrel
        by_cases hlt2 : j < 4
        · have hb := crcI_lt j k (by omega)
          generalize hr : crcI j k = r at *
          have hn : crcI (j + 1) k = crcZ r := by rw [← hr]; rfl
          have HN := Lib.hid hn
          clear hn hr
          have HA := Lib.hid (and_u16 r 1 hb (by omega))
          have HX := Lib.hid (xor_u16 (r / 2) 33800 (by omega) (by omega))
          go_wp2
          · have ht : (bits BinOp.and IntKind.u16 (r : Int) 1 == 1) = true := by assumption
            have ha := HA.out
            have hone : r &&& 1 = 1 := by
              have := eq_of_beq ht
              rw [show (1 : Int) = ((1 : Nat) : Int) from rfl, ha] at this
              exact_mod_cast this
            go_roundw
            case rel =>
              refine ⟨j + 1, by omega, trivial, by go_num, ?_⟩
              rw [HN.out, crcZ, if_pos hone, ← HX.out]
              rfl
            case measure => simp [intOf]; omega
          · have ht : (bits BinOp.and IntKind.u16 (r : Int) 1 == 1) = false := by assumption
            have ha := HA.out
            have hone : ¬ r &&& 1 = 1 := by
              intro h
              rw [show (1 : Int) = ((1 : Nat) : Int) from rfl, ha, h] at ht
              exact absurd ht (by decide)
            go_roundw
            case rel =>
              refine ⟨j + 1, by omega, trivial, by go_num, ?_⟩
              rw [HN.out, crcZ, if_neg hone]
              rfl
            case measure => simp [intOf]; omega
        · have hj4 : j = 4 := by omega
          subst hj4
          have hcell : wr.cell? ⟨w.heap.size + 1, k, none⟩ = some (.int .u16 0) := by
            rw [cell_of_row _ _ _ _ _ _ hT, mTab_get k hlt k hlt]; simp
          have hfr : wr.frozen? ⟨w.heap.size + 1, k, none⟩ = false := frozen_of_row _ _ _ _ _ hT
          go_wp2
          go_roundw
          case rel =>
            refine ⟨k + 1, by omega, by go_num, ?_, ?_, hB.setCell (by simp) _⟩
            · rw [heap_setCell_other _ _ _ _ (by simp)]; exact h0
            · rw [heap_setCell_same _ _ _ _ _ _ hT, mTab_set]
          case measure => simp [intOf]; omega
    · have hk16 : k = 16 := by omega
      subst hk16
      have hin : (Tryz.prog.info? 202).map (·.size) = some 16 := by kernel_rfl
      have H0 := Lib.hid h0
      have H1 := Lib.hid hT
      clear h0 hT
      go_wp2_with (first
        | ((with_reducible refine at_dst 25 rfl ?_); refine wpList_load_row rfl 202 (.tmp 1) rfl (w.heap.size + 1) rfl 202 (mTab 16) (0, 0) _ H1.out Tryz.underlying202 rfl (by rw [mTab_size]; exact hin) ?_)
        | ((with_reducible refine at_store 202 0 rfl ?_); refine wpList_store_row rfl 202 (.tmp 0) (.tmp 25) rfl w.heap.size (mTab 16) rfl rfl 202 (mTab 0) H0.out (by rw [mTab_size]; exact hin) (by rw [mTab_size, mTab_size]) (mTab_one 16) ?_))
      have hg : (wr.setRow w.heap.size (mTab 16)).heap[w.heap.size]? = some (.cells (mTab 16) 202 (0, 0)) := setRow_heap wr w.heap.size (mTab 0) _ _ _ H0.out
      refine bodyPost_ret (v := .agg (mTab 16)) (results_cell_row rfl _ _ w.heap.size 202 (mTab 16) (0, 0) _ rfl hg Tryz.underlying202 rfl (by rw [mTab_size]; exact hin)) rfl ⟨rfl, ?_⟩
      exact hB.trans ⟨rfl, rfl, rfl, by simp, fun k hk => setRow_other _ _ _ _ (by omega)⟩
end Go.Proofs.YthbbmpelldglmaaGreatDoor
/- What 'sums.Extend' and 'sums.Sum' return. -/
namespace Go.Proofs.YthbbmpelldglmaaGreatDoor
set_option linter.unusedVariables false
set_option linter.unusedSimpArgs false
open Go.RowKit

theorem xor_u16_div (a b : Nat) (ha : a < 65536) (hb : b < 65536) : bits .xor .u16 ((a : Int) / 16) b = ((a / 16 ^^^ b : Nat) : Int) := xor_u16 (a / 16) b (by omega) hb

set_option maxHeartbeats 400000 in
theorem extend_any (r : Nat) (hr : r < 65536) (A : Option Addr) (l : List UInt8) (c : Nat) (w : World) (hA : RdB w A l) (hl : l.length ≤ 140737488351232) :
    Calls Tryz.prog 101 #[.int .u16 r, .slice A l.length c] w fun e w' => e = .returned (.int .u16 (crc r l)) ∧ Below w.heap.size w w' := by
  have hin : (Tryz.prog.info? 202).map (·.size) = some 16 := by kernel_rfl
  go_enter Tryz.func101, Tryz.ntmps101
  go_wp2_with (first
    | (go_at_call 119; (with_reducible refine (made_any _).mono ?_); rintro e w1 ⟨rfl, hB⟩)
    | ((with_reducible refine at_store 202 5 rfl ?_); refine wpList_store_rowN rfl 202 (.tmp 5) (.tmp 8) rfl w1.heap.size (mTab 16) rfl rfl 202 _ (heap_alloc_new _ _) (by rw [mTab_size]; exact hin) (by rw [mTab_size]; rfl) (mTab_one 16) ?_; intro w2 hT hz hgr; have hB2 : Below w.heap.size w w2 := (hB.alloc hB.size _).grown hgr (by simp; exact Nat.le_succ_of_le hB.size) (by intro k hk; injection hk with hk; subst hk; exact hB.size)))
  have hr' := hA.below hB2
  go_loop [0, 7, 11] (fun a _ i => ∃ k : Nat, k ≤ l.length ∧ i = .int .i64 k ∧ a = .int .u16 (crc r (l.take k))) (fun _ _ i => l.length - (intOf i).toNat)
  case atStart => exact ⟨0, by omega, rfl, by simp [crc]⟩
  case round =>
    obtain ⟨k, hk, rfl, rfl⟩ := hrel
    by_cases hlt : k < l.length
    · obtain ⟨ad, rfl, hc⟩ := hr'.get hlt
      have hR := crc_lt r (l.take k) hr
      have hn := crc_snoc r l k hlt
      have hb := l[k].toNat_lt
      rw [crcB_eq] at hn
      have hTab : ∀ n, n < 16 → w2.cell? ⟨w1.heap.size, n, none⟩ = some (.int .u16 (crcI 4 n)) := fun n h => by
        rw [cell_of_row _ _ _ _ _ _ hT]; simp [mTab, h]
      have ht := fun n (h : n < 16) => crcI_lt 4 n (by omega)
      generalize crc r (List.take k l) = R at *
      have hx : R ^^^ l[k].toNat < 65536 := xor_byte_lt R l[k] hR
      have e0 := xor_u16 R l[k].toNat hR (by omega)
      rw [← crc_nibble (R ^^^ l[k].toNat)] at hn
      generalize R ^^^ l[k].toNat = r1 at *
      generalize l[k].toNat = b at *
      have c1 := hTab (r1 % 16) (by omega)
      have t1 := ht (r1 % 16) (by omega)
      generalize crcI 4 (r1 % 16) = T1 at *
      have e1 := xor_u16_div r1 T1 hx t1
      have hx2 : r1 / 16 ^^^ T1 < 65536 := Nat.xor_lt_two_pow (n := 16) (by omega) t1
      generalize r1 / 16 ^^^ T1 = r2 at *
      have c2 := hTab (r2 % 16) (by omega)
      have t2 := ht (r2 % 16) (by omega)
      generalize crcI 4 (r2 % 16) = T2 at *
      have e2 := xor_u16_div r2 T2 hx2 t2
      generalize r2 / 16 ^^^ T2 = r3 at *
      have HN := Lib.hid hn
      clear hn hTab ht hA hr' hB hT
      go_wp2
      go_round
      case rel => exact ⟨k + 1, by omega, by go_num, by rw [HN.out]⟩
      case measure => simp [intOf]; omega
    · go_wp2
      go_ret
      have : k = l.length := by omega
      subst this
      exact ⟨by simp, hB2⟩

theorem compl_u16 (r : Nat) (h : r < 65536) : bits .xor .u16 IntKind.u16.max (r : Int) = ((65535 - r : Nat) : Int) := by
  rw [show IntKind.u16.max = ((65535 : Nat) : Int) from rfl, xor_u16 65535 r (by omega) h, xor_all r h]

theorem sum_any (A : Option Addr) (l : List UInt8) (c : Nat) (w : World) (hA : RdB w A l) (hl : l.length ≤ 140737488351232) :
    Calls Tryz.prog 80 #[.slice A l.length c] w fun e w' => e = .returned (.int .u16 (crcSum l)) ∧ Below w.heap.size w w' := by
  have hlt := crc_lt 65535 l (by omega)
  have HE : Calls Tryz.prog 101 #[.int .u16 65535, .slice A l.length c] w fun e w' => e = .returned (.int .u16 (crc 65535 l)) ∧ Below w.heap.size w w' := extend_any 65535 (by omega) A l c w hA hl
  replace HE := Lib.hid HE
  unfold crcSum
  generalize crc 65535 l = r at *
  go_enter Tryz.func80, Tryz.ntmps80
  go_wp2_with (go_at_call 101; (with_reducible refine (HE.out).mono ?_); rintro e w1 ⟨rfl, hB⟩)
  go_ret
  refine ⟨?_, hB⟩
  rw [show IntKind.u16.max = ((65535 : Nat) : Int) from rfl, xor_u16 65535 r (by omega) hlt, xor_all r hlt]
  rfl
end Go.Proofs.YthbbmpelldglmaaGreatDoor
/- Rows of a call's own: slices in new memory, whatever their capacity; 'append' onto them from slices and strings. No program. -/
namespace Go.Proofs.YthbbmpelldglmaaGreatDoor
set_option linter.unusedVariables false
set_option linter.unusedSimpArgs false
open Go.RowKit

theorem take_set_comm {α : Type} (l : List α) (n k : Nat) (v : α) : (l.set k v).take n = (l.take n).set k v := by
  apply List.ext_getElem?
  intro i
  simp only [List.getElem?_take, List.getElem?_set, List.length_take]
  by_cases h1 : i < n
  · by_cases h2 : k = i
    · subst h2
      by_cases h3 : k < l.length <;> simp [h1, h3] <;> omega
    · simp [h1, h2]
  · by_cases h2 : k = i
    · subst h2
      simp [h1]
      omega
    · simp [h1, h2]
/-- The slice (A, n, c) is a row of block number at least B, of elements of type E with sz cells each; its elements' cells are xs. -/
def Row (w : World) (B : Nat) (E : TypeId) (sz : Nat) (A : Option Addr) (n c : Nat) (xs : List Value) : Prop :=
  xs.length = n * sz ∧ ((A = none ∧ n = 0 ∧ c = 0) ∨
    ∃ g cur, A = some ⟨g, 0, none⟩ ∧ B ≤ g ∧ w.heap[g]? = some (.cells cur E (0, 0)) ∧ n ≤ c ∧ c ≤ maxLen ∧ c * sz ≤ cur.size ∧ cur.toList.take (n * sz) = xs)

section
variable {w w' : World} {B B' : Nat} {E : TypeId} {sz : Nat} {A : Option Addr} {n c : Nat} {xs : List Value}

theorem Row.nil (w : World) (B : Nat) (E : TypeId) (sz : Nat) : Row w B E sz none 0 0 [] := ⟨by simp, .inl ⟨rfl, rfl, rfl⟩⟩
theorem Row.le (h : Row w B E sz A n c xs) : n ≤ c := by
  rcases h.2 with ⟨_, rfl, rfl⟩ | ⟨g, cur, _, _, _, h, _⟩ <;> omega
theorem Row.cap_le (h : Row w B E sz A n c xs) : c ≤ maxLen := by
  rcases h.2 with ⟨_, rfl, rfl⟩ | ⟨g, cur, _, _, _, _, h, _⟩
  · simp [maxLen]
  · exact h
theorem Row.lt (h : Row w B E sz A n c xs) : ∀ k, A.map (·.block) = some k → B ≤ k ∧ k < w.heap.size := by
  intro k hk
  rcases h.2 with ⟨rfl, _⟩ | ⟨g, cur, rfl, hb, hg, _⟩
  · simp at hk
  · simp at hk; subst hk
    exact ⟨hb, (Array.getElem?_eq_some_iff.1 hg).1⟩
theorem Row.kept {row : Option Nat} (h : Row w B E sz A n c xs) (hg : w.grownBy w' row) (hne : ∀ k, A.map (·.block) = some k → row ≠ some k) : Row w' B E sz A n c xs := by
  refine ⟨h.1, ?_⟩
  rcases h.2 with h0 | ⟨g, cur, rfl, hb, hgg, r⟩
  · exact .inl h0
  · exact .inr ⟨g, cur, rfl, hb, (hg.block g (Array.getElem?_eq_some_iff.1 hgg).1 (fun e => hne g rfl e.symm)).trans hgg, r⟩
theorem Row.below (h : Row w B E sz A n c xs) (hb : Below w.heap.size w w') : Row w' B E sz A n c xs :=
  h.kept (row := none) ⟨hb.os, hb.tape, hb.output, hb.size, fun k hk _ => hb.block k hk⟩ (fun _ _ => by simp)
theorem Row.alloc (h : Row w B E sz A n c xs) (o : Obj) : Row (w.alloc o) B E sz A n c xs := h.kept (World.grownBy_alloc w o none) (fun _ _ => by simp)
theorem Row.drew (h : Row w B E sz A n c xs) : Row w.drew B E sz A n c xs := h
theorem Row.drewN (h : Row w B E sz A n c xs) (k : Nat) : Row (w.drewN k) B E sz A n c xs := h
theorem Row.mono (h : Row w B E sz A n c xs) (hB : B' ≤ B) : Row w B' E sz A n c xs := by
  refine ⟨h.1, ?_⟩
  rcases h.2 with h0 | ⟨g, cur, rfl, hb, r⟩
  · exact .inl h0
  · exact .inr ⟨g, cur, rfl, by omega, r⟩
theorem Row.clip (h : Row w B E sz A n c xs) : Row w B E sz A n n xs := by
  refine ⟨h.1, ?_⟩
  rcases h.2 with ⟨a, b, _⟩ | ⟨g, cur, rfl, hb, hg, h1, h2, h3, h4⟩
  · exact .inl ⟨a, b, b⟩
  · exact .inr ⟨g, cur, rfl, hb, hg, Nat.le_refl _, by omega, Nat.le_trans (Nat.mul_le_mul_right _ h1) h3, h4⟩
theorem Row.rd (h : Row w B E sz A n c xs) : Rd w A xs := fun k v hv => by
  rcases h.2 with ⟨rfl, rfl, _⟩ | ⟨g, cur, rfl, hb, hg, h1, h2, h3, h4⟩
  · have h1 := h.1
    simp at h1
    subst h1
    simp at hv
  · refine ⟨_, rfl, ?_⟩
    rw [add_lit, cell_of_row w g k cur E (0, 0) hg]
    rw [← h4, List.getElem?_take] at hv
    split at hv
    · simpa using hv
    · cases hv
/-- where an element lies, that it may be written, and what the row is then -/
theorem Row.form (h : Row w B E sz A n c xs) (h0 : 0 < n) : ∃ g, A = some ⟨g, 0, none⟩ ∧ B ≤ g ∧ g < w.heap.size ∧ (∀ k, w.frozen? ⟨g, k, none⟩ = false) ∧ (∀ k v, xs[k]? = some v → w.cell? ⟨g, k, none⟩ = some v) := by
  rcases h.2 with ⟨_, rfl, _⟩ | ⟨g, cur, rfl, hb, hg, h1, h2, h3, h4⟩
  · omega
  · refine ⟨g, rfl, hb, (Array.getElem?_eq_some_iff.1 hg).1, fun k => frozen_of_row _ _ _ _ _ hg, fun k v hv => ?_⟩
    have := Rd.at_ h.rd hv
    rwa [add_lit] at this
theorem Row.cell {g : Nat} (h : Row w B E sz (some ⟨g, 0, none⟩) n c xs) {k : Nat} {v : Value} (hv : xs[k]? = some v) : w.cell? ⟨g, k, none⟩ = some v := by
  have := Rd.at_ h.rd hv
  rwa [add_lit] at this
theorem Row.free {g : Nat} (h : Row w B E sz (some ⟨g, 0, none⟩) n c xs) (k : Nat) : w.frozen? ⟨g, k, none⟩ = false := by
  rcases h.2 with ⟨h0, _⟩ | ⟨g', cur, he, hb, hg, _⟩
  · cases h0
  · injection he with he
    injection he with he
    subst he
    exact frozen_of_row _ _ _ _ _ hg
theorem Row.ge {g : Nat} (h : Row w B E sz (some ⟨g, 0, none⟩) n c xs) : B ≤ g := (h.lt g rfl).1
theorem Row.set {g : Nat} (h : Row w B E sz (some ⟨g, 0, none⟩) n c xs) (k : Nat) (v : Value) : Row (w.setCell ⟨g, k, none⟩ v) B E sz (some ⟨g, 0, none⟩) n c (xs.set k v) := by
  refine ⟨by rw [List.length_set]; exact h.1, ?_⟩
  rcases h.2 with ⟨h0, _⟩ | ⟨g', cur, he, hb, hg, h1, h2, h3, h4⟩
  · cases h0
  · injection he with he
    injection he with he
    subst he
    refine .inr ⟨g, _, rfl, hb, heap_setCell_same _ _ _ _ _ _ hg, h1, h2, by simpa using h3, ?_⟩
    rw [← h4, Array.toList_setIfInBounds]
    exact take_set_comm _ _ _ _
theorem Row.setOther (h : Row w B E sz A n c xs) {p : Addr} (hp : ∀ k, A.map (·.block) = some k → k ≠ p.block) (u : Value) : Row (w.setCell p u) B E sz A n c xs :=
  h.kept (row := some p.block) ⟨rfl, rfl, rfl, by simp [World.setCell], fun k _ hk => heap_setCell_other _ _ _ _ (fun e => hk (by rw [e]))⟩ (fun k hk e => hp k hk (by injection e with e; exact e.symm))
theorem Row.of_own {v : Value} (h : w.ownsRow B E sz v n xs) : ∃ A c, v = .slice A n c ∧ Row w B E sz A n c xs := by
  rcases h.2 with ⟨rfl, rfl⟩ | ⟨g, cap, cur, rfl, hb, hg, h1, h2, h3, h4⟩
  · exact ⟨none, 0, rfl, h.1, .inl ⟨rfl, rfl, rfl⟩⟩
  · exact ⟨_, _, rfl, h.1, .inr ⟨g, cur, rfl, hb, hg, h1, h2, by omega, h4⟩⟩
/-- a block that has just been made is a row -/
theorem Row.new (w : World) (cs : Array Value) (E : TypeId) (sz n c : Nat) (hB : B ≤ w.heap.size) (h1 : n ≤ c) (h2 : c ≤ maxLen) (h3 : c * sz ≤ cs.size) :
    Row (w.alloc (.cells cs E)) B E sz (some ⟨w.heap.size, 0, none⟩) n c (cs.toList.take (n * sz)) :=
  ⟨by have := Nat.mul_le_mul_right sz h1; rw [List.length_take]; simp; omega, .inr ⟨w.heap.size, cs, rfl, hB, heap_alloc_new w _, h1, h2, h3, rfl⟩⟩
end

section
variable {P : Program}
theorem run_append_src (w : World) (B : Nat) (t u ty e : TypeId) (i : TypeInfo) (z : Value) (ht : P.underlying t = some (.slice e)) (hu : (∃ e', P.underlying u = some (.slice e')) ∨ P.underlying u = some .string)
    (hi : P.info? e = some i) (hz : i.zero = some z) (hzs : z.cells.size = i.size)
    (A : Option Addr) (n c : Nat) (xs : List Value) (hrow : Row w B e i.size A n c xs)
    (x : Value) (m : Nat) (news : List Value) (hx : ∀ w', (Builtin.lenOf x).run P w' = .ok m w') (hf0 : (Builtin.firstCells i.size m x).run P w = .ok news.toArray w)
    (hf1 : (Builtin.firstCells i.size m x).run P w.drew = .ok news.toArray w.drew) (hl : news.length = m * i.size) (h1 : ∀ u ∈ news, u.oneCell' = true)
    (h63 : n + m ≤ maxLen) (hbytes : (n + m) * i.bytes ≤ 140737488355328) (hB : B ≤ w.heap.size) :
    ∃ A' c' w', (Builtin.append_ #[t, u] ty #[.slice A n c, x]).run P w = .ok (.slice A' (n + m) c') w' ∧ Row w' B e i.size A' (n + m) c' (xs ++ news) ∧ w.grownBy w' (A.map (·.block)) ∧
      (A' = A ∨ A' = some ⟨w.heap.size, 0, none⟩) := by
  have hlen : (xs ++ news).length = (n + m) * i.size := by rw [List.length_append, hrow.1, hl, Nat.add_mul]
  by_cases hroom : n + m ≤ c
  · rcases hrow.2 with ⟨rfl, rfl, rfl⟩ | ⟨g, cur, rfl, hb, hg, hnc, hcm, hcs, htake⟩
    · obtain rfl : m = 0 := by omega
      have hn : news = [] := List.eq_nil_of_length_eq_zero (by simpa using hl)
      subst hn
      refine ⟨none, 0, w, ?_, by simpa using hrow, ⟨rfl, rfl, rfl, Nat.le_refl _, fun _ _ _ => rfl⟩, .inl rfl⟩
      rcases hu with ⟨e', hu⟩ | hu <;> simp [Builtin.append_, run_underlying ht, run_underlying hu, sizeOf, typeInfo, hi, hx, hf0]
    · have hfit : n * i.size + news.length ≤ cur.size := by
        rw [hl, ← Nat.add_mul]; exact Nat.le_trans (Nat.mul_le_mul_right _ hroom) hcs
      have hst := run_storeCells_at P g (n * i.size) e news 0 cur w hg (by simpa using hfit) h1
      simp only [Nat.add_zero] at hst
      refine ⟨_, c, w.setRow g (cur.toList.take (n * i.size) ++ news ++ cur.toList.drop (n * i.size + news.length)).toArray, ?_, ⟨hlen, .inr ⟨g, _, rfl, hb, setRow_heap w g cur _ e _ hg, hroom, hcm, ?_, ?_⟩⟩,
        ⟨rfl, rfl, rfl, by simp, fun k _ hk => setRow_other w g k _ (fun e => hk (by simp [e]))⟩, .inl rfl⟩
      · rcases hu with ⟨e', hu⟩ | hu <;> simp [Builtin.append_, run_underlying ht, run_underlying hu, sizeOf, typeInfo, hi, hx, hroom, hf0, Addr.add_lit, hst]
      · simp only [List.size_toArray, List.length_append, List.length_take, List.length_drop, Array.length_toList]
        omega
      · rw [htake, ← hlen]
        exact List.take_left
  · have hge := grownCap_ge w (n + m) c e
    have hcm : grownCap w (n + m) c e ≤ maxLen := grownCap_le_maxLen w (n + m) c e h63
    have h63' : ¬ (9223372036854775807 < ((n : Int) + (m : Int))) := by simp only [maxLen] at h63; omega
    have hfit := growslice_fits (show c < n + m by omega) hbytes
    have h48' : ¬ (281474976710656 < Builtin.nextslicecap (n + m) c * i.bytes) := by omega
    have hold : (Builtin.firstCells i.size n (.slice A n c)).run P w.drew = .ok xs.toArray w.drew := by
      rcases hrow.2 with ⟨rfl, rfl, rfl⟩ | ⟨g, cur, rfl, hb, hg, hnc, hcm, hcs, htake⟩
      · have h0 := hrow.1
        simp at h0
        subst h0
        exact run_firstCells_none w.drew i.size 0 0 0
      · exact run_firstCells_some w.drew i.size n _ n c xs hrow.1 (fun j v hj => Rd.at_ (Rd.drew hrow.rd) hj)
    refine ⟨some ⟨w.heap.size, 0, none⟩, grownCap w (n + m) c e, w.drew.alloc (.cells (xs.toArray ++ news.toArray ++ Builtin.zeroCells z.cells (grownCap w (n + m) c e - (n + m))) e), ?_,
      ⟨hlen, .inr ⟨w.heap.size, _, rfl, hB, heap_alloc_new w.drew _, hge, hcm, ?_, ?_⟩⟩, ⟨rfl, rfl, rfl, by simp, fun k hk _ => Below.heap_alloc w.drew _ k hk⟩, .inr rfl⟩
    · rcases hu with ⟨e', hu⟩ | hu <;> simp [Builtin.append_, run_underlying ht, run_underlying hu, sizeOf, typeInfo, zeroValue, hi, hz, hx, hroom, h63', h48', Question.forced, hf1, hold, newRow, grownCap] <;> (congr 2; apply Array.ext'; simp [List.append_assoc])
    · have := Nat.add_mul (n + m) (grownCap w (n + m) c e - (n + m)) i.size
      rw [Nat.add_sub_cancel' hge] at this
      simp only [Array.size_append, List.size_toArray, size_zeroCells, hzs, hrow.1, hl]
      rw [this, Nat.add_mul]
      exact Nat.le_refl _
    · simp only [Array.toList_append, List.append_assoc]
      rw [← List.append_assoc, ← hlen]
      exact List.take_left

theorem firstCells_rd (w : World) (A : Option Addr) (sz m c : Nat) (news : List Value) (hr : Rd w A news) (hl : news.length = m * sz) :
    (Builtin.firstCells sz m (.slice A m c)).run P w = .ok news.toArray w := by
  cases A with
  | none =>
    have : news = [] := by
      cases news with
      | nil => rfl
      | cons v l => obtain ⟨ad, h, _⟩ := hr 0 v rfl; cases h
    subst this
    exact run_firstCells_none w sz m m c
  | some a => exact run_firstCells_some w sz m a m c news hl (fun j v hj => hr.at_ hj)

/-- append(s, x...), s a row of the call's own, x any slice -/
theorem run_append_row (w : World) (B : Nat) (t ty e : TypeId) (z : Value) (sz bytes : Nat) (ht : P.underlying t = some (.slice e)) (hi : (P.info? e).map (fun i => (i.zero, i.size, i.bytes)) = some (some z, sz, bytes)) (hzs : z.cells.size = sz)
    (A : Option Addr) (n c : Nat) (xs : List Value) (hrow : Row w B e sz A n c xs)
    (A2 : Option Addr) (m c2 : Nat) (news : List Value) (hr : Rd w A2 news) (hl : news.length = m * sz) (h1 : ∀ u ∈ news, u.oneCell' = true)
    (h63 : n + m ≤ maxLen) (hbytes : (n + m) * bytes ≤ 140737488355328) (hB : B ≤ w.heap.size) :
    ∃ A' c' w', (Builtin.append_ #[t, t] ty #[.slice A n c, .slice A2 m c2]).run P w = .ok (.slice A' (n + m) c') w' ∧ Row w' B e sz A' (n + m) c' (xs ++ news) ∧ w.grownBy w' (A.map (·.block)) ∧
      (A' = A ∨ A' = some ⟨w.heap.size, 0, none⟩) := by
  obtain ⟨i, hi', hz, rfl, rfl⟩ := info_parts hi
  exact run_append_src w B t t ty e i z ht (.inl ⟨_, ht⟩) hi' hz hzs A n c xs hrow _ m news (fun w' => by simp [Builtin.lenOf])
    (firstCells_rd w A2 i.size m c2 news hr hl) (firstCells_rd w.drew A2 i.size m c2 news hr hl) hl h1 h63 hbytes hB
theorem wpList_append_row {w : World} {ops : Array Oper} {rest : List Oper} {o : Oper} {a : Act} {Q : Exit → Act → World → Prop} (hgd : o.guard = none) (s x : Operand) (t : TypeId)
    (ho : o.op = .call { callee := .builtin .append, args := #[s, x], argTypes := #[t, t] })
    (B : Nat) (e : TypeId) (z : Value) (sz bytes : Nat) (ht : P.underlying t = some (.slice e)) (hi : (P.info? e).map (fun i => (i.zero, i.size, i.bytes)) = some (some z, sz, bytes)) (hzs : z.cells.size = sz)
    (A : Option Addr) (n c : Nat) (xs : List Value) (hs : a.eval s = .slice A n c) (hrow : Row w B e sz A n c xs)
    (A2 : Option Addr) (m c2 : Nat) (news : List Value) (hx : a.eval x = .slice A2 m c2) (hr : Rd w A2 news) (hl : news.length = m * sz) (h1 : ∀ u ∈ news, u.oneCell' = true)
    (h63 : n + m ≤ maxLen) (hbytes : (n + m) * bytes ≤ 140737488355328) (hB : B ≤ w.heap.size)
    (h : ∀ A' c' w', Row w' B e sz A' (n + m) c' (xs ++ news) → w.grownBy w' (A.map (·.block)) → (A' = A ∨ A' = some ⟨w.heap.size, 0, none⟩) → wpList P ops Q rest (a.put o.dst (.slice A' (n + m) c')) w') :
    wpList P ops Q (o :: rest) a w := by
  obtain ⟨A', c', w', hrun, h2, h3, h4⟩ := run_append_row (P := P) w B t o.type e z sz bytes ht hi hzs A n c xs hrow A2 m c2 news hr hl h1 h63 hbytes hB
  exact Lib.wpList_append_run w hgd s x t t ho _ _ hs hx _ w' hrun (h A' c' w' h2 h3 h4)
/-- append(s, x...), x a string -/
theorem wpList_append_str {w : World} {ops : Array Oper} {rest : List Oper} {o : Oper} {a : Act} {Q : Exit → Act → World → Prop} (hgd : o.guard = none) (s x : Operand) (t u : TypeId)
    (ho : o.op = .call { callee := .builtin .append, args := #[s, x], argTypes := #[t, u] })
    (B : Nat) (e : TypeId) (z : Value) (bytes : Nat) (ht : P.underlying t = some (.slice e)) (hu : P.underlying u = some .string) (hi : (P.info? e).map (fun i => (i.zero, i.size, i.bytes)) = some (some z, 1, bytes)) (hzs : z.cells.size = 1)
    (A : Option Addr) (n c : Nat) (xs : List Value) (hs : a.eval s = .slice A n c) (hrow : Row w B e 1 A n c xs)
    (str : ByteArray) (hx : a.eval x = .string str)
    (h63 : n + str.size ≤ maxLen) (hbytes : (n + str.size) * bytes ≤ 140737488355328) (hB : B ≤ w.heap.size)
    (h : ∀ A' c' w', Row w' B e 1 A' (n + str.size) c' (xs ++ str.data.toList.map byteV) → w.grownBy w' (A.map (·.block)) → (A' = A ∨ A' = some ⟨w.heap.size, 0, none⟩) → wpList P ops Q rest (a.put o.dst (.slice A' (n + str.size) c')) w') :
    wpList P ops Q (o :: rest) a w := by
  obtain ⟨i, hi', hz, hsz, rfl⟩ := info_parts hi
  have hf : ∀ w' : World, (Builtin.firstCells i.size str.size (.string str)).run P w' = .ok (str.data.toList.map byteV).toArray w' := fun w' => by
    simp only [Builtin.firstCells, Sem.run_pure]
    congr 1
    apply Array.ext'
    rw [show str.extract 0 str.size = str by simp]
    simp [byteV, Function.comp_def]
  rw [← hsz] at hrow hzs
  obtain ⟨A', c', w', hrun, h2, h3, h4⟩ := run_append_src (P := P) w B t u o.type e i z ht (.inr hu) hi' hz hzs A n c xs hrow (.string str) str.size (str.data.toList.map byteV) (fun w' => by simp [Builtin.lenOf])
    (hf w) (hf w.drew) (by rw [hsz]; simp) (by intro v hv; simp at hv; obtain ⟨b, _, rfl⟩ := hv; rfl) h63 hbytes hB
  rw [hsz] at h2
  exact Lib.wpList_append_run w hgd s x t u ho _ _ hs hx _ w' hrun (h A' c' w' h2 h3 h4)

/-- append(s, make([]T, k)...), s a row of the call's own -/
theorem run_append_zeros_row (w : World) (B : Nat) (t u ty e : TypeId) (z : Value) (sz bytes : Nat) (ik : IntKind) (ht : P.underlying t = some (.slice e)) (hu : P.underlying u = some (.int ik)) (hi : (P.info? e).map (fun i => (i.zero, i.size, i.bytes)) = some (some z, sz, bytes))
    (hzs : z.cells.size = sz) (hsz : 0 < sz) (hz1 : ∀ u ∈ z.cells.toList, u.oneCell' = true)
    (A : Option Addr) (n c : Nat) (xs : List Value) (hrow : Row w B e sz A n c xs) (kq : IntKind) (k : Nat) (h0 : 0 < k)
    (h63 : n + k ≤ maxLen) (hbytes : (n + k) * bytes ≤ 140737488355328) (hB : B ≤ w.heap.size) :
    ∃ A' c' w', (Builtin.append_ #[t, u] ty #[.slice A n c, .int kq k]).run P w = .ok (.slice A' (n + k) c') w' ∧ Row w' B e sz A' (n + k) c' (xs ++ (Builtin.zeroCells z.cells k).toList) ∧ w.grownBy w' (A.map (·.block)) ∧
      (A' = A ∨ A' = some ⟨w.heap.size, 0, none⟩) := by
  obtain ⟨i, hi', hz, rfl, rfl⟩ := info_parts hi
  have hl : (Builtin.zeroCells z.cells k).toList.length = k * i.size := by simp [size_zeroCells, hzs]
  have h1 : ∀ u ∈ (Builtin.zeroCells z.cells k).toList, u.oneCell' = true := by
    intro v hv
    simp only [Builtin.zeroCells, Array.toList_map, List.mem_map] at hv
    obtain ⟨j, _, rfl⟩ := hv
    apply hz1
    have hlt : j % z.cells.size < z.cells.size := Nat.mod_lt _ (by omega)
    rw [getElem!_pos z.cells _ hlt]
    exact Array.getElem_mem_toList hlt
  have hlen : (xs ++ (Builtin.zeroCells z.cells k).toList).length = (n + k) * i.size := by rw [List.length_append, hrow.1, hl, Nat.add_mul]
  have hkm : k ≤ n + k := by omega
  have hbk : k * i.bytes ≤ (n + k) * i.bytes := Nat.mul_le_mul_right _ hkm
  have hk63 : k ≤ 9223372036854775807 := by simp only [maxLen] at h63; omega
  have hwr : IntKind.i64.wrap (k : Int) = k := by rw [IntKind.wrap_i64]; omega
  by_cases hroom : n + k ≤ c
  · rcases hrow.2 with ⟨rfl, rfl, rfl⟩ | ⟨g, cur, rfl, hb, hg, hnc, hcm, hcs, htake⟩
    · omega
    · have hfit : n * i.size + (Builtin.zeroCells z.cells k).toList.length ≤ cur.size := by
        rw [hl, ← Nat.add_mul]; exact Nat.le_trans (Nat.mul_le_mul_right _ hroom) hcs
      have hst := run_storeCells_at P g (n * i.size) e (Builtin.zeroCells z.cells k).toList 0 cur w hg (by simpa using hfit) h1
      simp only [Nat.add_zero] at hst
      refine ⟨_, c, w.setRow g (cur.toList.take (n * i.size) ++ (Builtin.zeroCells z.cells k).toList ++ cur.toList.drop (n * i.size + (Builtin.zeroCells z.cells k).toList.length)).toArray, ?_, ⟨hlen, .inr ⟨g, _, rfl, hb, setRow_heap w g cur _ e _ hg, hroom, hcm, ?_, ?_⟩⟩,
        ⟨rfl, rfl, rfl, by simp, fun k _ hk => setRow_other w g k _ (fun e => hk (by simp [e]))⟩, .inl rfl⟩
      · have h48i : ¬ (281474976710656 < (k : Int) * (i.bytes : Int)) := by
          rw [← Int.natCast_mul]; omega
        have hks : k * i.size ≠ 0 := by
          have := Nat.mul_pos h0 hsz
          omega
        generalize hZ : Builtin.zeroCells z.cells k = Z at *
        simp only [List.append_assoc] at hst
        simp [Builtin.append_, run_underlying ht, run_underlying hu, sizeOf, typeInfo, zeroValue, hi', hz, asInt, asIntOf, hwr, h48i, hroom, hks, hZ, show ¬ ((k : Int) < 0) by omega, Addr.add_lit, hst]
      · simp only [List.size_toArray, List.length_append, List.length_take, List.length_drop, Array.length_toList]
        simp at hfit
        omega
      · rw [htake, ← hlen]
        exact List.take_left
  · have hold : (Builtin.firstCells i.size n (.slice A n c)).run P w.drew = .ok xs.toArray w.drew := firstCells_rd w.drew A i.size n c xs (Rd.drew hrow.rd) hrow.1
    have hr := Lib.run_append_grow_zeros w t u ty e i z kq ik ht hu hi' hz A n c xs hold k h0 hsz (by omega) (by simp only [maxLen] at h63; omega) (by omega) (growslice_fits (show c < n + k by omega) hbytes)
    have hge := grownCap_ge w (n + k) c e
    have hcm : grownCap w (n + k) c e ≤ maxLen := grownCap_le_maxLen w (n + k) c e h63
    refine ⟨_, _, _, hr, ⟨hlen, .inr ⟨w.heap.size, _, rfl, hB, heap_alloc_new w.drew _, hge, hcm, ?_, ?_⟩⟩, ⟨rfl, rfl, rfl, by simp, fun k hk _ => Below.heap_alloc w.drew _ k hk⟩, .inr rfl⟩
    · have := Nat.add_mul (n + k) (grownCap w (n + k) c e - (n + k)) i.size
      rw [Nat.add_sub_cancel' hge] at this
      simp only [Array.size_append, List.size_toArray, size_zeroCells, hzs, hrow.1]
      rw [this, Nat.add_mul]
      exact Nat.le_refl _
    · simp only [Array.toList_append, List.append_assoc]
      rw [← List.append_assoc, ← hlen]
      exact List.take_left

theorem wpList_append_zeros_row {w : World} {ops : Array Oper} {rest : List Oper} {o : Oper} {a : Act} {Q : Exit → Act → World → Prop} (hgd : o.guard = none) (s x : Operand) (t u : TypeId)
    (ho : o.op = .call { callee := .builtin .append, args := #[s, x], argTypes := #[t, u] })
    (B : Nat) (e : TypeId) (z : Value) (sz bytes : Nat) (ik : IntKind) (ht : P.underlying t = some (.slice e)) (hu : P.underlying u = some (.int ik)) (hi : (P.info? e).map (fun i => (i.zero, i.size, i.bytes)) = some (some z, sz, bytes))
    (hzs : z.cells.size = sz) (hsz : 0 < sz) (hz1 : ∀ u ∈ z.cells.toList, u.oneCell' = true)
    (A : Option Addr) (n c : Nat) (xs : List Value) (hs : a.eval s = .slice A n c) (hrow : Row w B e sz A n c xs) (kq : IntKind) (k : Nat) (hx : a.eval x = .int kq k) (h0 : 0 < k)
    (h63 : n + k ≤ maxLen) (hbytes : (n + k) * bytes ≤ 140737488355328) (hB : B ≤ w.heap.size)
    (h : ∀ A' c' w', Row w' B e sz A' (n + k) c' (xs ++ (Builtin.zeroCells z.cells k).toList) → w.grownBy w' (A.map (·.block)) → (A' = A ∨ A' = some ⟨w.heap.size, 0, none⟩) → wpList P ops Q rest (a.put o.dst (.slice A' (n + k) c')) w') :
    wpList P ops Q (o :: rest) a w := by
  obtain ⟨A', c', w', hrun, h2, h3, h4⟩ := run_append_zeros_row (P := P) w B t u o.type e z sz bytes ik ht hu hi hzs hsz hz1 A n c xs hrow kq k h0 h63 hbytes hB
  exact Lib.wpList_append_run w hgd s x t u ho _ _ hs hx _ w' hrun (h A' c' w' h2 h3 h4)

/-- the same in a region that draws its order -/
theorem step_append_row {w : World} {ops : Array Oper} {o : Oper} {a : Act} {K : Act → World → Prop} {Q : Exit → Act → World → Prop} {F : Prop} (hgd : o.guard = none) (s x : Operand) (t : TypeId)
    (ho : o.op = .call { callee := .builtin .append, args := #[s, x], argTypes := #[t, t] })
    (B : Nat) (e : TypeId) (z : Value) (sz bytes : Nat) (ht : P.underlying t = some (.slice e)) (hi : (P.info? e).map (fun i => (i.zero, i.size, i.bytes)) = some (some z, sz, bytes)) (hzs : z.cells.size = sz)
    (A : Option Addr) (n c : Nat) (xs : List Value) (hs : a.eval s = .slice A n c) (hrow : Row w B e sz A n c xs)
    (A2 : Option Addr) (m c2 : Nat) (news : List Value) (hx : a.eval x = .slice A2 m c2) (hr : Rd w A2 news) (hl : news.length = m * sz) (h1 : ∀ u ∈ news, u.oneCell' = true)
    (h63 : n + m ≤ maxLen) (hbytes : (n + m) * bytes ≤ 140737488355328) (hB : B ≤ w.heap.size)
    (h : ∀ A' c' w', Row w' B e sz A' (n + m) c' (xs ++ news) → w.grownBy w' (A.map (·.block)) → (A' = A ∨ A' = some ⟨w.heap.size, 0, none⟩) → K (a.put o.dst (.slice A' (n + m) c')) w') :
    if Region.wanted o (yielded ops a.tmps) = true then Oper.wp P o a w K Q else F := by
  have hw : Region.wanted o (yielded ops a.tmps) = true := by simp [Region.wanted, hgd]
  rw [if_pos hw]
  obtain ⟨A', c', w', hrun, h2, h3, h4⟩ := run_append_row (P := P) w B t o.type e z sz bytes ht hi hzs A n c xs hrow A2 m c2 news hr hl h1 h63 hbytes hB
  unfold Oper.wp execOp
  simp only [ho, resolve, invoke, builtin, Sem.run_bind, Sem.run_pure, Result.andThen_ok, List.map_toArray, List.map_cons, List.map_nil, hs, hx, hrun]
  exact h A' c' w' h2 h3 h4
end
end Go.Proofs.YthbbmpelldglmaaGreatDoor
/- Go's library on slices of octets: Clip, Clone, Grow (of nil), Concat. -/
namespace Go.Proofs.YthbbmpelldglmaaGreatDoor
set_option linter.unusedVariables false
set_option linter.unusedSimpArgs false
open Go.RowKit

theorem infoByte : (Tryz.prog.info? 5).map (fun i => (i.zero, i.size, i.bytes)) = some (some (.int .u8 0), 1, 1) := by kernel_rfl
/-- rows of octets -/
def RowB (w : World) (B : Nat) (A : Option Addr) (c : Nat) (l : List UInt8) : Prop := Row w B 5 1 A l.length c (l.map byteV)
theorem RowB.rd {w : World} {B : Nat} {A : Option Addr} {c : Nat} {l : List UInt8} (h : RowB w B A c l) : RdB w A l := Row.rd h
theorem RowB.of {w : World} {B : Nat} {A : Option Addr} {c : Nat} {a b : List UInt8} (h : Row w B 5 1 A (a.length + b.length) c (a.map byteV ++ b.map byteV)) : RowB w B A c (a ++ b) := by
  unfold RowB
  rw [List.length_append, List.map_append]
  exact h
/-- octets given in the text -/
theorem rd_lit (w : World) (l : List UInt8) (fr : Nat × Nat := (0, 0)) : RdB (w.alloc (.cells (l.map byteV).toArray 5 fr)) (some ⟨w.heap.size, 0, none⟩) l := fun k v hk => by
  refine ⟨_, rfl, ?_⟩
  rw [add_lit, cell_of_row _ _ _ _ _ _ (heap_alloc_new _ _)]
  simpa using hk

theorem rd_lit_at (w : World) (g : Nat) (hg : g = w.heap.size) (l : List UInt8) : RdB (w.alloc (.cells (l.map byteV).toArray 5)) (some ⟨g, 0, none⟩) l := by
  subst hg; exact rd_lit w l

theorem RowB.new (w : World) (B : Nat) (hB : B ≤ w.heap.size) (l : List UInt8) (h : l.length ≤ maxLen) : RowB (w.alloc (.cells (l.map byteV).toArray 5)) B (some ⟨w.heap.size, 0, none⟩) l.length l := by
  have := Row.new w (l.map byteV).toArray 5 1 l.length l.length hB (Nat.le_refl _) h (by simp)
  unfold RowB
  have e : (List.map byteV l).toArray.toList.take (l.length * 1) = l.map byteV := by simp [List.take_of_length_le]
  rwa [e] at this
theorem byte_one (l : List UInt8) : ∀ u ∈ l.map byteV, u.oneCell' = true := by
  intro v hv; simp at hv; obtain ⟨b, _, rfl⟩ := hv; rfl

theorem RowB.nil (w : World) (B : Nat) : RowB w B none 0 [] := Row.nil _ _ _ _
theorem RowB.below {w w' : World} {B : Nat} {A : Option Addr} {c : Nat} {l : List UInt8} (h : RowB w B A c l) (hb : Below w.heap.size w w') : RowB w' B A c l := Row.below h hb
theorem RowB.set {w : World} {B g c : Nat} {l : List UInt8} (h : RowB w B (some ⟨g, 0, none⟩) c l) (k : Nat) (v : UInt8) : RowB (w.setCell ⟨g, k, none⟩ (.int .u8 (v.toNat : Int))) B (some ⟨g, 0, none⟩) c (l.set k v) := by
  have := Row.set h k (.int .u8 (v.toNat : Int))
  unfold RowB
  rw [List.length_set, List.map_set]
  exact this
theorem RowB.other {w : World} {B g c k : Nat} {A : Option Addr} {l : List UInt8} (h : RowB w B A c l) (hne : ∀ j, A.map (·.block) = some j → j ≠ g) (v : Value) : RowB (w.setCell ⟨g, k, none⟩ v) B A c l :=
  Row.setOther h (p := ⟨g, k, none⟩) hne v
theorem RowB.at_ {w : World} {B g c : Nat} {l : List UInt8} (h : RowB w B (some ⟨g, 0, none⟩) c l) {k : Nat} (hk : k < l.length) : w.cell? ⟨g, k, none⟩ = some (.int .u8 (l[k].toNat : Int)) :=
  Row.cell h (by simp [hk, byteV])
theorem u8_inc (x : UInt8) : IntKind.u8.wrap ((x.toNat : Int) + 1) = ((x + 1).toNat : Int) := by
  rw [IntKind.wrap_u8, UInt8.toNat_add]
  simp
/-- append(s, x...) on octets: the lengths and the list as the caller spells them; and where the new row lies -/
theorem append_bytes2 {w : World} {ops : Array Oper} {rest : List Oper} {o : Oper} {a : Act} {Q : Exit → Act → World → Prop} (hgd : o.guard = none) (s x : Operand)
    (ho : o.op = .call { callee := .builtin .append, args := #[s, x], argTypes := #[39, 39] })
    (B : Nat) (A : Option Addr) (n c : Nat) (la : List UInt8) (hs : a.eval s = .slice A n c) (hn : n = la.length) (hrow : RowB w B A c la)
    (A2 : Option Addr) (m c2 : Nat) (lb : List UInt8) (hx : a.eval x = .slice A2 m c2) (hm : m = lb.length) (hr : RdB w A2 lb)
    (L : List UInt8) (hL : L = la ++ lb) (hlen : L.length ≤ 140737488351232) (w0 : World) (hb : Below B w0 w) (hB : B ≤ w.heap.size)
    (h : ∀ A' c' w', RowB w' B A' c' L → w.grownBy w' (A.map (·.block)) → Below B w0 w' → B ≤ w'.heap.size → (A' = A ∨ A' = some ⟨w.heap.size, 0, none⟩) → wpList Tryz.prog ops Q rest (a.put o.dst (.slice A' L.length c')) w') :
    wpList Tryz.prog ops Q (o :: rest) a w := by
  subst hn hm hL
  rw [List.length_append] at hlen
  refine wpList_append_row hgd s x 39 ho B 5 _ 1 1 Tryz.underlying39 infoByte rfl A la.length c _ hs hrow A2 lb.length c2 _ hx hr (by simp) (byte_one lb) (by simp only [maxLen]; omega) (by omega) hB ?_
  intro A' c' w' h1 h2 h3
  have := h A' c' w' (RowB.of h1) h2 (hb.grown h2 hB (fun k hk => (Row.lt hrow k hk).1)) (Nat.le_trans hB h2.size) h3
  rwa [List.length_append] at this

/-- append(s, x...) on octets: the lengths and the list as the caller spells them -/
theorem append_bytes {w : World} {ops : Array Oper} {rest : List Oper} {o : Oper} {a : Act} {Q : Exit → Act → World → Prop} (hgd : o.guard = none) (s x : Operand)
    (ho : o.op = .call { callee := .builtin .append, args := #[s, x], argTypes := #[39, 39] })
    (B : Nat) (A : Option Addr) (n c : Nat) (la : List UInt8) (hs : a.eval s = .slice A n c) (hn : n = la.length) (hrow : RowB w B A c la)
    (A2 : Option Addr) (m c2 : Nat) (lb : List UInt8) (hx : a.eval x = .slice A2 m c2) (hm : m = lb.length) (hr : RdB w A2 lb)
    (L : List UInt8) (hL : L = la ++ lb) (hlen : L.length ≤ 140737488351232) (w0 : World) (hb : Below B w0 w) (hB : B ≤ w.heap.size)
    (h : ∀ A' c' w', RowB w' B A' c' L → w.grownBy w' (A.map (·.block)) → Below B w0 w' → B ≤ w'.heap.size → wpList Tryz.prog ops Q rest (a.put o.dst (.slice A' L.length c')) w') :
    wpList Tryz.prog ops Q (o :: rest) a w := by
  exact append_bytes2 hgd s x ho B A n c la hs hn hrow A2 m c2 lb hx hm hr L hL hlen w0 hb hB fun A' c' w' h1 h2 h3 h4 _ => h A' c' w' h1 h2 h3 h4

theorem step_bytes {w : World} {ops : Array Oper} {o : Oper} {a : Act} {K : Act → World → Prop} {Q : Exit → Act → World → Prop} {F : Prop} (hgd : o.guard = none) (s x : Operand)
    (ho : o.op = .call { callee := .builtin .append, args := #[s, x], argTypes := #[39, 39] })
    (B : Nat) (A : Option Addr) (n c : Nat) (la : List UInt8) (hs : a.eval s = .slice A n c) (hn : n = la.length) (hrow : RowB w B A c la)
    (A2 : Option Addr) (m c2 : Nat) (lb : List UInt8) (hx : a.eval x = .slice A2 m c2) (hm : m = lb.length) (hr : RdB w A2 lb)
    (L : List UInt8) (hL : L = la ++ lb) (hlen : L.length ≤ 140737488351232) (w0 : World) (hb : Below B w0 w) (hB : B ≤ w.heap.size)
    (h : ∀ A' c' w', RowB w' B A' c' L → w.grownBy w' (A.map (·.block)) → Below B w0 w' → B ≤ w'.heap.size → (A' = A ∨ A' = some ⟨w.heap.size, 0, none⟩) → K (a.put o.dst (.slice A' L.length c')) w') :
    if Region.wanted o (yielded ops a.tmps) = true then Oper.wp Tryz.prog o a w K Q else F := by
  subst hn hm hL
  rw [List.length_append] at hlen
  refine step_append_row hgd s x 39 ho B 5 _ 1 1 Tryz.underlying39 infoByte rfl A la.length c _ hs hrow A2 lb.length c2 _ hx hr (by simp) (byte_one lb) (by simp only [maxLen]; omega) (by omega) hB ?_
  intro A' c' w' h1 h2 h3
  have := h A' c' w' (RowB.of h1) h2 (hb.grown h2 hB (fun k hk => (Row.lt hrow k hk).1)) (Nat.le_trans hB h2.size) h3
  rwa [List.length_append] at this

/-- two rows in different blocks -/
def Apart (A A2 : Option Addr) : Prop := ∀ j, A.map (·.block) = some j → A2.map (·.block) ≠ some j
theorem Apart.symm {A A2 : Option Addr} (h : Apart A A2) : Apart A2 A := fun j h1 h2 => h j h2 h1
theorem Apart.none (A : Option Addr) : Apart .none A := fun j h => by simp at h
theorem Apart.none' (A : Option Addr) : Apart A .none := fun j _ h => by simp at h
theorem RowB.kept {w w' : World} {B c : Nat} {A A2 : Option Addr} {l : List UInt8} (h : RowB w B A c l) (hg : w.grownBy w' (A2.map (·.block))) (ha : Apart A A2) : RowB w' B A c l :=
  Row.kept h hg (fun k hk => ha k hk)
theorem Apart.grown {w : World} {B c : Nat} {A A2 A2' : Option Addr} {l : List UInt8} (ha : Apart A A2) (h : RowB w B A c l) (hg : A2' = A2 ∨ A2' = some ⟨w.heap.size, 0, .none⟩) : Apart A A2' := by
  rcases hg with rfl | rfl
  · exact ha
  · intro j hj e
    have := (Row.lt h j hj).2
    simp at e
    omega

set_option maxHeartbeats 400000 in
theorem clip_any (A : Option Addr) (n c : Nat) (w : World) (h : n ≤ c) (hc : c ≤ maxLen) :
    Calls Tryz.prog 41 #[.slice A n c] w fun e w' => e = .returned (.slice A n n) ∧ w = w' := by
  unfold maxLen at hc
  go_enter Tryz.func41, Tryz.ntmps41
  go_wp2
  go_ret
  exact ⟨rfl, rfl⟩

theorem below_grown {B : Nat} {w w' : World} {A : Option Addr} (hb : Below B w w') {w2 : World} (hg : w'.grownBy w2 (A.map (·.block))) (hB : B ≤ w'.heap.size) (h : ∀ k, A.map (·.block) = some k → B ≤ k) : Below B w w2 := hb.grown hg hB h

set_option maxRecDepth 100000 in
set_option maxHeartbeats 400000 in
theorem clone_any (A : Option Addr) (c : Nat) (l : List UInt8) (w : World) (hA : RdB w A l) (hl : l.length ≤ 140737488351232) :
    Calls Tryz.prog 42 #[.slice A l.length c] w fun e w' => ∃ A' c', e = .returned (.slice A' l.length c') ∧ RowB w' w.heap.size A' c' l ∧ Below w.heap.size w w' := by
  have hq := fun n w => Lib.run_eql_slice_nil (P := Tryz.prog) w 39 5 A n c 0 0 Tryz.underlying39
  cases A with
  | none =>
    have : l = [] := by
      cases l with
      | nil => rfl
      | cons b l => obtain ⟨ad, h, _⟩ := hA 0 (byteV b) rfl; cases h
    subst this
    go_enter Tryz.func42, Tryz.ntmps42
    go_wp2
    go_ret
    exact ⟨none, 0, rfl, Row.nil _ _ _ _, Below.refl _ _⟩
  | some ad =>
    go_enter Tryz.func42, Tryz.ntmps42
    go_wp2_with (
      (with_reducible refine at_dst 7 rfl ?_)
      refine wpList_append_row rfl (.tmp 5) (.tmp 6) 39 rfl w.heap.size 5 _ 1 1 Tryz.underlying39 infoByte rfl (some ⟨w.heap.size, 0, none⟩) 0 0 _ rfl (Row.new w #[] 5 1 0 0 (Nat.le_refl _) (Nat.le_refl _) (by simp [maxLen]) (by simp)) (some ad) l.length c (l.map byteV) rfl (hA.alloc _) (by simp) (byte_one l) (by simp [maxLen]; omega) (by omega) (by simp) ?_
      intro A1 c1 w1 h1 hg1 _)
    go_ret
    refine ⟨A1, c1, rfl, ?_, ?_⟩
    · unfold RowB
      simpa using h1
    · exact ((Below.refl _ _).alloc (Nat.le_refl _) _).grown hg1 (by simp) (by intro k hk; simp at hk; omega)

set_option maxRecDepth 100000 in
set_option maxHeartbeats 400000 in
theorem grow_any (n : Nat) (w : World) (hn : n ≤ 140737488351232) :
    Calls Tryz.prog 105 #[.slice none 0 0, .int .i64 n] w fun e w' => ∃ A' c', e = .returned (.slice A' 0 c') ∧ RowB w' w.heap.size A' c' [] ∧ Below w.heap.size w w' := by
  obtain ⟨i, hi, hz, hs, hb⟩ := info_parts infoByte
  rcases Nat.eq_zero_or_pos n with rfl | h0
  · go_enter Tryz.func105, Tryz.ntmps105
    go_wp2
    go_ret
    exact ⟨none, 0, rfl, Row.nil _ _ _ _, Below.refl _ _⟩
  · have hrz := fun ty => Lib.run_append_grow_zeros w 39 3 ty 5 i (.int .u8 0) .i64 .i64 Tryz.underlying39 Tryz.underlying3 hi hz none 0 0 [] (run_firstCells_none w.drew i.size 0 0 0) n h0 (by omega) (by omega) (by omega) (by rw [hb]; omega)
      (growslice_fits (by omega) (by rw [hb]; omega))
    simp only [Nat.zero_add] at hrz
    have hge := grownCap_ge w n 0 5
    have hcm := grownCap_le_maxLen w n 0 5 (by simp [maxLen]; omega)
    have hsz : ((#[] : Array Value) ++ Builtin.zeroCells (Value.int .u8 0).cells n ++ Builtin.zeroCells (Value.int .u8 0).cells (grownCap w n 0 5 - n)).size = grownCap w n 0 5 := by
      simp only [Array.size_append, size_zeroCells]
      simp [Value.cells]
      omega
    generalize ((#[] : Array Value) ++ Builtin.zeroCells (Value.int .u8 0).cells n ++ Builtin.zeroCells (Value.int .u8 0).cells (grownCap w n 0 5 - n)) = cs at *
    generalize grownCap w n 0 5 = G at *
    have HZ := Lib.hid hsz
    have HR := Lib.hid hrz
    clear hsz hrz
    unfold maxLen at hcm
    go_enter Tryz.func105, Tryz.ntmps105
    go_wp2_with (
      at_builtin
      refine Lib.wpList_append_run _ rfl _ _ _ _ rfl _ _ rfl rfl _ _ (HR.out _) ?_)
    go_ret
    refine ⟨some ⟨w.heap.size, 0, none⟩, G, rfl, ?_, ((Below.refl _ _).drew).alloc (Nat.le_refl _) _⟩
    have := Row.new w.drew cs 5 1 0 G (Nat.le_refl _) (Nat.zero_le _) (by unfold maxLen; omega) (by have := HZ.out; omega)
    exact this

/-- slices of octets, side by side -/
def RdS (w : World) (A : Option Addr) (ss : List (Option Addr × Nat × List UInt8)) : Prop :=
  ∀ k s, ss[k]? = some s → (∃ ad, A = some ad ∧ w.cell? (ad.add k) = some (.slice s.1 s.2.2.length s.2.1)) ∧ RdB w s.1 s.2.2
def catS (ss : List (Option Addr × Nat × List UInt8)) : List UInt8 := ss.flatMap (·.2.2)
theorem catS_snoc (ss : List (Option Addr × Nat × List UInt8)) (k : Nat) (h : k < ss.length) : catS (ss.take (k + 1)) = catS (ss.take k) ++ ss[k].2.2 := by
  unfold catS; rw [List.take_succ_eq_append_getElem h, List.flatMap_append]; simp
theorem catS_le (ss : List (Option Addr × Nat × List UInt8)) (k : Nat) : (catS (ss.take k)).length ≤ (catS ss).length := by
  conv => rhs; rw [← List.take_append_drop k ss]
  unfold catS
  rw [List.flatMap_append, List.length_append]
  omega

set_option maxRecDepth 100000 in
set_option maxHeartbeats 1000000 in
theorem concat_any (A : Option Addr) (c : Nat) (ss : List (Option Addr × Nat × List UInt8)) (w : World) (hA : RdS w A ss) (hl : (catS ss).length ≤ 140737488351232) (hs : ss.length ≤ 140737488351232) :
    Calls Tryz.prog 93 #[.slice A ss.length c] w fun e w' => ∃ A' c', e = .returned (.slice A' (catS ss).length c') ∧ RowB w' w.heap.size A' c' (catS ss) ∧ Below w.heap.size w w' := by
  go_enter Tryz.func93, Tryz.ntmps93
  go_wp2
  go_loop [3, 5, 11] (fun n _ i => ∃ k : Nat, k ≤ ss.length ∧ i = .int .i64 k ∧ n = .int .i64 (catS (ss.take k)).length) (fun _ _ i => ss.length - (intOf i).toNat)
  case atStart => exact ⟨0, by omega, rfl, by simp [catS]⟩
  case round =>
    obtain ⟨k, hk, rfl, rfl⟩ := hrel
    have hle := catS_le ss k
    by_cases hlt : k < ss.length
    · obtain ⟨⟨ad, rfl, hc⟩, _⟩ := hA k _ (List.getElem?_eq_getElem hlt)
      have hle2 := catS_le ss (k + 1)
      have hn := catS_snoc ss k hlt
      rw [hn, List.length_append] at hle2
      have HN := Lib.hid hn
      clear hn hA
      generalize ss[k] = s at *
      obtain ⟨s1, s2, s3⟩ := s
      simp only at hc hle2
      generalize catS (List.take k ss) = t at *
      go_wp2
      go_round
      case rel => exact ⟨k + 1, by omega, by go_num, by rw [HN.out]; simp⟩
      case measure => simp [intOf]; omega
    · obtain rfl : k = ss.length := by omega
      rw [List.take_length] at *
      go_wp2_with (go_at_call 105; (with_reducible refine (grow_any _ _ (by omega)).mono ?_); rintro e w1 ⟨A1, c1, rfl, hR, hB⟩)
      go_loopw [6, 8, 27] (fun v _ i wr => ∃ k : Nat, k ≤ ss.length ∧ i = .int .i64 k ∧ (∃ A2 c2, v = .slice A2 (catS (ss.take k)).length c2 ∧ RowB wr w.heap.size A2 c2 (catS (ss.take k))) ∧ Below w.heap.size w wr) (fun _ _ i _ => ss.length - (intOf i).toNat)
      case atStart => exact ⟨0, by omega, rfl, ⟨A1, c1, by simp [catS], by simpa [catS] using hR⟩, hB⟩
      case round =>
        obtain ⟨k, hk, rfl, ⟨A2, c2, rfl, hRk⟩, hBk⟩ := hrel
        by_cases hlt : k < ss.length
        · obtain ⟨⟨ad, rfl, hc⟩, hrd⟩ := hA k _ (List.getElem?_eq_getElem hlt)
          replace hc := cell_later hBk hc
          replace hrd := hrd.below hBk
          have hle2 := catS_le ss (k + 1)
          have hn := catS_snoc ss k hlt
          rw [hn, List.length_append] at hle2
          have HN := Lib.hid hn
          clear hn
          have HA := Lib.hid hA
          clear hA
          generalize hs : ss[k] = s at *
          obtain ⟨s1, s2, s3⟩ := s
          simp only at hc hle2 hrd
          clear hs
          generalize catS (List.take k ss) = t at *
          have h63 : t.length + s3.length ≤ maxLen := by simp only [maxLen]; omega
          have hsz := hBk.size
          have hlt2 := hRk.lt
          go_wp2_with (
            (with_reducible refine at_dst 33 rfl ?_)
            refine wpList_append_row rfl (.tmp 31) (.tmp 32) 39 rfl w.heap.size 5 _ 1 1 Tryz.underlying39 infoByte rfl A2 t.length c2 _ rfl hRk s1 s3.length s2 (s3.map byteV) rfl hrd (by simp) (byte_one s3) h63 (by omega) hsz ?_
            intro A3 c3 w3 h3 hg3 _
            clear hlt2 hsz h63)
          have hlt2 := Row.lt hRk
          go_roundw
          case rel => exact ⟨k + 1, by omega, by go_num, ⟨A3, c3, by rw [HN.out]; simp, by rw [HN.out]; exact RowB.of h3⟩, hBk.grown hg3 hBk.size (fun k hk => (hlt2 k hk).1)⟩
          case measure => simp [intOf]; omega
        · obtain rfl : k = ss.length := by omega
          rw [List.take_length] at *
          go_wp2
          go_ret
          exact ⟨A2, c2, rfl, hRk, hBk⟩
end Go.Proofs.YthbbmpelldglmaaGreatDoor
/- What 'sums.Add' and 'sums.Check' return. -/
namespace Go.Proofs.YthbbmpelldglmaaGreatDoor
set_option linter.unusedVariables false
set_option linter.unusedSimpArgs false
open Go.RowKit

theorem fcs_lo (l : List UInt8) : ((UInt8.ofNat (crcSum l % 256)).toNat : Int) = (crcSum l : Int) % 256 := by
  rw [UInt8.toNat_ofNat']; omega
theorem fcs_hi (l : List UInt8) : ((UInt8.ofNat (crcSum l / 256)).toNat : Int) = (crcSum l : Int) / 256 := by
  have := crcSum_lt l
  rw [UInt8.toNat_ofNat']; omega

theorem rdS_two (w1 : World) (A : Option Addr) (c : Nat) (l : List UInt8) (b0 b1 : UInt8) (hA : RdB w1 A l) :
    RdS ((w1.alloc (.cells #[.int .u8 (b0.toNat : Int), .int .u8 (b1.toNat : Int)] 5)).alloc (.cells #[.slice A l.length c, .slice (some ⟨w1.heap.size, 0, none⟩) 2 2] 39))
      (some ⟨w1.heap.size + 1, 0, none⟩) [(A, c, l), (some ⟨w1.heap.size, 0, none⟩, 2, [b0, b1])] := by
  have h1 := heap_alloc2_new w1 (.cells #[.int .u8 (b0.toNat : Int), .int .u8 (b1.toNat : Int)] 5) (.cells #[.slice A l.length c, .slice (some ⟨w1.heap.size, 0, none⟩) 2 2] 39)
  have h0 := heap_alloc2_old w1 (.cells #[.int .u8 (b0.toNat : Int), .int .u8 (b1.toNat : Int)] 5) (.cells #[.slice A l.length c, .slice (some ⟨w1.heap.size, 0, none⟩) 2 2] 39)
  intro k s hk
  match k, hk with
  | 0, hk =>
    obtain rfl : (A, c, l) = s := by simpa using hk
    exact ⟨⟨_, rfl, by rw [add_lit, cell_of_row _ _ _ _ _ _ h1]; rfl⟩, (hA.alloc _).alloc _⟩
  | 1, hk =>
    obtain rfl : (some ⟨w1.heap.size, 0, none⟩, 2, [b0, b1]) = s := by simpa using hk
    refine ⟨⟨_, rfl, by rw [add_lit, cell_of_row _ _ _ _ _ _ h1]; rfl⟩, fun j v hj => ⟨_, rfl, ?_⟩⟩
    rw [add_lit, cell_of_row _ _ _ _ _ _ h0]
    simpa [byteV] using hj
  | k + 2, hk => simp at hk

set_option maxHeartbeats 1000000 in
theorem add_any (A : Option Addr) (l : List UInt8) (c : Nat) (w : World) (hA : RdB w A l) (hl : l.length ≤ 140737488351000) :
    Calls Tryz.prog 65 #[.slice A l.length c] w fun e w' => ∃ A', e = .returned (.slice A' (l ++ fcs l).length (l ++ fcs l).length) ∧ RowB w' w.heap.size A' (l ++ fcs l).length (l ++ fcs l) ∧ Below w.heap.size w w' := by
  have HS := Lib.hid (sum_any A l c w hA (by omega))
  have hx := crcSum_lt l
  have hlo := (fcs_lo l).symm
  have hhi := (fcs_hi l).symm
  have hf : fcs l = [UInt8.ofNat (crcSum l % 256), UInt8.ofNat (crcSum l / 256)] := rfl
  generalize UInt8.ofNat (crcSum l % 256) = b0 at *
  generalize UInt8.ofNat (crcSum l / 256) = b1 at *
  generalize crcSum l = x at *
  have HF := Lib.hid hf
  clear hf
  go_enter Tryz.func65, Tryz.ntmps65
  go_wp2_with (first
    | (go_at_call 80; (with_reducible refine HS.out.mono ?_); rintro e w1 ⟨rfl, hB⟩)
    | (go_at_call 93
       refine (concat_any (some ⟨w1.heap.size + 1, 0, none⟩) 2 [(A, c, l), (some ⟨w1.heap.size, 0, none⟩, 2, [b0, b1])] _ (rdS_two w1 A c l b0 b1 (hA.below hB)) (by simp [catS]; omega) (by simp)).mono ?_
       rintro e w2 ⟨A2, c2, rfl, hR, hB2⟩
       have hle := Row.le hR
       have hcap := Row.cap_le hR)
    | (go_at_call 41; (with_reducible refine (clip_any _ _ _ _ hle hcap).mono ?_); rintro e w3 ⟨rfl, rfl⟩))
  have hBX := below_alloc (below_alloc hB (.cells #[.int .u8 (b0.toNat : Int), .int .u8 (b1.toNat : Int)] 5)) (.cells #[.slice A l.length c, .slice (some ⟨w1.heap.size, 0, none⟩) 2 2] 39)
  have hcat : catS [(A, c, l), (some ⟨w1.heap.size, 0, none⟩, 2, [b0, b1])] = l ++ fcs l := by rw [HF.out]; simp [catS]
  rw [hcat] at hR
  rw [hcat]
  go_ret
  refine ⟨A2, rfl, ?_, below_then hBX hB2⟩
  exact (Row.clip hR).mono hBX.size

theorem add_succ (ad : Addr) (n : Nat) : ad.add (n + 1) = ⟨ad.block, ad.off + (n + 1), none⟩ := by unfold Addr.add; simp

set_option maxHeartbeats 1000000 in
theorem check_short (A : Option Addr) (n c : Nat) (w : World) (h : n < 2) :
    Calls Tryz.prog 59 #[.slice A n c] w fun e w' => e = .returned (.tuple #[.slice none 0 0, .int .i64 5]) ∧ w = w' := by
  go_enter Tryz.func59, Tryz.ntmps59
  go_wp2
  go_ret2
  exact ⟨rfl, rfl⟩

def ChkPost (l : List UInt8) (n : Nat) (b0 b1 : UInt8) (w : World) (e : Ending) (w' : World) : Prop :=
  (if [b0, b1] = fcs (l.take n) then ∃ A', e = .returned (.tuple #[.slice A' n n, .int .i64 0]) ∧ RowB w' w.heap.size A' n (l.take n) else e = .returned (.tuple #[.slice none 0 0, .int .i64 10])) ∧ Below w.heap.size w w'

set_option maxHeartbeats 1000000 in
theorem check_core (A : Option Addr) (l : List UInt8) (n c : Nat) (w : World) (hA : RdB w A l) (hn : l.length = n + 2) (hc : l.length ≤ c) (hl : l.length ≤ 140737488351232) (b0 b1 : UInt8) (h0 : l[n]? = some b0) (h1 : l[n + 1]? = some b1) :
    Calls Tryz.prog 59 #[.slice A (n + 2) c] w (ChkPost l n b0 b1 w) := by
  have hlen : (l.take n).length = n := by rw [List.length_take]; omega
  have HS := Lib.hid (sum_any A (l.take n) c w (hA.take n) (by omega))
  obtain ⟨ad, rfl, hc0⟩ := hA.get (k := n) (by omega)
  obtain ⟨ad', e, hc1⟩ := hA.get (k := n + 1) (by omega)
  injection e with e
  subst e
  rw [List.getElem?_eq_getElem (by omega)] at h0 h1
  injection h0 with h0
  injection h1 with h1
  rw [h0] at hc0
  rw [h1, add_succ] at hc1
  have hx := crcSum_lt (l.take n)
  have hlo := (fcs_lo (l.take n)).symm
  have hhi := (fcs_hi (l.take n)).symm
  have hf : fcs (l.take n) = [UInt8.ofNat (crcSum (l.take n) % 256), UInt8.ofNat (crcSum (l.take n) / 256)] := rfl
  generalize UInt8.ofNat (crcSum (l.take n) % 256) = x0 at *
  generalize UInt8.ofNat (crcSum (l.take n) / 256) = x1 at *
  generalize crcSum (l.take n) = x at *
  rw [hlen] at HS
  have HC := fun w1 (hb : Below w.heap.size w w1) => clone_any (some ad) c (l.take n) w1 ((hA.take n).below hb) (by omega)
  rw [hlen] at HC
  have HCC := Lib.hid HC
  have HF := Lib.hid hf
  clear hf h0 h1 HC
  by_cases e0 : b0 = x0
  · subst e0
    by_cases e1 : b1 = x1
    · subst e1
      go_enter Tryz.func59, Tryz.ntmps59
      go_wp2_with (first
        | (go_at_call 80; (with_reducible refine HS.out.mono ?_); rintro e w1 ⟨rfl, hB⟩; replace hc0 := cell_later hB hc0; replace hc1 := cell_later hB hc1)
        | (go_at_call 42; (with_reducible refine (HCC.out _ hB).mono ?_); rintro e w2 ⟨A2, c2, rfl, hR, hB2⟩; have hle := Row.le hR; rw [hlen] at hle; have hcap := Row.cap_le hR)
        | (go_at_call 41; go_must (refine (clip_any _ _ _ _ hle hcap).mono ?_); rintro e w3 ⟨rfl, rfl⟩))
      go_ret2
      refine ⟨?_, hB.trans (hB2.mono hB.size)⟩
      rw [if_pos HF.out.symm]
      refine ⟨A2, rfl, ?_⟩
      have := (Row.clip hR).mono hB.size
      unfold RowB
      rw [hlen] at *
      exact this
    · have h1 := byte_ne e1
      have h2 := byte_ne' e1
      go_enter Tryz.func59, Tryz.ntmps59
      go_wp2_with (first
        | (go_at_call 80; (with_reducible refine HS.out.mono ?_); rintro e w1 ⟨rfl, hB⟩; replace hc0 := cell_later hB hc0; replace hc1 := cell_later hB hc1))
      go_ret2
      unfold ChkPost
      rw [if_neg (by rw [HF.out]; simp [e1])]
      exact ⟨rfl, hB⟩
  · have h1 := byte_ne e0
    have h2 := byte_ne' e0
    go_enter Tryz.func59, Tryz.ntmps59
    go_wp2_with (first
        | (go_at_call 80; (with_reducible refine HS.out.mono ?_); rintro e w1 ⟨rfl, hB⟩; replace hc0 := cell_later hB hc0; replace hc1 := cell_later hB hc1))
    go_ret2
    unfold ChkPost
    rw [if_neg (by rw [HF.out]; simp [e0])]
    exact ⟨rfl, hB⟩

theorem fcs_len (l : List UInt8) : (fcs l).length = 2 := rfl
theorem check_ok (A : Option Addr) (b sl : List UInt8) (hsl : sl = b ++ fcs b) (c : Nat) (w : World) (hA : RdB w A sl) (hc : sl.length ≤ c) (hl : sl.length ≤ 140737488351232) :
    Calls Tryz.prog 59 #[.slice A sl.length c] w fun e w' => ∃ A', e = .returned (.tuple #[.slice A' b.length b.length, .int .i64 0]) ∧ RowB w' w.heap.size A' b.length b ∧ Below w.heap.size w w' := by
  have hn : sl.length = b.length + 2 := by rw [hsl, List.length_append, fcs_len]
  have ht : sl.take b.length = b := by rw [hsl, List.take_left]
  obtain ⟨b0, b1, hf⟩ : ∃ b0 b1, fcs b = [b0, b1] := ⟨_, _, rfl⟩
  have h := check_core A sl b.length c w hA hn hc hl b0 b1 (by rw [hsl, List.getElem?_append_right (Nat.le_refl _), hf]; simp) (by rw [hsl, List.getElem?_append_right (by omega), hf]; simp)
  rw [hn]
  refine h.mono ?_
  rintro e w' ⟨h1, h2⟩
  rw [ht, if_pos hf.symm] at h1
  obtain ⟨A', he, hR⟩ := h1
  exact ⟨A', he, hR, h2⟩
end Go.Proofs.YthbbmpelldglmaaGreatDoor
/- Maps keyed by strings, as functions from keys to values. No program in it. -/
namespace Go.Proofs.YthbbmpelldglmaaGreatDoor
set_option linter.unusedVariables false
set_option linter.unusedSimpArgs false
open Go.RowKit Go.Maps
open Go.WideElems (Fit)

/-- an element read as itself -/
def heldR (v : Value) : Option (DataW Value × List MemPlace) := some (.held v, [])
/-- what the datum holds -/
structure Is (D : DataW Value) (f : List UInt8 → Option Value) : Prop where
  has : ∀ k, has D (.string k) = (f k).isSome
  at_ : ∀ k v, f k = some v → ∀ z, D.atKey (.string k) z = .held v
/-- block b is a map of at most n entries that answers as f -/
def MapIs (P : Program) (K : TypeId) (w : World) (b n : Nat) (f : List UInt8 → Option Value) : Prop :=
  ∃ D : DataW Value, w.ownsMap P K heldR b n D ∧ IsMap D ∧ Is D f
def upd (f : List UInt8 → Option Value) (k : List UInt8) (v : Value) : List UInt8 → Option Value := fun k' => if k' = k then some v else f k'
def cut (f : List UInt8 → Option Value) (k : List UInt8) : List UInt8 → Option Value := fun k' => if k' = k then none else f k'
theorem str_ne {a b : List UInt8} (h : a ≠ b) : (Lit.string a) ≠ Lit.string b := fun e => h (by injection e)
theorem Is.put {D : DataW Value} {f : List UInt8 → Option Value} (h : Is D f) (hD : IsMap D) (k : List UInt8) (v : Value) : Is (D.put (.string k) (.held v)) (upd f k v) where
  has := fun k' => by
    by_cases e : k' = k
    · subst e; rw [has_put_same hD (by trivial)]; simp [upd]
    · rw [has_put_other (str_ne e), h.has]; simp [upd, e]
  at_ := fun k' v' hv z => by
    by_cases e : k' = k
    · subst e; simp [upd] at hv; subst hv; exact atKey_put_same hD (by trivial) _ _
    · rw [atKey_put_other (str_ne e)]; simp [upd, e] at hv; exact h.at_ _ _ hv z
theorem Is.del {D : DataW Value} {f : List UInt8 → Option Value} (h : Is D f) (k : List UInt8) : Is (D.del (.string k)) (cut f k) where
  has := fun k' => by
    by_cases e : k' = k
    · subst e; rw [has_del_same]; simp [cut]
    · rw [has_del_other (str_ne e), h.has]; simp [cut, e]
  at_ := fun k' v' hv z => by
    by_cases e : k' = k
    · subst e; simp [cut] at hv
    · rw [atKey_del_other (str_ne e)]; simp [cut, e] at hv; exact h.at_ _ _ hv z
theorem Is.get {D : DataW Value} {f : List UInt8 → Option Value} (h : Is D f) (k : List UInt8) (z : Value) : D.atKey (.string k) (.held z) = .held ((f k).getD z) := by
  cases e : f k with
  | none => exact atKey_of_not_has (by rw [h.has, e]; rfl) _
  | some v => exact h.at_ _ _ e _

section
variable {P : Program} {K : TypeId} {w : World} {b n : Nat} {f : List UInt8 → Option Value}

theorem key_str (hk : P.underlying K = some .string) (k : List UInt8) (hl : k.length ≤ maxLen) : keyOf P K (encStr k) = some (.string k) := by
  have := Go.WideMaps.keyOf_string_mk (P := P) (k := K) hk (s := ⟨k.toArray⟩) (by simpa [ByteArray.size] using hl)
  simpa using this
theorem MapIs.made (w : World) (P : Program) (K : TypeId) : MapIs P K (w.alloc (.map #[] 0)) w.heap.size 0 fun _ => none :=
  ⟨.map [], World.ownsMap_made _ _ _ _, isMap_empty, ⟨fun _ => rfl, fun _ _ h => by cases h⟩⟩
theorem MapIs.lt (h : MapIs P K w b n f) : b < w.heap.size := by obtain ⟨D, h1, _⟩ := h; exact h1.lt
theorem MapIs.mono (h : MapIs P K w b n f) {m : Nat} (hm : n ≤ m) : MapIs P K w b m f := by obtain ⟨D, h1, h2⟩ := h; exact ⟨D, h1.mono hm, h2⟩
theorem MapIs.of_block {w' : World} (h : MapIs P K w b n f) (he : w'.heap[b]? = w.heap[b]?) : MapIs P K w' b n f := by
  obtain ⟨D, ⟨es, clock, hb, r⟩, h2⟩ := h
  exact ⟨D, ⟨es, clock, he.trans hb, r⟩, h2⟩
theorem MapIs.ext {g : List UInt8 → Option Value} (h : MapIs P K w b n f) (e : ∀ k, f k = g k) : MapIs P K w b n g := by rw [← funext e]; exact h

/-- 'v, ok := m[k]' -/
theorem MapIs.look_ok {t e : TypeId} (h : MapIs P K w b n f) (hk : P.underlying K = some .string) (ht : P.underlying t = some (.map K e)) {z : Value} (hz : (zeroValue e).run P w = .ok z w) (k : List UInt8) (hl : k.length ≤ maxLen) :
    (Instr.lookup t (.map (some b)) (encStr k) true).run P w = .ok (.tuple #[(f k).getD z, .bool (f k).isSome]) w := by
  obtain ⟨D, h1, h2, h3⟩ := h
  obtain ⟨v, ps, hrun, hv⟩ := h1.look_ok (string_keyed hk) ht hz (zd := .held z) (zp := []) rfl (key_str hk k hl)
  rw [h3.get, h3.has] at *
  simp only [heldR, Option.some.injEq, Prod.mk.injEq, DataW.held.injEq] at hv
  rw [hrun, hv.1]
/-- 'm[k]' -/
theorem MapIs.look {t e : TypeId} (h : MapIs P K w b n f) (hk : P.underlying K = some .string) (ht : P.underlying t = some (.map K e)) {z : Value} (hz : (zeroValue e).run P w = .ok z w) (k : List UInt8) (hl : k.length ≤ maxLen) :
    (Instr.lookup t (.map (some b)) (encStr k) false).run P w = .ok ((f k).getD z) w := by
  obtain ⟨D, h1, h2, h3⟩ := h
  obtain ⟨v, ps, hrun, hv⟩ := h1.lookup (string_keyed hk) ht hz (zd := .held z) (zp := []) rfl (key_str hk k hl)
  rw [h3.get] at hv
  simp only [heldR, Option.some.injEq, Prod.mk.injEq, DataW.held.injEq] at hv
  rw [hrun, hv.1]
/-- 'm[k] = v' -/
theorem MapIs.store {t e : TypeId} (h : MapIs P K w b n f) (hk : P.underlying K = some .string) (ht : P.underlying t = some (.map K e)) (hn : n < maxLen) (k : List UInt8) (hl : k.length ≤ maxLen) (v : Value) :
    ∃ w', (Instr.mapUpdate t (.map (some b)) (encStr k) v).run P w = .ok () w' ∧ MapIs P K w' b (n + 1) (upd f k v) ∧ w.mapTurned w' b := by
  obtain ⟨D, h1, h2, h3⟩ := h
  obtain ⟨w', hrun, h4, h5⟩ := h1.store (string_keyed hk) ht hn (key_str hk k hl) (d := .held v) (ps := []) rfl
  exact ⟨w', hrun, ⟨_, h4, h2.put _ _, h3.put h2 k v⟩, h5⟩
/-- 'delete(m, k)' -/
theorem MapIs.drop {t e : TypeId} (h : MapIs P K w b n f) (hk : P.underlying K = some .string) (ht : P.underlying t = some (.map K e)) (k : List UInt8) (hl : k.length ≤ maxLen) (ty : TypeId) :
    ∃ w', (Builtin.delete_ #[t, K] ty #[.map (some b), encStr k]).run P w = .ok (.tuple #[]) w' ∧ MapIs P K w' b n (cut f k) ∧ w.mapTurned w' b := by
  obtain ⟨D, h1, h2, h3⟩ := h
  obtain ⟨w', hrun, h4, h5⟩ := h1.drop (string_keyed hk) ht (key_str hk k hl) ty
  exact ⟨w', hrun, ⟨_, h4, h2.del _, h3.del k⟩, h5⟩
/-- 'm[k], .. = v, ..': the entry first, the value behind it -/
theorem MapIs.entry {t e : TypeId} (h : MapIs P K w b n f) (hk : P.underlying K = some .string) (ht : P.underlying t = some (.map K e)) {z : Value} (hz : ∀ u : World, (zeroValue e).run P u = .ok z u) (hn : n < maxLen) (k : List UInt8) (hl : k.length ≤ maxLen) (v : Value) :
    ∃ (v0 : Value) (st : Nat) (w1 w2 : World), (Instr.mapEntry t (.map (some b)) (encStr k)).run P w = .ok (.tuple #[v0, .int .i64 st]) w1 ∧ w.mapTurned w1 b ∧
      (Instr.entryStore t (.map (some b)) (.int .i64 st) v).run P w1 = .ok () w2 ∧ w.mapTurned w2 b ∧ MapIs P K w2 b (n + 1) (upd f k v) := by
  obtain ⟨w3, hrun, hm, ht3⟩ := h.store hk ht hn k hl v
  obtain ⟨D, ⟨es, clock, hb, F, _⟩, _⟩ := h
  obtain ⟨v0, st, es1, c1, r1, _, r2⟩ := Go.WideElems.entry_then_store (WideMaps.string_law hk) ht hz hb F (key_str hk k hl)
  have hb1 : (ChangeMaps.setBlock w b (.map es1 c1)).heap[b]? = some (.map es1 c1) := ChangeMaps.heap_setBlock_same hb _
  obtain ⟨es', c', r3, r4⟩ := r2 (ChangeMaps.setBlock w b (.map es1 c1)) v hb1
  have e3 : w3 = ChangeMaps.setBlock w b (.map es' c') := by
    have := hrun.symm.trans r4
    injection this
  refine ⟨v0, st, ChangeMaps.setBlock w b (.map es1 c1), w3, r1, ⟨es, clock, es1, c1, hb, rfl⟩, ?_, ht3, hm⟩
  rw [e3]
  have : ChangeMaps.setBlock (ChangeMaps.setBlock w b (.map es1 c1)) b (.map es' c') = ChangeMaps.setBlock w b (.map es' c') := by simp [ChangeMaps.setBlock]
  rw [this] at r3
  exact r3
end
end Go.Proofs.YthbbmpelldglmaaGreatDoor
/- What has changed: a list of blocks, and new ones. No program in it. -/
namespace Go.Proofs.YthbbmpelldglmaaGreatDoor
set_option linter.unusedVariables false
set_option linter.unusedSimpArgs false
open Go.RowKit Go.Maps

/-- nothing that was there has changed but the blocks F -/
structure Chg (F : List Nat) (w w' : World) : Prop where
  os : w'.os = w.os
  tape : w'.tape = w.tape
  output : w'.output = w.output
  size : w.heap.size ≤ w'.heap.size
  block : ∀ k, k < w.heap.size → k ∉ F → w'.heap[k]? = w.heap[k]?
/-- F' holds blocks of F and new ones -/
def NewIn (w : World) (F F' : List Nat) : Prop := ∀ i ∈ F', i ∈ F ∨ w.heap.size ≤ i

section
variable {F F1 F2 : List Nat} {w w1 w2 : World}
theorem Chg.refl (F : List Nat) (w : World) : Chg F w w := ⟨rfl, rfl, rfl, Nat.le_refl _, fun _ _ _ => rfl⟩
theorem NewIn.refl (w : World) (F : List Nat) : NewIn w F F := fun i h => .inl h
theorem Chg.trans (h : Chg F w w1) (h1 : Chg F1 w1 w2) (hn : NewIn w F F1) : Chg F w w2 :=
  ⟨h1.os.trans h.os, h1.tape.trans h.tape, h1.output.trans h.output, Nat.le_trans h.size h1.size, fun k hk hf =>
    (h1.block k (Nat.lt_of_lt_of_le hk h.size) (fun h2 => (hn k h2).elim hf (fun h3 => by omega))).trans (h.block k hk hf)⟩
theorem Chg.then_ (h : Chg F w w1) (h1 : Chg F w1 w2) : Chg F w w2 := h.trans h1 (NewIn.refl _ _)
theorem NewIn.trans (h : NewIn w F F1) (h1 : NewIn w1 F1 F2) (hs : w.heap.size ≤ w1.heap.size) : NewIn w F F2 := fun i hi => by
  rcases h1 i hi with h2 | h2
  · exact h i h2
  · exact .inr (Nat.le_trans hs h2)
theorem Chg.of_below (F : List Nat) (h : Below w.heap.size w w1) : Chg F w w1 := ⟨h.os, h.tape, h.output, h.size, fun k hk _ => h.block k hk⟩
theorem Chg.below (h : Chg F w w1) {B : Nat} (hB : ∀ i ∈ F, B ≤ i) (hs : B ≤ w.heap.size) : Below B w w1 :=
  ⟨h.os, h.tape, h.output, h.size, fun k hk => h.block k (Nat.lt_of_lt_of_le hk hs) (fun h2 => by have := hB k h2; omega)⟩
theorem Chg.none (h : Chg [] w w1) : Below w.heap.size w w1 := h.below (by simp) (Nat.le_refl _)
theorem Chg.of_grown {row : Option Nat} (h : w.grownBy w1 row) (hr : ∀ k, row = some k → k ∈ F) : Chg F w w1 :=
  ⟨h.os, h.tape, h.output, h.size, fun k hk hf => h.block k hk (fun e => hf (hr k e.symm))⟩
theorem Chg.of_turned {b : Nat} (h : w.mapTurned w1 b) (hb : b ∈ F) : Chg F w w1 := Chg.of_grown h.grown (fun k e => by cases e; exact hb)
theorem Chg.mono (h : Chg F w w1) (hs : ∀ i ∈ F, i ∈ F1) : Chg F1 w w1 := ⟨h.os, h.tape, h.output, h.size, fun k hk hf => h.block k hk (fun h2 => hf (hs k h2))⟩
theorem Chg.alloc (h : Chg F w w1) (o : Obj) : Chg F w (w1.alloc o) := h.then_ (Chg.of_below F ((Below.refl _ _).alloc (Nat.le_refl _) o))
theorem Chg.drew (h : Chg F w w1) : Chg F w w1.drew := h.then_ (Chg.of_below F (Below.refl _ _).drew)
theorem Chg.drewN (h : Chg F w w1) (n : Nat) : Chg F w (w1.drewN n) := h.then_ (Chg.of_below F (below_drewN (Below.refl _ _) n))
theorem Chg.setCell (h : Chg F w w1) {p : Addr} (hp : p.block ∈ F) (v : Value) : Chg F w (w1.setCell p v) :=
  h.then_ ⟨rfl, rfl, rfl, by simp [World.setCell], fun k hk hf => Below.heap_setCell _ _ _ _ (fun e => hf (by rw [e]; exact hp))⟩
theorem Chg.cell (h : Chg F w w1) {p : Addr} {v : Value} (hv : w.cell? p = some v) (hp : p.block ∉ F) : w1.cell? p = some v := by
  have hlt : p.block < w.heap.size := block_lt_of_cell hv
  have := h.block _ hlt hp
  unfold World.cell? at hv ⊢
  rw [this]; exact hv
theorem Chg.heap (h : Chg F w w1) {k : Nat} {o : Obj} (ho : w.heap[k]? = some o) (hf : k ∉ F) : w1.heap[k]? = some o :=
  (h.block k (Array.getElem?_eq_some_iff.1 ho).1 hf).trans ho
theorem Rd.chg {A : Option Addr} {xs : List Value} (hr : Rd w A xs) (h : Chg F w w1) (hA : ∀ ad, A = some ad → ad.block ∉ F) : Rd w1 A xs := fun k v hv => by
  obtain ⟨ad, e, hc⟩ := hr k v hv
  exact ⟨ad, e, h.cell hc (by rw [add_block]; exact hA ad e)⟩
theorem RdB.chg {A : Option Addr} {l : List UInt8} (hr : RdB w A l) (h : Chg F w w1) (hA : ∀ ad, A = some ad → ad.block ∉ F) : RdB w1 A l := Rd.chg hr h hA
theorem Row.chg {B : Nat} {E : TypeId} {sz n c : Nat} {A : Option Addr} {xs : List Value} (hr : Row w B E sz A n c xs) (h : Chg F w w1) (hA : ∀ k, A.map (·.block) = some k → k ∉ F) : Row w1 B E sz A n c xs := by
  refine ⟨hr.1, ?_⟩
  rcases hr.2 with h0 | ⟨g, cur, e, hb, hg, hr3⟩
  · exact .inl h0
  · exact .inr ⟨g, cur, e, hb, h.heap hg (hA g (by rw [e]; rfl)), hr3⟩
theorem MapIs.chg {P : Program} {K : TypeId} {b n : Nat} {f : List UInt8 → Option Value} (hm : MapIs P K w b n f) (h : Chg F w w1) (hb : b ∉ F) : MapIs P K w1 b n f :=
  hm.of_block (h.block b hm.lt hb)
end

/-- the block of a slice -/
def blk (A : Option Addr) : List Nat := (A.map (·.block)).toList
theorem mem_blk {A : Option Addr} {i : Nat} : i ∈ blk A ↔ A.map (·.block) = some i := by unfold blk; cases A <;> simp [eq_comm]
theorem Chg.of_row {w w1 : World} {A : Option Addr} (h : w.grownBy w1 (A.map (·.block))) : Chg (blk A) w w1 := Chg.of_grown h (fun k e => mem_blk.2 e)
theorem NewIn.row {w : World} {A A1 : Option Addr} (h : A1 = A ∨ A1 = some ⟨w.heap.size, 0, none⟩) : NewIn w (blk A) (blk A1) := fun i hi => by
  rcases h with rfl | rfl
  · exact .inl hi
  · rw [mem_blk] at hi; simp at hi; exact .inr (by omega)
theorem NewIn.alloc {w : World} {F F1 : List Nat} {o : Obj} (h : NewIn (w.alloc o) F F1) : NewIn w F F1 := fun i hi => (h i hi).imp id (fun h2 => by simp at h2; omega)
theorem NewIn.later {w w1 : World} {F F1 : List Nat} (h : NewIn w1 F F1) (hs : w.heap.size ≤ w1.heap.size) : NewIn w F F1 := fun i hi => (h i hi).imp id (fun h2 => Nat.le_trans hs h2)
theorem Row.blk_lt {w : World} {B : Nat} {E : TypeId} {sz n c : Nat} {A : Option Addr} {xs : List Value} (h : Row w B E sz A n c xs) : ∀ i ∈ blk A, B ≤ i ∧ i < w.heap.size := fun i hi => Row.lt h i (mem_blk.1 hi)
theorem RowB.alloc {w : World} {B c : Nat} {A : Option Addr} {l : List UInt8} (h : RowB w B A c l) (o : Obj) : RowB (w.alloc o) B A c l := Row.alloc h o
theorem RowB.drew {w : World} {B c : Nat} {A : Option Addr} {l : List UInt8} (h : RowB w B A c l) : RowB w.drew B A c l := h
/-- a literal of one octet, apart from a row -/
structure Lit1 (w : World) (A : Option Addr) (g : Nat) (x : UInt8) : Prop where
  rd : RdB w (some ⟨g, 0, none⟩) [x]
  apart : g ∉ blk A
  lt : g < w.heap.size
theorem Lit1.step {w w1 : World} {A A1 : Option Addr} {g : Nat} {x : UInt8} (h : Lit1 w A g x) (hc : Chg (blk A) w w1) (hn : NewIn w (blk A) (blk A1)) : Lit1 w1 A1 g x :=
  ⟨h.rd.chg hc (fun ad e => by cases e; exact h.apart), fun hi => (hn g hi).elim h.apart (fun h2 => by have := h.lt; omega), Nat.lt_of_lt_of_le h.lt hc.size⟩
theorem Lit1.new {w : World} {B c : Nat} {A : Option Addr} {L : List UInt8} (h : RowB w B A c L) (x : UInt8) : Lit1 (w.alloc (.cells ([x].map byteV).toArray 5)) A w.heap.size x :=
  ⟨rd_lit w [x], fun hi => by have := (Row.blk_lt h _ hi).2; omega, by simp⟩
theorem lt_of_held {w W : World} {o : Obj} (h : Below w.heap.size w W ∧ W.heap[w.heap.size]? = some o) : w.heap.size + 1 ≤ W.heap.size := (Array.getElem?_eq_some_iff.1 h.2).1
theorem Lit1.newD (w : World) (g : Nat) (hg : g = w.heap.size) (x : UInt8) : Lit1 (w.alloc (.cells ([x].map byteV).toArray 5)).drew none g x := by
  subst hg
  exact ⟨(rd_lit w [x]).drew, by simp [blk], by simp⟩
/-- what is kept while a row of the call's own is written: all that was there, and the first new block -/
theorem keepS {F : List Nat} {w W W' : World} {o : Obj} (hc : Chg F W W') (h : Below w.heap.size w W ∧ W.heap[w.heap.size]? = some o) (hf : ∀ i ∈ F, w.heap.size + 1 ≤ i) : Below w.heap.size w W' ∧ W'.heap[w.heap.size]? = some o :=
  ⟨h.1.trans (hc.below (fun i hi => by have := hf i hi; omega) h.1.size), hc.heap h.2 (fun hi => by have := hf _ hi; omega)⟩
theorem keepA {w W : World} {o o' : Obj} (h : Below w.heap.size w W ∧ W.heap[w.heap.size]? = some o) : Below w.heap.size w (W.alloc o') ∧ (W.alloc o').heap[w.heap.size]? = some o :=
  ⟨h.1.alloc h.1.size _, (Below.heap_alloc _ _ _ (Array.getElem?_eq_some_iff.1 h.2).1).trans h.2⟩
end Go.Proofs.YthbbmpelldglmaaGreatDoor
/- Package subscribers: texts, pairs and longs appended. -/
namespace Go.Proofs.YthbbmpelldglmaaGreatDoor
set_option linter.unusedVariables false
set_option linter.unusedSimpArgs false
open Go.RowKit

/-- append(s, str...) -/
theorem append_str {w : World} {ops : Array Oper} {rest : List Oper} {o : Oper} {a : Act} {Q : Exit → Act → World → Prop} (hgd : o.guard = none) (s x : Operand)
    (ho : o.op = .call { callee := .builtin .append, args := #[s, x], argTypes := #[39, 9] })
    (B : Nat) (A : Option Addr) (n c : Nat) (la : List UInt8) (hs : a.eval s = .slice A n c) (hn : n = la.length) (hrow : RowB w B A c la)
    (lb : List UInt8) (hx : a.eval x = encStr lb)
    (L : List UInt8) (hL : L = la ++ lb) (hlen : L.length ≤ 140737488351232) (w0 : World) (hb : Below B w0 w) (hB : B ≤ w.heap.size)
    (h : ∀ A' c' w', RowB w' B A' c' L → w.grownBy w' (A.map (·.block)) → Below B w0 w' → B ≤ w'.heap.size → (A' = A ∨ A' = some ⟨w.heap.size, 0, none⟩) → wpList Tryz.prog ops Q rest (a.put o.dst (.slice A' L.length c')) w') :
    wpList Tryz.prog ops Q (o :: rest) a w := by
  subst hn hL
  have e1 : (⟨lb.toArray⟩ : ByteArray).size = lb.length := by simp [ByteArray.size]
  rw [List.length_append] at hlen
  refine wpList_append_str hgd s x 39 9 ho B 5 _ 1 Tryz.underlying39 Tryz.underlying9 infoByte rfl A la.length c _ hs hrow ⟨lb.toArray⟩ hx (by simp only [maxLen]; omega) (by omega) hB ?_
  intro A' c' w' h1 h2 h3
  rw [e1] at h1 ⊢
  have h4 : RowB w' B A' c' (la ++ lb) := RowB.of (by simpa using h1)
  have := h A' c' w' h4 h2 (hb.grown h2 hB (fun k hk => (Row.lt hrow k hk).1)) (Nat.le_trans hB h2.size) h3
  rwa [List.length_append] at this

def textB (s : List UInt8) : List UInt8 := UInt8.ofNat s.length :: s
def pairB (n : Nat) : List UInt8 := [UInt8.ofNat n, UInt8.ofNat (n / 256)]
def longB (n : Nat) : List UInt8 := pairB (n % 65536) ++ pairB (n / 65536)
theorem ofNat_val (n : Nat) : ((UInt8.ofNat n).toNat : Int) = ((n % 256 : Nat) : Int) := by simp [UInt8.toNat_ofNat']

set_option maxHeartbeats 1000000 in
theorem text_any (B : Nat) (A : Option Addr) (l : List UInt8) (c : Nat) (s : List UInt8) (w : World) (h : RowB w B A c l) (hB : B ≤ w.heap.size) (hl : l.length ≤ 1000000) (hs : s.length ≤ 1000000) :
    Calls Tryz.prog 61 #[.slice A l.length c, encStr s] w fun e w' => ∃ A' c', e = .returned (.slice A' (l ++ textB s).length c') ∧ RowB w' B A' c' (l ++ textB s) ∧ Chg (blk A) w w' ∧ NewIn w (blk A) (blk A') := by
  obtain ⟨L1, hL1⟩ : ∃ L1, L1 = l ++ [UInt8.ofNat s.length] := ⟨_, rfl⟩
  obtain ⟨L2, hL2⟩ : ∃ L2, L2 = L1 ++ s := ⟨_, rfl⟩
  have e2 : l ++ textB s = L2 := by rw [hL2, hL1]; simp [textB]
  have n1 : L1.length ≤ 1000001 := by rw [hL1]; simp; omega
  have n2 : L2.length ≤ 2000001 := by rw [hL2, List.length_append]; omega
  rw [e2]
  have q1 : IntKind.u8.wrap (s.length : Int) = ((UInt8.ofNat s.length).toNat : Int) := by rw [u8_mod, ofNat_val]
  have H1 := Lib.hid hL1
  have H2 := Lib.hid hL2
  generalize UInt8.ofNat s.length = x at *
  clear hL1 hL2 e2
  go_enter Tryz.func61, Tryz.ntmps61
  go_wp2_with (first
    | ((with_reducible refine at_dst 10 rfl ?_)
       refine append_bytes2 rfl (.tmp 5) (.tmp 9) rfl B A l.length c l rfl rfl (Row.alloc h _) (some ⟨w.heap.size, 0, none⟩) 1 1 [x] rfl rfl (rd_lit w [x]) L1 H1.out (by omega) w ((Below.refl _ _).alloc hB _) (by simp; omega) ?_
       intro A1 c1 w1 h1 hg1 hB1 hsz1 hA1)
    | ((with_reducible refine at_dst 12 rfl ?_)
       refine append_str rfl (.tmp 10) (.tmp 11) rfl B A1 L1.length c1 L1 rfl rfl h1 s rfl L2 H2.out (by omega) w hB1 hsz1 ?_
       intro A2 c2 w2 h2 hg2 hB2 hsz2 hA2)
    | fail)
  go_ret
  have k1 := (Chg.of_below (blk A) ((Below.refl w.heap.size w).alloc (Nat.le_refl _) (.cells #[.int .u8 (x.toNat : Int)] 5))).then_ (Chg.of_row hg1)
  have k2 := (NewIn.row hA1).alloc
  exact ⟨A2, c2, rfl, h2, k1.trans (Chg.of_row hg2) k2, k2.trans (NewIn.row hA2) k1.size⟩

set_option maxHeartbeats 1000000 in
theorem pair_any (B : Nat) (A : Option Addr) (l : List UInt8) (c : Nat) (n : Nat) (w : World) (h : RowB w B A c l) (hB : B ≤ w.heap.size) (hl : l.length ≤ 1000000) (hn : n < 65536) :
    Calls Tryz.prog 64 #[.slice A l.length c, .int .u16 n] w fun e w' => ∃ A' c', e = .returned (.slice A' (l ++ pairB n).length c') ∧ RowB w' B A' c' (l ++ pairB n) ∧ Chg (blk A) w w' ∧ NewIn w (blk A) (blk A') := by
  obtain ⟨L1, hL1⟩ : ∃ L1, L1 = l ++ pairB n := ⟨_, rfl⟩
  have n1 : L1.length ≤ 1000002 := by rw [hL1]; simp [pairB]; omega
  rw [← hL1]
  unfold pairB at hL1
  have q1 : IntKind.u8.wrap (n : Int) = ((UInt8.ofNat n).toNat : Int) := by rw [u8_mod, ofNat_val]
  have q2 : IntKind.u8.wrap ((n : Int) / 2 ^ 8) = ((UInt8.ofNat (n / 256)).toNat : Int) := by rw [ofNat_val, IntKind.wrap_u8]; omega
  have q3 : IntKind.u8.wrap ((n : Int) / 256) = ((UInt8.ofNat (n / 256)).toNat : Int) := by rw [ofNat_val, IntKind.wrap_u8]; omega
  have H1 := Lib.hid hL1
  generalize UInt8.ofNat n = x at *
  generalize UInt8.ofNat (n / 256) = y at *
  clear hL1
  go_enter Tryz.func64, Tryz.ntmps64
  go_wp2_with (first
    | ((with_reducible refine at_dst 12 rfl ?_)
       refine append_bytes2 rfl (.tmp 5) (.tmp 11) rfl B A l.length c l rfl rfl (Row.alloc h _) (some ⟨w.heap.size, 0, none⟩) 2 2 [x, y] rfl rfl (rd_lit w [x, y]) L1 H1.out (by omega) w ((Below.refl _ _).alloc hB _) (by simp; omega) ?_
       intro A1 c1 w1 h1 hg1 hB1 hsz1 hA1)
    | fail)
  go_ret
  have k1 := (Chg.of_below (blk A) ((Below.refl w.heap.size w).alloc (Nat.le_refl _) (.cells #[.int .u8 (x.toNat : Int), .int .u8 (y.toNat : Int)] 5))).then_ (Chg.of_row hg1)
  exact ⟨A1, c1, rfl, h1, k1, (NewIn.row hA1).alloc⟩

set_option maxHeartbeats 1000000 in
theorem long_any (B : Nat) (A : Option Addr) (l : List UInt8) (c : Nat) (n : Nat) (w : World) (h : RowB w B A c l) (hB : B ≤ w.heap.size) (hl : l.length ≤ 900000) (hn : n < 4294967296) :
    Calls Tryz.prog 66 #[.slice A l.length c, .int .u32 n] w fun e w' => ∃ A' c', e = .returned (.slice A' (l ++ longB n).length c') ∧ RowB w' B A' c' (l ++ longB n) ∧ Chg (blk A) w w' ∧ NewIn w (blk A) (blk A') := by
  obtain ⟨L1, hL1⟩ : ∃ L1, L1 = l ++ pairB (n % 65536) := ⟨_, rfl⟩
  have n1 : L1.length ≤ 900002 := by rw [hL1]; simp [pairB]; omega
  have e2 : l ++ longB n = L1 ++ pairB (n / 65536) := by rw [hL1]; simp [longB]
  rw [e2]
  have q1 : IntKind.u16.wrap (n : Int) = ((n % 65536 : Nat) : Int) := by rw [wrap_u16]; omega
  have q2 : IntKind.u16.wrap ((n : Int) / 2 ^ 16) = ((n / 65536 : Nat) : Int) := by rw [wrap_u16]; omega
  have q3 : IntKind.u16.wrap ((n : Int) / 65536) = ((n / 65536 : Nat) : Int) := by rw [wrap_u16]; omega
  have hp1 := fun w h => pair_any B A l c (n % 65536) w h
  have hp2 := fun A c w h => pair_any B A L1 c (n / 65536) w h
  rw [← hL1] at hp1
  have HP1 := Lib.hid hp1
  have HP2 := Lib.hid hp2
  have z1 : n % 65536 < 65536 := by omega
  have z2 : n / 65536 < 65536 := by omega
  clear hL1 e2 hp1 hp2
  generalize n % 65536 = x at *
  generalize n / 65536 = y at *
  go_enter Tryz.func66, Tryz.ntmps66
  go_wp2_with (first
    | (go_at_call 64; (with_reducible refine (HP1.out _ h hB (by omega) z1).mono ?_); rintro e w1 ⟨A1, c1, rfl, h1, hB1, hN1⟩)
    | (go_at_call 64; (with_reducible refine (HP2.out A1 c1 _ h1 (Nat.le_trans hB hB1.size) (by omega) z2).mono ?_); rintro e w2 ⟨A2, c2, rfl, h2, hB2, hN2⟩)
    | fail)
  go_ret
  exact ⟨A2, c2, by rw [List.length_append]; rfl, h2, hB1.trans hB2 hN1, hN1.trans hN2 hB1.size⟩
end Go.Proofs.YthbbmpelldglmaaGreatDoor
/- Package subscribers: the records as plain data, and their bytes. No program in it. -/
namespace Go.Proofs.YthbbmpelldglmaaGreatDoor
set_option linter.unusedVariables false
set_option linter.unusedSimpArgs false
open Go.RowKit

/-- a Home record -/
structure HomeR where
  id : List UInt8
  number : List UInt8
  at_ : Nat
  move : Nat
  barred : Bool
  waiting : Bool
/-- a Visit record -/
structure VisitR where
  id : List UInt8
  number : List UInt8
  home : Nat
  move : Nat
  area : Nat
  roam : List UInt8
def HomeR.cells (h : HomeR) : Array Value := #[encStr h.id, encStr h.number, .int .u16 h.at_, .int .u32 h.move, .bool h.barred, .bool h.waiting]
def HomeR.val (h : HomeR) : Value := .agg h.cells
def VisitR.cells (v : VisitR) : Array Value := #[encStr v.id, encStr v.number, .int .u16 v.home, .int .u32 v.move, .int .u16 v.area, encStr v.roam]
def VisitR.val (v : VisitR) : Value := .agg v.cells
/-- what a Go value may be -/
structure HomeR.Go (h : HomeR) : Prop where
  at_ : h.at_ < 65536
  move : h.move < 4294967296
structure VisitR.Go (v : VisitR) : Prop where
  home : v.home < 65536
  move : v.move < 4294967296
  area : v.area < 65536

def isDig (l : List UInt8) : Bool := l.all fun b => decide (48 ≤ b.toNat ∧ b.toNat ≤ 57)
/-- digits, 1 to 15 -/
def isNum (l : List UInt8) : Bool := decide (1 ≤ l.length ∧ l.length ≤ 15) && isDig l
def HomeR.ok (h : HomeR) : Bool := isNum h.id && isNum h.number && decide (h.at_ ≤ 16383)
def VisitR.ok (v : VisitR) : Bool := isNum v.id && isNum v.number && decide (1 ≤ v.home ∧ v.home ≤ 16383) && (v.roam.isEmpty || isNum v.roam)
def flagsB (a b : Bool) : UInt8 := (if a then 1 else 0) + (if b then 2 else 0)
def HomeR.fields (h : HomeR) : List UInt8 := textB h.id ++ textB h.number ++ pairB h.at_ ++ longB h.move ++ [flagsB h.barred h.waiting]
def VisitR.fields (v : VisitR) : List UInt8 := textB v.id ++ textB v.number ++ pairB v.home ++ longB v.move ++ pairB v.area ++ textB v.roam
/-- an entry of the log -/
def bodyB (kind : UInt8) (fields : List UInt8) : List UInt8 := pairB (1 + fields.length) ++ [kind] ++ fields
def entryB (kind : UInt8) (fields : List UInt8) : List UInt8 := bodyB kind fields ++ fcs (bodyB kind fields)

theorem isNum_len {l : List UInt8} (h : isNum l = true) : 1 ≤ l.length ∧ l.length ≤ 15 := by
  simp only [isNum, Bool.and_eq_true, decide_eq_true_eq] at h; exact h.1
theorem HomeR.ok_len {h : HomeR} (e : h.ok = true) : (1 ≤ h.id.length ∧ h.id.length ≤ 15) ∧ (1 ≤ h.number.length ∧ h.number.length ≤ 15) ∧ h.at_ ≤ 16383 := by
  simp only [HomeR.ok, Bool.and_eq_true, decide_eq_true_eq] at e
  exact ⟨isNum_len e.1.1, isNum_len e.1.2, e.2⟩
theorem VisitR.ok_len {v : VisitR} (e : v.ok = true) : (1 ≤ v.id.length ∧ v.id.length ≤ 15) ∧ (1 ≤ v.number.length ∧ v.number.length ≤ 15) ∧ v.roam.length ≤ 15 ∧ v.home ≤ 16383 := by
  simp only [VisitR.ok, Bool.and_eq_true, Bool.or_eq_true, decide_eq_true_eq] at e
  refine ⟨isNum_len e.1.1.1, isNum_len e.1.1.2, ?_, e.1.2.2⟩
  rcases e.2 with h | h
  · rw [List.isEmpty_iff] at h; rw [h]; simp
  · exact (isNum_len h).2
theorem textB_len (s : List UInt8) : (textB s).length = s.length + 1 := by simp [textB]
theorem pairB_len (n : Nat) : (pairB n).length = 2 := rfl
theorem longB_len (n : Nat) : (longB n).length = 4 := rfl
theorem HomeR.fields_len {h : HomeR} (e : h.ok = true) : h.fields.length ≤ 39 := by
  have := HomeR.ok_len e
  simp only [HomeR.fields, List.length_append, textB_len, pairB_len, longB_len, List.length_cons, List.length_nil]; omega
theorem VisitR.fields_len {v : VisitR} (e : v.ok = true) : v.fields.length ≤ 56 := by
  have := VisitR.ok_len e
  simp only [VisitR.fields, List.length_append, textB_len, pairB_len, longB_len, List.length_cons, List.length_nil]; omega
end Go.Proofs.YthbbmpelldglmaaGreatDoor
