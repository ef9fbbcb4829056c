/- The division of polynomials bit by bit, and the register: no program. -/
import Derived.Test.YthbbmpelldglmaaDoorCrc
namespace Go.Proofs.YthbbmpelldglmaaDoor
set_option linter.unusedVariables false
set_option linter.unusedSimpArgs false

/-- a bit as an octet -/
def b2u (b : Bool) : UInt8 := if b then 1 else 0
theorem b2u_xor (a b : Bool) : (b2u a + b2u b) % 2 = b2u (a ^^ b) := by cases a <;> cases b <;> decide
theorem b2u_nat (b : Bool) : (b2u b).toNat = b.toNat := by cases b <;> rfl
theorem b2u_one (b : Bool) : b2u b = 1 ↔ b = true := by cases b <;> simp [b2u]
theorem testBit_nat (v k : Nat) : v / 2 ^ k % 2 = (v.testBit k).toNat := by
  rw [Nat.testBit_eq_decide_div_mod_eq]
  rcases Nat.mod_two_eq_zero_or_one (v / 2 ^ k) with h | h <;> simp [h]

/-- the bits of an octet, of octets -/
def sbB (b : UInt8) : List Bool := (List.range 8).map fun k => b.toNat.testBit k
def sb (l : List UInt8) : List Bool := l.flatMap sbB
theorem sbB_len (b : UInt8) : (sbB b).length = 8 := by simp [sbB]
theorem sb_len (l : List UInt8) : (sb l).length = 8 * l.length := by
  induction l with
  | nil => rfl
  | cons b l ih => simp only [sb, List.flatMap_cons, List.length_append, sbB_len, List.length_cons] at *; omega
theorem sb_snoc (l : List UInt8) (k : Nat) (h : k < l.length) : sb (l.take (k + 1)) = sb (l.take k) ++ sbB l[k] := by
  unfold sb; rw [List.take_succ_eq_append_getElem h, List.flatMap_append]; simp
theorem sbB_snoc (b : UInt8) (j : Nat) (h : j < 8) : (sbB b).take (j + 1) = (sbB b).take j ++ [b.toNat.testBit j] := by
  rw [List.take_succ_eq_append_getElem (by rw [sbB_len]; exact h)]
  congr 1
  simp [sbB]

/-- the register behind a bit -/
def bitStep (r : Nat) (b : Bool) : Nat := crcZ (r ^^^ b.toNat)
def crcBits (r : Nat) (S : List Bool) : Nat := S.foldl bitStep r
theorem bool_lt (b : Bool) : b.toNat < 2 := by cases b <;> decide
theorem bitStep_lt (r : Nat) (b : Bool) (h : r < 65536) : bitStep r b < 65536 :=
  crcZ_lt _ (Nat.xor_lt_two_pow (n := 16) h (by have := bool_lt b; omega))
theorem crcBits_lt (r : Nat) (S : List Bool) (h : r < 65536) : crcBits r S < 65536 := by
  induction S generalizing r with
  | nil => exact h
  | cons b l ih => exact ih _ (bitStep_lt r b h)
theorem crcBits_snoc (r : Nat) (S : List Bool) (k : Nat) (h : k < S.length) : crcBits r (S.take (k + 1)) = bitStep (crcBits r (S.take k)) S[k] := by
  unfold crcBits; rw [List.take_succ_eq_append_getElem h, List.foldl_append]; rfl
theorem range_succ' (n : Nat) (f : Nat → Bool) : (List.range (n + 1)).map f = f 0 :: (List.range n).map (fun k => f (k + 1)) := by
  rw [List.range_succ_eq_map]; simp [Function.comp_def]
theorem crcBits_low (n r m : Nat) (h : m < 2 ^ n) : crcBits r ((List.range n).map fun k => m.testBit k) = crcI n (r ^^^ m) := by
  induction n generalizing r m with
  | zero =>
    obtain rfl : m = 0 := by simpa using h
    simp [crcBits, crcI]
  | succ n ih =>
    rw [range_succ']
    have e : (fun k => m.testBit (k + 1)) = fun k => (m / 2).testBit k := by funext k; rw [Nat.testBit_succ]
    rw [e]
    show crcBits (bitStep r (m.testBit 0)) _ = _
    rw [ih _ _ (by rw [Nat.pow_succ] at h; omega), crcI_succ']
    congr 1
    have hm : m = (m.testBit 0).toNat ^^^ (2 * (m / 2)) := by
      apply Nat.eq_of_testBit_eq
      intro i
      rw [Nat.testBit_xor]
      cases i with
      | zero => cases hb : m.testBit 0 <;> simp
      | succ i =>
        rw [Nat.testBit_succ, Nat.testBit_succ, Nat.testBit_succ]
        have h1 : (m.testBit 0).toNat / 2 = 0 := by have := bool_lt (m.testBit 0); omega
        have h2 : 2 * (m / 2) / 2 = m / 2 := by omega
        rw [h1, h2, Nat.zero_testBit, Bool.false_xor]
    conv => rhs; rw [hm]
    rw [← Nat.xor_assoc, crcZ_xor, crcZ_even]
    rfl
theorem crcB_bits (r : Nat) (b : UInt8) : crcBits r (sbB b) = crcB r b := crcBits_low 8 r b.toNat (by have := b.toNat_lt; omega)
theorem crc_bits (r : Nat) (l : List UInt8) : crcBits r (sb l) = crc r l := by
  induction l generalizing r with
  | nil => rfl
  | cons b l ih =>
    show crcBits r (sbB b ++ sb l) = _
    unfold crcBits at *
    rw [List.foldl_append]
    have := crcB_bits r b
    unfold crcBits at this
    rw [this, ih]; rfl

/-- the coefficients behind i steps of the division, if the register is R then -/
def stB (S : Nat → Bool) (i R j : Nat) : Bool := !decide (j < i) && (S j ^^ R.testBit (j - i))
def stL (S : Nat → Bool) (N i R : Nat) : List Bool := (List.range N).map (stB S i R)
theorem stL_len (S : Nat → Bool) (N i R : Nat) : (stL S N i R).length = N := by simp [stL]
theorem stL_get (S : Nat → Bool) (N i R j : Nat) (h : j < N) : (stL S N i R)[j]? = some (stB S i R j) := by simp [stL, h]
/-- between: the first i + k places are those of the next step -/
def midB (S : Nat → Bool) (i R k j : Nat) : Bool := if j < i + k then stB S (i + 1) (bitStep R (S i)) j else stB S i R j
def midL (S : Nat → Bool) (N i R k : Nat) : List Bool := (List.range N).map (midB S i R k)
theorem midL_len (S : Nat → Bool) (N i R k : Nat) : (midL S N i R k).length = N := by simp [midL]
theorem midL_get (S : Nat → Bool) (N i R k j : Nat) (h : j < N) : (midL S N i R k)[j]? = some (midB S i R k j) := by simp [midL, h]
theorem midL_zero (S : Nat → Bool) (N i R : Nat) (h : (S i ^^ R.testBit 0) = true) : midL S N i R 0 = stL S N i R := by
  apply List.map_congr_left
  intro j _
  unfold midB
  by_cases hj : j < i + 0
  · rw [if_pos hj]; have h1 : j < i := hj; simp [stB, h1, Nat.lt_succ_of_lt h1]
  · rw [if_neg hj]

theorem bitStep_div (R : Nat) (b : Bool) : bitStep R b = (R / 2) ^^^ ((b ^^ R.testBit 0).toNat * 33800) := by
  unfold bitStep
  rw [crcZ_eq, xor_half, xor_par]
  have h1 : b.toNat / 2 = 0 := by have := bool_lt b; omega
  rw [h1, Nat.xor_zero]
  congr 2
  rw [Nat.testBit_zero]
  rcases Nat.mod_two_eq_zero_or_one R with h | h <;> cases b <;> simp [h]
theorem testBit_big (R j : Nat) (h : R < 65536) (hj : 16 ≤ j) : R.testBit j = false :=
  Nat.testBit_lt_two_pow (Nat.lt_of_lt_of_le h (Nat.pow_le_pow_right (n := 2) (by decide) hj))

theorem stL_skip (S : Nat → Bool) (N i R : Nat) (h : (S i ^^ R.testBit 0) = false) : stL S N (i + 1) (bitStep R (S i)) = stL S N i R := by
  apply List.map_congr_left
  intro j _
  unfold stB
  rw [bitStep_div, h]
  rcases Nat.lt_trichotomy j i with h1 | h1 | h1
  · simp [h1]; omega
  · subst h1; simpa using h
  · have e1 : ¬ j < i + 1 := by omega
    have e2 : ¬ j < i := by omega
    simp only [e1, e2]
    obtain ⟨d, rfl⟩ : ∃ d, j = i + 1 + d := ⟨j - (i + 1), by omega⟩
    rw [show i + 1 + d - (i + 1) = d by omega, show i + 1 + d - i = d + 1 by omega, Nat.testBit_succ]
    simp

def polyB (j : Nat) : Bool := j == 0 || j == 5 || j == 12 || j == 16
theorem poly_test (k : Nat) (h : k < 17) (h0 : 0 < k) : (33800 : Nat).testBit (k - 1) = polyB (16 - k) := by
  have : ∀ k, k < 17 → 0 < k → (33800 : Nat).testBit (k - 1) = polyB (16 - k) := by decide
  exact this k h h0
theorem mid_step (S : Nat → Bool) (i R k : Nat) (hk : k < 17) (h : (S i ^^ R.testBit 0) = true) :
    (midB S i R k (i + k) ^^ polyB (16 - k)) = stB S (i + 1) (bitStep R (S i)) (i + k) := by
  unfold midB
  rw [if_neg (by omega)]
  unfold stB
  rw [bitStep_div, h]
  rcases Nat.eq_zero_or_pos k with rfl | h0
  · have h' : (S (i + 0) ^^ R.testBit (i + 0 - i)) = true := by rw [Nat.add_zero, Nat.sub_self]; exact h
    rw [h']; simp [polyB]
  · have e1 : ¬ i + k < i := by omega
    have e2 : ¬ i + k < i + 1 := by omega
    obtain ⟨d, rfl⟩ : ∃ d, k = d + 1 := ⟨k - 1, by omega⟩
    simp only [e1, e2]
    rw [show i + (d + 1) - i = d + 1 by omega, show i + (d + 1) - (i + 1) = d by omega, Nat.testBit_xor, Nat.testBit_succ]
    have := poly_test (d + 1) hk h0
    simp at this
    simp [this]
theorem midL_set (S : Nat → Bool) (N i R k : Nat) (hk : k < 17) (h : (S i ^^ R.testBit 0) = true) :
    (midL S N i R k).set (i + k) (midB S i R k (i + k) ^^ polyB (16 - k)) = midL S N i R (k + 1) := by
  rw [mid_step S i R k hk h]
  apply List.ext_getElem?
  intro j
  rw [List.getElem?_set, midL_len]
  by_cases hj : j < N
  · rw [midL_get _ _ _ _ _ _ hj, midL_get _ _ _ _ _ _ hj]
    by_cases he : i + k = j
    · subst he
      simp [hj, midB]
    · rw [if_neg he]
      unfold midB
      by_cases h1 : j < i + k
      · rw [if_pos h1, if_pos (by omega)]
      · rw [if_neg h1, if_neg (by omega)]
  · have l1 := midL_len S N i R k
    have l2 := midL_len S N i R (k + 1)
    rw [List.getElem?_eq_none (by omega), List.getElem?_eq_none (by omega)]
    split
    · rw [if_neg (by omega)]
    · rfl
theorem midL_end (S : Nat → Bool) (N i R : Nat) (hR : R < 65536) (h : (S i ^^ R.testBit 0) = true) : midL S N i R 17 = stL S N (i + 1) (bitStep R (S i)) := by
  apply List.map_congr_left
  intro j _
  unfold midB
  by_cases hj : j < i + 17
  · rw [if_pos hj]
  · rw [if_neg hj]
    unfold stB
    have e1 : ¬ j < i := by omega
    have e2 : ¬ j < i + 1 := by omega
    simp only [e1, e2]
    rw [testBit_big R (j - i) hR (by omega), testBit_big _ (j - (i + 1)) (bitStep_lt R (S i) hR) (by omega)]

/-- the first loop: the register is added to the first 16 places -/
def preB (S : Nat → Bool) (r k j : Nat) : Bool := S j ^^ (decide (j < k) && r.testBit j)
def preL (S : Nat → Bool) (N r k : Nat) : List Bool := (List.range N).map (preB S r k)
theorem preL_len (S : Nat → Bool) (N r k : Nat) : (preL S N r k).length = N := by simp [preL]
theorem preL_get (S : Nat → Bool) (N r k j : Nat) (h : j < N) : (preL S N r k)[j]? = some (preB S r k j) := by simp [preL, h]
theorem preL_set (S : Nat → Bool) (N r k : Nat) : (preL S N r k).set k (preB S r k k ^^ r.testBit k) = preL S N r (k + 1) := by
  apply List.ext_getElem?
  intro j
  rw [List.getElem?_set, preL_len]
  by_cases hj : j < N
  · rw [preL_get _ _ _ _ _ hj, preL_get _ _ _ _ _ hj]
    by_cases he : k = j
    · subst he
      simp [hj, preB]
    · rw [if_neg he]
      unfold preB
      by_cases h1 : j < k
      · simp [h1, show j < k + 1 by omega]
      · simp [h1, show ¬ j < k + 1 by omega]
  · have l1 := preL_len S N r k
    have l2 := preL_len S N r (k + 1)
    rw [List.getElem?_eq_none (by omega), List.getElem?_eq_none (by omega)]
    split
    · rw [if_neg (by omega)]
    · rfl
theorem preL_end (S : Nat → Bool) (N r : Nat) (hr : r < 65536) : preL S N r 16 = stL S N 0 r := by
  apply List.map_congr_left
  intro j _
  unfold preB stB
  by_cases hj : j < 16
  · simp [hj]
  · simp [hj, testBit_big r j hr (by omega)]

/-- the message, then zeros -/
def msg (B : List Bool) (j : Nat) : Bool := B.getD j false
theorem preL_zero (B : List Bool) (r : Nat) : preL (msg B) (B.length + 16) r 0 = B ++ List.replicate 16 false := by
  apply List.ext_getElem?
  intro j
  by_cases hj : j < B.length + 16
  · rw [preL_get _ _ _ _ _ hj]
    unfold preB msg
    by_cases h : j < B.length
    · rw [List.getElem?_append_left h]
      simp [List.getD, List.getElem?_eq_getElem h]
    · rw [List.getElem?_append_right (by omega)]
      rw [List.getElem?_replicate, if_pos (by omega)]
      simp [List.getD, List.getElem?_eq_none (Nat.le_of_not_lt h)]
  · rw [List.getElem?_eq_none (by rw [preL_len]; omega), List.getElem?_eq_none (by simp; omega)]

def valB (l : List Bool) : Nat := l.foldr (fun b v => b.toNat + 2 * v) 0
theorem valB_low (n R : Nat) : valB ((List.range n).map fun m => R.testBit m) = R % 2 ^ n := by
  induction n generalizing R with
  | zero => simp [valB, Nat.mod_one]
  | succ n ih =>
    rw [range_succ']
    have e : (fun k => R.testBit (k + 1)) = fun k => (R / 2).testBit k := by funext k; rw [Nat.testBit_succ]
    rw [e]
    show (R.testBit 0).toNat + 2 * valB _ = _
    rw [ih, Nat.pow_succ]
    have h1 : (R.testBit 0).toNat = R % 2 := by
      rw [Nat.testBit_zero]; rcases Nat.mod_two_eq_zero_or_one R with h | h <;> simp [h]
    rw [h1, Nat.mul_comm (2 ^ n) 2, Nat.mod_mul]
theorem stL_drop (B : List Bool) (R : Nat) : (stL (msg B) (B.length + 16) B.length R).drop B.length = (List.range 16).map fun m => R.testBit m := by
  apply List.ext_getElem?
  intro j
  rw [List.getElem?_drop]
  by_cases hj : j < 16
  · rw [stL_get _ _ _ _ _ (by omega)]
    unfold stB msg
    simp [List.getD, List.getElem?_eq_none (show B.length ≤ B.length + j by omega), hj]
  · rw [List.getElem?_eq_none (by rw [stL_len]; omega), List.getElem?_eq_none (by simp; omega)]
theorem valB_end (B : List Bool) (R : Nat) (h : R < 65536) : valB ((stL (msg B) (B.length + 16) B.length R).drop B.length) = R := by
  rw [stL_drop, valB_low]; omega

end Go.Proofs.YthbbmpelldglmaaDoor
