/- The register of the check sequence, in natural numbers: no program, no memory. -/
namespace Go.Proofs.YthbbmpelldglmaaDoor
set_option linter.unusedVariables false
set_option linter.unusedSimpArgs false

/-- the register behind a bit that is 0 -/
def crcZ (r : Nat) : Nat := if r &&& 1 = 1 then (r / 2) ^^^ 33800 else r / 2
def crcI : Nat → Nat → Nat
  | 0, r => r
  | j + 1, r => crcZ (crcI j r)
theorem crcZ_lt (r : Nat) (h : r < 65536) : crcZ r < 65536 := by
  unfold crcZ
  split
  · exact Nat.xor_lt_two_pow (n := 16) (by omega) (by omega)
  · omega
theorem crcI_lt (j r : Nat) (h : r < 65536) : crcI j r < 65536 := by
  induction j with
  | zero => exact h
  | succ j ih => exact crcZ_lt _ ih


theorem crcZ_eq (r : Nat) : crcZ r = (r / 2) ^^^ (r % 2 * 33800) := by
  unfold crcZ
  rw [Nat.and_one_is_mod]
  rcases Nat.mod_two_eq_zero_or_one r with h | h <;> simp [h]
theorem xor_half (a b : Nat) : (a ^^^ b) / 2 = (a / 2) ^^^ (b / 2) := by
  have := Nat.shiftRight_xor_distrib (a := a) (b := b) (i := 1)
  simpa [Nat.shiftRight_eq_div_pow] using this
theorem xor_par (a b : Nat) : (a ^^^ b) % 2 = (a % 2 + b % 2) % 2 := by
  have h := Nat.testBit_xor a b 0
  simp only [Nat.testBit_zero] at h
  rcases Nat.mod_two_eq_zero_or_one a with ha | ha <;> rcases Nat.mod_two_eq_zero_or_one b with hb | hb <;> rcases Nat.mod_two_eq_zero_or_one (a ^^^ b) with hc | hc <;> simp [ha, hb, hc] at h ⊢
theorem crcZ_xor (a b : Nat) : crcZ (a ^^^ b) = crcZ a ^^^ crcZ b := by
  rw [crcZ_eq, crcZ_eq, crcZ_eq, xor_half, xor_par]
  have e : ((a % 2 + b % 2) % 2) * 33800 = (a % 2 * 33800) ^^^ (b % 2 * 33800) := by
    rcases Nat.mod_two_eq_zero_or_one a with ha | ha <;> rcases Nat.mod_two_eq_zero_or_one b with hb | hb <;> simp [ha, hb]
  rw [e]
  ac_rfl
theorem crcI_xor (j a b : Nat) : crcI j (a ^^^ b) = crcI j a ^^^ crcI j b := by
  induction j with
  | zero => rfl
  | succ j ih => simp only [crcI, ih, crcZ_xor]
theorem crcZ_even (q : Nat) : crcZ (2 * q) = q := by
  rw [crcZ_eq]; simp
theorem crcI_add (i j r : Nat) : crcI (i + j) r = crcI i (crcI j r) := by
  induction i with
  | zero => simp [crcI]
  | succ i ih => rw [Nat.succ_add]; simp only [crcI, ih]
theorem crcI_succ' (j r : Nat) : crcI (j + 1) r = crcI j (crcZ r) := crcI_add j 1 r
theorem crcI_four (q : Nat) : crcI 4 (16 * q) = q := by
  rw [crcI_succ', crcI_succ', crcI_succ', crcI_succ', show 16 * q = 2 * (2 * (2 * (2 * q))) by omega]
  simp only [crcZ_even, crcI]
theorem split16 (r : Nat) : r = (16 * (r / 16)) ^^^ (r % 16) := by
  have := Nat.two_pow_add_eq_or_of_lt (i := 4) (b := r % 16) (by omega) (r / 16)
  have h2 : (2 ^ 4 * (r / 16)) ^^^ (r % 16) = 2 ^ 4 * (r / 16) ||| r % 16 := by
    apply Nat.eq_of_testBit_eq
    intro i
    simp only [Nat.testBit_xor, Nat.testBit_or, Nat.testBit_two_pow_mul]
    by_cases h : 4 ≤ i
    · have : (r % 16).testBit i = false := Nat.testBit_lt_two_pow (Nat.lt_of_lt_of_le (by omega) (Nat.pow_le_pow_right (by decide) h))
      simp [this]
    · simp [h]
  have : 16 * (r / 16) + r % 16 = r := by omega
  simp at *
  omega
theorem crc_nibble (r : Nat) : (r / 16) ^^^ crcI 4 (r % 16) = crcI 4 r := by
  conv => rhs; rw [split16 r, crcI_xor, crcI_four]

/-- the register behind an octet, and behind octets -/
def crcB (r : Nat) (b : UInt8) : Nat := crcI 8 (r ^^^ b.toNat)
def crc (r : Nat) (l : List UInt8) : Nat := l.foldl crcB r
theorem crcB_eq (r : Nat) (b : UInt8) : crcB r b = ((crcI 4 (r ^^^ b.toNat)) / 16) ^^^ crcI 4 ((crcI 4 (r ^^^ b.toNat)) % 16) := by
  rw [crc_nibble, ← crcI_add]; rfl
theorem xor_byte_lt (r : Nat) (b : UInt8) (h : r < 65536) : r ^^^ b.toNat < 65536 :=
  Nat.xor_lt_two_pow (n := 16) h (by have := b.toNat_lt; omega)
theorem crcB_lt (r : Nat) (b : UInt8) (h : r < 65536) : crcB r b < 65536 := crcI_lt _ _ (xor_byte_lt r b h)
theorem crc_lt (r : Nat) (l : List UInt8) (h : r < 65536) : crc r l < 65536 := by
  induction l generalizing r with
  | nil => exact h
  | cons b l ih => exact ih _ (crcB_lt r b h)
theorem crc_append (r : Nat) (a b : List UInt8) : crc r (a ++ b) = crc (crc r a) b := List.foldl_append
theorem crc_snoc (r : Nat) (l : List UInt8) (k : Nat) (h : k < l.length) : crc r (l.take (k + 1)) = crcB (crc r (l.take k)) l[k] := by
  rw [List.take_succ_eq_append_getElem h, crc_append]; rfl

theorem xor_all (r : Nat) (h : r < 65536) : 65535 ^^^ r = 65535 - r := by
  apply Nat.eq_of_testBit_eq
  intro i
  have h1 := Nat.testBit_two_pow_sub_succ (n := 16) (x := r) h i
  have h2 := Nat.testBit_two_pow_sub_one 16 i
  rw [show (2 : Nat) ^ 16 - (r + 1) = 65535 - r by omega] at h1
  rw [show (2 : Nat) ^ 16 - 1 = 65535 from rfl] at h2
  rw [Nat.testBit_xor, h1, h2]
  by_cases hi : i < 16
  · simp [hi]
  · have := Nat.testBit_lt_two_pow (x := r) (i := i) (Nat.lt_of_lt_of_le h (Nat.pow_le_pow_right (n := 2) (by decide) (show 16 ≤ i by omega)))
    simp [hi, this]
/-- the check sequence -/
def crcSum (l : List UInt8) : Nat := 65535 - crc 65535 l
theorem crcSum_lt (l : List UInt8) : crcSum l < 65536 := by unfold crcSum; omega

theorem crcI_eight (q : Nat) : crcI 8 (256 * q) = q := by
  rw [show (8 : Nat) = 4 + 4 from rfl, crcI_add, show 256 * q = 16 * (16 * q) by omega, crcI_four, crcI_four]
theorem split256 (r : Nat) : r = (r % 256) ^^^ (256 * (r / 256)) := by
  have h2 : (2 ^ 8 * (r / 256)) ||| (r % 256) = 2 ^ 8 * (r / 256) + r % 256 := (Nat.two_pow_add_eq_or_of_lt (i := 8) (b := r % 256) (by omega) (r / 256)).symm
  have h3 : (2 ^ 8 * (r / 256)) ^^^ (r % 256) = 2 ^ 8 * (r / 256) ||| r % 256 := by
    apply Nat.eq_of_testBit_eq
    intro i
    simp only [Nat.testBit_xor, Nat.testBit_or, Nat.testBit_two_pow_mul]
    by_cases h : 8 ≤ i
    · have : (r % 256).testBit i = false := Nat.testBit_lt_two_pow (Nat.lt_of_lt_of_le (by omega) (Nat.pow_le_pow_right (by decide) h))
      simp [this]
    · simp [h]
  rw [Nat.xor_comm]
  have e : 256 * (r / 256) = 2 ^ 8 * (r / 256) := rfl
  rw [e, h3, h2]
  omega
/-- the octets of the check sequence -/
def fcs (l : List UInt8) : List UInt8 := [UInt8.ofNat (crcSum l % 256), UInt8.ofNat (crcSum l / 256)]
theorem crc_two (r : Nat) (b0 b1 : UInt8) : crc r [b0, b1] = crcI 16 (r ^^^ (b0.toNat ^^^ (256 * b1.toNat))) := by
  show crcI 8 (crcI 8 (r ^^^ b0.toNat) ^^^ b1.toNat) = _
  rw [show (16 : Nat) = 8 + 8 from rfl, crcI_add, ← Nat.xor_assoc, crcI_xor 8 (r ^^^ b0.toNat), crcI_eight]
theorem crc_res : crcI 16 65535 = 61624 := by decide +kernel
theorem crc_fcs (l : List UInt8) : crc 65535 (l ++ fcs l) = 61624 := by
  have hlt := crc_lt 65535 l (by omega)
  have hs := crcSum_lt l
  rw [crc_append]
  unfold fcs
  rw [crc_two]
  have h0 : (UInt8.ofNat (crcSum l % 256)).toNat = crcSum l % 256 := by rw [UInt8.toNat_ofNat']; omega
  have h1 : (UInt8.ofNat (crcSum l / 256)).toNat = crcSum l / 256 := by rw [UInt8.toNat_ofNat']; omega
  rw [h0, h1, ← split256]
  unfold crcSum
  rw [← xor_all _ hlt, ← Nat.xor_assoc, Nat.xor_comm (crc 65535 l) 65535, Nat.xor_assoc, Nat.xor_self, Nat.xor_zero]
  exact crc_res

end Go.Proofs.YthbbmpelldglmaaDoor
