/- Inverted bits of octets, and which are detected. No program. -/
import Derived.Test.YthbbmpelldglmaaDoorDetect
namespace Go.Proofs.YthbbmpelldglmaaDoor
set_option linter.unusedVariables false
set_option linter.unusedSimpArgs false

theorem sb_get (l : List UInt8) (p : Nat) : (sb l)[p]? = (l[p / 8]?).map fun b => b.toNat.testBit (p % 8) := by
  induction l generalizing p with
  | nil => simp [sb]
  | cons b l ih =>
    show (sbB b ++ sb l)[p]? = _
    by_cases h : p < 8
    · rw [List.getElem?_append_left (by rw [sbB_len]; exact h)]
      have h1 : p / 8 = 0 := by omega
      have h2 : p % 8 = p := by omega
      simp [sbB, h1, h2, h]
    · rw [List.getElem?_append_right (by rw [sbB_len]; omega), sbB_len, ih]
      have h1 : p / 8 = (p - 8) / 8 + 1 := by omega
      have h2 : (p - 8) % 8 = p % 8 := by omega
      rw [h1, h2]
      simp

/-- a bit is inverted -/
def flipAt (s : List UInt8) (p : Nat) : List UInt8 := s.set (p / 8) (s.getD (p / 8) 0 ^^^ UInt8.ofNat (2 ^ (p % 8)))
def flips (s : List UInt8) (l : List Nat) : List UInt8 := l.foldl flipAt s
theorem flipAt_len (s : List UInt8) (p : Nat) : (flipAt s p).length = s.length := by simp [flipAt]
theorem flips_len (s : List UInt8) (l : List Nat) : (flips s l).length = s.length := by
  induction l generalizing s with
  | nil => rfl
  | cons p l ih => show (flips (flipAt s p) l).length = _; rw [ih, flipAt_len]
theorem flips_snoc (s : List UInt8) (l : List Nat) (k : Nat) (h : k < l.length) : flips s (l.take (k + 1)) = flipAt (flips s (l.take k)) l[k] := by
  unfold flips; rw [List.take_succ_eq_append_getElem h, List.foldl_append]; rfl
theorem pow_byte (m : Nat) (h : m < 8) : (UInt8.ofNat (2 ^ m)).toNat = 2 ^ m := by
  rw [UInt8.toNat_ofNat']
  have : 2 ^ m ≤ 2 ^ 7 := Nat.pow_le_pow_right (by decide) (by omega)
  exact Nat.mod_eq_of_lt (by omega)
theorem flipAt_bit (s : List UInt8) (p q : Nat) (hq : q < 8 * s.length) : (sb (flipAt s p))[q]? = ((sb s)[q]?).map fun b => b ^^ decide (p = q) := by
  rw [sb_get, sb_get]
  have hq8 : q / 8 < s.length := by omega
  unfold flipAt
  rw [List.getElem?_set]
  by_cases h : p / 8 = q / 8
  · rw [if_pos h, if_pos (by rw [h]; exact hq8), h]
    rw [List.getElem?_eq_getElem hq8]
    simp only [Option.map_some, List.getD, List.getElem?_eq_getElem hq8, Option.getD_some]
    rw [UInt8.toNat_xor, pow_byte _ (by omega), Nat.testBit_xor, Nat.testBit_two_pow]
    congr 2
    by_cases h2 : p % 8 = q % 8
    · have : p = q := by omega
      simp [h2, this]
    · have : ¬ p = q := by intro e; rw [e] at h2; exact h2 rfl
      simp [h2, this]
  · rw [if_neg h]
    have : ¬ p = q := by intro e; rw [e] at h; exact h rfl
    simp [this, Function.comp_def]

/-- the pattern of inverted bits -/
def errB : List Nat → Nat → Bool
  | [], _ => false
  | p :: l, q => decide (p = q) ^^ errB l q
def errL (l : List Nat) (n : Nat) : List Bool := (List.range n).map (errB l)
theorem errL_get (l : List Nat) (n k : Nat) (h : k < n) : (errL l n)[k]? = some (errB l k) := by simp [errL, h]
theorem errL_true (l : List Nat) (n k : Nat) : (errL l n)[k]? = some true ↔ k < n ∧ errB l k = true := by
  by_cases h : k < n
  · rw [errL_get l n k h]; simp [h]
  · rw [List.getElem?_eq_none (by simp [errL]; omega)]; simp [h]
theorem flips_bit (s : List UInt8) (l : List Nat) (q : Nat) (hq : q < 8 * s.length) : (sb (flips s l))[q]? = ((sb s)[q]?).map fun b => b ^^ errB l q := by
  induction l generalizing s with
  | nil => simp [flips, errB]
  | cons p l ih =>
    show (sb (flips (flipAt s p) l))[q]? = _
    rw [ih _ (by rw [flipAt_len]; exact hq), flipAt_bit s p q hq, Option.map_map]
    congr 1
    funext b
    show ((b ^^ decide (p = q)) ^^ errB l q) = (b ^^ (decide (p = q) ^^ errB l q))
    rw [Bool.xor_assoc]
theorem flips_bits (s : List UInt8) (l : List Nat) : sb (flips s l) = List.zipWith xor (sb s) (errL l (8 * s.length)) := by
  apply List.ext_getElem?
  intro q
  by_cases hq : q < 8 * s.length
  · rw [flips_bit s l q hq, List.getElem?_zipWith, errL_get l _ q hq]
    have : q < (sb s).length := by rw [sb_len]; exact hq
    rw [List.getElem?_eq_getElem this]
    rfl
  · rw [List.getElem?_eq_none (by rw [sb_len, flips_len]; omega), List.getElem?_eq_none (by simp [sb_len, errL]; omega)]

theorem flips_crc (s : List UInt8) (l : List Nat) : crc 65535 (flips s l) = crc 65535 s ^^^ crcBits 0 (errL l (8 * s.length)) := by
  rw [← crc_bits, ← crc_bits, flips_bits]
  have := crcBits_xor (sb s) (errL l (8 * s.length)) 65535 0 (by simp [sb_len, errL])
  rw [Nat.xor_zero] at this
  exact this

/-- the last two octets are the check sequence of the others -/
theorem prot_crc (a : List UInt8) (b0 b1 : UInt8) : [b0, b1] = fcs a ↔ crc 65535 (a ++ [b0, b1]) = 61624 := by
  constructor
  · intro h; rw [h]; exact crc_fcs a
  · intro h
    have hlt := crc_lt 65535 a (by omega)
    rw [crc_append, crc_two, ← crc_res] at h
    have hv : b0.toNat ^^^ (256 * b1.toNat) < 65536 := Nat.xor_lt_two_pow (n := 16) (by have := b0.toNat_lt; omega) (by have := b1.toNat_lt; omega)
    have h2 : crcI 16 ((crc 65535 a ^^^ (b0.toNat ^^^ (256 * b1.toNat))) ^^^ 65535) = 0 := by rw [crcI_xor, h, Nat.xor_self]
    have h3 := crcI_zero 16 _ (Nat.xor_lt_two_pow (n := 16) (Nat.xor_lt_two_pow (n := 16) hlt hv) (by decide)) h2
    have h4 : b0.toNat ^^^ (256 * b1.toNat) = crcSum a := by
      unfold crcSum
      rw [← xor_all _ hlt]
      generalize b0.toNat ^^^ (256 * b1.toNat) = v at *
      generalize crc 65535 a = r at *
      have : v = ((r ^^^ v) ^^^ 65535) ^^^ (65535 ^^^ r) := by
        have e : ((r ^^^ v) ^^^ 65535) ^^^ (65535 ^^^ r) = v ^^^ (r ^^^ r) ^^^ (65535 ^^^ 65535) := by ac_rfl
        rw [e, Nat.xor_self, Nat.xor_self, Nat.xor_zero, Nat.xor_zero]
      rw [h3, Nat.zero_xor] at this
      exact this
    have h5 : b0.toNat + 256 * b1.toNat = crcSum a := by
      rw [← h4]
      have h6 := split256 (b0.toNat + 256 * b1.toNat)
      have := b0.toNat_lt
      rw [show (b0.toNat + 256 * b1.toNat) % 256 = b0.toNat by omega, show (b0.toNat + 256 * b1.toNat) / 256 = b1.toNat by omega] at h6
      exact h6
    have := b0.toNat_lt
    unfold fcs
    rw [← h5, show (b0.toNat + 256 * b1.toNat) % 256 = b0.toNat by omega, show (b0.toNat + 256 * b1.toNat) / 256 = b1.toNat by omega]
    simp

/-- what the check says of protected octets with inverted bits -/
theorem flips_prot (b : List UInt8) (l : List Nat) (n : Nat) (hn : n = b.length) (b0 b1 : UInt8) (h0 : (flips (b ++ fcs b) l)[n]? = some b0) (h1 : (flips (b ++ fcs b) l)[n + 1]? = some b1) :
    [b0, b1] = fcs ((flips (b ++ fcs b) l).take n) ↔ crcBits 0 (errL l (8 * (b.length + 2))) = 0 := by
  subst hn
  have hl : (flips (b ++ fcs b) l).length = b.length + 2 := by rw [flips_len, List.length_append]; rfl
  have hs : flips (b ++ fcs b) l = (flips (b ++ fcs b) l).take b.length ++ [b0, b1] := by
    apply List.ext_getElem?
    intro k
    by_cases hk : k < b.length
    · rw [List.getElem?_append_left (by rw [List.length_take]; omega), List.getElem?_take, if_pos hk]
    · rw [List.getElem?_append_right (by rw [List.length_take]; omega), List.length_take, show min b.length (flips (b ++ fcs b) l).length = b.length by omega]
      rcases Nat.lt_trichotomy k (b.length + 1) with h | h | h
      · obtain rfl : k = b.length := by omega
        rw [h0]; simp
      · subst h
        rw [h1, show b.length + 1 - b.length = 1 by omega]; rfl
      · rw [List.getElem?_eq_none (by omega), List.getElem?_eq_none (by simp; omega)]
  rw [prot_crc, ← hs, flips_crc, crc_fcs, List.length_append, show (fcs b).length = 2 from rfl]
  constructor
  · intro h
    have h2 : 61624 ^^^ (61624 ^^^ crcBits 0 (errL l (8 * (b.length + 2)))) = 61624 ^^^ 61624 := by rw [h]
    rw [← Nat.xor_assoc, Nat.xor_self, Nat.zero_xor] at h2
    exact h2
  · intro h; rw [h, Nat.xor_zero]

/-- the parity of the pattern is that of the number of inverted bits -/
theorem parL_map_xor (f g : Nat → Bool) (n : Nat) : parL ((List.range n).map fun k => f k ^^ g k) = (parL ((List.range n).map f) ^^ parL ((List.range n).map g)) := by
  induction n with
  | zero => rfl
  | succ n ih =>
    have e : ∀ h : Nat → Bool, parL ((List.range (n + 1)).map h) = (parL ((List.range n).map h) ^^ h n) := fun h => by
      rw [List.range_succ, List.map_append]
      unfold parL
      rw [List.foldl_append]; rfl
    rw [e, e, e, ih]
    generalize parL (List.map f (List.range n)) = a
    generalize parL (List.map g (List.range n)) = b
    generalize f n = c
    generalize g n = d
    cases a <;> cases b <;> cases c <;> cases d <;> rfl
theorem parL_unit (p n : Nat) : parL ((List.range n).map fun k => decide (p = k)) = decide (p < n) := by
  induction n with
  | zero => simp [parL]
  | succ n ih =>
    rw [List.range_succ, List.map_append]
    unfold parL at *
    rw [List.foldl_append, ih]
    by_cases h1 : p < n
    · have : ¬ p = n := by omega
      simp [h1, this, show p < n + 1 by omega]
    · by_cases h2 : p = n
      · subst h2; simp
      · simp [h1, h2, show ¬ p < n + 1 by omega]
theorem parL_err (l : List Nat) (n : Nat) (h : ∀ p ∈ l, p < n) : parL (errL l n) = decide (l.length % 2 = 1) := by
  induction l with
  | nil =>
    have : errL [] n = List.replicate n false := by
      apply List.ext_getElem?
      intro k
      by_cases hk : k < n
      · rw [errL_get [] n k hk]; simp [errB, hk, List.getElem?_replicate]
      · rw [List.getElem?_eq_none (by simp [errL]; omega), List.getElem?_eq_none (by simp; omega)]
    rw [this]
    have hz : ∀ m, parL (List.replicate m false) = false := fun m => by
      induction m with
      | zero => rfl
      | succ m ih => unfold parL at *; rw [List.replicate_succ, List.foldl_cons]; exact ih
    rw [hz]; rfl
  | cons p l ih =>
    have e : errL (p :: l) n = (List.range n).map fun k => decide (p = k) ^^ errB l k := rfl
    rw [e, parL_map_xor, parL_unit]
    have h1 := h p (by simp)
    have h2 : parL ((List.range n).map (errB l)) = decide (l.length % 2 = 1) := ih fun q hq => h q (by simp [hq])
    rw [h2]
    simp only [h1, decide_true, List.length_cons]
    rcases Nat.mod_two_eq_zero_or_one l.length with h3 | h3
    · rw [h3]; simp; omega
    · rw [h3]; simp; omega
theorem errL_nil (n : Nat) : errL [] n = List.replicate n false := by
  apply List.ext_getElem?
  intro k
  by_cases hk : k < n
  · rw [errL_get [] n k hk]; simp [errB, hk, List.getElem?_replicate]
  · rw [List.getElem?_eq_none (by simp [errL]; omega), List.getElem?_eq_none (by simp; omega)]
theorem crcBits_err_nil (n : Nat) : crcBits 0 (errL [] n) = 0 := by rw [errL_nil, crcBits_zeros, crcI_z]
theorem errB_mem (l : List Nat) (q : Nat) (h : errB l q = true) : q ∈ l := by
  induction l with
  | nil => simp [errB] at h
  | cons p l ih =>
    by_cases hp : p = q
    · simp [hp]
    · simp [errB, hp] at h
      simp [ih h]
theorem errB_nodup (l : List Nat) (hd : l.Nodup) (q : Nat) : errB l q = decide (q ∈ l) := by
  induction l with
  | nil => rfl
  | cons p l ih =>
    rw [List.nodup_cons] at hd
    show (decide (p = q) ^^ errB l q) = _
    rw [ih hd.2]
    by_cases hp : p = q
    · subst hp; simp [hd.1]
    · simp [hp, Ne.symm hp]
end Go.Proofs.YthbbmpelldglmaaDoor
