/- Which changes of protected octets are detected: bursts of at most 16 bits, 2 bits, an odd number of bits. No program. -/
import Derived.Test.YthbbmpelldglmaaDoorDiv
namespace Go.Proofs.YthbbmpelldglmaaDoor
set_option linter.unusedVariables false
set_option linter.unusedSimpArgs false

/-- the register is linear in the register and the bits -/
theorem bitStep_xor (r s : Nat) (a b : Bool) : bitStep (r ^^^ s) (a ^^ b) = bitStep r a ^^^ bitStep s b := by
  unfold bitStep
  rw [← crcZ_xor]
  congr 1
  have h : (a ^^ b).toNat = a.toNat ^^^ b.toNat := by cases a <;> cases b <;> rfl
  rw [h]
  ac_rfl
theorem crcBits_xor : ∀ (S T : List Bool) (r s : Nat), S.length = T.length → crcBits (r ^^^ s) (List.zipWith xor S T) = crcBits r S ^^^ crcBits s T
  | [], [], _, _, _ => rfl
  | a :: S, b :: T, r, s, h => by
    show crcBits (bitStep (r ^^^ s) (a ^^ b)) (List.zipWith xor S T) = _
    rw [bitStep_xor, crcBits_xor S T _ _ (by simpa using h)]
    rfl
theorem crcBits_append (r : Nat) (S T : List Bool) : crcBits r (S ++ T) = crcBits (crcBits r S) T := List.foldl_append
theorem crcBits_zeros (n r : Nat) : crcBits r (List.replicate n false) = crcI n r := by
  induction n generalizing r with
  | zero => rfl
  | succ n ih =>
    show crcBits (bitStep r false) (List.replicate n false) = _
    rw [ih, crcI_succ']
    simp [bitStep]

/-- a step is injective on registers -/
theorem crcZ_zero (r : Nat) (hr : r < 65536) (h : crcZ r = 0) : r = 0 := by
  rw [crcZ_eq] at h
  rcases Nat.mod_two_eq_zero_or_one r with h2 | h2
  · rw [h2] at h; simp at h; omega
  · rw [h2] at h
    have h3 : (r / 2 ^^^ 1 * 33800).testBit 15 = true := by
      rw [Nat.testBit_xor, Nat.testBit_lt_two_pow (show r / 2 < 2 ^ 15 by omega)]
      decide
    rw [h] at h3
    simp at h3
theorem crcI_zero (n r : Nat) (hr : r < 65536) (h : crcI n r = 0) : r = 0 := by
  induction n with
  | zero => exact h
  | succ n ih => exact ih (crcZ_zero _ (crcI_lt n r hr) h)

/-- parity -/
def par (n r : Nat) : Bool := (List.range n).foldl (fun p i => p ^^ r.testBit i) false
theorem par_succ (n r : Nat) : par (n + 1) r = (par n r ^^ r.testBit n) := by simp [par, List.range_succ]
theorem par_xor (n r s : Nat) : par n (r ^^^ s) = (par n r ^^ par n s) := by
  induction n with
  | zero => rfl
  | succ n ih =>
    rw [par_succ, par_succ, par_succ, ih, Nat.testBit_xor]
    generalize par n r = a
    generalize par n s = b
    generalize r.testBit n = c
    generalize s.testBit n = d
    cases a <;> cases b <;> cases c <;> cases d <;> rfl
theorem par_half (n r : Nat) : par (n + 1) r = (r.testBit 0 ^^ par n (r / 2)) := by
  induction n with
  | zero => rw [par_succ]; simp [par]
  | succ n ih => rw [par_succ, ih, par_succ, ← Nat.testBit_succ, Bool.xor_assoc]
theorem par_top (n r : Nat) (h : r < 2 ^ n) : par (n + 1) r = par n r := by
  rw [par_succ, Nat.testBit_lt_two_pow h, Bool.xor_false]
theorem par_crcZ (r : Nat) (hr : r < 65536) : par 16 (crcZ r) = par 16 r := by
  rw [crcZ_eq, par_xor, par_half 15 r, par_top 15 (r / 2) (by omega)]
  have e : par 16 (r % 2 * 33800) = r.testBit 0 := by
    rw [Nat.testBit_zero]
    rcases Nat.mod_two_eq_zero_or_one r with h | h <;> rw [h] <;> decide
  rw [e, Bool.xor_comm]
theorem par_bool (b : Bool) : par 16 b.toNat = b := by cases b <;> decide
theorem par_bitStep (r : Nat) (b : Bool) (hr : r < 65536) : par 16 (bitStep r b) = (par 16 r ^^ b) := by
  unfold bitStep
  rw [par_crcZ _ (Nat.xor_lt_two_pow (n := 16) hr (by have := bool_lt b; omega)), par_xor, par_bool]
/-- the parity of a list of bits -/
def parL (S : List Bool) : Bool := S.foldl xor false
theorem parL_from (S : List Bool) (p : Bool) : S.foldl xor p = (p ^^ parL S) := by
  induction S generalizing p with
  | nil => simp [parL]
  | cons b S ih =>
    unfold parL
    rw [List.foldl_cons, List.foldl_cons, ih, ih (false ^^ b)]
    cases p <;> cases b <;> cases parL S <;> rfl
theorem par_crcBits (S : List Bool) (r : Nat) (hr : r < 65536) : par 16 (crcBits r S) = (par 16 r ^^ parL S) := by
  induction S generalizing r with
  | nil => simp [crcBits, parL]
  | cons b S ih =>
    show par 16 (crcBits (bitStep r b) S) = _
    rw [ih _ (bitStep_lt r b hr), par_bitStep r b hr]
    have : parL (b :: S) = (b ^^ parL S) := by
      show (b :: S).foldl xor false = _
      rw [List.foldl_cons, parL_from]; cases b <;> rfl
    rw [this, Bool.xor_assoc]
theorem odd_seen (S : List Bool) (h : parL S = true) : crcBits 0 S ≠ 0 := by
  intro e
  have := par_crcBits S 0 (by omega)
  rw [e, h] at this
  exact absurd this (by decide)

theorem none_true {S : List Bool} (h : ∀ k : Nat, S[k]? ≠ some true) : S = List.replicate S.length false := by
  apply List.ext_getElem?
  intro k
  rw [List.getElem?_replicate]
  by_cases hk : k < S.length
  · rw [if_pos hk]
    have := h k
    rw [List.getElem?_eq_getElem hk] at this ⊢
    cases hb : S[k]
    · rfl
    · rw [hb] at this; exact absurd rfl this
  · rw [if_neg hk, List.getElem?_eq_none (by omega)]
theorem valB_testBit (W : List Bool) (k : Nat) : (valB W).testBit k = W.getD k false := by
  induction W generalizing k with
  | nil => simp [valB, List.getD]
  | cons b W ih =>
    show (b.toNat + 2 * valB W).testBit k = _
    cases k with
    | zero =>
      rw [Nat.testBit_zero]
      cases b <;> simp [List.getD] <;> omega
    | succ k =>
      rw [Nat.testBit_succ]
      have : (b.toNat + 2 * valB W) / 2 = valB W := by have := bool_lt b; omega
      rw [this, ih]
      simp [List.getD]
theorem valB_lt (W : List Bool) : valB W < 2 ^ W.length := by
  induction W with
  | nil => simp [valB]
  | cons b W ih =>
    show b.toNat + 2 * valB W < 2 ^ (W.length + 1)
    have := bool_lt b
    rw [Nat.pow_succ]
    omega
theorem list_of_val (W : List Bool) : W = (List.range W.length).map fun k => (valB W).testBit k := by
  apply List.ext_getElem?
  intro k
  by_cases hk : k < W.length
  · simp [hk, valB_testBit, List.getD]
  · rw [List.getElem?_eq_none (by omega), List.getElem?_eq_none (by simp; omega)]
theorem crcBits_window (W : List Bool) (h : W.length ≤ 16) (h0 : crcBits 0 W = 0) : ∀ k : Nat, W[k]? ≠ some true := by
  have hv := valB_lt W
  have hp : 2 ^ W.length ≤ 2 ^ 16 := Nat.pow_le_pow_right (by decide) h
  have e := crcBits_low W.length 0 (valB W) hv
  rw [← list_of_val W, h0, Nat.zero_xor] at e
  have hz := crcI_zero W.length (valB W) (by omega) e.symm
  intro k hk
  have := valB_testBit W k
  rw [hz] at this
  simp [List.getD, hk] at this
theorem crcBits_parts (S : List Bool) (i m : Nat) : crcBits 0 S = crcBits (crcBits (crcBits 0 (S.take i)) ((S.drop i).take m)) (S.drop (i + m)) := by
  rw [← crcBits_append, ← crcBits_append]
  congr 1
  have h1 : S.drop (i + m) = (S.drop i).drop m := by rw [List.drop_drop]
  rw [h1, List.take_append_drop, List.take_append_drop]
theorem crcI_z (n : Nat) : crcI n 0 = 0 := by
  induction n with
  | zero => rfl
  | succ n ih => show crcZ (crcI n 0) = 0; rw [ih]; rfl

/-- a burst -/
theorem burst_seen (S : List Bool) (i : Nat) (hl : ∀ k : Nat, S[k]? = some true → i ≤ k ∧ k < i + 16) (h : ∃ k : Nat, S[k]? = some true) : crcBits 0 S ≠ 0 := by
  intro e
  rw [crcBits_parts S i 16] at e
  have h1 : S.take i = List.replicate (S.take i).length false := none_true fun k hk => by
    rw [List.getElem?_take] at hk
    split at hk
    · have := hl k hk; omega
    · cases hk
  have h3 : S.drop (i + 16) = List.replicate (S.drop (i + 16)).length false := none_true fun k hk => by
    rw [List.getElem?_drop] at hk
    have := hl _ hk
    omega
  rw [h1, crcBits_zeros, crcI_z] at e
  rw [h3, crcBits_zeros] at e
  have hz := crcI_zero _ _ (crcBits_lt 0 _ (by omega)) e
  obtain ⟨k, hk⟩ := h
  have hik := hl k hk
  refine crcBits_window _ (by rw [List.length_take]; omega) hz (k - i) ?_
  rw [List.getElem?_take, if_pos (by omega), List.getElem?_drop, show i + (k - i) = k by omega]
  exact hk

/-- the powers of x do not come back to 1 -/
def noOne : Nat → Nat → Bool
  | 0, _ => true
  | n + 1, r => (crcZ r != 1) && noOne n (crcZ r)
theorem noOne_ok (n r : Nat) (h : noOne n r = true) : ∀ d, 0 < d → d ≤ n → crcI d r ≠ 1 := by
  induction n generalizing r with
  | zero => intro d h1 h2; omega
  | succ n ih =>
    simp only [noOne, Bool.and_eq_true] at h
    intro d h1 h2
    obtain ⟨d, rfl⟩ : ∃ e, d = e + 1 := ⟨d - 1, by omega⟩
    rw [crcI_succ']
    rcases Nat.eq_zero_or_pos d with rfl | hd
    · have := h.1
      simpa [crcI, bne_iff_ne] using this
    · exact ih _ h.2 d hd (by omega)
set_option maxRecDepth 100000 in
theorem no_one : noOne 2260 1 = true := by decide +kernel

/-- two bits -/
theorem two_seen (S : List Bool) (i j : Nat) (hij : i < j) (hj : j < S.length) (hn : j - i ≤ 2260) (hl : ∀ k : Nat, S[k]? = some true ↔ k = i ∨ k = j) : crcBits 0 S ≠ 0 := by
  intro e
  obtain ⟨d, rfl⟩ : ∃ d, j = i + 1 + d := ⟨j - i - 1, by omega⟩
  rw [crcBits_parts S i 1] at e
  have h1 : S.take i = List.replicate (S.take i).length false := none_true fun k hk => by
    rw [List.getElem?_take] at hk
    split at hk
    · have := (hl k).1 hk; omega
    · cases hk
  have h2 : (S.drop i).take 1 = [true] := by
    rw [List.drop_eq_getElem_cons (by omega)]
    have := (hl i).2 (.inl rfl)
    rw [List.getElem?_eq_getElem (by omega)] at this
    injection this with this
    rw [this]; rfl
  have h3 : S.drop (i + 1) = List.replicate d false ++ [true] ++ S.drop (i + 1 + d + 1) := by
    have hz : (S.drop (i + 1)).take d = List.replicate d false := by
      have hlen : ((S.drop (i + 1)).take d).length = d := by rw [List.length_take, List.length_drop]; omega
      have := none_true (S := (S.drop (i + 1)).take d) fun k hk => by
        rw [List.getElem?_take] at hk
        split at hk
        · rw [List.getElem?_drop] at hk
          have := (hl _).1 hk; omega
        · cases hk
      rwa [hlen] at this
    have ht : (S.drop (i + 1 + d)).take 1 = [true] := by
      rw [List.drop_eq_getElem_cons (by omega)]
      have := (hl (i + 1 + d)).2 (.inr rfl)
      rw [List.getElem?_eq_getElem (by omega)] at this
      injection this with this
      rw [this]; rfl
    have h5 : S.drop (i + 1 + d + 1) = (S.drop (i + 1 + d)).drop 1 := by rw [List.drop_drop]
    have h6 : S.drop (i + 1 + d) = (S.drop (i + 1)).drop d := by rw [List.drop_drop]
    rw [← hz, ← ht, List.append_assoc, h5, List.take_append_drop, h6, List.take_append_drop]
  have h4 : S.drop (i + 1 + d + 1) = List.replicate (S.drop (i + 1 + d + 1)).length false := none_true fun k hk => by
    rw [List.getElem?_drop] at hk
    have := (hl _).1 hk
    omega
  rw [h1, crcBits_zeros, crcI_z, h2, h3, crcBits_append, crcBits_append, crcBits_zeros, h4, crcBits_zeros] at e
  have hb : bitStep 0 true < 65536 := bitStep_lt 0 true (by omega)
  have hz := crcI_zero _ _ (crcBits_lt _ _ (crcI_lt _ _ (crcBits_lt 0 _ (by omega)))) e
  change bitStep (crcI d (bitStep 0 true)) true = 0 at hz
  unfold bitStep at hz
  have hz2 := crcZ_zero _ (Nat.xor_lt_two_pow (n := 16) (crcI_lt d _ (crcZ_lt _ (by decide))) (by decide)) hz
  have hone : crcI (d + 1) 1 = 1 := by
    rw [crcI_succ']
    have : crcI d (crcZ 1) ^^^ 1 = 0 := hz2
    have h5 : (crcI d (crcZ 1) ^^^ 1) ^^^ 1 = 0 ^^^ 1 := by rw [this]
    rw [Nat.xor_assoc, Nat.xor_self, Nat.xor_zero] at h5
    simpa using h5
  exact noOne_ok 2260 1 no_one (d + 1) (by omega) (by omega) hone
end Go.Proofs.YthbbmpelldglmaaDoor
