/- The walk of 'changed': protected octets with inverted bits. -/
import Derived.Test.YtecokglofocgiaaSame
import Derived.Test.YtecokglofocgiaaFlip
import Derived.StillTailTactics
namespace Go.Proofs.Ytecokglofocgiaa
set_option linter.unusedVariables false
set_option linter.unusedSimpArgs false
open Go.RowKit

/-- numbers as ints -/
def intV (n : Nat) : Value := .int .i64 (n : Int)
def RdI (w : World) (A : Option Addr) (l : List Nat) : Prop := Rd w A (l.map intV)
theorem RdI.get {w : World} {A : Option Addr} {l : List Nat} (h : RdI w A l) {k : Nat} (hk : k < l.length) : ∃ ad, A = some ad ∧ w.cell? (ad.add k) = some (.int .i64 (l[k] : Int)) := by
  obtain ⟨ad, e, hc⟩ := Rd.get h (k := k) (by simpa using hk)
  exact ⟨ad, e, by rw [hc]; simp [intV]⟩
theorem infoInt : (Try.prog.info? 3).map (fun i => (i.zero, i.size, i.bytes)) = some (some (.int .i64 0), 1, 8) := by kernel_rfl

theorem flip_val (x : UInt8) (m : Nat) (h : m < 8) : bits .xor .u8 (x.toNat : Int) ((2 ^ m : Nat) : Int) = ((x ^^^ UInt8.ofNat (2 ^ m)).toNat : Int) := by
  rw [UInt8.toNat_xor, pow_byte m h, xor_u8 _ _ x.toNat_lt]
  have : 2 ^ m ≤ 2 ^ 7 := Nat.pow_le_pow_right (by decide) (by omega)
  omega

set_option maxHeartbeats 2000000 in
set_option maxRecDepth 100000 in
theorem changed_any (A1 : Option Addr) (b : List UInt8) (c1 : Nat) (A2 : Option Addr) (l : List Nat) (c2 : Nat) (w : World) (h1 : RdB w A1 b) (h2 : RdI w A2 l) (hb : b.length ≤ 280) (hl : l.length ≤ 1000)
    (hp : ∀ k (h : k < l.length), l[k] < 8 * (b.length + 2)) :
    Calls Try.prog 20 #[.slice A1 b.length c1, .slice A2 l.length c2] w fun e w' =>
      ∃ A' c', e = .returned (.slice A' (flips (b ++ fcs b) l).length c') ∧ RowB w' w.heap.size A' c' (flips (b ++ fcs b) l) ∧ Below w.heap.size w w' := by
  have hadd := add_any A1 b c1 w h1 (by omega)
  have hl2 : (b ++ fcs b).length = b.length + 2 := by simp [fcs]
  generalize hsl : b ++ fcs b = sl at *
  have hfl := fun k => flips_len sl (l.take k)
  have HADD := Lib.hid hadd
  have HFL := Lib.hid hfl
  have HL2 := Lib.hid hl2
  have hsl2 : sl.length ≤ 282 := by omega
  clear hadd hfl hl2 hsl
  go_enter Try.func20, Try.ntmps20
  go_wp2_with (first
    | (go_at_call 14; (with_reducible refine HADD.out.mono ?_); rintro e w3 ⟨A3, rfl, hR3, hB3⟩; have hsz3 := hB3.size)
    | ((with_reducible refine at_dst 9 rfl ?_)
       refine append_bytes rfl (.const (.slice none 0 0)) (.tmp 8) rfl w3.heap.size none 0 0 [] rfl rfl (RowB.nil _ _) A3 sl.length sl.length sl rfl rfl hR3.rd sl rfl (by omega) w3 (Below.refl _ _) (Nat.le_refl _) ?_
       intro A4 c4 w4 h4 hg4 hB4 hsz4
       replace hB4 := below_then hB3 hB4
       replace h4 := Row.mono h4 hsz3)
    | fail)
  clear hg4 hsz4 hR3 hB3 hsz3
  have hB4' := hB4.size
  go_loopw [6] (fun i wr => ∃ k : Nat, k ≤ l.length ∧ i = .int .i64 k ∧ Row wr w.heap.size 5 1 A4 sl.length c4 ((flips sl (l.take k)).map byteV) ∧ Below w.heap.size w wr) (fun i _ => l.length - (intOf i).toNat)
  case atStart => exact ⟨0, by omega, rfl, h4, hB4⟩
  case round =>
    clear h4 hB4 hB4'
    obtain ⟨k, hk, rfl, h4, hB4⟩ := hrel
    by_cases hlt : k < l.length
    · have hpk := hp k hlt
      have hs2 := HL2.out
      obtain ⟨g, e, hWg, _, hfr, _⟩ := Row.form h4 (by omega)
      subst e
      obtain ⟨ad, e, hc⟩ := h2.get hlt
      subst e
      have hc' := cell_later hB4 hc
      have hsn := flips_snoc sl l k hlt
      have hlen := HFL.out k
      generalize flips sl (l.take k) = s at *
      generalize hpp : l[k] = p at *
      have hq : p / 8 < s.length := by omega
      have hcell := Row.cell h4 (k := p / 8) (v := .int .u8 (s[p / 8].toNat : Int)) (by simp [hq, byteV])
      have hset := Row.set h4 (p / 8) (.int .u8 ((s[p / 8] ^^^ UInt8.ofNat (2 ^ (p % 8))).toNat : Int))
      have hfa : (s.map byteV).set (p / 8) (.int .u8 ((s[p / 8] ^^^ UInt8.ofNat (2 ^ (p % 8))).toNat : Int)) = (flips sl (l.take (k + 1))).map byteV := by
        rw [hsn]; unfold flipAt
        simp [List.map_set, byteV, List.getD, hq]
      rw [hfa] at hset
      have hv := flip_val s[p / 8] (p % 8) (by omega)
      have hbyte := s[p / 8].toNat_lt
      have hpw : 2 ^ (p % 8) ≤ 128 := by
        have : 2 ^ (p % 8) ≤ 2 ^ 7 := Nat.pow_le_pow_right (by decide) (by omega)
        omega
      have hfr' := hfr (p / 8)
      have q1 : (0 : Int) ≤ (p : Int) / 8 := by omega
      have q2 : (p : Int) / 8 < (sl.length : Int) := by omega
      have hpl : p ≤ 3000 := by omega
      generalize (s[p / 8] ^^^ UInt8.ofNat (2 ^ (p % 8))).toNat = v at *
      generalize s[p / 8].toNat = u at *
      have HSET := Lib.hid hset
      have HV := Lib.hid hv
      have HPW := Lib.hid hpw
      clear hset hv hfa hsn hfr hpp hpw hs2 h4 hpk
      have q0 : (0 : Int) ≤ (k : Int) := by omega
      have q3 : (k : Int) < (l.length : Int) := by omega
      have q4 : IntKind.i64.wrap ((p : Int) / 8) = (p : Int) / 8 := by rw [IntKind.wrap_i64]; omega
      have q5 : ((p : Int) / 8).toNat = p / 8 := by omega
      have q6 : Int.tmod (p : Int) 8 = ((p % 8 : Nat) : Int) := by rw [Int.tmod_eq_emod_of_nonneg (by omega)]; omega
      go_wp2
      refine wp_region_still_tail 22 ?_ ?_ ?_
      · kernel_rfl
      · kernel_rfl
      simp only [List.take_succ_cons, List.take_zero, List.drop_succ_cons, List.drop_zero]
      repeat still_step
      refine wpStill_nil ?_
      change wpList _ _ _ _ _ wr.drew
      have q7 : bits .xor .u8 (u : Int) (IntKind.u8.wrap (2 ^ ((p : Int) % 8).toNat)) = (v : Int) := by
        have e1 : ((p : Int) % 8).toNat = p % 8 := by omega
        have e2 : (2 : Int) ^ (p % 8) = ((2 ^ (p % 8) : Nat) : Int) := by simp
        have := HPW.out
        rw [e1, e2, u8_nat _ (by omega)]
        exact HV.out
      go_wp2
      have hrow : Row (wr.setCell ⟨g, p / 8, none⟩ (.int .u8 v)).drew w.heap.size 5 1 (some ⟨g, 0, none⟩) sl.length c4 ((flips sl (l.take (k + 1))).map byteV) := Row.drew HSET.out
      have hbel : Below w.heap.size w (wr.setCell ⟨g, p / 8, none⟩ (.int .u8 v)).drew := (hB4.setCell (p := ⟨g, p / 8, none⟩) hWg _).drew
      go_roundw
      case rel => exact ⟨k + 1, by omega, by go_num, hrow, hbel⟩
      case measure => simp [intOf]; omega
    · obtain rfl : k = l.length := by omega
      rw [List.take_length] at h4
      have hlen := flips_len sl l
      have HLEN := Lib.hid hlen
      clear hlen
      go_wp2
      go_ret
      refine ⟨A4, c4, by rw [HLEN.out]; rfl, ?_, hB4⟩
      unfold RowB
      rw [HLEN.out]
      exact h4

theorem check_flips (b : List UInt8) (l : List Nat) (A : Option Addr) (c : Nat) (w : World) (hA : RdB w A (flips (b ++ fcs b) l)) (hc : (flips (b ++ fcs b) l).length ≤ c) (hb : b.length ≤ 280) :
    Calls Try.prog 17 #[.slice A (flips (b ++ fcs b) l).length c] w fun e w' =>
      ((crcBits 0 (errL l (8 * (b.length + 2))) = 0 ∧ ∃ A' k, e = .returned (.tuple #[.slice A' k k, .int .i64 0])) ∨ (crcBits 0 (errL l (8 * (b.length + 2))) ≠ 0 ∧ e = .returned (.tuple #[.slice none 0 0, .int .i64 10]))) ∧ Below w.heap.size w w' := by
  have hl : (flips (b ++ fcs b) l).length = b.length + 2 := by rw [flips_len, List.length_append]; rfl
  obtain ⟨b0, h0⟩ : ∃ x, (flips (b ++ fcs b) l)[b.length]? = some x := ⟨_, List.getElem?_eq_getElem (by omega)⟩
  obtain ⟨b1, h1⟩ : ∃ x, (flips (b ++ fcs b) l)[b.length + 1]? = some x := ⟨_, List.getElem?_eq_getElem (by omega)⟩
  have h := check_core A _ b.length c w hA hl hc (by omega) b0 b1 h0 h1
  rw [hl]
  refine h.mono ?_
  rintro e w' ⟨h2, h3⟩
  refine ⟨?_, h3⟩
  have hp := flips_prot b l b.length rfl b0 b1 h0 h1
  by_cases hz : crcBits 0 (errL l (8 * (b.length + 2))) = 0
  · rw [if_pos (hp.2 hz)] at h2
    obtain ⟨A', he, _⟩ := h2
    exact .inl ⟨hz, A', b.length, he⟩
  · rw [if_neg (fun h => hz (hp.1 h))] at h2
    exact .inr ⟨hz, h2⟩
end Go.Proofs.Ytecokglofocgiaa
