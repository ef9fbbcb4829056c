/- What the reference's Extend and Sum return. -/
import Derived.Test.YtecokglofocgiaaRefBits
import Derived.Deep.RegionHeld3
import Derived.RegionTactic
import Derived.BigRegion
namespace Go.Proofs.Ytecokglofocgiaa
set_option linter.unusedVariables false
set_option linter.unusedSimpArgs false
open Go.RowKit

theorem zeros_byte (k : Nat) : (Builtin.zeroCells (Value.int .u8 0).cells k).toList = (List.replicate k (0 : UInt8)).map byteV := by
  simp only [Builtin.zeroCells, Array.toList_map, List.map_replicate]
  apply List.ext_getElem?
  intro j
  by_cases hj : j < k
  · simp [Value.cells, hj, byteV, List.getElem?_replicate, Nat.mod_one]
  · simp [Value.cells, hj, List.getElem?_replicate]

/-- a bit as a cell -/
def bV (b : Bool) : Value := byteV (b2u b)
theorem bV_eq (b : Bool) : bV b = .int .u8 (b.toNat : Int) := by unfold bV byteV; rw [b2u_nat]
theorem map_bV (L : List Bool) : (L.map b2u).map byteV = L.map bV := by simp [bV]
theorem get_bV {L : List Bool} {k : Nat} {b : Bool} (h : L[k]? = some b) : (L.map bV)[k]? = some (.int .u8 (b.toNat : Int)) := by
  rw [List.getElem?_map, h, Option.map_some, bV_eq]
theorem set_bV (L : List Bool) (k : Nat) (b : Bool) : (L.map bV).set k (.int .u8 (b.toNat : Int)) = (L.set k b).map bV := by
  rw [← bV_eq, List.map_set]
theorem add_mod (a b : Bool) : ((a.toNat : Int) + (b.toNat : Int)) % 2 = ((a ^^ b).toNat : Int) := by cases a <;> cases b <;> decide

theorem valL_map (L : List Bool) : valL (L.map b2u) = valB L := by
  induction L with
  | nil => rfl
  | cons b L ih =>
    show (b2u b).toNat + 2 * valL (L.map b2u) = b.toNat + 2 * valB L
    rw [ih, b2u_nat]
theorem rdB_map {w : World} {A : Option Addr} {L : List Bool} (h : Rd w A (L.map bV)) : RdB w A (L.map b2u) := by
  unfold RdB; rw [map_bV]; exact h

theorem poly_eq : polyL = ((List.range 17).map polyB).map b2u := by decide
theorem poly_cell (m : Nat) (h : m < 17) : (polyL.map byteV)[m]? = some (.int .u8 ((polyB m).toNat : Int)) := by
  rw [poly_eq, map_bV]
  exact get_bV (by simp [h])

set_option maxHeartbeats 2000000 in
theorem refext_any (r : Nat) (hr : r < 65536) (A : Option Addr) (l : List UInt8) (c : Nat) (w : World) (hA : RdB w A l) (hl : l.length ≤ 100000) :
    Calls Try.prog 11 #[.int .u16 r, .slice A l.length c] w fun e w' => e = .returned (.int .u16 (crc r l)) ∧ Below w.heap.size w w' := by
  have HO := Lib.hid (of_any A l c w hA (by omega))
  have hbl := bitsL_len l
  have HBL := Lib.hid (show bitsL l = (sb l).map b2u from rfl)
  have hcrc := crc_bits r l
  have hsl := sb_len l
  have hb8 : (bitsL l).length ≤ 800000 := by omega
  generalize bitsL l = bl at *
  generalize sb l = B at *
  have HL := Lib.hid hbl
  have HC := Lib.hid hcrc
  have HSL := Lib.hid hsl
  clear hbl hcrc hsl
  go_enter Try.func11, Try.ntmps11
  go_wp2_with (first
    | (go_at_call 22
       (with_reducible refine HO.out.mono ?_)
       rintro e w1 ⟨A1, c1, rfl, hR1, hB1⟩
       have hsz1 := hB1.size)
    | ((with_reducible refine at_dst 14 rfl ?_)
       refine wpList_append_row rfl (.const (.slice none 0 0)) (.tmp 13) 23 rfl w.heap.size 5 _ 1 1 Try.underlying23 infoByte rfl none 0 0 [] rfl (Row.nil _ _ _ _) A1 bl.length c1 (bl.map byteV) rfl hR1.rd (by simp) (byte_one bl) (by simp [maxLen]; omega) (by omega) hsz1 ?_
       intro A2 c2 w2 h2 hg2 _)
    | ((with_reducible refine at_dst 15 rfl ?_)
       refine wpList_append_zeros_row rfl (.tmp 14) (.const (.int .i64 16)) 23 3 rfl w.heap.size 5 _ 1 1 _ Try.underlying23 Try.underlying3 infoByte rfl (by omega) (by intro u hu; simp [Value.cells] at hu; subst hu; rfl) A2 (0 + bl.length) c2 _ rfl h2 .i64 16 rfl (by omega) (by simp [maxLen]; omega) (by omega) (Nat.le_trans hsz1 hg2.size) ?_
       intro A3 c3 w3 h3 hg3 _))
  have hsz2 := hg2.size
  have hsz3 := hg3.size
  have hN : B.length + 16 = bl.length + 16 := by rw [HBL.out]; simp
  have hN8 : bl.length + 16 ≤ 800016 := by omega
  have hB3 : Below w.heap.size w w3 := by
    refine (hB1.grown hg2 hsz1 (by simp)).grown hg3 (by omega) ?_
    exact fun k hk => (Row.lt h2 k hk).1
  have h4 : Row w3 w.heap.size 5 1 A3 (bl.length + 16) c3 ((preL (msg B) (B.length + 16) r 0).map bV) := by
    rw [preL_zero, List.map_append, ← map_bV, ← map_bV, ← HBL.out, show (List.replicate 16 false).map b2u = List.replicate 16 (0 : UInt8) from rfl, ← zeros_byte]
    simpa using h3
  obtain ⟨g, e, hWg, hg, _, _⟩ := h4.form (by omega)
  subst e
  generalize bl.length + 16 = N at *
  rw [hN] at h4
  have HN := Lib.hid hN
  clear hN hg2 hg3 h2 h3
  go_loopw [7] (fun i wr => ∃ k : Nat, k ≤ 16 ∧ i = .int .i64 k ∧ Row wr w.heap.size 5 1 (some ⟨g, 0, none⟩) N c3 ((preL (msg B) N r k).map bV) ∧ Below w.heap.size w wr) (fun i _ => 16 - (intOf i).toNat)
  case atStart => exact ⟨0, by omega, rfl, h4, hB3⟩
  case round =>
    clear h4 hB3
    obtain ⟨k, hk, rfl, h4, hB3⟩ := hrel
    have hNk : 16 ≤ N := by have := HN.out; omega
    by_cases hlt : k < 16
    · have hfr := h4.free k
      have hc := h4.cell (get_bV (preL_get (msg B) N r k k (by omega)))
      have hbit := bit_any r k wr.drew (by omega) (by omega)
      have hw64 : IntKind.u64.wrap (r : Int) = r := by rw [wrap_u64]; omega
      rw [testBit_nat] at hbit
      have hset := set_bV (preL (msg B) N r k) k (preB (msg B) r k k ^^ r.testBit k)
      rw [preL_set] at hset
      have hmod := add_mod (preB (msg B) r k k) (r.testBit k)
      have hb1 := bool_lt (preB (msg B) r k k)
      have hb2 := bool_lt (r.testBit k)
      generalize (preB (msg B) r k k ^^ r.testBit k).toNat = z at *
      generalize (preB (msg B) r k k).toNat = y at *
      generalize (r.testBit k).toNat = x at *
      have HBIT := Lib.hid hbit
      have HSET := Lib.hid hset
      clear hbit hset
      have q1 : (0 : Int) ≤ (k : Int) := by omega
      have q2 : (k : Int) < (N : Int) := by omega
      have H4 := Lib.hid h4
      clear h4
      go_wp2
      refine wp_region_still_tail 13 ?_ ?_ ?_
      · kernel_rfl
      · kernel_rfl
      simp only [List.take_succ_cons, List.take_zero, List.drop_succ_cons, List.drop_zero]
      repeat still_step
      still_call HBIT.out
      repeat still_step
      refine wpStill_nil ?_
      change wpList _ _ _ _ _ wr.drew
      go_wp2
      have hrow : Row (wr.drew.setCell ⟨g, k, none⟩ (.int .u8 z)) w.heap.size 5 1 (some ⟨g, 0, none⟩) N c3 ((preL (msg B) N r (k + 1)).map bV) := by
        rw [← HSET.out]; exact Row.set (Row.drew H4.out) k _
      have hbel : Below w.heap.size w (wr.drew.setCell ⟨g, k, none⟩ (.int .u8 z)) := (hB3.drew).setCell (p := ⟨g, k, none⟩) hWg _
      go_roundw
      case rel => exact ⟨k + 1, by omega, by go_num, hrow, hbel⟩
      case measure => simp [intOf]; omega
    · obtain rfl : k = 16 := by omega
      rw [preL_end _ _ _ hr] at h4
      have H4 := Lib.hid h4
      clear h4
      go_wp2_with (go_at_call 24; (with_reducible refine (poly_any _).mono ?_); rintro e w4 ⟨A4, rfl, hR4, hB4⟩)
      have h5 := Row.below H4.out hB4
      obtain ⟨g4, e, hg4, hg4', _, _⟩ := hR4.form (by simp [polyL])
      subst e
      have hgg : g < g4 := Nat.lt_of_lt_of_le (Row.lt H4.out g rfl).2 hg4
      have hP := hR4.rd
      have hB5 : Below w.heap.size w w4 := below_then hB3 hB4
      clear H4 hR4 hB4 hB3 hg4
      go_loopw [9, 10] (fun i _ wr => ∃ k : Nat, k ≤ bl.length ∧ i = .int .i64 k ∧ Row wr w.heap.size 5 1 (some ⟨g, 0, none⟩) N c3 ((stL (msg B) N k (crcBits r (B.take k))).map bV) ∧ RdB wr (some ⟨g4, 0, none⟩) polyL ∧ Below w.heap.size w wr) (fun i _ _ => bl.length - (intOf i).toNat)
      case atStart => exact ⟨0, by omega, rfl, h5, hP, hB5⟩
      case round =>
        clear h5 hP hB5
        obtain ⟨i, hi, rfl, h5, hP, hB5⟩ := hrel
        have hNb : bl.length + 16 ≤ N := by have := HN.out; rw [HBL.out]; simp; omega
        by_cases hlt : i < bl.length
        · have hiB : i < B.length := by have := HSL.out; have := HL.out; omega
          have hcrc := crcBits_snoc r B i hiB
          have hRlt := crcBits_lt r (B.take i) hr
          have hmsg : msg B i = B[i] := by simp [msg, List.getD, hiB]
          rw [← hmsg] at hcrc
          generalize crcBits r (B.take i) = R at *
          have hst : stB (msg B) i R i = (msg B i ^^ R.testBit 0) := by simp [stB]
          have hc := h5.cell (get_bV (stL_get (msg B) N i R i (by omega)))
          rw [hst] at hc
          have hiN : i < N := by omega
          have HCRC := Lib.hid hcrc
          have HIB := Lib.hid hiB
          clear hcrc hmsg hst hiB
          cases hb : (msg B i ^^ R.testBit 0) with
          | false =>
            rw [hb] at hc
            replace hc : wr.cell? ⟨g, i, none⟩ = some (.int .u8 0) := hc
            have hsk := stL_skip (msg B) N i R hb
            rw [← hsk, ← HCRC.out] at h5
            have H5 := Lib.hid h5
            clear hb hsk h5
            go_wp2
            go_roundw
            case rel => exact ⟨i + 1, by omega, by go_num, H5.out, hP, hB5⟩
            case measure => simp [intOf]; omega
          | true =>
            rw [hb] at hc
            replace hc : wr.cell? ⟨g, i, none⟩ = some (.int .u8 1) := hc
            rw [← midL_zero (msg B) N i R hb] at h5
            have HB := Lib.hid hb
            clear hb
            go_wp2
            have hNb' := hNb
            go_loopw [10] (fun j wr => ∃ k : Nat, k ≤ 17 ∧ j = .int .i64 k ∧ Row wr w.heap.size 5 1 (some ⟨g, 0, none⟩) N c3 ((midL (msg B) N i R k).map bV) ∧ RdB wr (some ⟨g4, 0, none⟩) polyL ∧ Below w.heap.size w wr) (fun j _ => 17 - (intOf j).toNat)
            case atStart => exact ⟨0, by omega, rfl, h5, hP, hB5⟩
            case round =>
              clear hc h5 hP hB5
              obtain ⟨k, hk, rfl, h5, hP, hB5⟩ := hrel
              by_cases hlt2 : k < 17
              · have hc1 := h5.cell (get_bV (midL_get (msg B) N i R k (i + k) (by omega)))
                have hfr := h5.free (i + k)
                have hc2 : wr.cell? ⟨g4, 16 - k, none⟩ = some (.int .u8 ((polyB (16 - k)).toNat : Int)) := by
                  have := Rd.at_ (k := 16 - k) (v := .int .u8 ((polyB (16 - k)).toNat : Int)) hP (by
                    exact poly_cell _ (by omega))
                  rwa [add_lit] at this
                have hset := set_bV (midL (msg B) N i R k) (i + k) (midB (msg B) i R k (i + k) ^^ polyB (16 - k))
                rw [midL_set _ _ _ _ _ hlt2 HB.out] at hset
                have hmod := add_mod (midB (msg B) i R k (i + k)) (polyB (16 - k))
                have hb1 := bool_lt (midB (msg B) i R k (i + k))
                have hb2 := bool_lt (polyB (16 - k))
                generalize (midB (msg B) i R k (i + k) ^^ polyB (16 - k)).toNat = z at *
                generalize (midB (msg B) i R k (i + k)).toNat = y at *
                generalize (polyB (16 - k)).toNat = x at *
                have HSET := Lib.hid hset
                have H5 := Lib.hid h5
                have HP := Lib.hid hP
                clear hset h5 hP
                have q1 : (0 : Int) ≤ (i : Int) + (k : Int) := by omega
                have q2 : (i : Int) + (k : Int) < (N : Int) := by omega
                have q3 : (0 : Int) ≤ 16 - (k : Int) := by omega
                have q4 : (16 : Int) - (k : Int) < 17 := by omega
                have q5 : ((i : Int) + (k : Int)).toNat = i + k := by omega
                have q6 : ((16 : Int) - (k : Int)).toNat = 16 - k := by omega
                have q7 : IntKind.i64.wrap ((i : Int) + (k : Int)) = (i : Int) + (k : Int) := by rw [IntKind.wrap_i64]; omega
                have q8 : IntKind.i64.wrap ((16 : Int) - (k : Int)) = (16 : Int) - (k : Int) := by rw [IntKind.wrap_i64]; omega
                have q9 : IntKind.u8.wrap ((y : Int) + (x : Int)) = (y : Int) + (x : Int) := by rw [IntKind.wrap_u8]; omega
                go_wp2
                refine wp_region_still_tail 18 ?_ ?_ ?_
                · kernel_rfl
                · kernel_rfl
                simp only [List.take_succ_cons, List.take_zero, List.drop_succ_cons, List.drop_zero]
                repeat still_step
                refine wpStill_nil ?_
                change wpList _ _ _ _ _ wr.drew
                go_wp2
                have hrow : Row (wr.setCell ⟨g, i + k, none⟩ (.int .u8 z)).drew w.heap.size 5 1 (some ⟨g, 0, none⟩) N c3 ((midL (msg B) N i R (k + 1)).map bV) := by
                  rw [← HSET.out]; exact Row.drew (Row.set H5.out (i + k) _)
                have hbel : Below w.heap.size w (wr.setCell ⟨g, i + k, none⟩ (.int .u8 z)).drew := (hB5.setCell (p := ⟨g, i + k, none⟩) hWg _).drew
                have hpol : RdB (wr.setCell ⟨g, i + k, none⟩ (.int .u8 z)).drew (some ⟨g4, 0, none⟩) polyL := Rd.setCell HP.out (p := ⟨g, i + k, none⟩) (by intro ad e; injection e with e; subst e; show g4 ≠ g; omega) _
                go_roundw
                case rel => exact ⟨k + 1, by omega, by go_num, hrow, hpol, hbel⟩
                case measure => simp [intOf]; omega
              · obtain rfl : k = 17 := by omega
                rw [midL_end _ _ _ _ hRlt HB.out, ← HCRC.out] at h5
                go_wp2
                go_roundw
                case rel => exact ⟨i + 1, by omega, by go_num, h5, hP, hB5⟩
                case measure => simp [intOf]; omega
        · obtain rfl : i = bl.length := by omega
          have hBl : B.length = bl.length := by have := HSL.out; have := HL.out; omega
          rw [← hBl, List.take_length, HC.out] at h5
          have hcl := h5.le
          have hlc := crc_lt r l hr
          have hNB : N = B.length + 16 := HN.out.symm
          have hd : RdB wr (some ⟨g, bl.length, none⟩) (((stL (msg B) N B.length (crc r l)).drop B.length).map b2u) := by
            have := Rd.drop h5.rd bl.length
            rw [add_lit, ← List.map_drop, ← hBl] at this
            rw [← hBl]
            exact rdB_map this
          have hdl : (((stL (msg B) N B.length (crc r l)).drop B.length).map b2u).length = N - bl.length := by
            rw [List.length_map, List.length_drop, stL_len, hBl]
          have hval : valL (((stL (msg B) N B.length (crc r l)).drop B.length).map b2u) = crc r l := by
            rw [valL_map, hNB, valB_end B _ hlc]
          have HV := value_any (some ⟨g, bl.length, none⟩) _ (c3 - bl.length) wr hd (by omega) (by omega)
          rw [hdl, hval] at HV
          have HVV := Lib.hid HV
          clear HV hval hdl hd hNB hBl h5
          go_wp2_with (go_at_call 25; (with_reducible refine HVV.out.mono ?_); rintro e w5 ⟨rfl, hw5⟩; obtain rfl := hw5.symm)
          go_ret
          refine ⟨?_, hB5⟩
          rfl

set_option maxHeartbeats 400000 in
theorem refsum_any (A : Option Addr) (l : List UInt8) (c : Nat) (w : World) (hA : RdB w A l) (hl : l.length ≤ 100000) :
    Calls Try.prog 15 #[.slice A l.length c] w fun e w' => e = .returned (.int .u16 (crcSum l)) ∧ Below w.heap.size w w' := by
  have hlt := crc_lt 65535 l (by omega)
  have HE : Calls Try.prog 11 #[.int .u16 65535, .slice A l.length c] w fun e w' => e = .returned (.int .u16 (crc 65535 l)) ∧ Below w.heap.size w w' := refext_any 65535 (by omega) A l c w hA hl
  replace HE := Lib.hid HE
  unfold crcSum
  generalize crc 65535 l = r at *
  have e1 : IntKind.u16.wrap (65535 - (r : Int)) = ((65535 - r : Nat) : Int) := by rw [wrap_u16]; omega
  go_enter Try.func15, Try.ntmps15
  go_wp2_with (go_at_call 11; (with_reducible refine (HE.out).mono ?_); rintro e w1 ⟨rfl, hB⟩)
  go_ret
  exact ⟨rfl, hB⟩
end Go.Proofs.Ytecokglofocgiaa
