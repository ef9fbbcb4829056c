/- The walk of the law TopChanged. -/
import Derived.Test.YthbbmpelldglmaaDoorTopP
import Derived.Deep.RegionHeld3
import Derived.StillTailTactics
import Derived.Deep.CutBlock
namespace Go.Proofs.YthbbmpelldglmaaDoor
set_option linter.unusedVariables false
set_option linter.unusedSimpArgs false
open Go.RowKit

/-- the places of the first loop -/
def chgA (n a0 a1 a2 burst : Nat) : List Nat := if burst = 0 then [a0 % n, a1 % n, a2 % n] else []
theorem blk_zero (m n : Nat) : ∀ k, blk m 0 n k = []
  | 0 => rfl
  | k + 1 => by rw [blk_snoc, blk_zero m n k]; simp
theorem chgA_blk (n a0 a1 a2 burst : Nat) : chgA n a0 a1 a2 burst ++ blk (a0 % n) burst n 16 = chg n a0 a1 a2 burst := by
  unfold chgA chg
  by_cases h : burst = 0
  · rw [if_pos h, if_pos h, h, blk_zero, List.append_nil]
  · rw [if_neg h, if_neg h]; rfl
theorem flips_one (P : List UInt8) (l : List Nat) (p : Nat) : flips P (l ++ [p]) = flipAt (flips P l) p := by unfold flips; rw [List.foldl_append]; rfl

theorem Un.Ok.load_len {u : Un} (h : u.Ok) : u.load.length ≤ 1000000 := by
  rcases h.hk with h2 | h2 | h2
  · rw [h2.2.2]; simp
  · rw [h2.2.2]; simp
  · have := h2.2.2; omega

theorem rdS_three (w : World) (A1 A2 A3 : Option Addr) (c1 c2 c3 : Nat) (l1 l2 l3 : List UInt8) (h1 : RdB w A1 l1) (h2 : RdB w A2 l2) (h3 : RdB w A3 l3) :
    RdS (w.alloc (.cells #[.slice A1 l1.length c1, .slice A2 l2.length c2, .slice A3 l3.length c3] 27)) (some ⟨w.heap.size, 0, none⟩) [(A1, c1, l1), (A2, c2, l2), (A3, c3, l3)] := by
  intro k s hk
  match k, hk with
  | 0, hk =>
    obtain rfl : (A1, c1, l1) = s := by simpa using hk
    exact ⟨⟨_, rfl, by rw [add_lit, cell_of_row _ _ _ _ _ _ (heap_alloc_new _ _)]; rfl⟩, h1.alloc _⟩
  | 1, hk =>
    obtain rfl : (A2, c2, l2) = s := by simpa using hk
    exact ⟨⟨_, rfl, by rw [add_lit, cell_of_row _ _ _ _ _ _ (heap_alloc_new _ _)]; rfl⟩, h2.alloc _⟩
  | 2, hk =>
    obtain rfl : (A3, c3, l3) = s := by simpa using hk
    exact ⟨⟨_, rfl, by rw [add_lit, cell_of_row _ _ _ _ _ _ (heap_alloc_new _ _)]; rfl⟩, h3.alloc _⟩
  | k + 3, hk => simp at hk

set_option maxHeartbeats 4000000 in
set_option maxRecDepth 100000 in
theorem walk_TopChanged (W : World) (hFl : Flag W) (vb vf vk vs vz : Nat) (A : Option Addr) (l : List UInt8) (c : Nat) (hA : RdB W A l) (hl : l.length ≤ 140737488351232) (hb : vb < 256) (hf : vf < 256) (hk : vk < 256) (hs : vs < 256) (hz : vz < 65536)
    (a0 a1 a2 burst : Nat) (h0 : a0 < 65536) (h1 : a1 < 65536) (h2 : a2 < 65536) (h3 : burst < 65536) :
    Calls Tryd.prog 4 #[uArg vb vf vk vs vz A l c, .agg #[.int .u16 a0, .int .u16 a1, .int .u16 a2], .int .u16 burst] W fun e w' => e = .returned (.bool true) ∧ Below W.heap.size W w' := by
  have hok := uOf_ok vb vf vk vs vz l
  have hof := fun w h => of_any_unit vb vf vk vs vz A l c w h hl hb hf hk hs hz
  generalize uOf vb vf vk vs vz l = u at *
  unfold uArg at *
  have henc := fun A c w h => encode_any u hok A c w h
  have hol : 3 ≤ u.octets.length ∧ u.octets.length ≤ 276 := by have := hok.rest_len; rw [u.octets_len]; omega
  generalize hO : u.octets = O at *
  have hLD : u.load.length ≤ 1000000 := hok.load_len
  obtain ⟨back, bb, fore, fb, kind, st, load⟩ := u
  replace hLD : load.length ≤ 1000000 := hLD
  unfold Un.val at *
  simp only at hof henc
  have HOF := Lib.hid hof
  have HENC := Lib.hid henc
  have HO := Lib.hid hO
  have HOK := Lib.hid hok
  clear hof henc hO hok
  have hW := below_alloc ((Below.refl W.heap.size W).alloc (Nat.le_refl _) (.cells #[.int .u8 (vb : Int), .int .u8 (vf : Int), .int .u8 (vk : Int), .int .u8 (vs : Int), .int .u16 (vz : Int), .slice A l.length c] 41)) (.cells #[.int .u16 (a0 : Int), .int .u16 (a1 : Int), .int .u16 (a2 : Int)] 42)
  go_enter Tryd.func4, Tryd.ntmps4
  go_wp2_with fail
  with_reducible refine (HOF.out _ ((hA.alloc _).alloc _)).mono ?_
  rintro e w1 ⟨A1, rfl, hR1, hB1⟩
  go_wp2_with fail
  with_reducible refine (HENC.out A1 load.length _ (hR1.alloc _)).mono ?_
  rintro e w2 ⟨A2, rfl, hR2, hB2⟩
  go_wp2_with fail
  have hadd := fun w h => add_any A2 O O.length w h (by omega)
  have hpl : (O ++ fcs O).length = O.length + 2 := by rw [List.length_append, fcs_len]
  generalize hP : O ++ fcs O = P at *
  obtain ⟨n, hn⟩ : ∃ n, n = 8 * P.length := ⟨_, rfl⟩
  have e0 : (8 : Int) * (P.length : Int) = (n : Int) := by omega
  have hn1 : 40 ≤ n := by omega
  have hn2 : n ≤ 2224 := by omega
  have hpl2 : P.length ≤ 278 := by omega
  have HADD := Lib.hid hadd
  have HP := Lib.hid hP
  have HN := Lib.hid hn
  have HPL := Lib.hid hpl
  clear hadd hP hn hpl
  with_reducible refine (HADD.out w2 hR2.rd).mono ?_
  rintro e w3 ⟨A3, rfl, hR3, hB3⟩
  go_upto_block 0 with (first
    | ((with_reducible refine at_dst 40 rfl ?_)
       refine append_bytes rfl (.const (.slice none 0 0)) (.tmp 39) rfl w3.heap.size none 0 0 [] rfl rfl (RowB.nil _ _) A3 P.length P.length P rfl rfl hR3.rd P rfl (by omega) w3 (Below.refl _ _) (Nat.le_refl _) ?_
       intro A4 c4 w4 h4 hg4 hB4 hsz4)
    | fail)
  have bX3 := below_then (below_alloc hB1 (.cells #[.int .u8 (back : Int), .bool bb, .int .u8 (fore : Int), .bool fb, .int .u8 (kind : Int), .int .u8 (st : Int), .slice A1 load.length load.length] 45)) (below_then hB2 hB3)
  have oa3 := (bX3.block (W.heap.size + 1) (by simp)).trans (heap_alloc2_new W _ _)
  have hlt3 : W.heap.size + 2 ≤ w3.heap.size := by have := bX3.size; simp at this; omega
  have bX := below_then (below_alloc hB1 (.cells #[.int .u8 (back : Int), .bool bb, .int .u8 (fore : Int), .bool fb, .int .u8 (kind : Int), .int .u8 (st : Int), .slice A1 load.length load.length] 45)) (below_then hB2 (below_then hB3 hB4))
  have oa := (bX.block (W.heap.size + 1) (by simp)).trans (heap_alloc2_new W _ _)
  have hbW := below_then hW bX
  have hpn : 0 < n := by omega
  have m0 : a0 % n < n := Nat.mod_lt _ hpn
  have m1 : a1 % n < n := Nat.mod_lt _ hpn
  have m2 : a2 % n < n := Nat.mod_lt _ hpn
  obtain ⟨L, hL⟩ : ∃ L, L = [a0 % n, a1 % n, a2 % n] := ⟨_, rfl⟩
  go_cut [13, 14] from 21 (fun s13 s14 wc => RowB wc w3.heap.size A4 c4 (flips P (chgA n a0 a1 a2 burst)) ∧ Below w3.heap.size w3 wc)
  case first =>
    go_wp2
    go_loopw [13, 14] (fun i _ wr => ∃ k : Nat, k ≤ 3 ∧ i = .int .i64 k ∧ (burst ≠ 0 → k = 0) ∧ (∃ t, t = flips P (L.take k) ∧ RowB wr w3.heap.size A4 c4 t) ∧ Below w3.heap.size w3 wr) (fun i _ _ => 3 - (intOf i).toNat)
    case atStart => exact ⟨0, by omega, rfl, fun _ => rfl, ⟨P, rfl, h4⟩, hB4⟩
    case round =>
      clear h4 hB4
      obtain ⟨k, hk, rfl, hk0, ⟨t, ht, h4⟩, hB4⟩ := hrel
      have HK0 := Lib.hid hk0
      clear hk0
      by_cases hbz : burst = 0
      · have HBZ := Lib.hid hbz
        have e3 : ((burst : Int) == 0) = true := by rw [hbz]; rfl
        clear hbz
        by_cases hlt : k < 3
        · have har := (hB4.block (W.heap.size + 1) (by omega)).trans oa3
          have hlL : k < L.length := by rw [hL]; simpa using hlt
          obtain ⟨a, hal, ha, hac⟩ : ∃ a, a < 65536 ∧ L[k] = a % n ∧ wr.cell? ⟨W.heap.size + 1, k, none⟩ = some (.int .u16 (a : Int)) := by
            have hcc := cell_of_row wr (W.heap.size + 1) k _ _ _ har
            subst hL
            match k, hlt with
            | 0, _ => exact ⟨a0, h0, rfl, hcc⟩
            | 1, _ => exact ⟨a1, h1, rfl, hcc⟩
            | 2, _ => exact ⟨a2, h2, rfl, hcc⟩
          have htl : t.length = P.length := by rw [ht, flips_len]
          have hsn := flips_snoc P L k hlL
          rw [ha, ← ht] at hsn
          have hpn' : a % n < n := Nat.mod_lt _ hpn
          have e1 : (a : Int) % (n : Int) = ((a % n : Nat) : Int) := by simp
          have e2 : Int.tmod (a : Int) (n : Int) = ((a % n : Nat) : Int) := by rw [Int.tmod_eq_emod_of_nonneg (by omega)]; exact e1
          generalize a % n = p at *
          obtain ⟨g, e, hWg, _, hfr, _⟩ := Row.form h4 (by omega)
          subst e
          have HT := Lib.hid ht
          have hq : p / 8 < t.length := by have := HN.out; omega
          have hcell := RowB.at_ h4 (k := p / 8) hq
          have hset := RowB.set h4 (p / 8) (t[p / 8] ^^^ UInt8.ofNat (2 ^ (p % 8)))
          have hfa : t.set (p / 8) (t[p / 8] ^^^ UInt8.ofNat (2 ^ (p % 8))) = flips P (L.take (k + 1)) := by
            rw [hsn]; unfold flipAt; simp [List.getD, hq]
          have hv := flip_val t[p / 8] (p % 8) (by omega)
          have hbyte := t[p / 8].toNat_lt
          have hpw : 2 ^ (p % 8) ≤ 128 := by
            have : 2 ^ (p % 8) ≤ 2 ^ 7 := Nat.pow_le_pow_right (by decide) (by omega)
            omega
          have hfr' := hfr (p / 8)
          have hB5 := hB4.setCell (p := ⟨g, p / 8, none⟩) hWg (.int .u8 ((t[p / 8] ^^^ UInt8.ofNat (2 ^ (p % 8))).toNat : Int))
          have hpl3 : p ≤ 3000 := by omega
          have q1 : (0 : Int) ≤ (p : Int) / 8 := by omega
          have q2 : (p : Int) / 8 < (P.length : Int) := by omega
          rw [hfa] at hset
          generalize et2 : flips P (L.take (k + 1)) = t2 at *
          have ET2 := Lib.hid et2
          clear et2
          generalize (t[p / 8] ^^^ UInt8.ofNat (2 ^ (p % 8))).toNat = v at *
          generalize t[p / 8].toNat = x at *
          have HSET := Lib.hid hset
          have HV := Lib.hid hv
          have HPW := Lib.hid hpw
          have HB5 := Lib.hid hB5
          clear hset hv hfa hsn hfr hpw h4 hB5 hB4 hq htl
          have q4 : IntKind.i64.wrap ((p : Int) / 8) = (p : Int) / 8 := by rw [IntKind.wrap_i64]; omega
          have q5 : ((p : Int) / 8).toNat = p / 8 := by omega
          have q6 : Int.tmod (p : Int) 8 = ((p % 8 : Nat) : Int) := by rw [Int.tmod_eq_emod_of_nonneg (by omega)]; omega
          go_wp2
          refine wp_region_still_tail 13 ?_ ?_ ?_
          · kernel_rfl
          · kernel_rfl
          simp only [List.take_succ_cons, List.take_zero, List.drop_succ_cons, List.drop_zero]
          repeat still_step
          refine wpStill_nil ?_
          change wpList _ _ _ _ _ wr.drew
          have q7 : bits .xor .u8 (x : Int) (IntKind.u8.wrap (2 ^ ((p : Int) % 8).toNat)) = (v : Int) := by
            have e1 : ((p : Int) % 8).toNat = p % 8 := by omega
            have e2 : (2 : Int) ^ (p % 8) = ((2 ^ (p % 8) : Nat) : Int) := by simp
            have := HPW.out
            rw [e1, e2, u8_nat _ (by omega)]
            exact HV.out
          go_wp2
          go_roundw
          case rel => exact ⟨k + 1, by omega, by go_num, fun h => absurd HBZ.out h, ⟨t2, ET2.out.symm, HSET.out⟩, HB5.out.drew⟩
          case measure => simp [intOf]; omega
        · obtain rfl : k = 3 := by omega
          rw [show L.take 3 = L by rw [hL]; rfl] at ht
          have hfin : t = flips P (chgA n a0 a1 a2 burst) := by rw [ht, chgA, if_pos HBZ.out, ← hL]
          rw [hfin] at h4
          clear hfin ht
          generalize flips P (chgA n a0 a1 a2 burst) = T1 at *
          go_wp2
          go_meet
          case rel => exact ⟨h4, hB4⟩
      · have HBZ := Lib.hid hbz
        have e3 : ((burst : Int) == 0) = false := by simp; omega
        clear hbz
        obtain rfl : k = 0 := HK0.out HBZ.out
        have hfin : t = flips P (chgA n a0 a1 a2 burst) := by rw [ht, chgA, if_neg HBZ.out]; rfl
        rw [hfin] at h4
        clear hfin ht
        generalize flips P (chgA n a0 a1 a2 burst) = T1 at *
        go_wp2
        go_meet
        case rel => exact ⟨h4, hB4⟩
  case rest =>
    obtain ⟨h5, hB5⟩ := hcut
    clear h4 hB4
    go_upto_block 2 with fail
    go_cut [15, 16] from 21 (fun s15 s16 wx => RowB wx w3.heap.size A4 c4 (flips P (chg n a0 a1 a2 burst)) ∧ Below w3.heap.size w3 wx)
    case first =>
      have hlen1 := flips_len P (chgA n a0 a1 a2 burst)
      have HLEN1 := Lib.hid hlen1
      clear hlen1
      go_wp2
      go_loopw [15, 16] (fun i _ wr => ∃ k : Nat, k ≤ 16 ∧ i = .int .i64 k ∧ (∃ t, t = flips P (chgA n a0 a1 a2 burst ++ blk (a0 % n) burst n k) ∧ RowB wr w3.heap.size A4 c4 t) ∧ Below w3.heap.size w3 wr) (fun i _ _ => 16 - (intOf i).toNat)
      case atStart => exact ⟨0, by omega, rfl, ⟨_, by rw [show blk (a0 % n) burst n 0 = [] from rfl, List.append_nil], h5⟩, hB5⟩
      case round =>
        clear h5 hB5
        obtain ⟨k, hk, rfl, ⟨t, ht, h4⟩, hB4⟩ := hrel
        by_cases hlt : k < 16
        · have har := (hB4.block (W.heap.size + 1) (by omega)).trans oa3
          have hca : wr.cell? ⟨W.heap.size + 1, 0, none⟩ = some (.int .u16 (a0 : Int)) := cell_of_row wr (W.heap.size + 1) 0 _ _ _ har
          clear har
          have htl : t.length = P.length := by rw [ht, flips_len]
          have hbit := and_bit burst k h3
          have hsn := blk_snoc (a0 % n) burst n k
          have e1 : (a0 : Int) % (n : Int) = ((a0 % n : Nat) : Int) := by simp
          have e2 : Int.tmod (a0 : Int) (n : Int) = ((a0 % n : Nat) : Int) := by rw [Int.tmod_eq_emod_of_nonneg (by omega)]; exact e1
          generalize a0 % n = m at *
          have HT := Lib.hid ht
          clear ht
          cases hb : burst.testBit k with
          | false =>
            rw [hb] at hbit
            replace hbit : bits .and .u16 ((burst : Int) / 2 ^ k) 1 = 0 := hbit
            have hl0 : blk m burst n (k + 1) = blk m burst n k := by rw [hsn, hb]; simp
            have HL := Lib.hid hl0
            clear hl0 hb hsn
            go_wp2
            go_roundw
            case rel => exact ⟨k + 1, by omega, by go_num, ⟨t, by rw [HL.out]; exact HT.out, h4⟩, hB4⟩
            case measure => simp [intOf]; omega
          | true =>
            rw [hb] at hbit
            replace hbit : bits .and .u16 ((burst : Int) / 2 ^ k) 1 = 1 := hbit
            obtain ⟨p, hp0⟩ : ∃ p, p = m + k := ⟨_, rfl⟩
            have e5 : (m : Int) + (k : Int) = (p : Int) := by omega
            by_cases hp : p < n
            · have hl0 : blk m burst n (k + 1) = blk m burst n k ++ [p] := by rw [hsn, hb, hp0]; simp [hp0 ▸ hp]
              have hp' : (p : Int) < (n : Int) := by omega
              have hfl := flips_one P (chgA n a0 a1 a2 burst ++ blk m burst n k) p
              rw [List.append_assoc, ← hl0, ← HT.out] at hfl
              obtain ⟨g, e, hWg, _, hfr, _⟩ := Row.form h4 (by omega)
              subst e
              have hq : p / 8 < t.length := by have := HN.out; omega
              have hcell := RowB.at_ h4 (k := p / 8) hq
              have hset := RowB.set h4 (p / 8) (t[p / 8] ^^^ UInt8.ofNat (2 ^ (p % 8)))
              have hfa : t.set (p / 8) (t[p / 8] ^^^ UInt8.ofNat (2 ^ (p % 8))) = flips P (chgA n a0 a1 a2 burst ++ blk m burst n (k + 1)) := by
                rw [hfl]; unfold flipAt; simp [List.getD, hq]
              have hv := flip_val t[p / 8] (p % 8) (by omega)
              have hbyte := t[p / 8].toNat_lt
              have hpw : 2 ^ (p % 8) ≤ 128 := by
                have : 2 ^ (p % 8) ≤ 2 ^ 7 := Nat.pow_le_pow_right (by decide) (by omega)
                omega
              have hfr' := hfr (p / 8)
              have hB5 := hB4.setCell (p := ⟨g, p / 8, none⟩) hWg (.int .u8 ((t[p / 8] ^^^ UInt8.ofNat (2 ^ (p % 8))).toNat : Int))
              have hpl3 : p ≤ 3000 := by omega
              have q1 : (0 : Int) ≤ (p : Int) / 8 := by omega
              have q2 : (p : Int) / 8 < (P.length : Int) := by omega
              rw [hfa] at hset
              generalize et2 : flips P (chgA n a0 a1 a2 burst ++ blk m burst n (k + 1)) = t2 at *
              generalize (t[p / 8] ^^^ UInt8.ofNat (2 ^ (p % 8))).toNat = v at *
              generalize t[p / 8].toNat = x at *
              have ET2 := Lib.hid et2
              have HSET := Lib.hid hset
              have HV := Lib.hid hv
              have HPW := Lib.hid hpw
              have HB5 := Lib.hid hB5
              clear et2 hset hv hfa hfl hfr hpw h4 hB5 hB4 hq htl hl0 hsn hp hp0
              have q4 : IntKind.i64.wrap ((p : Int) / 8) = (p : Int) / 8 := by rw [IntKind.wrap_i64]; omega
              have q5 : ((p : Int) / 8).toNat = p / 8 := by omega
              have q6 : Int.tmod (p : Int) 8 = ((p % 8 : Nat) : Int) := by rw [Int.tmod_eq_emod_of_nonneg (by omega)]; omega
              have HBB := Lib.hid hb
              clear hb
              go_wp2
              refine wp_region_still_tail 13 ?_ ?_ ?_
              · kernel_rfl
              · kernel_rfl
              simp only [List.take_succ_cons, List.take_zero, List.drop_succ_cons, List.drop_zero]
              repeat still_step
              refine wpStill_nil ?_
              change wpList _ _ _ _ _ wr.drew
              have q7 : bits .xor .u8 (x : Int) (IntKind.u8.wrap (2 ^ ((p : Int) % 8).toNat)) = (v : Int) := by
                have e1 : ((p : Int) % 8).toNat = p % 8 := by omega
                have e2 : (2 : Int) ^ (p % 8) = ((2 ^ (p % 8) : Nat) : Int) := by simp
                have := HPW.out
                rw [e1, e2, u8_nat _ (by omega)]
                exact HV.out
              go_wp2
              go_roundw
              case rel => exact ⟨k + 1, by omega, by go_num, ⟨t2, ET2.out.symm, HSET.out⟩, HB5.out.drew⟩
              case measure => simp [intOf]; omega
            · have hl0 : blk m burst n (k + 1) = blk m burst n k := by rw [hsn, hb]; simp; omega
              have hp' : ¬ ((p : Int) < (n : Int)) := by omega
              have HL := Lib.hid hl0
              clear hl0 hb hsn hp hp0
              go_wp2
              go_roundw
              case rel => exact ⟨k + 1, by omega, by go_num, ⟨t, by rw [HL.out]; exact HT.out, h4⟩, hB4⟩
              case measure => simp [intOf]; omega
        · obtain rfl : k = 16 := by omega
          rw [chgA_blk] at ht
          rw [ht] at h4
          clear ht
          generalize flips P (chg n a0 a1 a2 burst) = T1 at *
          go_wp2
          go_meet
          case rel => exact ⟨h4, hB4⟩
    case rest =>
      obtain ⟨h6, hB6⟩ := hcut
      clear h5 hB5
      have hF2 : Flag w3 := hFl.below (below_then hW bX3)
      have hob : ∃ o, Held (flips P (chg n a0 a1 a2 burst)) o ∧ ((flips P (chg n a0 a1 a2 burst) = P ∧ o = some ⟨back, bb, fore, fb, kind, st, load⟩) ∨ (flips P (chg n a0 a1 a2 burst) ≠ P ∧ o = none)) := by
        by_cases hnil : chg n a0 a1 a2 burst = []
        · exact ⟨some ⟨back, bb, fore, fb, kind, st, load⟩, by rw [hnil]; exact ⟨HOK.out, by rw [HO.out]; exact HP.out.symm⟩, .inl ⟨by rw [hnil]; rfl, rfl⟩⟩
        · have hz := chg_seen n a0 a1 a2 burst (by omega) hnil
          have hn9 : n = 8 * (O.length + 2) := by rw [HN.out, HPL.out]
          rw [hn9] at hz
          have h1 := held_bad O _ (by omega) hz
          have h2 := chg_same O _ hz
          rw [← hn9, HP.out] at h1 h2
          exact ⟨none, h1, .inr ⟨h2, rfl⟩⟩
      have htl := flips_len P (chg n a0 a1 a2 burst)
      generalize flips P (chg n a0 a1 a2 burst) = t at *
      obtain ⟨o, ho1, ho2⟩ := hob
      have HTL := Lib.hid htl
      have HO1 := Lib.hid ho1
      have HO2 := Lib.hid ho2
      have hj := join_any (some ⟨wc.heap.size, 0, none⟩) [(A3, P.length, P), (A4, c4, t), (A3, P.length, P)] 3 _ (rdS_three wc A3 A4 A3 P.length c4 P.length P t P (hR3.rd.below hB6) h6.rd (hR3.rd.below hB6)) (by simp) (by intro s hs; simp at hs; rcases hs with rfl | rfl | rfl <;> exact ⟨by simp only; omega, by simp only; omega⟩) ((hF2.below hB6).alloc _)
      rw [show conts [(A3, P.length, P), (A4, c4, t), (A3, P.length, P)] = [P, t, P] from rfl, show ([(A3, P.length, P), (A4, c4, t), (A3, P.length, P)] : List (Option Addr × Nat × List UInt8)).length = 3 from rfl, htl] at hj
      have hds : ∀ d ∈ [P, t, P], 5 ≤ d.length ∧ d.length ≤ 280 := by intro d hd; simp at hd; rcases hd with rfl | rfl | rfl <;> omega
      have hrun := run_joined [P, t, P] fresh0 [] run_first hds 3 (by simp)
      rw [show [P, t, P].take 3 = [P, t, P] from rfl, List.nil_append] at hrun
      have hjl := joined_len [P, t, P] (fun d hd => (hds d hd).2) 3 (by simp)
      rw [show [P, t, P].take 3 = [P, t, P] from rfl] at hjl
      have hsame := same_any A4 A3 t P c4 P.length
      rw [htl] at hsame
      generalize joined [P, t, P] = J at *
      have HJ := Lib.hid hj
      have HRUN := Lib.hid hrun
      have HDS := Lib.hid hds
      have HSAME := Lib.hid hsame
      clear htl ho1 ho2 hj hrun hds hsame
      go_wp2_with fail
      with_reducible refine HJ.out.mono ?_
      rintro e w7 ⟨A7, rfl, hR7, hB7⟩
      go_wp2_with fail
      with_reducible refine (new_any w7).mono ?_
      rintro e w8 ⟨rfl, hSc, hB8⟩
      have hlow : Low w7.heap.size A7 := fun ad e => by
        have := (Row.lt hR7 ad.block (by rw [e]; rfl)).2
        exact this
      go_wp2_with fail
      have hun := unitsOf_any w7.heap.size w7.heap.size fresh0 (start [P, t, P]) A7 J J.length [some ⟨back, bb, fore, fb, kind, st, load⟩, o, some ⟨back, bb, fore, fb, kind, st, load⟩] w8 hSc HRUN.out (hR7.rd.below hB8) hlow (by omega) (by decide) (by decide) (by decide) rfl (by simp [start]) (fun d hd => (HDS.out d hd).2) (by
        intro k o' d h1 h2
        match k, h1, h2 with
        | 0, h1, h2 => simp [start] at h1 h2; subst h1; subst h2; exact ⟨HOK.out, by rw [HO.out]; exact HP.out.symm⟩
        | 1, h1, h2 => simp [start] at h1 h2; subst h1; subst h2; exact HO1.out
        | 2, h1, h2 => simp [start] at h1 h2; subst h1; subst h2; exact ⟨HOK.out, by rw [HO.out]; exact HP.out.symm⟩
        | k + 3, h1, h2 => simp at h1)
      with_reducible refine hun.mono ?_
      rintro e w9 ⟨A9, c9, us, he, hus, hrow, hB9⟩
      have hw39 := below_then hB6 (below_then (below_alloc (Below.refl wc.heap.size wc) (.cells #[.slice A3 P.length P.length, .slice A4 P.length c4, .slice A3 P.length P.length] 27)) (below_then hB7 (hB8.trans hB9)))
      have hbx := below_then (below_then hW bX3) hw39
      have hs9 := HSAME.out w9 (h6.rd.below (below_then (below_alloc (Below.refl wc.heap.size wc) (.cells #[.slice A3 P.length P.length, .slice A4 P.length c4, .slice A3 P.length P.length] 27)) (below_then hB7 (hB8.trans hB9)))) (hR3.rd.below hw39) (by omega)
      rcases HO2.out with ⟨hy, ho⟩ | ⟨hy, ho⟩
      · rw [decide_eq_true hy] at hs9
        subst ho
        have hl3 : us.length = 3 := by have := congrArg List.length hus; simpa [goods] using this
        have hb0 : ((bads [some (⟨back, bb, fore, fb, kind, st, load⟩ : Un), some ⟨back, bb, fore, fb, kind, st, load⟩, some ⟨back, bb, fore, fb, kind, st, load⟩] : Nat) : Int) = 0 := rfl
        rw [hl3, hb0] at he
        subst he
        have HS9 := Lib.hid hs9
        clear hs9 hus hrow hb0 hl3 hy hun
        go_wp2_with fail
        with_reducible refine HS9.out.mono ?_
        rintro e w10 ⟨rfl, n10, rfl⟩
        go_wp2_with fail
        with_reducible refine (bottom_any _ (hFl.below (below_drewN hbx n10))).mono ?_
        rintro e w11 ⟨rfl, hB11⟩
        go_wp2_with fail
        go_ret
        exact ⟨rfl, below_then (below_drewN hbx n10) hB11⟩
      · rw [decide_eq_false hy] at hs9
        subst ho
        have hb1 : ((bads [some (⟨back, bb, fore, fb, kind, st, load⟩ : Un), none, some ⟨back, bb, fore, fb, kind, st, load⟩] : Nat) : Int) = 1 := rfl
        obtain ⟨Aa, Ab, rfl⟩ : ∃ Aa Ab, us = [((⟨back, bb, fore, fb, kind, st, load⟩ : Un), Aa), (⟨back, bb, fore, fb, kind, st, load⟩, Ab)] := by
          have hus2 : us.map (·.1) = [(⟨back, bb, fore, fb, kind, st, load⟩ : Un), ⟨back, bb, fore, fb, kind, st, load⟩] := hus
          match us, hus2 with
          | [(a, x), (b, y)], h =>
            simp only [List.map_cons, List.map_nil, List.cons.injEq, and_true] at h
            obtain ⟨ha, hb⟩ := h
            subst ha
            subst hb
            exact ⟨x, y, rfl⟩
        rw [hb1] at he
        simp only [List.length_cons, List.length_nil, Nat.zero_add, Nat.reduceAdd] at he
        subst he
        have hra := (hrow.2 _ (List.mem_cons_self ..)).1
        have hrb := (hrow.2 _ (List.mem_cons_of_mem _ (List.mem_cons_self ..))).1
        obtain ⟨g, eg, _, hglt, _, hcell⟩ := Row.form hrow.1 (by simp)
        subst eg
        have hlt1 : w1.heap.size < w3.heap.size := by have h1 : w1.heap.size + 1 ≤ w2.heap.size := by simpa using hB2.size
                                                      have h2 := hB3.size
                                                      omega
        have o7 := (hw39.block w1.heap.size hlt1).trans (((below_then hB2 hB3).block w1.heap.size (by simp)).trans (heap_alloc_new w1 _))
        have hr1 := ((hR1.alloc (.cells #[.int .u8 (back : Int), .bool bb, .int .u8 (fore : Int), .bool fb, .int .u8 (kind : Int), .int .u8 (st : Int), .slice A1 load.length load.length] 45)).below (below_then hB2 hB3)).below hw39
        have hld : load.length ≤ 1000000 := hLD
        have y0 : ∀ w', Below w9.heap.size w9 w' → w'.cell? ⟨g, 0, none⟩ = some (.int .u8 (back : Int)) := fun w' h => cell_later h (hcell 0 _ rfl)
        have y1 : ∀ w', Below w9.heap.size w9 w' → w'.cell? ⟨g, 1, none⟩ = some (.bool bb) := fun w' h => cell_later h (hcell 1 _ rfl)
        have y2 : ∀ w', Below w9.heap.size w9 w' → w'.cell? ⟨g, 2, none⟩ = some (.int .u8 (fore : Int)) := fun w' h => cell_later h (hcell 2 _ rfl)
        have y3 : ∀ w', Below w9.heap.size w9 w' → w'.cell? ⟨g, 3, none⟩ = some (.bool fb) := fun w' h => cell_later h (hcell 3 _ rfl)
        have y4 : ∀ w', Below w9.heap.size w9 w' → w'.cell? ⟨g, 4, none⟩ = some (.int .u8 (kind : Int)) := fun w' h => cell_later h (hcell 4 _ rfl)
        have y5 : ∀ w', Below w9.heap.size w9 w' → w'.cell? ⟨g, 5, none⟩ = some (.int .u8 (st : Int)) := fun w' h => cell_later h (hcell 5 _ rfl)
        have y6 : ∀ w', Below w9.heap.size w9 w' → w'.cell? ⟨g, 6, none⟩ = some (.slice Aa load.length load.length) := fun w' h => cell_later h (hcell 6 _ rfl)
        have x0 : ∀ w', Below w9.heap.size w9 w' → w'.cell? ⟨g, 7, none⟩ = some (.int .u8 (back : Int)) := fun w' h => cell_later h (hcell 7 _ rfl)
        have x1 : ∀ w', Below w9.heap.size w9 w' → w'.cell? ⟨g, 8, none⟩ = some (.bool bb) := fun w' h => cell_later h (hcell 8 _ rfl)
        have x2 : ∀ w', Below w9.heap.size w9 w' → w'.cell? ⟨g, 9, none⟩ = some (.int .u8 (fore : Int)) := fun w' h => cell_later h (hcell 9 _ rfl)
        have x3 : ∀ w', Below w9.heap.size w9 w' → w'.cell? ⟨g, 10, none⟩ = some (.bool fb) := fun w' h => cell_later h (hcell 10 _ rfl)
        have x4 : ∀ w', Below w9.heap.size w9 w' → w'.cell? ⟨g, 11, none⟩ = some (.int .u8 (kind : Int)) := fun w' h => cell_later h (hcell 11 _ rfl)
        have x5 : ∀ w', Below w9.heap.size w9 w' → w'.cell? ⟨g, 12, none⟩ = some (.int .u8 (st : Int)) := fun w' h => cell_later h (hcell 12 _ rfl)
        have x6 : ∀ w', Below w9.heap.size w9 w' → w'.cell? ⟨g, 13, none⟩ = some (.slice Ab load.length load.length) := fun w' h => cell_later h (hcell 13 _ rfl)
        have z0 : ∀ w', Below w9.heap.size w9 w' → w'.cell? ⟨w1.heap.size, 0, none⟩ = some (.int .u8 (back : Int)) := fun w' h => cell_later h (cell_of_row _ _ 0 _ _ _ o7)
        have z1 : ∀ w', Below w9.heap.size w9 w' → w'.cell? ⟨w1.heap.size, 1, none⟩ = some (.bool bb) := fun w' h => cell_later h (cell_of_row _ _ 1 _ _ _ o7)
        have z2 : ∀ w', Below w9.heap.size w9 w' → w'.cell? ⟨w1.heap.size, 2, none⟩ = some (.int .u8 (fore : Int)) := fun w' h => cell_later h (cell_of_row _ _ 2 _ _ _ o7)
        have z3 : ∀ w', Below w9.heap.size w9 w' → w'.cell? ⟨w1.heap.size, 3, none⟩ = some (.bool fb) := fun w' h => cell_later h (cell_of_row _ _ 3 _ _ _ o7)
        have z4 : ∀ w', Below w9.heap.size w9 w' → w'.cell? ⟨w1.heap.size, 4, none⟩ = some (.int .u8 (kind : Int)) := fun w' h => cell_later h (cell_of_row _ _ 4 _ _ _ o7)
        have z5 : ∀ w', Below w9.heap.size w9 w' → w'.cell? ⟨w1.heap.size, 5, none⟩ = some (.int .u8 (st : Int)) := fun w' h => cell_later h (cell_of_row _ _ 5 _ _ _ o7)
        have z6 : ∀ w', Below w9.heap.size w9 w' → w'.cell? ⟨w1.heap.size, 6, none⟩ = some (.slice A1 load.length load.length) := fun w' h => cell_later h (cell_of_row _ _ 6 _ _ _ o7)
        have hm1 : ∀ w', Below w9.heap.size w9 w' → Calls Tryd.prog 23 #[.agg #[.int .u8 (back : Int), .bool bb, .int .u8 (fore : Int), .bool fb, .int .u8 (kind : Int), .int .u8 (st : Int), .slice Aa load.length load.length], .agg #[.int .u8 (back : Int), .bool bb, .int .u8 (fore : Int), .bool fb, .int .u8 (kind : Int), .int .u8 (st : Int), .slice A1 load.length load.length]] w' fun e w2 => e = .returned (.bool true) ∧ Below w'.heap.size w' w2 :=
          fun w' h => unitSame_yes ⟨back, bb, fore, fb, kind, st, load⟩ Aa A1 load.length load.length w' (hra.rd.below h) (hr1.below h) hld
        have hm2 : ∀ w', Below w9.heap.size w9 w' → Calls Tryd.prog 23 #[.agg #[.int .u8 (back : Int), .bool bb, .int .u8 (fore : Int), .bool fb, .int .u8 (kind : Int), .int .u8 (st : Int), .slice Ab load.length load.length], .agg #[.int .u8 (back : Int), .bool bb, .int .u8 (fore : Int), .bool fb, .int .u8 (kind : Int), .int .u8 (st : Int), .slice A1 load.length load.length]] w' fun e w2 => e = .returned (.bool true) ∧ Below w'.heap.size w' w2 :=
          fun w' h => unitSame_yes ⟨back, bb, fore, fb, kind, st, load⟩ Ab A1 load.length load.length w' (hrb.rd.below h) (hr1.below h) hld
        have hbt := fun w' (h : Below w9.heap.size w9 w') => bottom_any w' (hFl.below (below_then hbx h))
        have HM1 := Lib.hid hm1
        have HM2 := Lib.hid hm2
        have HBT := Lib.hid hbt
        have HS9 := Lib.hid hs9
        have HBX := Lib.hid hbx
        clear hs9 hus hrow hb1 hy hun hm1 hm2 hbt hra hrb hr1 o7 hcell hbx
        go_wp2_with fail
        with_reducible refine HS9.out.mono ?_
        rintro e w10 ⟨rfl, n10, hw10⟩
        have hB10 : Below w9.heap.size w9 w10 := by rw [hw10]; exact below_drewN (Below.refl _ _) n10
        clear hw10
        clear hR1 hB1 hR2 hB2 hR3 hB3 hR7 hB7 hB8 hB9 hSc bX3 bX hW hbW h6 hB6 hF2 hw39 hA hFl
        go_wp2_with fail
        go_region_held3 (fun w' => Below w9.heap.size w9 w')
          (first | exact hB10.drew | exact below_then (by assumption) hS1 | exact below_then (by assumption) hS2 | exact below_then (by assumption) hS3 | fail)
          (first
            | (go_at_call 23; (with_reducible refine (HM1.out _ (by assumption)).mono ?_); rintro e w11 ⟨rfl, hS1⟩)
            | (go_at_call 23; (with_reducible refine (HM2.out _ (by assumption)).mono ?_); rintro e w12 ⟨rfl, hS2⟩)
            | (go_at_call 22; (with_reducible refine (HBT.out _ (by assumption)).mono ?_); rintro e w13 ⟨rfl, hS3⟩)
            | fail)
        all_goals go_wp2_with fail
        all_goals go_ret
        all_goals exact ⟨rfl, below_then HBX.out (by assumption)⟩
end Go.Proofs.YthbbmpelldglmaaDoor
