/- Law 38: 'SubscribersFlip'. -/
import Derived.Test.YthbbmpelldglmaaDoorSubscribersFlipM7
import Derived.Deep.RegionHeld3
import Derived.Deep.CutBlock
import Derived.StillTailTactics
namespace Go.Proofs.YthbbmpelldglmaaDoor
set_option linter.unusedVariables false
set_option linter.unusedSimpArgs false
open Go.RowKit

theorem flip_val2 (x : UInt8) (m : Nat) (h : m < 8) : bits .xor .u8 (x.toNat : Int) ((2 ^ m : Nat) : Int) = ((x ^^^ UInt8.ofNat (2 ^ m)).toNat : Int) := by
  rw [UInt8.toNat_xor, pow_byte m h, xor_u8 _ _ x.toNat_lt]
  have : 2 ^ m ≤ 2 ^ 7 := Nat.pow_le_pow_right (by decide) (by omega)
  omega
/-- the greatest i whose end lies at most at q -/
theorem endAt_ents (l : List Ac) (i : Nat) : endAt l i = (entsE S00 ((eds l).take i)).length := by unfold endAt; rw [Sk_log]
theorem eds_len (l : List Ac) : (eds l).length = l.length := by unfold eds; simp

set_option maxHeartbeats 8000000 in
set_option maxRecDepth 100000 in
theorem walk_SubscribersFlip (w : World) (A : Option Addr) (l : List Ac) (c : Nat) (hA : ActRd w A l) (hgo : ∀ a ∈ l, a.Go) (hlc : l.length ≤ maxLen) (p : Nat) (hp : p < 65536) :
    Calls Tryd.prog 6 #[.slice A l.length c, .int .u16 (p : Int)] w fun e w' => e = .returned (.bool true) ∧ Below w.heap.size w w' := by
  have hliv := fun W => lives38_any W
  have hnew := storeNew_any w
  have HLIV := Lib.hid hliv
  have HNEW := Lib.hid hnew
  have HGO := Lib.hid hgo
  clear hliv hnew hgo
  simp only [maxLen] at hlc
  go_enter Tryd.func6, Tryd.ntmps6
  by_cases h60 : 40 < l.length
  · have q1 : (40 : Int) < (l.length : Int) := by omega
    go_wp2_with (first
      | (go_at_call 29; (with_reducible refine (HLIV.out _).mono ?_); rintro e w1 ⟨rfl, hB1⟩)
      | fail)
    go_ret
    exact ⟨rfl, hB1⟩
  have q1 : ¬ (40 : Int) < (l.length : Int) := by omega
  go_upto_block 0 with (first
    | (go_at_call 24; (with_reducible refine HNEW.out.mono ?_); rintro e w1 ⟨rfl, h1, hB1⟩)
    | fail)
  obtain ⟨w2, hw2⟩ : ∃ v, v = w1.alloc (.cells #[.slice none 0 0, .slice none 0 0] 76) := ⟨_, rfl⟩
  obtain ⟨gm, hgm⟩ : ∃ v, v = w1.heap.size := ⟨_, rfl⟩
  have hb2 : Below w1.heap.size w1 w2 := by rw [hw2]; exact (Below.refl _ _).alloc (Nat.le_refl _) _
  have hfour : Four w w2 l 0 w.heap.size gm [w.heap.size] [gm] none 0 none 0 [] := by
    refine ⟨⟨h1.below hb2, ⟨none, 0, none, 0, by simp [blk], by rw [hw2, hgm]; exact heap_alloc_new w1 _, Row.nil _ _ _ _, Row.nil _ _ _ _⟩, hB1.trans (hb2.mono hB1.size), by simp, by rw [hgm]; simpa using hB1.size⟩, Row.nil _ _ _ _, Row.nil _ _ _ _, fun i g hg => by simp at hg, rfl⟩
  rw [← hw2, ← hgm]
  have HFOUR := Lib.hid hfour
  clear hw2 hgm hb2 hfour h1 hB1
  go_wp2_with fail
  go_loopw [7, 8, 9] (fun ev mv iv wr => ∃ (k : Nat) (F FM : List Nat) (A7 A8 : Option Addr) (c7 c8 : Nat) (gl : List Nat), k ≤ l.length ∧ iv = .int .i64 k ∧ ev = .slice A7 k c7 ∧ mv = .slice A8 k c8 ∧ Hid (Four w wr l k w.heap.size gm F FM A7 c7 A8 c8 gl))
    (fun _ _ iv _ => l.length - (intOf iv).toNat)
  case atStart => exact ⟨0, _, _, _, _, _, _, _, Nat.zero_le _, rfl, rfl, rfl, HFOUR⟩
  case round =>
    obtain ⟨k, F, FM, A7, A8, c7, c8, gl, hk, rfl, rfl, rfl, H4⟩ := hrel
    by_cases hlt : k < l.length
    · obtain ⟨b0, off, rfl, -⟩ := hA k hlt
      have hac : ∀ W, Below w.heap.size w W → ∀ j (hj : j < 5), W.cell? ⟨b0, off + k * 5 + j, none⟩ = some (l[k].cells[j]'hj) := fun W hb j hj => by
        obtain ⟨b1, off1, e, hc⟩ := hA.below hb k hlt
        cases e
        exact hc j hj
      have hdo := fun W F (h : StAt W w.heap.size F (Sk l k)) => do_any l[k] (HGO.out _ (List.getElem_mem hlt)) W w.heap.size F (Sk l k) h (Sk_fit HGO.out k) (by have := Sk_puts l k; omega) (by have := Sk_len HGO.out k; omega)
      have hmo := fun W FM (h : ModAt W gm FM (Sk l k).homes (Sk l k).visits) => modDo_any l[k] (HGO.out _ (List.getElem_mem hlt)) W gm FM (Sk l k) (Sk_fit HGO.out k) h (by have := Sk_lens l k; omega) (by have := Sk_lens l k; omega)
      unfold Done at hdo
      unfold ModDone at hmo
      rw [← Sk_succ l k hlt] at hdo hmo
      generalize l[k] = x at *
      generalize x.edit.er (Sk l k) = er at *
      obtain ⟨xk, xi, xn, xp, xf⟩ := x
      have HAC : Hid (∀ W, Below w.heap.size w W → W.cell? ⟨b0, off + k * 5, none⟩ = some (.int .u8 (xk : Int)) ∧ W.cell? ⟨b0, off + k * 5 + 1, none⟩ = some (.int .u8 (xi : Int)) ∧ W.cell? ⟨b0, off + k * 5 + 2, none⟩ = some (.int .u8 (xn : Int)) ∧ W.cell? ⟨b0, off + k * 5 + 3, none⟩ = some (.int .u16 (xp : Int)) ∧ W.cell? ⟨b0, off + k * 5 + 4, none⟩ = some (.int .u8 (xf : Int))) :=
        Lib.hid fun W hb => ⟨hac W hb 0 (by decide), hac W hb 1 (by decide), hac W hb 2 (by decide), hac W hb 3 (by decide), hac W hb 4 (by decide)⟩
      unfold Ac.val Ac.cells at hdo hmo
      simp only at hdo hmo
      have HDO := Lib.hid hdo
      have HMO := Lib.hid hmo
      have HLT := Lib.hid hlt
      have q3 : (0 : Int) ≤ (k : Int) := by omega
      have q4 : (k : Int) < (l.length : Int) := by omega
      have q5 : k ≤ 40 := by omega
      have HD : Hid (Four w wr.drew l k w.heap.size gm F FM A7 c7 A8 c8 gl) := Lib.hid (H4.out.later (Below.refl _ _).drew)
      have hlen := fun k' (h : k' ≤ 41) => show (Sk l k').log.length ≤ 100000000 by have := Sk_len HGO.out k'; omega
      have HLEN := Lib.hid hlen
      clear hdo hmo hac H4 hlen
      go_upto_region 10 with fail
      go_region_held3 (fun w' => w'.cell? ⟨b0, off + k * 5, none⟩ = some (.int .u8 (xk : Int)) ∧ w'.cell? ⟨b0, off + k * 5 + 1, none⟩ = some (.int .u8 (xi : Int)) ∧ w'.cell? ⟨b0, off + k * 5 + 2, none⟩ = some (.int .u8 (xn : Int)) ∧ w'.cell? ⟨b0, off + k * 5 + 3, none⟩ = some (.int .u16 (xp : Int)) ∧ w'.cell? ⟨b0, off + k * 5 + 4, none⟩ = some (.int .u8 (xf : Int)))
        (first | exact HAC.out _ HD.out.two.below | exact HAC.out _ HH2.out.2.1 | exact HAC.out _ HM3.out.two.below | fail)
        (first
          | (go_at_call 30; (with_reducible refine (HDO.out _ _ HD.out.two.st).mono ?_); rintro e w3 ⟨F3, rfl, h3, hc3, hn3⟩
             have HH2 := Lib.hid (HD.out.two.half hc3 hn3)
             have HS3 := Lib.hid (And.intro h3 (And.intro hc3 hn3))
             clear h3 hc3 hn3)
          | (go_at_call 31; (with_reducible refine (HMO.out _ _ HH2.out.1).mono ?_); rintro e w4 ⟨FM4, rfl, h4, hc4, hn4⟩
             have HM3 := Lib.hid (HD.out.mid HS3.out.1 HS3.out.2.1 HS3.out.2.2 h4 hc4 hn4)
             clear h4 hc4 hn4))
      clear HD HH2 HS3 HDO HMO HAC
      have hlg := fun W F (h : StAt W w.heap.size F (Sk l (k + 1))) => storeLog_any W w.heap.size F (Sk l (k + 1)) h (HLEN.out (k + 1) (by omega))
      have hcp := fun W FM (h : ModAt W gm FM (Sk l (k + 1)).homes (Sk l (k + 1)).visits) => copied_any W gm FM _ _ h (by have := Sk_lens l (k + 1); omega) (by have := Sk_lens l (k + 1); omega)
      rw [show (Sk l (k + 1)).log.length = endAt l (k + 1) from rfl] at hlg
      have HLG := Lib.hid hlg
      have HCP := Lib.hid hcp
      clear hlg hcp
      go_wp2_with (first
        | (go_at_call 27; (with_reducible refine (HLG.out _ _ HM3.out.two.st).mono ?_); rintro e w5 ⟨A5, rfl, h5, hB5⟩
           have HM5 := Lib.hid ((HM3.out.later hB5).later ((Below.refl w5.heap.size w5).alloc (Nat.le_refl _) (.cells #[.int .i64 (endAt l (k + 1) : Int)] 3)))
           have hsz5 : w.heap.size ≤ (w5.alloc (.cells #[.int .i64 (endAt l (k + 1) : Int)] 3)).heap.size := HM5.out.two.below.size
           clear h5)
        | ((with_reducible refine at_dst 48 rfl ?_)
           refine wpList_append_row rfl (.tmp 43) (.tmp 47) 77 rfl w.heap.size 3 _ 1 8 Tryd.underlying77 infoInt rfl A7 k c7 _ rfl HM5.out.ends (some ⟨w5.heap.size, 0, none⟩) 1 1 [.int .i64 (endAt l (k + 1) : Int)] rfl
             (rd_cells _ _ _ _ (heap_alloc_new _ _)) rfl (by intro v hv; simp at hv; subst hv; rfl) (by simp only [maxLen]; omega) (by omega) hsz5 ?_
           intro A9 c9 w6 h6 hg6 _
           rw [← endsV_succ] at h6
           have HE6 := Lib.hid (HM5.out.ends2 hg6 h6)
           clear h6 hg6)
        | (go_at_call 32; (with_reducible refine (HCP.out _ _ HE6.out.1.md).mono ?_); rintro e w7 ⟨g7, F7, rfl, h7, hB7, hF7⟩
           have hB8 : Below w6.heap.size w6 (w7.alloc (.cells #[.pointer (some ⟨g7, 0, none⟩)] 73)) := below_alloc hB7 _
           have HC7 := Lib.hid (And.intro (h7.below ((Below.refl w7.heap.size w7).alloc (Nat.le_refl _) (.cells #[.pointer (some ⟨g7, 0, none⟩)] 73))) hF7)
           have HR7 := Lib.hid (HE6.out.2.2.1.below hB8)
           have hsz7 : w.heap.size ≤ (w7.alloc (.cells #[.pointer (some ⟨g7, 0, none⟩)] 73)).heap.size := Nat.le_trans HE6.out.1.below.size hB8.size
           clear h7 hF7)
        | ((with_reducible refine at_dst 53 rfl ?_)
           refine wpList_append_row rfl (.tmp 49) (.tmp 52) 78 rfl w.heap.size 73 _ 1 8 Tryd.underlying78 infoPM rfl A8 k c8 _ rfl HR7.out (some ⟨w7.heap.size, 0, none⟩) 1 1 [.pointer (some ⟨g7, 0, none⟩)] rfl
             (rd_cells _ _ _ _ (heap_alloc_new _ _)) rfl (by intro v hv; simp at hv; subst hv; rfl) (by simp only [maxLen]; omega) (by omega) hsz7 ?_
           intro A10 c10 w8 h8 hg8 _
           have HN := Lib.hid (four_next (A8' := A10) (c8' := c10) HE6.out.1 HE6.out.2.1 HE6.out.2.2.1 HE6.out.2.2.2 HM3.out.len hB8 HC7.out.1 HC7.out.2 hg8 (by rw [List.map_append]; exact h8))
           clear h8 hg8)
        | fail)
      go_roundw
      case rel => exact ⟨k + 1, _, _, A9, A10, c9, c10, _, by have := HLT.out; omega, by go_num, rfl, rfl, HN⟩
      case measure => have := HLT.out; simp [intOf]; omega
    · obtain rfl : k = l.length := by omega
      have hlen : (Sk l l.length).log.length ≤ 2440 := by have := Sk_len HGO.out l.length; omega
      have hlg := fun W F (h : StAt W w.heap.size F (Sk l l.length)) => storeLog_any W w.heap.size F (Sk l l.length) h (by omega)
      have hLe := log_all l
      obtain ⟨L, hL⟩ : ∃ L, L = (Sk l l.length).log := ⟨_, rfl⟩
      rw [← hL] at hlg hLe hlen
      have HLG := Lib.hid hlg
      have HLE := Lib.hid hLe
      clear hlg hLe hL
      go_upto_region 14 with (first
        | (go_at_call 27; (with_reducible refine (HLG.out _ _ H4.out.two.st).mono ?_); rintro e w5 ⟨A10, rfl, h5, hB5⟩
           have H5 := Lib.hid (H4.out.later hB5)
           have HR5 := Lib.hid h5
           clear h5)
        | fail)
      by_cases hL0 : L.length = 0
      · have q2 : (L.length : Int) = 0 := by omega
        have HB5 := Lib.hid H5.out.two.below
        go_wp2_with (first
          | (go_at_call 29; (with_reducible refine (HLIV.out _).mono ?_); rintro e w6 ⟨rfl, hB6⟩)
          | fail)
        go_ret
        exact ⟨rfl, HB5.out.trans (hB6.mono HB5.out.size)⟩
      · obtain ⟨bit, hbit⟩ : ∃ v, v = p % (8 * L.length) := ⟨_, rfl⟩
        have hbl : bit < 8 * L.length := by rw [hbit]; exact Nat.mod_lt _ (by omega)
        have t1 : Int.tmod (p : Int) (8 * (L.length : Int)) = (bit : Int) := by rw [Int.tmod_eq_emod_of_nonneg (by omega), hbit]; simp
        have t2 : ((L.length : Int) == 0) = false := by simp; intro h; exact hL0 (by rw [h]; rfl)
        have t6 : ¬ 8 * (L.length : Int) = 0 := by omega
        have t3 : Int.tdiv (bit : Int) 8 = ((bit / 8 : Nat) : Int) := by rw [Int.tdiv_eq_ediv_of_nonneg (by omega)]; rfl
        have t4 : bit / 8 < L.length := by omega
        have t5 : bit ≤ 20000 := by omega
        have HL0 := Lib.hid hL0
        have HBIT := Lib.hid hbl
        clear hbit hL0 hbl
        go_upto_region 19 with fail
        obtain ⟨w9, hw9⟩ : ∃ v, v = w5.alloc (.cells #[.slice none 0 0, .slice none 0 0] 76) := ⟨_, rfl⟩
        have hb9 : Below w5.heap.size w5 w9 := by rw [hw9]; exact (Below.refl _ _).alloc (Nat.le_refl _) _
        have H9 := Lib.hid (H5.out.later hb9)
        have HR9 := Lib.hid (RowB.below HR5.out hb9)
        have HZ : Hid (∃ F', ModAt w9 w5.heap.size F' (Sk l 0).homes (Sk l 0).visits) := Lib.hid ⟨_, none, 0, none, 0, rfl, by rw [hw9]; exact heap_alloc_new w5 _, Row.nil _ _ _ _, Row.nil _ _ _ _⟩
        rw [← hw9]
        generalize w5.heap.size = g9 at *
        clear hw9 hb9 H5 HR5
        have hE0 : endAt l 0 = 0 := rfl
        go_wp2_with fail
        go_loopw [12, 13, 14] (fun bv mv iv wr2 => ∃ (i gw : Nat), i ≤ l.length ∧ iv = .int .i64 i ∧ bv = .int .i64 (endAt l (lastE S00 (eds l) (bit / 8) i) : Int) ∧ mv = .pointer (some ⟨gw, 0, none⟩) ∧ Hid (∃ F', ModAt w9 gw F' (Sk l (lastE S00 (eds l) (bit / 8) i)).homes (Sk l (lastE S00 (eds l) (bit / 8) i)).visits) ∧ wr2 = w9)
          (fun _ _ iv _ => l.length - (intOf iv).toNat)
        case atStart => exact ⟨0, g9, Nat.zero_le _, rfl, rfl, rfl, HZ, rfl⟩
        case round =>
          obtain ⟨i, gw, hi, rfl, rfl, rfl, HW, rfl⟩ := hrel
          by_cases hilt : i < l.length
          · obtain ⟨g7, rfl, -⟩ := Row.form H9.out.ends (by omega)
            obtain ⟨g8, rfl, -⟩ := Row.form H9.out.mods (by omega)
            have ce : wr.cell? ⟨g7, i, none⟩ = some (.int .i64 (endAt l (i + 1) : Int)) := Row.cell H9.out.ends (endsV_get l _ i hilt)
            obtain ⟨gi, hgi⟩ : ∃ g, gl[i]? = some g := ⟨_, List.getElem?_eq_getElem (by rw [H9.out.len]; exact hilt)⟩
            have cm : wr.cell? ⟨g8, i, none⟩ = some (.pointer (some ⟨gi, 0, none⟩)) := Row.cell H9.out.mods (by rw [List.getElem?_map, hgi]; rfl)
            obtain ⟨Fi, hFi, -⟩ := H9.out.models i gi hgi
            have hls : lastE S00 (eds l) (bit / 8) (i + 1) = if endAt l (i + 1) ≤ bit / 8 then i + 1 else lastE S00 (eds l) (bit / 8) i := by
              rw [endAt_ents]; rfl
            have HFI := Lib.hid hFi
            have HLS := Lib.hid hls
            have HILT := Lib.hid hilt
            have r1 : (0 : Int) ≤ (i : Int) := by omega
            have r2 : (i : Int) < (l.length : Int) := by omega
            have r3 : i ≤ 40 := by omega
            clear hFi hls
            generalize hE : endAt l (i + 1) = E at *
            have HE := Lib.hid hE
            clear hE
            by_cases hle : E ≤ bit / 8
            · have r4 : (E : Int) ≤ ((bit / 8 : Nat) : Int) := by omega
              have HLE2 := Lib.hid hle
              clear hle
              go_wp2_with fail
              go_roundw
              case rel =>
                have e := HLS.out
                rw [if_pos HLE2.out] at e
                exact ⟨i + 1, gi, by have := HILT.out; omega, by go_num, by rw [e, HE.out], rfl, by rw [e]; exact Lib.hid ⟨_, HFI.out⟩, by trivial⟩
              case measure => have := HILT.out; simp [intOf]; omega
            · have r4 : ¬ (E : Int) ≤ ((bit / 8 : Nat) : Int) := by omega
              have HLE2 := Lib.hid hle
              clear hle
              go_wp2_with fail
              go_roundw
              case rel =>
                have e := HLS.out
                rw [if_neg HLE2.out] at e
                exact ⟨i + 1, gw, by have := HILT.out; omega, by go_num, by rw [e], rfl, by rw [e]; exact HW, by trivial⟩
              case measure => have := HILT.out; simp [intOf]; omega
          · obtain rfl : i = l.length := by omega
            obtain ⟨hK1, hK2, -⟩ := lastE_le S00 (eds l) (bit / 8) l.length
            rw [← endAt_ents] at hK2
            generalize hK : lastE S00 (eds l) (bit / 8) l.length = K at *
            generalize hE : endAt l K = E at *
            have HK := Lib.hid hK
            have HE := Lib.hid hE
            clear hK hE
            by_cases hs : bit / 8 < E + 2
            · have r4 : ((bit / 8 : Nat) : Int) < (E : Int) + 2 := by omega
              have HB9 := Lib.hid H9.out.two.below
              have r5 : E ≤ 20000 := by omega
              clear hs
              go_wp2_with (first
                | (go_at_call 29; (with_reducible refine (HLIV.out _).mono ?_); rintro e w6 ⟨rfl, hB6⟩)
                | fail)
              go_ret
              exact ⟨rfl, HB9.out.trans (hB6.mono HB9.out.size)⟩
            · have r4 : ¬ ((bit / 8 : Nat) : Int) < (E : Int) + 2 := by omega
              have r5 : E ≤ 20000 := by omega
              go_upto_region 27 with fail
              obtain ⟨g10, rfl, -⟩ := Row.form HR9.out (by omega)
              obtain ⟨F', hmw⟩ := HW.out
              have hcell := RowB.at_ HR9.out t4
              have hfr : wr.frozen? ⟨g10, bit / 8, none⟩ = false := Row.free HR9.out _
              have hset := RowB.set HR9.out (bit / 8) (L[bit / 8] ^^^ UInt8.ofNat (2 ^ (bit % 8)))
              have hfa : L.set (bit / 8) (L[bit / 8] ^^^ UInt8.ofNat (2 ^ (bit % 8))) = flipAt L bit := by
                unfold flipAt
                simp [List.getD, t4]
              rw [hfa] at hset
              have hv := flip_val2 L[bit / 8] (bit % 8) (by omega)
              have hbyte := L[bit / 8].toNat_lt
              have hpw : 2 ^ (bit % 8) ≤ 128 := by
                have : 2 ^ (bit % 8) ≤ 2 ^ 7 := Nat.pow_le_pow_right (by decide) (by omega)
                omega
              have hg10 : wr.heap.size > g10 := (Row.lt HR9.out _ rfl).2
              have hcs : Chg [g10] wr (wr.setCell ⟨g10, bit / 8, none⟩ (.int .u8 ((L[bit / 8] ^^^ UInt8.ofNat (2 ^ (bit % 8))).toNat : Int))) := (Chg.refl _ _).setCell (by simp) _
              have hmw2 := hmw.chg hcs (fun j hj hj2 => mod_row hmw HR9.out (by decide) j hj (by simp at hj2; subst hj2; exact mem_blk.2 rfl))
              have hge : w.heap.size ≤ g10 := Nat.le_trans H4.out.two.below.size (Row.ge HR9.out)
              have hBs := H9.out.two.below.trans (hcs.below (by simp; exact hge) H9.out.two.below.size)
              generalize (L[bit / 8] ^^^ UInt8.ofNat (2 ^ (bit % 8))).toNat = v at *
              generalize hxx : L[bit / 8].toNat = xx at *
              have HSET := Lib.hid hset
              have HMW := Lib.hid hmw2
              have HBS := Lib.hid hBs
              have HV := Lib.hid hv
              have HPW := Lib.hid hpw
              clear hset hfa hmw hmw2 hcs hBs hv hpw HW hxx
              have q6 : Int.tmod (bit : Int) 8 = ((bit % 8 : Nat) : Int) := by rw [Int.tmod_eq_emod_of_nonneg (by omega)]; omega
              have q4' : IntKind.i64.wrap ((bit : Int) / 8) = (bit : Int) / 8 := by rw [IntKind.wrap_i64]; omega
              have q5' : ((bit : Int) / 8).toNat = bit / 8 := by omega
              have q1' : (0 : Int) ≤ (bit : Int) / 8 := by omega
              have q2' : (bit : Int) / 8 < (L.length : Int) := by omega
              refine wp_region_still_tail 10 ?_ ?_ ?_
              · kernel_rfl
              · kernel_rfl
              simp only [List.take_succ_cons, List.take_zero, List.drop_succ_cons, List.drop_zero]
              repeat still_step
              refine wpStill_nil ?_
              change wpList _ _ _ _ _ wr.drew
              have q7 : bits .xor .u8 (xx : Int) (IntKind.u8.wrap (2 ^ ((bit : Int) % 8).toNat)) = (v : Int) := by
                have e1 : ((bit : Int) % 8).toNat = bit % 8 := by omega
                have e2 : (2 : Int) ^ (bit % 8) = ((2 ^ (bit % 8) : Nat) : Int) := by simp
                have := HPW.out
                rw [e1, e2, u8_nat _ (by omega)]
                exact HV.out
              have hrep : ∀ W, RdB W (some ⟨g10, 0, none⟩) (flipAt L bit) → Calls Tryd.prog 33 #[.slice (some ⟨g10, 0, none⟩) L.length L.length] W fun e w' => ∃ g F' T, e = .returned (.tuple #[.pointer (some ⟨g, 0, none⟩), .int .i64 (E : Int)]) ∧ (T.homes = (Sk l K).homes ∧ T.visits = (Sk l K).visits ∧ T.Fit ∧ T.puts ≤ 4096) ∧ StAt w' g F' T ∧ Below W.heap.size W w' := fun W h => by
                have hra := replay_any W (some ⟨g10, 0, none⟩) L.length (flipAt L bit) h (by rw [flipAt_len]; exact Nat.le_refl _) (by omega) (by rw [flipAt_len]; omega)
                rw [flipAt_len] at hra
                refine hra.mono ?_
                rintro e w' ⟨g, F', T, n, rfl, h1, h2, h3, h4, h5, h6⟩
                have hp8 : (entsE S00 ((eds l).take (lastE S00 (eds l) (bit / 8) (eds l).length))).length = E := by
                  rw [eds_len, HK.out, ← endAt_ents]; exact HE.out
                obtain ⟨T2, p1, p2⟩ := play_flip (S' := S00) (eds l) S00_fit (eds_go HGO.out) (SameR.refl _) bit (by rw [← HLE.out]; exact t4) (by rw [hp8]; omega)
                rw [hp8, ← HLE.out] at p1
                rw [eds_len, HK.out] at p2
                obtain ⟨rfl, rfl⟩ := p1.one h1
                refine ⟨g, F', { T2 with log := (flipAt L bit).take E, dur := E }, rfl, ⟨p2.1.symm, p2.2.symm, SameR.fit (S := T2) ⟨rfl, rfl⟩ h2, ?_⟩, h4, h5⟩
                show T2.puts ≤ 4096
                have := h1.le
                rw [flipAt_len] at this
                omega
              have hag := fun W g F' T (h : StAt W g F' T) (hm : ModAt W gw F' T.homes T.visits) => True
              have HREP := Lib.hid hrep
              clear hrep hag
              have hKl := Sk_lens l K
              have HKL := Lib.hid hKl
              clear hKl
              go_wp2_with (first
                | (go_at_call 33; (with_reducible refine (HREP.out _ (RowB.rd HSET.out).drew).mono ?_); rintro e w12 ⟨g12, F12, T12, rfl, hT12, h12, hB12d⟩
                   have hB12 := below_then ((Below.refl _ _).drew) hB12d
                   have HT12 := Lib.hid hT12
                   have HS12 := Lib.hid h12
                   have HMW12 := Lib.hid (show ModAt w12 gw F' T12.homes T12.visits by rw [hT12.1, hT12.2.1]; exact HMW.out.below hB12)
                   have HL12 := Lib.hid (show T12.homes.length ≤ 100000 ∧ T12.visits.length ≤ 100000 ∧ T12.puts ≤ 100000 by rw [hT12.1, hT12.2.1]; have := HKL.out; have := hT12.2.2.2; omega)
                   have hB13 := HBS.out.trans (hB12.mono HBS.out.size)
                   clear hT12 h12)
                | (go_at_call 34; (with_reducible refine (agrees_any _ _ _ _ _ _ HS12.out HT12.out.2.2.1 HL12.out.2.2 HMW12.out HL12.out.1 HL12.out.2.1).mono ?_); rintro e w14 ⟨rfl, hB14⟩
                   have hB15 := hB13.trans (hB14.mono hB13.size))
                | (go_at_call 29; (with_reducible refine (HLIV.out _).mono ?_); rintro e w16 ⟨rfl, hB16⟩
                   have hB17 := hB15.trans (hB16.mono hB15.size))
                | fail)
              go_ret
              exact ⟨rfl, hB17⟩
end Go.Proofs.YthbbmpelldglmaaDoor
