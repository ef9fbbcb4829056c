/- Law 38: 'SubscribersReplay'. -/
import Derived.Test.YthbbmpelldglmaaDoorSubscribersReplayM6
import Derived.Deep.RegionHeld3
import Derived.Deep.CutBlock
namespace Go.Proofs.YthbbmpelldglmaaDoor
set_option linter.unusedVariables false
set_option linter.unusedSimpArgs false
open Go.RowKit

set_option maxHeartbeats 8000000 in
set_option maxRecDepth 100000 in
theorem walk_SubscribersReplay (w : World) (A : Option Addr) (l : List Ac) (c : Nat) (hA : ActRd w A l) (hgo : ∀ a ∈ l, a.Go) (hlc : l.length ≤ maxLen) (B : Option Addr) (b : List UInt8) (cb : Nat) (hb : RdB w B b) (hbc : b.length ≤ cb) :
    Calls Tryd.prog 8 #[.slice A l.length c, .slice B b.length cb] w fun e w' => e = .returned (.bool true) ∧ Below w.heap.size w w' := by
  have hliv := fun W => lives38_any W
  have hnew := storeNew_any w
  have HLIV := Lib.hid hliv
  have HNEW := Lib.hid hnew
  have HGO := Lib.hid hgo
  clear hliv hnew hgo
  simp only [maxLen] at hlc
  go_enter Tryd.func8, Tryd.ntmps8
  by_cases h60 : 60 < l.length
  · have q1 : (60 : Int) < (l.length : Int) := by omega
    go_wp2_with (first
      | (go_at_call 29; (with_reducible refine (HLIV.out _).mono ?_); rintro e w1 ⟨rfl, hB1⟩)
      | fail)
    go_ret
    exact ⟨rfl, hB1⟩
  by_cases h200 : 200 < b.length
  · have q1 : ¬ (60 : Int) < (l.length : Int) := by omega
    have q2 : (200 : Int) < (b.length : Int) := by omega
    go_wp2_with (first
      | (go_at_call 29; (with_reducible refine (HLIV.out _).mono ?_); rintro e w1 ⟨rfl, hB1⟩)
      | fail)
    go_ret
    exact ⟨rfl, hB1⟩
  have q1 : ¬ (60 : Int) < (l.length : Int) := by omega
  have q2 : ¬ (200 : Int) < (b.length : Int) := by omega
  go_wp2_with (first
    | (go_at_call 24; (with_reducible refine HNEW.out.mono ?_); rintro e w1 ⟨rfl, h1, hB1⟩)
    | fail)
  go_loopw [6] (fun iv wr => ∃ (k : Nat) (F : List Nat), k ≤ l.length ∧ iv = .int .i64 k ∧ StAt wr w.heap.size F (Sk l k) ∧ Below w.heap.size w wr ∧ Hid (∀ i ∈ F, w.heap.size ≤ i))
    (fun iv _ => l.length - (intOf iv).toNat)
  case atStart => exact ⟨0, _, Nat.zero_le _, rfl, h1, hB1, Lib.hid (by simp)⟩
  case round =>
    obtain ⟨k, F, hk, rfl, hSt, hB, HF⟩ := hrel
    by_cases hlt : k < l.length
    · obtain ⟨b0, off, rfl, hc⟩ := hA.below hB k hlt
      have hdo := do_any l[k] (HGO.out _ (List.getElem_mem hlt)) wr w.heap.size F (Sk l k) hSt (Sk_fit HGO.out k) (by have := Sk_puts l k; omega) (by have := Sk_len HGO.out k; omega)
      have hsucc := Sk_succ l k hlt
      generalize l[k] = x at *
      obtain ⟨xk, xi, xn, xp, xf⟩ := x
      have c0 : wr.cell? ⟨b0, off + k * 5, none⟩ = some (.int .u8 (xk : Int)) := hc 0 (by decide)
      have c1 : wr.cell? ⟨b0, off + k * 5 + 1, none⟩ = some (.int .u8 (xi : Int)) := hc 1 (by decide)
      have c2 : wr.cell? ⟨b0, off + k * 5 + 2, none⟩ = some (.int .u8 (xn : Int)) := hc 2 (by decide)
      have c3 : wr.cell? ⟨b0, off + k * 5 + 3, none⟩ = some (.int .u16 (xp : Int)) := hc 3 (by decide)
      have c4 : wr.cell? ⟨b0, off + k * 5 + 4, none⟩ = some (.int .u8 (xf : Int)) := hc 4 (by decide)
      unfold Ac.val Ac.cells at hdo
      simp only at hdo
      have HDO := Lib.hid hdo
      have HSUCC := Lib.hid hsucc
      have HLT := Lib.hid hlt
      have q3 : (0 : Int) ≤ (k : Int) := by omega
      have q4 : (k : Int) < (l.length : Int) := by omega
      have q5 : k ≤ 60 := by omega
      clear hdo hsucc hc hSt
      go_wp2_with (first
        | (go_at_call 30; (with_reducible refine HDO.out.mono ?_); rintro e w2 ⟨F2, rfl, h2, hc2, hn2⟩)
        | fail)
      go_roundw
      case rel =>
        refine ⟨k + 1, F2, by have := HLT.out; omega, by go_num, by rw [HSUCC.out]; exact h2, hB.trans (hc2.below HF.out hB.size), Lib.hid (fun i hi => ?_)⟩
        exact (hn2 i hi).elim (fun h => HF.out i h) (fun h => by have := hB.size; omega)
      case measure => have := HLT.out; simp [intOf]; omega
    · obtain rfl : k = l.length := by omega
      have hlen : (Sk l l.length).log.length ≤ 3660 := by have := Sk_len HGO.out l.length; omega
      have hlg := fun W F (h : StAt W w.heap.size F (Sk l l.length)) => storeLog_any W w.heap.size F (Sk l l.length) h (by omega)
      have hfit := Sk_fit HGO.out l.length
      have hpts := Sk_puts l l.length
      have hlns := Sk_lens l l.length
      have hLe := log_all l
      have hall := Sk_all l
      generalize Sk l l.length = S at *
      have hrep : ∀ W A4, RdB W A4 S.log → Calls Tryd.prog 33 #[.slice A4 S.log.length S.log.length] W fun e w' => ∃ g F' T, e = .returned (.tuple #[.pointer (some ⟨g, 0, none⟩), .int .i64 (S.log.length : Int)]) ∧ (SameR S T ∧ T.Fit ∧ T.puts ≤ 4096 ∧ T.log = S.log ∧ T.dur = S.log.length) ∧ StAt w' g F' T ∧ Below W.heap.size W w' ∧ ∀ i ∈ F', W.heap.size ≤ i := fun W A4 h => by
        refine (replay_any W A4 S.log.length S.log h (Nat.le_refl _) (by omega) (by omega)).mono ?_
        rintro e w' ⟨g, F', T, n, rfl, h1, h2, h3, h4, h5, h6⟩
        obtain ⟨T2, p1, p2⟩ := play_all (S' := S00) (eds l) S00_fit (eds_go HGO.out) (SameR.refl _)
        rw [← hLe] at p1
        obtain ⟨rfl, rfl⟩ := p1.one h1
        rw [← hall] at p2
        exact ⟨g, F', { T2 with log := S.log.take S.log.length, dur := S.log.length }, rfl, ⟨⟨p2.1, p2.2⟩, SameR.fit (S := T2) ⟨rfl, rfl⟩ h2, by show T2.puts ≤ 4096; omega, by show S.log.take _ = _; rw [List.take_length], rfl⟩, h4, h5, h6⟩
      have hrep2 : ∀ W A4 c4, RdB W A4 (S.log ++ b) → (S.log ++ b).length ≤ c4 → c4 ≤ maxLen → Calls Tryd.prog 33 #[.slice A4 (S.log.length + b.length) c4] W fun e w' => ∃ (g : Nat) (F' : List Nat) (T : St) (m : Nat), e = .returned (.tuple #[.pointer (some ⟨g, 0, none⟩), .int .i64 (m : Int)]) ∧ (S.log.length ≤ m ∧ m ≤ S.log.length + b.length ∧ (b.length < 6 → m = S.log.length) ∧ (m = S.log.length → SameR S T) ∧ T.Fit ∧ T.puts ≤ 4096 ∧ T.log.length = m) ∧ StAt w' g F' T ∧ Below W.heap.size W w' := fun W A4 c4 h hc4 hm4 => by
        simp only [maxLen] at hm4
        have hra := replay_any W A4 c4 (S.log ++ b) h hc4 hm4 (by rw [List.length_append]; omega)
        rw [List.length_append] at hra
        refine hra.mono ?_
        rintro e w' ⟨g, F', T, n, rfl, h1, h2, h3, h4, h5, h6⟩
        rw [hLe] at h1
        obtain ⟨p1, p2, p3, p4⟩ := play_more (S' := S00) (eds l) S00_fit (eds_go HGO.out) (SameR.refl _) b h1
        rw [← hLe] at p1 p2 p3 p4
        rw [← hall] at p4
        exact ⟨g, F', { T with log := (S.log ++ b).take n, dur := n }, n, rfl, ⟨p1, p2, p3, fun e => ⟨(p4 e).1, (p4 e).2⟩, SameR.fit (S := T) ⟨rfl, rfl⟩ h2, by show T.puts ≤ 4096; omega, by show ((S.log ++ b).take n).length = n; rw [List.length_take, List.length_append]; omega⟩, h4, h5⟩
      have hsame : ∀ W gt FT T, StAt W w.heap.size F S → StAt W gt FT T → SameR S T → T.Fit → T.puts ≤ 4096 → Calls Tryd.prog 41 #[.pointer (some ⟨gt, 0, none⟩), .pointer (some ⟨w.heap.size, 0, none⟩)] W fun e w' => e = .returned (.bool true) ∧ Below W.heap.size W w' := fun W gt FT T h1 h2 h3 h4 h5 =>
        same38_any W gt w.heap.size FT F T S h2 h1 h4 hfit (by omega) (by omega) h3.1 h3.2 (by rw [← h3.1]; omega) (by rw [← h3.2]; omega)
      have HLG := Lib.hid hlg
      have HREP := Lib.hid hrep
      have HREP2 := Lib.hid hrep2
      have HSAME := Lib.hid hsame
      have HST := Lib.hid hSt
      clear hlg hrep hrep2 hsame hSt hLe hall hfit hlns hpts
      generalize hL : S.log = L at *
      go_upto_region 10 with (first
        | (go_at_call 27; (with_reducible refine (HLG.out _ _ HST.out).mono ?_); rintro e w4 ⟨A4, rfl, h4, hB4⟩
           have HR4 := Lib.hid h4
           have HST4 := Lib.hid (HST.out.below hB4)
           have hB5 := hB.trans (hB4.mono hB.size)
           clear h4)
        | (go_at_call 33; (with_reducible refine (HREP.out _ _ (RowB.rd HR4.out)).mono ?_); rintro e w5 ⟨g5, F5, T, rfl, hT, h5, hB6, hF5⟩
           have HT := Lib.hid hT
           have HS5 := Lib.hid h5
           have HF5 := Lib.hid hF5
           have HST5 := Lib.hid (HST4.out.below hB6)
           have HL5 := Lib.hid ((RowB.rd HR4.out).below hB6)
           have hB7 := hB5.trans (hB6.mono hB5.size)
           clear hT h5 hF5)
        | fail)
      have hcvL : ∀ w', RdB w' A4 L → (convert 27 9 (.slice A4 L.length L.length)).run Tryd.prog w' = .ok (encStr L) w' := fun w' h => conv_text h rfl
      have H4 : Hid (∀ W, Below w4.heap.size w4 W → StAt W w.heap.size F S ∧ RdB W A4 L) := Lib.hid fun W h => ⟨HST4.out.below h, (RowB.rd HR4.out).below h⟩
      have H5 : Hid (∀ W, Below w5.heap.size w5 W → StAt W w.heap.size F S ∧ StAt W g5 F5 T ∧ RdB W A4 L) := Lib.hid fun W h => ⟨HST5.out.below h, HS5.out.below h, HL5.out.below h⟩
      have hsy := fun W (h : StAt W g5 F5 T) => storeSync_any W g5 F5 T h
      rw [HT.out.2.2.2.1] at hsy
      have HSY := Lib.hid hsy
      have hl7 := fun W F7 (h : StAt W g5 F7 { T with dur := L.length }) => storeLog_any W g5 F7 { T with dur := L.length } h (by show T.log.length ≤ _; rw [HT.out.2.2.2.1]; omega)
      simp only [HT.out.2.2.2.1] at hl7
      have HL7 := Lib.hid hl7
      clear hsy hl7
      go_cut [64] from 12 (fun cv wx => cv = .bool false ∧ Hid (Below w4.heap.size w4 wx))
      case first =>
        have hcv5 := hcvL _ HL5.out.drew
        have HCV := Lib.hid hcvL
        clear hcvL
        go_region_with (first
            | (go_at_call 41; (with_reducible refine (HSAME.out _ _ _ _ (H5.out _ (Below.refl _ _).drew).1 (H5.out _ (Below.refl _ _).drew).2.1 HT.out.1 HT.out.2.1 HT.out.2.2.1).mono ?_); rintro e w6 ⟨rfl, hB8⟩
               have hB9 := below_then ((Below.refl w5.heap.size w5).drew) hB8
               have hcv6 := HCV.out _ (H5.out _ hB9).2.2)
            | (go_at_call 42; (with_reducible refine (HSY.out _ (H5.out _ hB9).2.1).mono ?_); rintro e w8 ⟨F8, rfl, h8, hc8, hn8⟩
               have HS8 := Lib.hid h8
               have hB10 : Below w4.heap.size w4 w8 := (below_then hB6 hB9).trans (hc8.below HF5.out (by have := hB6.size; have := hB9.size; omega))
               have hcv8 := HCV.out _ (H4.out _ hB10).2
               clear h8 hc8 hn8)
            | (go_at_call 27; (with_reducible refine (HL7.out _ _ HS8.out).mono ?_); rintro e w9 ⟨A9, rfl, h9, hB11⟩
               have hB12 := below_then hB10 hB11
               have hcv9 := conv_text (c := L.length) (RowB.rd h9) rfl
               have hcvX := HCV.out _ (H4.out _ hB12).2)
            | fail)
        all_goals go_wp2_with fail
        all_goals go_meet
        all_goals exact ⟨rfl, Lib.hid hB12⟩
      case rest =>
        obtain ⟨rfl, HBX⟩ := hcut
        have H6 := Lib.hid (H4.out _ HBX.out)
        have hB12 := hB5.trans (HBX.out.mono hB5.size)
        clear hB6 hB7 H5 hcvL
        have hlb : (L ++ b).length = L.length + b.length := List.length_append
        go_upto_region 13 with (first
          | ((with_reducible refine at_dst 67 rfl ?_)
             refine append_bytes rfl (.const (.slice none 0 0)) (.tmp 66) rfl wc.heap.size none 0 0 [] rfl rfl (RowB.nil _ _) A4 L.length L.length L rfl rfl H6.out.2 L rfl (by omega) wc (Below.refl _ _) (Nat.le_refl _) ?_
             intro A7 c7 w7 h7 hg7 hB13 hs7)
          | ((with_reducible refine at_dst 69 rfl ?_)
             refine append_bytes rfl (.tmp 67) (.tmp 68) rfl wc.heap.size A7 L.length c7 L rfl rfl h7 B b.length cb b rfl rfl (hb.below (hB12.trans (hB13.mono hB12.size))) (L ++ b) rfl (by omega) wc hB13 hs7 ?_
             intro A8 c8 w8 h8 hg8 hB14 hs8
             have HR8 := Lib.hid h8
             have HR8d := Lib.hid (RowB.rd h8)
             have HR8l := Lib.hid (Row.le h8)
             have HR8c := Lib.hid (Row.cap_le h8)
             have HS8 := Lib.hid (H6.out.1.below hB14)
             have hB15 := hB12.trans (hB14.mono hB12.size)
             clear h7 h8 hg7 hg8)
          | (go_at_call 33; (with_reducible refine (HREP2.out _ _ _ HR8d.out HR8l.out HR8c.out).mono ?_); rintro e w10 ⟨g10, F10, U, m, rfl, hU, h10, hB16⟩
             have HU := Lib.hid hU
             have HS10 := Lib.hid h10
             have HST10 := Lib.hid (HS8.out.below hB16)
             have hB17 := hB15.trans (hB16.mono hB15.size)
             clear hU h10)
          | fail)
        obtain ⟨m1, m2, m3, m4, m5, m6, m7⟩ := HU.out
        have hl10 := storeLog_any w10 g10 F10 U HS10.out (by omega)
        rw [m7] at hl10
        have HL10 := Lib.hid hl10
        have HM4 := Lib.hid m4
        have HM5 := Lib.hid (And.intro m5 m6)
        clear hl10 m4 m5 m6 m7 hlb
        have r1 : ¬ (m : Int) < (L.length : Int) := by omega
        have r2 : ¬ ((L.length : Int) + (b.length : Int) < (m : Int)) := by omega
        have HH : Hid (Hid (L.length ≤ m) ∧ Hid (m ≤ L.length + b.length)) := Lib.hid ⟨Lib.hid m1, Lib.hid m2⟩
        clear m1 m2
        by_cases hm : m = L.length
        · have HSR := Lib.hid (HM4.out hm)
          clear HM4
          obtain rfl := hm.symm
          by_cases hb6 : b.length < 6
          · have r3 : (b.length : Int) < 6 := by omega
            clear hb6 m3
            go_wp2_with (first
              | (go_at_call 27; (with_reducible refine HL10.out.mono ?_); rintro e w11 ⟨A11, rfl, h11, hB18⟩
                 have HS11 := Lib.hid (HS10.out.below hB18)
                 have HST11 := Lib.hid (HST10.out.below hB18)
                 have hB19 := hB17.trans (hB18.mono hB17.size)
                 clear h11)
              | (go_at_call 41; (with_reducible refine (HSAME.out _ _ _ _ HST11.out HS11.out HSR.out HM5.out.1 HM5.out.2).mono ?_); rintro e w12 ⟨rfl, hB20⟩
                 have hB21 := hB19.trans (hB20.mono hB19.size))
              | (go_at_call 29; (with_reducible refine (HLIV.out _).mono ?_); rintro e w13 ⟨rfl, hB22⟩
                 have hB23 := hB21.trans (hB22.mono hB21.size))
              | fail)
            go_ret
            exact ⟨rfl, hB23⟩
          · have r3 : ¬ (b.length : Int) < 6 := by omega
            clear hb6 m3
            go_wp2_with (first
              | (go_at_call 27; (with_reducible refine HL10.out.mono ?_); rintro e w11 ⟨A11, rfl, h11, hB18⟩
                 have HS11 := Lib.hid (HS10.out.below hB18)
                 have HST11 := Lib.hid (HST10.out.below hB18)
                 have hB19 := hB17.trans (hB18.mono hB17.size)
                 clear h11)
              | (go_at_call 41; (with_reducible refine (HSAME.out _ _ _ _ HST11.out HS11.out HSR.out HM5.out.1 HM5.out.2).mono ?_); rintro e w12 ⟨rfl, hB20⟩
                 have hB21 := hB19.trans (hB20.mono hB19.size))
              | (go_at_call 29; (with_reducible refine (HLIV.out _).mono ?_); rintro e w13 ⟨rfl, hB22⟩
                 have hB23 := hB21.trans (hB22.mono hB21.size))
              | fail)
            go_ret
            exact ⟨rfl, hB23⟩
        · have r3 : ¬ (b.length : Int) < 6 := by intro h; exact hm (m3 (by omega))
          have r4 : ¬ (m : Int) = (L.length : Int) := by omega
          clear m3 hm
          go_wp2_with (first
            | (go_at_call 27; (with_reducible refine HL10.out.mono ?_); rintro e w11 ⟨A11, rfl, h11, hB18⟩
               have hB19 := hB17.trans (hB18.mono hB17.size)
               clear h11)
            | (go_at_call 29; (with_reducible refine (HLIV.out _).mono ?_); rintro e w13 ⟨rfl, hB22⟩
               have hB23 := hB19.trans (hB22.mono hB19.size))
            | fail)
          go_ret
          exact ⟨rfl, hB23⟩
end Go.Proofs.YthbbmpelldglmaaDoor
