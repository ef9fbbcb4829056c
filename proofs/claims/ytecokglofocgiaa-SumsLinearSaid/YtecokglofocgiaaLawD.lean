/- The walk of the law SumsLinear. -/
import Derived.Test.YtecokglofocgiaaSame
import Derived.Deep.RegionHeld3
import Derived.Deep.AppendLies
namespace Go.Proofs.Ytecokglofocgiaa
set_option linter.unusedVariables false
set_option linter.unusedSimpArgs false
open Go.RowKit

/-- a list repeated or cut -/
def atL (l : List UInt8) (i : Nat) : UInt8 := if l.length = 0 then 0 else l.getD (i % l.length) 0

set_option maxHeartbeats 400000 in
theorem at_any (A : Option Addr) (l : List UInt8) (c i : Nat) (w : World) (hA : RdB w A l) (hl : l.length ≤ 140737488351232) (hi : i ≤ 300) :
    Calls Try.prog 19 #[.slice A l.length c, .int .i64 i] w fun e w' => e = .returned (.int .u8 ((atL l i).toNat : Int)) ∧ w' = w := by
  unfold atL
  by_cases h0 : l.length = 0
  · have h1 : ((l.length : Int) == 0) = true := by rw [h0]; rfl
    rw [if_pos h0]
    obtain rfl := List.length_eq_zero_iff.1 h0
    go_enter Try.func19, Try.ntmps19
    go_wp2
    go_ret
    exact ⟨rfl, rfl⟩
  · rw [if_neg h0]
    have hm : i % l.length < l.length := Nat.mod_lt _ (by omega)
    obtain ⟨ad, e, hc⟩ := hA.get hm
    subst e
    have hg : l.getD (i % l.length) 0 = l[i % l.length] := by simp [List.getD, hm]
    rw [hg]
    have hb := l[i % l.length].toNat_lt
    have h1 : ((l.length : Int) == 0) = false := by simp; intro h; exact h0 (by rw [h]; rfl)
    have h2 : (0 : Int) < (l.length : Int) := by omega
    generalize l[i % l.length].toNat = x at *
    generalize hq : i % l.length = q at *
    have e1 : (i : Int) % (l.length : Int) = (q : Int) := by rw [← hq]; simp
    have e2 : Int.tmod (i : Int) (l.length : Int) = (q : Int) := by rw [Int.tmod_eq_emod_of_nonneg (by omega)]; exact e1
    clear hq hg h0 hA
    generalize l.length = n at *
    go_enter Try.func19, Try.ntmps19
    go_wp2
    go_ret
    exact ⟨rfl, rfl⟩

/-- the lists behind k rounds -/
def xL (l : List UInt8) (k : Nat) : List UInt8 := (List.range k).map (atL l)
def sL (a b d : List UInt8) (k : Nat) : List UInt8 := (List.range k).map fun i => a.getD i 0 ^^^ atL b i ^^^ atL d i
theorem xL_len (l : List UInt8) (k : Nat) : (xL l k).length = k := by simp [xL]
theorem sL_len (a b d : List UInt8) (k : Nat) : (sL a b d k).length = k := by simp [sL]
theorem xL_snoc (l : List UInt8) (k : Nat) : xL l (k + 1) = xL l k ++ [atL l k] := by simp [xL, List.range_succ]
theorem sL_snoc (a b d : List UInt8) (k : Nat) (h : k < a.length) : sL a b d (k + 1) = sL a b d k ++ [a[k] ^^^ atL b k ^^^ atL d k] := by
  simp [sL, List.range_succ, List.getD, h]
theorem xor_bytes (x y : UInt8) : bits .xor .u8 (x.toNat : Int) (y.toNat : Int) = ((x ^^^ y).toNat : Int) := by
  rw [xor_u8 _ _ x.toNat_lt y.toNat_lt, UInt8.toNat_xor]

theorem crcB_xor3 (r1 r2 r3 : Nat) (x y z : UInt8) : crcB (r1 ^^^ r2 ^^^ r3) (x ^^^ y ^^^ z) = crcB r1 x ^^^ crcB r2 y ^^^ crcB r3 z := by
  unfold crcB
  rw [UInt8.toNat_xor, UInt8.toNat_xor, ← crcI_xor, ← crcI_xor]
  congr 1
  ac_rfl
theorem crc_map_succ (r : Nat) (f : Nat → UInt8) (k : Nat) : crc r ((List.range (k + 1)).map f) = crcB (crc r ((List.range k).map f)) (f k) := by
  rw [List.range_succ, List.map_append, crc_append]; rfl
theorem crc_xor3 (r1 r2 r3 : Nat) (f g h : Nat → UInt8) (k : Nat) :
    crc (r1 ^^^ r2 ^^^ r3) ((List.range k).map fun i => f i ^^^ g i ^^^ h i) = crc r1 ((List.range k).map f) ^^^ crc r2 ((List.range k).map g) ^^^ crc r3 ((List.range k).map h) := by
  induction k with
  | zero => rfl
  | succ k ih => rw [crc_map_succ, crc_map_succ, crc_map_succ, crc_map_succ, ih, crcB_xor3]
theorem range_getD (a : List UInt8) : (List.range a.length).map (fun i => a.getD i 0) = a := by
  apply List.ext_getElem?
  intro i
  by_cases h : i < a.length
  · simp [h, List.getD]
  · rw [List.getElem?_eq_none (by simp; omega), List.getElem?_eq_none (by omega)]
theorem linear (a b d : List UInt8) : crcSum (sL a b d a.length) = crcSum a ^^^ crcSum (xL b a.length) ^^^ crcSum (xL d a.length) := by
  have e : ∀ l, crcSum l = 65535 ^^^ crc 65535 l := fun l => (xor_all _ (crc_lt 65535 l (by omega))).symm
  rw [e, e, e, e]
  unfold sL xL
  have h := crc_xor3 65535 65535 65535 (fun i => a.getD i 0) (atL b) (atL d) a.length
  rw [range_getD] at h
  rw [show (65535 : Nat) ^^^ 65535 ^^^ 65535 = 65535 from rfl] at h
  rw [h]
  generalize crc 65535 a = x
  generalize crc 65535 _ = y
  generalize crc 65535 _ = z
  have h1 : (65535 ^^^ x) ^^^ (65535 ^^^ y) ^^^ (65535 ^^^ z) = (65535 ^^^ 65535) ^^^ 65535 ^^^ (x ^^^ y ^^^ z) := by ac_rfl
  rw [h1, Nat.xor_self, Nat.zero_xor]

set_option maxHeartbeats 4000000 in
set_option maxRecDepth 100000 in
theorem walk_SumsLinear (W : World) (A1 : Option Addr) (a : List UInt8) (c1 : Nat) (h1 : RdB W A1 a) (hc1 : a.length ≤ c1) (hs1 : c1 ≤ 140737488351232)
    (A2 : Option Addr) (b : List UInt8) (c2 : Nat) (h2 : RdB W A2 b) (hc2 : b.length ≤ c2) (hs2 : c2 ≤ 140737488351232)
    (A3 : Option Addr) (d : List UInt8) (c3 : Nat) (h3 : RdB W A3 d) (hc3 : d.length ≤ c3) (hs3 : c3 ≤ 140737488351232) :
    Calls Try.prog 6 #[.slice A1 a.length c1, .slice A2 b.length c2, .slice A3 d.length c3] W fun e w' => e = .returned (.bool true) ∧ Below W.heap.size W w' := by
  by_cases hl : a.length > 300
  · go_enter Try.func6, Try.ntmps6
    go_wp2_with (first | (go_at_call 9; (with_reducible refine (lives_any _).mono ?_); rintro e w1 ⟨rfl, hB⟩) | fail)
    go_ret
    exact ⟨rfl, hB⟩
  · go_enter Try.func6, Try.ntmps6
    go_wp2
    go_loopw [8, 9, 10, 11] (fun vx vy va i wr => ∃ k : Nat, k ≤ a.length ∧ i = .int .i64 k ∧ ∃ Ax cx Ay cy Aa ca,
        vx = .slice Ax (xL b k).length cx ∧ RowB wr W.heap.size Ax cx (xL b k) ∧
        vy = .slice Ay (xL d k).length cy ∧ RowB wr W.heap.size Ay cy (xL d k) ∧
        va = .slice Aa (sL a b d k).length ca ∧ RowB wr W.heap.size Aa ca (sL a b d k) ∧
        Apart Ax Ay ∧ Apart Ax Aa ∧ Apart Ay Aa ∧
        Below W.heap.size W wr) (fun _ _ _ i _ => a.length - (intOf i).toNat)
    case atStart => exact ⟨0, by omega, rfl, none, 0, none, 0, none, 0, rfl, RowB.nil _ _, rfl, RowB.nil _ _, rfl, RowB.nil _ _, Apart.none _, Apart.none _, Apart.none _, Below.refl _ _⟩
    case round =>
      obtain ⟨k, hk, rfl, Ax, cx, Ay, cy, Aa, ca, rfl, hRx, rfl, hRy, rfl, hRa, ap1, ap2, ap3, hB⟩ := hrel
      by_cases hlt : k < a.length
      · have lx := xL_len b k
        have ly := xL_len d k
        have la := sL_len a b d k
        have HX := Lib.hid (xL_snoc b k)
        have HY := Lib.hid (xL_snoc d k)
        have HS := Lib.hid (sL_snoc a b d k hlt)
        have hkk : k ≤ 300 := by omega
        have hat1 := fun w1 (hb : Below W.heap.size W w1) => at_any A2 b c2 k w1 (h2.below hb) (by omega) hkk
        have hat2 := fun w1 (hb : Below W.heap.size W w1) => at_any A3 d c3 k w1 (h3.below hb) (by omega) hkk
        obtain ⟨ad, e, hc⟩ := h1.get hlt
        subst e
        have hx1 := xor_bytes a[k] (atL b k)
        have hx2 := xor_bytes (a[k] ^^^ atL b k) (atL d k)
        have hl1 : (xL b k).length ≤ 300 := by omega
        have hl2 : (xL d k).length ≤ 300 := by omega
        have hl3 : (sL a b d k).length ≤ 300 := by omega
        clear lx ly la
        generalize xL b k = lx at *
        generalize xL d k = ly at *
        generalize sL a b d k = la at *
        generalize atL b k = xb at *
        generalize atL d k = xd at *
        have HA1 := Lib.hid hat1
        have HA2 := Lib.hid hat2
        have hsz := hB.size
        clear hat1 hat2
        generalize elx : xL b (k + 1) = lx' at *
        generalize ely : xL d (k + 1) = ly' at *
        generalize ela : sL a b d (k + 1) = la' at *
        have EX := Lib.hid elx
        have EY := Lib.hid ely
        have ES := Lib.hid ela
        clear elx ely ela
        have hlx' : lx'.length ≤ 301 := by rw [HX.out]; simp; omega
        have hly' : ly'.length ≤ 301 := by rw [HY.out]; simp; omega
        have hla' : la'.length ≤ 301 := by rw [HS.out]; simp; omega
        go_wp2_with fail
        refine (HA1.out _ hB).mono ?_
        rintro e w1 ⟨rfl, hw⟩
        obtain rfl := hw.symm
        go_wp2_with (first
          | ((with_reducible refine at_dst 28 rfl ?_)
             refine append_bytes2 rfl (.tmp 22) (.tmp 27) rfl W.heap.size Ax lx.length cx lx rfl rfl (Row.alloc hRx _) (some ⟨_, 0, none⟩) 1 1 [xb] rfl rfl (rd_lit _ [xb]) lx' HX.out (by omega) W (hB.alloc hsz _) (by simp; omega) ?_
             intro A4 c4 w4 h4 hg4 hB4 hsz4 hA4
             have hRy4 := RowB.kept (Row.alloc hRy _) hg4 ap1.symm
             have hRa4 := RowB.kept (Row.alloc hRa _) hg4 ap2.symm
             have bp1 := (Apart.grown ap1.symm (Row.alloc hRy _) hA4).symm
             have bp2 := (Apart.grown ap2.symm (Row.alloc hRa _) hA4).symm
             clear hRx hRy hRa hg4 hA4 ap1 ap2 hB hsz)
          | fail)
        refine (HA2.out _ hB4).mono ?_
        rintro e w5 ⟨rfl, hw5⟩
        obtain rfl := hw5.symm
        clear hw5
        go_wp2_with (first
          | ((with_reducible refine at_dst 35 rfl ?_)
             refine append_bytes2 rfl (.tmp 29) (.tmp 34) rfl W.heap.size Ay ly.length cy ly rfl rfl (Row.alloc hRy4 _) (some ⟨_, 0, none⟩) 1 1 [xd] rfl rfl (rd_lit _ [xd]) ly' HY.out (by omega) W (hB4.alloc hsz4 _) (by simp; omega) ?_
             intro A6 c6 w6 h6 hg6 hB6 hsz6 hA6
             have hRx6 := RowB.kept (Row.alloc h4 _) hg6 bp1
             have hRa6 := RowB.kept (Row.alloc hRa4 _) hg6 ap3.symm
             have ep1 := Apart.grown bp1 (Row.alloc h4 _) hA6
             have ep3 := (Apart.grown ap3.symm (Row.alloc hRa4 _) hA6).symm
             clear h4 hRy4 hRa4 hg6 hA6 bp1 ap3 hB4 hsz4)
          | fail)
        have hc6 := cell_later hB6 hc
        have q1 : (0 : Int) ≤ (k : Int) := by omega
        have q2 : (k : Int) < (a.length : Int) := by omega
        obtain ⟨av, hav⟩ : ∃ av, av = a[k] := ⟨_, rfl⟩
        rw [← hav] at hc6 hc hx1 hx2
        have HS' : la' = la ++ [av ^^^ xb ^^^ xd] := by rw [hav]; exact HS.out
        generalize av ^^^ xb ^^^ xd = x3 at *
        generalize av ^^^ xb = x12 at *
        replace HS' := Lib.hid HS'
        have HCW := Lib.hid hc
        clear HS hav hc
        go_region_held3 (fun w' => w'.cell? (ad.add k) = some (.int .u8 (av.toNat : Int)))
          (first | go_keep | exact hc6 | exact cell_later hB8 HCW.out)
          (first
            | (go_at_call 19; (with_reducible refine (HA1.out _ hB6.drew).mono ?_); rintro e w7 ⟨rfl, rfl⟩)
            | (go_at_call 19; (with_reducible refine (HA2.out _ hB6.drew).mono ?_); rintro e w7 ⟨rfl, rfl⟩)
            | (refine step_bytes (by rfl) (.tmp 36) (.tmp 51) (by rfl) W.heap.size Aa la.length ca la (by rfl) rfl (Row.drew (Row.alloc hRa6 _)) (some ⟨_, 0, none⟩) 1 1 [x3] (by rfl) rfl (RdB.drew (rd_lit _ [x3])) la' HS'.out (by omega) W (hB6.alloc hsz6 _).drew (by simp; omega) ?_
               intro A8 c8 w8 h8 hg8 hB8 hsz8 hA8))
        have gp2 := Apart.grown bp2 (Row.drew (Row.alloc hRx6 _)) hA8
        have gp3 := Apart.grown ep3 (Row.drew (Row.alloc h6 _)) hA8
        have hx8 := RowB.kept (Row.drew (Row.alloc hRx6 _)) hg8 bp2
        have hy8 := RowB.kept (Row.drew (Row.alloc h6 _)) hg8 ep3
        clear hg8 hA8 hRx6 h6 hRa6 hx1 hx2 hc6
        go_wp2
        go_roundw
        case rel => exact ⟨k + 1, by omega, by go_num, A4, c4, A6, c6, A8, c8, by rw [EX.out], by rw [EX.out]; exact hx8, by rw [EY.out], by rw [EY.out]; exact hy8, by rw [ES.out], by rw [ES.out]; exact h8, ep1, gp2, gp3, hB8⟩
        case measure => simp [intOf]; omega
      · obtain rfl : k = a.length := by omega
        have lx := xL_len b a.length
        have ly := xL_len d a.length
        have la := sL_len a b d a.length
        have hS1 := fun w1 (hb : Below wr.heap.size wr w1) => sum_any Aa (sL a b d a.length) ca w1 (hRa.rd.below hb) (by omega)
        have hS2 := fun w1 (hb : Below wr.heap.size wr w1) => sum_any A1 a c1 w1 (h1.below (below_then hB hb)) (by omega)
        have hS3 := fun w1 (hb : Below wr.heap.size wr w1) => sum_any Ax (xL b a.length) cx w1 (hRx.rd.below hb) (by omega)
        have hS4 := fun w1 (hb : Below wr.heap.size wr w1) => sum_any Ay (xL d a.length) cy w1 (hRy.rd.below hb) (by omega)
        have hlin := linear a b d
        have e1 := xor_u16 (crcSum a) (crcSum (xL b a.length)) (crcSum_lt _) (crcSum_lt _)
        have e2 := xor_u16 (crcSum a ^^^ crcSum (xL b a.length)) (crcSum (xL d a.length)) (Nat.xor_lt_two_pow (n := 16) (crcSum_lt _) (crcSum_lt _)) (crcSum_lt _)
        rw [← hlin] at e2
        clear lx ly la hRx hRy hRa hlin
        generalize crcSum (sL a b d a.length) = S1 at *
        generalize crcSum a = S2 at *
        generalize crcSum (xL b a.length) = S3 at *
        generalize crcSum (xL d a.length) = S4 at *
        generalize S2 ^^^ S3 = S23 at *
        generalize sL a b d a.length = la at *
        generalize xL b a.length = lx at *
        generalize xL d a.length = ly at *
        have H1 := Lib.hid hS1
        have H2 := Lib.hid hS2
        have H3 := Lib.hid hS3
        have H4 := Lib.hid hS4
        clear hS1 hS2 hS3 hS4
        go_wp2_with fail
        refine (H1.out _ (Below.refl _ _)).mono ?_
        rintro e w1 ⟨rfl, hB1⟩
        go_wp2_with fail
        refine (H2.out _ hB1).mono ?_
        rintro e w2 ⟨rfl, hB2⟩
        replace hB2 := below_then hB1 hB2
        go_wp2_with fail
        refine (H3.out _ hB2).mono ?_
        rintro e w3 ⟨rfl, hB3⟩
        replace hB3 := below_then hB2 hB3
        go_wp2_with fail
        refine (H4.out _ hB3).mono ?_
        rintro e w4 ⟨rfl, hB4⟩
        replace hB4 := below_then hB3 hB4
        go_wp2_with fail
        refine (lives_any _).mono ?_
        rintro e w5 ⟨rfl, hB5⟩
        clear e1 e2
        go_wp2_with fail
        go_ret
        exact ⟨rfl, below_then hB (below_then hB4 hB5)⟩
end Go.Proofs.Ytecokglofocgiaa
