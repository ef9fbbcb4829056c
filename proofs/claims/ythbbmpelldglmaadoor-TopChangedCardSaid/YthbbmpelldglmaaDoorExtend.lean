/- What 'sums.Extend' and 'sums.Sum' return. -/
import Derived.Test.YthbbmpelldglmaaDoorMade
namespace Go.Proofs.YthbbmpelldglmaaDoor
set_option linter.unusedVariables false
set_option linter.unusedSimpArgs false
open Go.RowKit

theorem xor_u16_div (a b : Nat) (ha : a < 65536) (hb : b < 65536) : bits .xor .u16 ((a : Int) / 16) b = ((a / 16 ^^^ b : Nat) : Int) := xor_u16 (a / 16) b (by omega) hb

set_option maxHeartbeats 400000 in
theorem extend_any (r : Nat) (hr : r < 65536) (A : Option Addr) (l : List UInt8) (c : Nat) (w : World) (hA : RdB w A l) (hl : l.length ≤ 140737488351232) :
    Calls Tryd.prog 47 #[.int .u16 r, .slice A l.length c] w fun e w' => e = .returned (.int .u16 (crc r l)) ∧ Below w.heap.size w w' := by
  have hin : (Tryd.prog.info? 195).map (·.size) = some 16 := by kernel_rfl
  go_enter Tryd.func47, Tryd.ntmps47
  go_wp2_with (first
    | (go_at_call 111; (with_reducible refine (made_any _).mono ?_); rintro e w1 ⟨rfl, hB⟩)
    | ((with_reducible refine at_store 195 5 rfl ?_); refine wpList_store_rowN rfl 195 (.tmp 5) (.tmp 8) rfl w1.heap.size (mTab 16) rfl rfl 195 _ (heap_alloc_new _ _) (by rw [mTab_size]; exact hin) (by rw [mTab_size]; rfl) (mTab_one 16) ?_; intro w2 hT hz hgr; have hB2 : Below w.heap.size w w2 := (hB.alloc hB.size _).grown hgr (by simp; exact Nat.le_succ_of_le hB.size) (by intro k hk; injection hk with hk; subst hk; exact hB.size)))
  have hr' := hA.below hB2
  go_loop [0, 7, 11] (fun a _ i => ∃ k : Nat, k ≤ l.length ∧ i = .int .i64 k ∧ a = .int .u16 (crc r (l.take k))) (fun _ _ i => l.length - (intOf i).toNat)
  case atStart => exact ⟨0, by omega, rfl, by simp [crc]⟩
  case round =>
    obtain ⟨k, hk, rfl, rfl⟩ := hrel
    by_cases hlt : k < l.length
    · obtain ⟨ad, rfl, hc⟩ := hr'.get hlt
      have hR := crc_lt r (l.take k) hr
      have hn := crc_snoc r l k hlt
      have hb := l[k].toNat_lt
      rw [crcB_eq] at hn
      have hTab : ∀ n, n < 16 → w2.cell? ⟨w1.heap.size, n, none⟩ = some (.int .u16 (crcI 4 n)) := fun n h => by
        rw [cell_of_row _ _ _ _ _ _ hT]; simp [mTab, h]
      have ht := fun n (h : n < 16) => crcI_lt 4 n (by omega)
      generalize crc r (List.take k l) = R at *
      have hx : R ^^^ l[k].toNat < 65536 := xor_byte_lt R l[k] hR
      have e0 := xor_u16 R l[k].toNat hR (by omega)
      rw [← crc_nibble (R ^^^ l[k].toNat)] at hn
      generalize R ^^^ l[k].toNat = r1 at *
      generalize l[k].toNat = b at *
      have c1 := hTab (r1 % 16) (by omega)
      have t1 := ht (r1 % 16) (by omega)
      generalize crcI 4 (r1 % 16) = T1 at *
      have e1 := xor_u16_div r1 T1 hx t1
      have hx2 : r1 / 16 ^^^ T1 < 65536 := Nat.xor_lt_two_pow (n := 16) (by omega) t1
      generalize r1 / 16 ^^^ T1 = r2 at *
      have c2 := hTab (r2 % 16) (by omega)
      have t2 := ht (r2 % 16) (by omega)
      generalize crcI 4 (r2 % 16) = T2 at *
      have e2 := xor_u16_div r2 T2 hx2 t2
      generalize r2 / 16 ^^^ T2 = r3 at *
      have HN := Lib.hid hn
      clear hn hTab ht hA hr' hB hT
      go_wp2
      go_round
      case rel => exact ⟨k + 1, by omega, by go_num, by rw [HN.out]⟩
      case measure => simp [intOf]; omega
    · go_wp2
      go_ret
      have : k = l.length := by omega
      subst this
      exact ⟨by simp, hB2⟩

theorem compl_u16 (r : Nat) (h : r < 65536) : bits .xor .u16 IntKind.u16.max (r : Int) = ((65535 - r : Nat) : Int) := by
  rw [show IntKind.u16.max = ((65535 : Nat) : Int) from rfl, xor_u16 65535 r (by omega) h, xor_all r h]

theorem sum_any (A : Option Addr) (l : List UInt8) (c : Nat) (w : World) (hA : RdB w A l) (hl : l.length ≤ 140737488351232) :
    Calls Tryd.prog 49 #[.slice A l.length c] w fun e w' => e = .returned (.int .u16 (crcSum l)) ∧ Below w.heap.size w w' := by
  have hlt := crc_lt 65535 l (by omega)
  have HE : Calls Tryd.prog 47 #[.int .u16 65535, .slice A l.length c] w fun e w' => e = .returned (.int .u16 (crc 65535 l)) ∧ Below w.heap.size w w' := extend_any 65535 (by omega) A l c w hA hl
  replace HE := Lib.hid HE
  unfold crcSum
  generalize crc 65535 l = r at *
  go_enter Tryd.func49, Tryd.ntmps49
  go_wp2_with (go_at_call 47; (with_reducible refine (HE.out).mono ?_); rintro e w1 ⟨rfl, hB⟩)
  go_ret
  refine ⟨?_, hB⟩
  rw [show IntKind.u16.max = ((65535 : Nat) : Int) from rfl, xor_u16 65535 r (by omega) hlt, xor_all r hlt]
  rfl
end Go.Proofs.YthbbmpelldglmaaDoor
