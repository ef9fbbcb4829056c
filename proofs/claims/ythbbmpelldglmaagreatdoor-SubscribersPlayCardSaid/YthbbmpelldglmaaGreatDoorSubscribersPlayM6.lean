/- Law 38: the definition of a change. -/
import Derived.Test.YthbbmpelldglmaaGreatDoorSubscribersPlayM5
import Derived.Deep.QuietTactic
import Derived.BigQuiet
import Derived.Deep.CutRange
import Derived.Deep.RegionHeld3
namespace Go.Proofs.YthbbmpelldglmaaGreatDoor
set_option linter.unusedVariables false
set_option linter.unusedSimpArgs false
open Go.RowKit

theorem digitsB_num : ∀ n : Fin 256, isNum (digitsB n.val) = true := by decide +kernel
theorem acH_ok {a : Ac} (h : a.Go) : a.home.ok = decide (a.point ≤ 16383) := by
  have h1 := digitsB_num ⟨a.id % 8, by omega⟩
  have h2 := digitsB_num ⟨100 + a.number % 8, by omega⟩
  simp only at h1 h2
  unfold HomeR.ok Ac.home
  simp only [h1, h2, Bool.true_and]
theorem acV_ok {a : Ac} (h : a.Go) : a.visit.ok = decide (1 ≤ a.point ∧ a.point ≤ 16383) := by
  have h1 := digitsB_num ⟨a.id % 8, by omega⟩
  have h2 := digitsB_num ⟨100 + a.number % 8, by omega⟩
  have h3 := digitsB_num ⟨200 + a.number / 8 % 6, by omega⟩
  simp only at h1 h2 h3
  unfold VisitR.ok Ac.visit
  simp only [h1, h2, Bool.true_and]
  split
  · simp [h3]
  · simp
/-- how the definition ends -/
def ModDone (w : World) (gm : Nat) (FM : List Nat) (S : St) (o : Edit) (e : Ending) (w' : World) : Prop :=
  ∃ FM', e = .returned (.int .i64 (o.er S)) ∧ ModAt w' gm FM' (o.after S).homes (o.after S).visits ∧ Chg FM w w' ∧ NewIn w FM FM'
theorem mod_apart {w : World} {gm n1 c1 n2 c2 B n c sz : Nat} {A1 A2 A : Option Addr} {E : TypeId} {xs : List Value} (h : w.heap[gm]? = some (modObj A1 n1 c1 A2 n2 c2)) (hE : E ≠ 33) (hr : Row w B E sz A n c xs) : gm ∉ blk A := fun hi => by
  rw [mem_blk] at hi
  rcases hr.2 with ⟨rfl, _⟩ | ⟨g', cur, rfl, _, hg, _⟩
  · simp at hi
  · simp at hi; subst hi
    rw [h] at hg
    simp [modObj] at hg
    exact hE hg.2.symm
/-- the model's first row is another one -/
theorem ModAt.set1 {w w0 : World} {gm c1 c2 c : Nat} {A1 A2 A : Option Addr} {H H2 : List HomeR} {V : List VisitR} (ho : w.heap[gm]? = some (modObj A1 H.length c1 A2 V.length c2)) (h2 : VisitRow w 0 A2 c2 V) (hr : HomeRow w w0.heap.size A c H2) (hg : gm < w0.heap.size) :
    ModAt (w.setCell ⟨gm, 0, none⟩ (.slice A H2.length c)) gm (gm :: (blk A ++ blk A2)) H2 V := by
  refine ⟨A, c, A2, c2, rfl, Go.Joins.block_setCell (i := 0) ho _, Row.mono (Row.setOther hr (fun k e => ?_) _) (Nat.zero_le _), Row.setOther h2 (fun k e => ?_) _⟩
  · have := (Row.lt hr k e).1
    simp; omega
  · intro e2
    simp at e2; subst e2
    exact mod_apart ho (by decide) h2 (mem_blk.2 e)
theorem ModAt.set2 {w w0 : World} {gm c1 c2 c : Nat} {A1 A2 A : Option Addr} {H : List HomeR} {V V2 : List VisitR} (ho : w.heap[gm]? = some (modObj A1 H.length c1 A2 V.length c2)) (h1 : HomeRow w 0 A1 c1 H) (hr : VisitRow w w0.heap.size A c V2) (hg : gm < w0.heap.size) :
    ModAt (w.setCell ⟨gm, 1, none⟩ (.slice A V2.length c)) gm (gm :: (blk A1 ++ blk A)) H V2 := by
  refine ⟨A1, c1, A, c, rfl, Go.Joins.block_setCell (i := 1) ho _, Row.setOther h1 (fun k e => ?_) _, Row.mono (Row.setOther hr (fun k e => ?_) _) (Nat.zero_le _)⟩
  · intro e2
    simp at e2; subst e2
    exact mod_apart ho (by decide) h1 (mem_blk.2 e)
  · have := (Row.lt hr k e).1
    simp; omega
theorem outD_len {α : Type} {key : α → List UInt8} (x : α) (l : List α) : (outD key x l).length ≤ l.length + 1 := by
  have : ∀ l : List α, (putK key x l).length ≤ l.length + 1 := by
    intro l
    induction l with
    | nil => simp [putK]
    | cons z r ih =>
      unfold putK
      split
      · simp; omega
      · split <;> simp
  unfold outD
  split
  · exact this l
  · omega
theorem ge_str (a b : List UInt8) : Op.bytesLess (ByteArray.toList ⟨a.toArray⟩) (ByteArray.toList ⟨b.toArray⟩) = decide (a < b) := by
  rw [bytesLess_eq, Lib.toList_data, Lib.toList_data]
set_option maxHeartbeats 8000000 in
set_option maxRecDepth 100000 in
theorem modDo_k0 (a : Ac) (ha : a.Go) (w : World) (gm : Nat) (FM : List Nat) (S : St) (hf : S.Fit) (hm : ModAt w gm FM S.homes S.visits) (hl1 : S.homes.length ≤ 100000) (hk : a.kind % 4 = 0) :
    Calls Tryz.prog 11 #[.pointer (some ⟨gm, 0, none⟩), a.val] w (ModDone w gm FM S a.edit) := by
  have he : a.edit = .putH a.home := by unfold Ac.edit; simp only [hk]; rfl
  have hok := acH_ok ha
  have hh := fun w => actHome_any a ha w
  have hidx : a.home.id = digitsB (a.id % 8) := rfl
  have hat_ : a.home.at_ = a.point := rfl
  have hid := ha.id
  rw [he]
  generalize a.home = x at *
  obtain ⟨kind, id0, num0, point, flags⟩ := a
  obtain ⟨id, num, at_, mv, ba, wa⟩ := x
  simp only at hidx hat_ hok hk hid
  subst hat_
  unfold Ac.val Ac.cells at *
  unfold HomeR.val HomeR.cells at hh
  simp only at hh ⊢
  have t1 : Int.tmod (kind : Int) 4 = (kind : Int) % 4 := rfl
  have t2 : (kind : Int) % 4 = 0 := by omega
  have t3 : Int.tmod (id0 : Int) 8 = (id0 : Int) % 8 := rfl
  have d1 := fun w' => digits38' (id0 % 8) w' ((id0 : Int) % 8) (by omega) (by omega)
  rw [← hidx] at d1
  have b0 := (Below.refl w.heap.size w).alloc (Nat.le_refl _) (.cells #[.int .u8 (kind : Int), .int .u8 (id0 : Int), .int .u8 (num0 : Int), .int .u16 (at_ : Int), .int .u8 (flags : Int)] 37)
  have HM := Lib.hid hm
  have HF := Lib.hid hf
  have HD := Lib.hid d1
  have HH := Lib.hid hh
  have HB0 := Lib.hid b0
  have HOK := Lib.hid hok
  have HL1 := Lib.hid hl1
  clear hm hf d1 hh b0 hok hidx hk he hid hl1
  go_enter Tryz.func11, Tryz.ntmps11
  by_cases hbig : 16383 < at_
  · have q1 : (16383 : Int) < (at_ : Int) := by omega
    go_wp2_with (first
      | (go_at_call 18; (with_reducible refine (HD.out _).mono ?_); rintro e w1 ⟨rfl, h1⟩; obtain rfl := h1.symm)
      | (go_at_call 39; (with_reducible refine (HH.out _).mono ?_); rintro e w1 ⟨rfl, hB1⟩; have hB := below_then HB0.out hB1)
      | fail)
    go_ret
    have hE : (Edit.putH ⟨id, num, at_, mv, ba, wa⟩).er S = 1 := by
      show (if HomeR.ok ⟨id, num, at_, mv, ba, wa⟩ = false then (1 : Int) else _) = 1
      rw [HOK.out, if_pos (decide_eq_false (by omega))]
    have hBq := below_alloc hB (.cells #[encStr id, encStr num, .int .u16 (at_ : Int), .int .u32 (mv : Int), .bool ba, .bool wa] 52)
    refine ⟨FM, by rw [hE]; rfl, ?_, Chg.of_below _ hBq, NewIn.refl _ _⟩
    rw [Edit.bad (by rw [hE]; omega)]
    exact HM.out.below hBq
  · have q1 : ¬ (16383 : Int) < (at_ : Int) := by omega
    go_upto_block 3 with (first
      | (go_at_call 18; (with_reducible refine (HD.out _).mono ?_); rintro e w1 ⟨rfl, h1⟩; obtain rfl := h1.symm)
      | (go_at_call 39; (with_reducible refine (HH.out _).mono ?_); rintro e w1 ⟨rfl, hB1⟩; have hB := below_then HB0.out hB1)
      | fail)
    obtain ⟨hB2, hx2⟩ : Below w.heap.size w (w1.alloc (.cells #[encStr id, encStr num, .int .u16 (at_ : Int), .int .u32 (mv : Int), .bool ba, .bool wa] 52)) ∧ (w1.alloc (.cells #[encStr id, encStr num, .int .u16 (at_ : Int), .int .u32 (mv : Int), .bool ba, .bool wa] 52)).heap[w1.heap.size]? = some (.cells #[encStr id, encStr num, .int .u16 (at_ : Int), .int .u32 (mv : Int), .bool ba, .bool wa] 52) := ⟨below_alloc hB _, heap_alloc_new w1 _⟩
    generalize w1.alloc (.cells #[encStr id, encStr num, .int .u16 (at_ : Int), .int .u32 (mv : Int), .bool ba, .bool wa] 52) = wq at *
    generalize w1.heap.size = hb at *
    have hmq := HM.out.below hB2
    obtain ⟨A1, c1, A2, c2, hFM, hmo, hm1, hm2⟩ := hmq
    have hgm : gm < w.heap.size := HM.out.lt gm (by rw [hFM]; simp)
    have HHS := Lib.hid HF.out.hs
    have HLEN := HL1
    have HREST : Hid (FM = gm :: (blk A1 ++ blk A2) ∧ VisitRow wq 0 A2 c2 S.visits ∧ HomeRow wq 0 A1 c1 S.homes) := Lib.hid ⟨hFM, hm2, hm1⟩
    generalize hH : S.homes = H at *
    generalize hV : S.visits = V at *
    have HH1 := Lib.hid hH
    have HV1 := Lib.hid hV
    have HCELL := Lib.hid (show ∀ W, Below wq.heap.size wq W → W.heap[gm]? = some (modObj A1 H.length c1 A2 V.length c2) ∧ W.heap[hb]? = some (.cells #[encStr id, encStr num, .int .u16 (at_ : Int), .int .u32 (mv : Int), .bool ba, .bool wa] 52) ∧ HomeRow W 0 A1 c1 H from fun W hW => ⟨(hW.block gm (Array.getElem?_eq_some_iff.1 hmo).1).trans hmo, (hW.block hb (Array.getElem?_eq_some_iff.1 hx2).1).trans hx2, Row.below hm1 hW⟩)
    clear hFM hmo hm1 hm2 hx2 hB hB1 hH hV
    go_wp2_with fail
    go_loopw [6, 10, 11] (fun hv dv iv wr => ∃ (k c5 : Nat) (A5 : Option Addr) (d : Bool), k ≤ H.length ∧ iv = .int .i64 k ∧ dv = .bool d ∧ Hid (((H.take k).any fun m => decide (¬ m.id < id)) = d) ∧ hv = .slice A5 (outD HomeR.id ⟨id, num, at_, mv, ba, wa⟩ (H.take k)).length c5 ∧ HomeRow wr wq.heap.size A5 c5 (outD HomeR.id ⟨id, num, at_, mv, ba, wa⟩ (H.take k)) ∧ Below wq.heap.size wq wr ∧ Hid (∀ m ∈ H.take k, ¬ (m.number = num ∧ m.id ≠ id)))
      (fun _ _ iv _ => H.length - (intOf iv).toNat)
    case atStart => exact ⟨0, 0, none, false, Nat.zero_le _, rfl, rfl, Lib.hid rfl, rfl, Row.nil _ _ _ _, Below.refl _ _, Lib.hid (by simp)⟩
    case round =>
      obtain ⟨k, c5, A5, d, hkl, rfl, rfl, HDK, rfl, hrow5, hB5, HNC⟩ := hrel
      by_cases hlt : k < H.length
      · obtain ⟨kmo, kx, km1⟩ := HCELL.out _ hB5
        obtain ⟨g1, rfl, -⟩ := Row.form km1 (by omega)
        have hsorted : (H.take k ++ [H[k]]).Pairwise (fun a b => a.id < b.id) := by
          rw [← List.take_succ_eq_append_getElem hlt]
          exact HHS.out.take
        have hod := outD_snoc (key := HomeR.id) (x := ⟨id, num, at_, mv, ba, wa⟩) hsorted
        rw [← List.take_succ_eq_append_getElem hlt] at hod
        simp only [HDK.out] at hod
        have hany : ((H.take (k + 1)).any fun m => decide (¬ m.id < id)) = (d || decide (¬ H[k].id < id)) := by
          rw [List.take_succ_eq_append_getElem hlt, List.any_append, HDK.out]
          simp
        have hmem : ∀ m ∈ H.take (k + 1), m ∈ H.take k ∨ m = H[k] := by
          intro m hm
          rw [List.take_succ_eq_append_getElem hlt] at hm
          exact (List.mem_append.1 hm).imp _root_.id (fun h => List.mem_singleton.1 h)
        have hgt : H[k].id = id → d = false := by
          intro e
          cases hd : d with
          | false => rfl
          | true =>
            rw [← HDK.out] at hd
            obtain ⟨y, hy, hy2⟩ := List.any_eq_true.1 hd
            have := (List.pairwise_append.1 hsorted).2.2 y hy H[k] (by simp)
            rw [e] at this
            exact absurd this (by simpa using hy2)
        have hOl : (outD HomeR.id ⟨id, num, at_, mv, ba, wa⟩ (H.take k)).length ≤ 100001 := by
          have := outD_len (key := HomeR.id) ⟨id, num, at_, mv, ba, wa⟩ (H.take k)
          rw [List.length_take] at this
          have := HLEN.out
          omega
        generalize hO : outD HomeR.id ⟨id, num, at_, mv, ba, wa⟩ (H.take k) = O at *
        have HMK : Hid (H[k] ∈ H) := Lib.hid (List.getElem_mem hlt)
        have HC2 : Hid (∀ W, Below wq.heap.size wq W → W.cell? ⟨gm, 0, none⟩ = some (.slice (some ⟨g1, 0, none⟩) H.length c1) ∧ W.cell? ⟨g1, k * 6, none⟩ = some (encStr H[k].id) ∧ W.cell? ⟨g1, k * 6 + 1, none⟩ = some (encStr H[k].number) ∧ W.cell? ⟨g1, k * 6 + 2, none⟩ = some (.int .u16 (H[k].at_ : Int)) ∧ W.cell? ⟨g1, k * 6 + 3, none⟩ = some (.int .u32 (H[k].move : Int)) ∧ W.cell? ⟨g1, k * 6 + 4, none⟩ = some (.bool H[k].barred) ∧ W.cell? ⟨g1, k * 6 + 5, none⟩ = some (.bool H[k].waiting) ∧
            W.cell? ⟨hb, 0, none⟩ = some (encStr id) ∧ W.cell? ⟨hb, 1, none⟩ = some (encStr num) ∧ W.cell? ⟨hb, 2, none⟩ = some (.int .u16 (at_ : Int)) ∧ W.cell? ⟨hb, 3, none⟩ = some (.int .u32 (mv : Int)) ∧ W.cell? ⟨hb, 4, none⟩ = some (.bool ba) ∧ W.cell? ⟨hb, 5, none⟩ = some (.bool wa)) := Lib.hid fun W hW => by
          obtain ⟨a1, a2, a3⟩ := HCELL.out W hW
          have x1 := HomeRow.at a3 hlt
          exact ⟨Go.Joins.cell_of_block a1 0, x1 0 (by decide), x1 1 (by decide), x1 2 (by decide), x1 3 (by decide), x1 4 (by decide), x1 5 (by decide), cell_of_row _ _ 0 _ _ _ a2, cell_of_row _ _ 1 _ _ _ a2, cell_of_row _ _ 2 _ _ _ a2, cell_of_row _ _ 3 _ _ _ a2, cell_of_row _ _ 4 _ _ _ a2, cell_of_row _ _ 5 _ _ _ a2⟩
        generalize H[k] = x at *
        obtain ⟨mid, mnum, mat, mmv, mba, mwa⟩ := x
        simp only at hod hany hmem hgt HC2
        have HLT := Lib.hid hlt
        have HOD := Lib.hid hod
        have HANY := Lib.hid hany
        have HMEM := Lib.hid hmem
        have HGT := Lib.hid hgt
        have HROW := Lib.hid hrow5
        obtain ⟨k0, y0, y1, -, -, -, -, z0, z1, -⟩ := HC2.out _ hB5
        have q2 : (0 : Int) ≤ (k : Int) := by omega
        have q3 : (k : Int) < (H.length : Int) := by omega
        have q4 : k ≤ 100000 := by have := HLEN.out; omega
        clear hod hany hmem hgt hrow5 kmo kx km1 hsorted hO
        go_upto_region 21 with fail
        by_cases hi : mid = id
        · have hi2 : (mid == id) = true := by simpa using hi
          have hbl : Op.bytesLess mid id = false := by rw [bytesLess_eq, hi]; simp
          have HBL2 : Hid (¬ mid < id) := Lib.hid (by rw [hi]; exact List.lt_irrefl _)
          have HBL := HBL2
          have HI := Lib.hid hi
          obtain rfl := HGT.out hi
          clear hi
          by_cases hn : mnum = num
          · have hn2 : (mnum == num) = true := by simpa using hn
            clear hn
            go_quiet (fail)
            have hBn : Below wq.heap.size wq (wr.drewN nq) := below_drewN hB5 _
            have hRn := Lib.hid (Row.drewN HROW.out nq)
            generalize wr.drewN nq = wn at *
            clear k0 y0 y1 z0 z1
            obtain ⟨k0, y0, y1, y2, y3, y4, y5, z0, z1, z2, z3, z4, z5⟩ := HC2.out _ hBn
            clear hn2
            go_wp2_with (first
              | ((with_reducible refine at_dst 113 rfl ?_)
                 refine wpList_append_row rfl (.tmp 110) (.tmp 112) 30 rfl wq.heap.size 52 _ 6 48 Tryz.underlying30 infoHome48 rfl A5 O.length c5 _ rfl (Row.alloc hRn.out _) (some ⟨wn.heap.size, 0, none⟩) 1 1 [encStr id, encStr num, .int .u16 (at_ : Int), .int .u32 (mv : Int), .bool ba, .bool wa] rfl
                   (rd_cells _ _ _ _ (heap_alloc_new _ _)) rfl (by intro v hv; simp at hv; rcases hv with rfl | rfl | rfl | rfl | rfl | rfl <;> rfl) (by simp only [maxLen]; omega) (by omega) (by have := hBn.size; simp; omega) ?_
                 intro A6 c6 w6 h6 hg6 _
                 have hBw6 : Below wq.heap.size wq w6 := (hBn.alloc hBn.size _).grown hg6 (by have := hBn.size; simp; omega) (fun j hj => (Row.lt hRn.out j hj).1)
                 obtain ⟨k0, y0, y1, y2, y3, y4, y5, z0, z1, z2, z3, z4, z5⟩ := HC2.out _ hBw6)
              | fail)
            have hod' : outD HomeR.id ⟨id, num, at_, mv, ba, wa⟩ (H.take (k + 1)) = O ++ [⟨id, num, at_, mv, ba, wa⟩] := by rw [HOD.out, if_pos ⟨by trivial, HBL2.out⟩, if_pos HI.out]; simp
            go_roundw
            case rel =>
              refine ⟨k + 1, c6, A6, true, by have := HLT.out; omega, by go_num, rfl, Lib.hid (by rw [HANY.out]; simp [HBL.out]), by rw [hod']; simp, ?_, hBw6, Lib.hid (fun m hm => ?_)⟩
              · rw [hod']
                unfold HomeRow
                simpa [HomeR.cells] using h6
              · rcases HMEM.out m hm with hm | rfl
                · exact HNC.out m hm
                · rintro ⟨_, h⟩; exact h HI.out
            case measure => have := HLT.out; simp [intOf]; omega
          · have hn2 : (mnum == num) = false := by simpa using hn
            clear hn
            go_quiet (fail)
            have hBn : Below wq.heap.size wq (wr.drewN nq) := below_drewN hB5 _
            have hRn := Lib.hid (Row.drewN HROW.out nq)
            generalize wr.drewN nq = wn at *
            clear k0 y0 y1 z0 z1
            obtain ⟨k0, y0, y1, y2, y3, y4, y5, z0, z1, z2, z3, z4, z5⟩ := HC2.out _ hBn
            clear hn2
            go_wp2_with (first
              | ((with_reducible refine at_dst 113 rfl ?_)
                 refine wpList_append_row rfl (.tmp 110) (.tmp 112) 30 rfl wq.heap.size 52 _ 6 48 Tryz.underlying30 infoHome48 rfl A5 O.length c5 _ rfl (Row.alloc hRn.out _) (some ⟨wn.heap.size, 0, none⟩) 1 1 [encStr id, encStr num, .int .u16 (at_ : Int), .int .u32 (mv : Int), .bool ba, .bool wa] rfl
                   (rd_cells _ _ _ _ (heap_alloc_new _ _)) rfl (by intro v hv; simp at hv; rcases hv with rfl | rfl | rfl | rfl | rfl | rfl <;> rfl) (by simp only [maxLen]; omega) (by omega) (by have := hBn.size; simp; omega) ?_
                 intro A6 c6 w6 h6 hg6 _
                 have hBw6 : Below wq.heap.size wq w6 := (hBn.alloc hBn.size _).grown hg6 (by have := hBn.size; simp; omega) (fun j hj => (Row.lt hRn.out j hj).1)
                 obtain ⟨k0, y0, y1, y2, y3, y4, y5, z0, z1, z2, z3, z4, z5⟩ := HC2.out _ hBw6)
              | fail)
            have hod' : outD HomeR.id ⟨id, num, at_, mv, ba, wa⟩ (H.take (k + 1)) = O ++ [⟨id, num, at_, mv, ba, wa⟩] := by rw [HOD.out, if_pos ⟨by trivial, HBL2.out⟩, if_pos HI.out]; simp
            go_roundw
            case rel =>
              refine ⟨k + 1, c6, A6, true, by have := HLT.out; omega, by go_num, rfl, Lib.hid (by rw [HANY.out]; simp [HBL.out]), by rw [hod']; simp, ?_, hBw6, Lib.hid (fun m hm => ?_)⟩
              · rw [hod']
                unfold HomeRow
                simpa [HomeR.cells] using h6
              · rcases HMEM.out m hm with hm | rfl
                · exact HNC.out m hm
                · rintro ⟨_, h⟩; exact h HI.out
            case measure => have := HLT.out; simp [intOf]; omega
        · have hi2 : (mid == id) = false := by simpa using hi
          have HI := Lib.hid hi
          clear hi
          by_cases hn : mnum = num
          · have hn2 : (mnum == num) = true := by simpa using hn
            have HN := Lib.hid hn
            clear hn
            go_quiet (fail)
            go_wp2_with fail
            go_ret
            have hcl : clash S ⟨id, num, at_, mv, ba, wa⟩ := ⟨⟨mid, mnum, mat, mmv, mba, mwa⟩, by rw [HH1.out]; exact HMK.out, HN.out, HI.out⟩
            have hE : (Edit.putH ⟨id, num, at_, mv, ba, wa⟩).er S = 8 := by
              show (if HomeR.ok ⟨id, num, at_, mv, ba, wa⟩ = false then (1 : Int) else if clash S ⟨id, num, at_, mv, ba, wa⟩ then 8 else 0) = 8
              rw [HOK.out, if_neg (by rw [decide_eq_true (by omega)]; simp), if_pos hcl]
            have hBq : Below w.heap.size w (wr.drewN nq) := below_then hB2 (below_drewN hB5 _)
            refine ⟨FM, by rw [hE]; rfl, ?_, Chg.of_below _ hBq, NewIn.refl _ _⟩
            rw [Edit.bad (by rw [hE]; omega)]
            rw [HH1.out, HV1.out]
            exact HM.out.below hBq
          · have hn2 : (mnum == num) = false := by simpa using hn
            have HN := Lib.hid hn
            clear hn
            go_quiet (fail)
            have hBn : Below wq.heap.size wq (wr.drewN nq) := below_drewN hB5 _
            have hRn := Lib.hid (Row.drewN HROW.out nq)
            generalize wr.drewN nq = wn at *
            clear k0 y0 y1 z0 z1
            obtain ⟨k0, y0, y1, y2, y3, y4, y5, z0, z1, z2, z3, z4, z5⟩ := HC2.out _ hBn
            cases d with
            | true =>
              have HBL := HI
              go_wp2_with (first
                | ((with_reducible refine at_dst 133 rfl ?_)
                   refine wpList_append_row rfl (.tmp 124) (.tmp 132) 30 rfl wq.heap.size 52 _ 6 48 Tryz.underlying30 infoHome48 rfl A5 O.length c5 _ rfl (Row.alloc hRn.out _) (some ⟨wn.heap.size, 0, none⟩) 1 1 [encStr mid, encStr mnum, .int .u16 (mat : Int), .int .u32 (mmv : Int), .bool mba, .bool mwa] rfl
                     (rd_cells _ _ _ _ (heap_alloc_new _ _)) rfl (by intro v hv; simp at hv; rcases hv with rfl | rfl | rfl | rfl | rfl | rfl <;> rfl) (by simp only [maxLen]; omega) (by omega) (by have := hBn.size; simp; omega) ?_
                   intro A7 c7 w7 h7 hg7 _
                   have hBw7 : Below wq.heap.size wq w7 := (hBn.alloc hBn.size _).grown hg7 (by have := hBn.size; simp; omega) (fun j hj => (Row.lt hRn.out j hj).1))
                | fail)
              have hod' : outD HomeR.id ⟨id, num, at_, mv, ba, wa⟩ (H.take (k + 1)) = O ++ [⟨mid, mnum, mat, mmv, mba, mwa⟩] := by rw [HOD.out, if_neg (fun h => by cases h.1), if_neg HI.out]
              go_roundw
              case rel =>
                refine ⟨k + 1, c7, A7, true, by have := HLT.out; omega, by go_num, rfl, Lib.hid (by rw [HANY.out]; simp [HBL.out]), by rw [hod']; simp, ?_, hBw7, Lib.hid (fun m hm => ?_)⟩
                · rw [hod']
                  unfold HomeRow
                  simpa [HomeR.cells] using h7
                · rcases HMEM.out m hm with hm | rfl
                  · exact HNC.out m hm
                  · rintro ⟨h, _⟩; exact HN.out h
              case measure => have := HLT.out; simp [intOf]; omega
            | false =>
              by_cases hlo : mid < id
              · have hbl : Op.bytesLess mid id = true := by rw [bytesLess_eq]; simpa using hlo
                have HBL : Hid (mid < id) := Lib.hid hlo
                clear hlo
                go_wp2_with (first
                  | ((with_reducible refine at_dst 133 rfl ?_)
                     refine wpList_append_row rfl (.tmp 124) (.tmp 132) 30 rfl wq.heap.size 52 _ 6 48 Tryz.underlying30 infoHome48 rfl A5 O.length c5 _ rfl (Row.alloc hRn.out _) (some ⟨wn.heap.size, 0, none⟩) 1 1 [encStr mid, encStr mnum, .int .u16 (mat : Int), .int .u32 (mmv : Int), .bool mba, .bool mwa] rfl
                       (rd_cells _ _ _ _ (heap_alloc_new _ _)) rfl (by intro v hv; simp at hv; rcases hv with rfl | rfl | rfl | rfl | rfl | rfl <;> rfl) (by simp only [maxLen]; omega) (by omega) (by have := hBn.size; simp; omega) ?_
                     intro A7 c7 w7 h7 hg7 _
                     have hBw7 : Below wq.heap.size wq w7 := (hBn.alloc hBn.size _).grown hg7 (by have := hBn.size; simp; omega) (fun j hj => (Row.lt hRn.out j hj).1))
                  | fail)
                have hod' : outD HomeR.id ⟨id, num, at_, mv, ba, wa⟩ (H.take (k + 1)) = O ++ [⟨mid, mnum, mat, mmv, mba, mwa⟩] := by rw [HOD.out, if_neg (fun h => h.2 HBL.out), if_neg HI.out]
                go_roundw
                case rel =>
                  refine ⟨k + 1, c7, A7, false, by have := HLT.out; omega, by go_num, rfl, Lib.hid (by rw [HANY.out]; simp [HBL.out]), by rw [hod']; simp, ?_, hBw7, Lib.hid (fun m hm => ?_)⟩
                  · rw [hod']
                    unfold HomeRow
                    simpa [HomeR.cells] using h7
                  · rcases HMEM.out m hm with hm | rfl
                    · exact HNC.out m hm
                    · rintro ⟨h, _⟩; exact HN.out h
                case measure => have := HLT.out; simp [intOf]; omega
              · have hbl : Op.bytesLess mid id = false := by rw [bytesLess_eq]; simpa using hlo
                have HBL : Hid (¬ mid < id) := Lib.hid hlo
                clear hlo
                go_wp2_with (first
                  | ((with_reducible refine at_dst 113 rfl ?_)
                     refine wpList_append_row rfl (.tmp 110) (.tmp 112) 30 rfl wq.heap.size 52 _ 6 48 Tryz.underlying30 infoHome48 rfl A5 O.length c5 _ rfl (Row.alloc hRn.out _) (some ⟨wn.heap.size, 0, none⟩) 1 1 [encStr id, encStr num, .int .u16 (at_ : Int), .int .u32 (mv : Int), .bool ba, .bool wa] rfl
                       (rd_cells _ _ _ _ (heap_alloc_new _ _)) rfl (by intro v hv; simp at hv; rcases hv with rfl | rfl | rfl | rfl | rfl | rfl <;> rfl) (by simp only [maxLen]; omega) (by omega) (by have := hBn.size; simp; omega) ?_
                     intro A6 c6 w6 h6 hg6 _
                     have hBw6 : Below wq.heap.size wq w6 := (hBn.alloc hBn.size _).grown hg6 (by have := hBn.size; simp; omega) (fun j hj => (Row.lt hRn.out j hj).1)
                     obtain ⟨k0, y0, y1, y2, y3, y4, y5, z0, z1, z2, z3, z4, z5⟩ := HC2.out _ hBw6)
                  | ((with_reducible refine at_dst 133 rfl ?_)
                     refine wpList_append_row rfl (.tmp 124) (.tmp 132) 30 rfl wq.heap.size 52 _ 6 48 Tryz.underlying30 infoHome48 rfl A6 (O.length + 1) c6 _ rfl (Row.alloc h6 _) (some ⟨w6.heap.size, 0, none⟩) 1 1 [encStr mid, encStr mnum, .int .u16 (mat : Int), .int .u32 (mmv : Int), .bool mba, .bool mwa] rfl
                       (rd_cells _ _ _ _ (heap_alloc_new _ _)) rfl (by intro v hv; simp at hv; rcases hv with rfl | rfl | rfl | rfl | rfl | rfl <;> rfl) (by simp only [maxLen]; omega) (by omega) (by have := hBw6.size; simp; omega) ?_
                     intro A7 c7 w7 h7 hg7 _
                     have hBw7 : Below wq.heap.size wq w7 := (hBw6.alloc hBw6.size _).grown hg7 (by have := hBw6.size; simp; omega) (fun j hj => (Row.lt h6 j hj).1))
                  | fail)
                have hod' : outD HomeR.id ⟨id, num, at_, mv, ba, wa⟩ (H.take (k + 1)) = O ++ [⟨id, num, at_, mv, ba, wa⟩, ⟨mid, mnum, mat, mmv, mba, mwa⟩] := by rw [HOD.out, if_pos ⟨by trivial, HBL.out⟩, if_neg HI.out]; simp
                go_roundw
                case rel =>
                  refine ⟨k + 1, c7, A7, true, by have := HLT.out; omega, by go_num, rfl, Lib.hid (by rw [HANY.out]; simp [HBL.out]), by rw [hod']; simp, ?_, hBw7, Lib.hid (fun m hm => ?_)⟩
                  · rw [hod']
                    unfold HomeRow
                    simpa [HomeR.cells] using h7
                  · rcases HMEM.out m hm with hm | rfl
                    · exact HNC.out m hm
                    · rintro ⟨h, _⟩; exact HN.out h
                case measure => have := HLT.out; simp [intOf]; omega
      · obtain rfl : k = H.length := by omega
        obtain ⟨kmo, kx, km1⟩ := HCELL.out _ hB5
        have k0 : wr.cell? ⟨gm, 0, none⟩ = some (.slice A1 H.length c1) := Go.Joins.cell_of_block kmo 0
        have f0 : wr.frozen? ⟨gm, 0, none⟩ = false := Go.Joins.unfrozen_of_block kmo 0
        have z0 : wr.cell? ⟨hb, 0, none⟩ = some (encStr id) := cell_of_row _ _ 0 _ _ _ kx
        have z1 : wr.cell? ⟨hb, 1, none⟩ = some (encStr num) := cell_of_row _ _ 1 _ _ _ kx
        have z2 : wr.cell? ⟨hb, 2, none⟩ = some (.int .u16 (at_ : Int)) := cell_of_row _ _ 2 _ _ _ kx
        have z3 : wr.cell? ⟨hb, 3, none⟩ = some (.int .u32 (mv : Int)) := cell_of_row _ _ 3 _ _ _ kx
        have z4 : wr.cell? ⟨hb, 4, none⟩ = some (.bool ba) := cell_of_row _ _ 4 _ _ _ kx
        have z5 : wr.cell? ⟨hb, 5, none⟩ = some (.bool wa) := cell_of_row _ _ 5 _ _ _ kx
        have hncl : ¬ clash S ⟨id, num, at_, mv, ba, wa⟩ := by
          rintro ⟨m, hm, h1, h2⟩
          rw [HH1.out] at hm
          exact HNC.out m (by rw [List.take_length]; exact hm) ⟨h1, h2⟩
        have hE : (Edit.putH ⟨id, num, at_, mv, ba, wa⟩).er S = 0 := er_putH (by rw [HOK.out]; exact decide_eq_true (by omega)) hncl
        have haf : ((Edit.putH ⟨id, num, at_, mv, ba, wa⟩).after S).homes = putK HomeR.id ⟨id, num, at_, mv, ba, wa⟩ H ∧ ((Edit.putH ⟨id, num, at_, mv, ba, wa⟩).after S).visits = V := by
          rw [Edit.good hE]
          exact ⟨by show putK HomeR.id _ S.homes = _; rw [HH1.out], HV1.out⟩
        have hgq : gm < wq.heap.size := by have := hB2.size; omega
        have hod : d = true → outD HomeR.id ⟨id, num, at_, mv, ba, wa⟩ (H.take H.length) = putK HomeR.id ⟨id, num, at_, mv, ba, wa⟩ H := fun hd => by
          have h2 := HDK.out
          rw [hd] at h2
          rw [outD_done h2, List.take_length]
        have hod2 : d = false → outD HomeR.id ⟨id, num, at_, mv, ba, wa⟩ (H.take H.length) ++ [⟨id, num, at_, mv, ba, wa⟩] = putK HomeR.id ⟨id, num, at_, mv, ba, wa⟩ H := fun hd => by
          have h2 := HDK.out
          rw [hd] at h2
          rw [outD_end h2, List.take_length]
        have hOl : (outD HomeR.id ⟨id, num, at_, mv, ba, wa⟩ (H.take H.length)).length ≤ 100001 := by
          have := outD_len (key := HomeR.id) ⟨id, num, at_, mv, ba, wa⟩ (H.take H.length)
          rw [List.length_take] at this
          have := HLEN.out
          omega
        have hnew : ∀ (W : World) (A : Option Addr) (c : Nat) (L : List HomeR), HomeRow W wq.heap.size A c L → NewIn w FM (gm :: (blk A ++ blk A2)) := fun W A c L hr i hi => by
          rw [HREST.out.1]
          simp only [List.mem_cons, List.mem_append] at hi ⊢
          rcases hi with hi | hi | hi
          · exact .inl (.inl hi)
          · exact .inr (by have := (Row.blk_lt hr i hi).1; have := hB2.size; omega)
          · exact .inl (.inr (.inr hi))
        generalize outD HomeR.id ⟨id, num, at_, mv, ba, wa⟩ (H.take H.length) = O at *
        have HAF := Lib.hid haf
        have HE0 := Lib.hid hE
        have HMO := Lib.hid kmo
        have HROW := Lib.hid hrow5
        have HNEW := Lib.hid hnew
        have HNL := Lib.hid hncl
        clear haf hE kmo kx km1 hrow5 hnew hncl
        cases d with
        | true =>
          have HO := Lib.hid (hod rfl)
          clear hod hod2
          go_wp2_with fail
          go_ret
          refine ⟨_, by rw [HE0.out]; rfl, ?_, ((Chg.of_below FM (below_then hB2 hB5)).setCell (p := ⟨gm, 0, none⟩) (by rw [HREST.out.1]; simp) _), HNEW.out wr A5 c5 O HROW.out⟩
          rw [HAF.out.1, HAF.out.2, ← HO.out]
          exact ModAt.set1 HMO.out (Row.below HREST.out.2.1 hB5) HROW.out hgq
        | false =>
          have HO := Lib.hid (hod2 rfl)
          clear hod hod2
          go_wp2_with (first
            | ((with_reducible refine at_dst 139 rfl ?_)
               refine wpList_append_row rfl (.tmp 136) (.tmp 138) 30 rfl wq.heap.size 52 _ 6 48 Tryz.underlying30 infoHome48 rfl A5 O.length c5 _ rfl (Row.alloc HROW.out _) (some ⟨wr.heap.size, 0, none⟩) 1 1 [encStr id, encStr num, .int .u16 (at_ : Int), .int .u32 (mv : Int), .bool ba, .bool wa] rfl
                 (rd_cells _ _ _ _ (heap_alloc_new _ _)) rfl (by intro v hv; simp at hv; rcases hv with rfl | rfl | rfl | rfl | rfl | rfl <;> rfl) (by simp only [maxLen]; omega) (by omega) (by have := hB5.size; simp; omega) ?_
               intro A6 c6 w6 h6 hg6 _
               have hBw6 : Below wq.heap.size wq w6 := (hB5.alloc hB5.size _).grown hg6 (by have := hB5.size; simp; omega) (fun j hj => (Row.lt HROW.out j hj).1)
               obtain ⟨kmo6, -, -⟩ := HCELL.out _ hBw6
               have HMO6 := Lib.hid kmo6
               have k06 : w6.cell? ⟨gm, 0, none⟩ = some (.slice A1 H.length c1) := Go.Joins.cell_of_block kmo6 0
               have f06 : w6.frozen? ⟨gm, 0, none⟩ = false := Go.Joins.unfrozen_of_block kmo6 0
               clear kmo6)
            | fail)
          go_ret
          have h6' : HomeRow w6 wq.heap.size A6 c6 (O ++ [⟨id, num, at_, mv, ba, wa⟩]) := by
            unfold HomeRow
            simpa [HomeR.cells] using h6
          refine ⟨_, by rw [HE0.out]; rfl, ?_, ((Chg.of_below FM (below_then hB2 hBw6)).setCell (p := ⟨gm, 0, none⟩) (by rw [HREST.out.1]; simp) _), HNEW.out w6 A6 c6 _ h6'⟩
          rw [HAF.out.1, HAF.out.2, ← HO.out]
          have := ModAt.set1 HMO6.out (Row.below HREST.out.2.1 hBw6) h6' hgq
          simpa using this
end Go.Proofs.YthbbmpelldglmaaGreatDoor
/- Law 38: the definition of a change, kind 1. -/
namespace Go.Proofs.YthbbmpelldglmaaGreatDoor
set_option linter.unusedVariables false
set_option linter.unusedSimpArgs false
open Go.RowKit

set_option maxHeartbeats 8000000 in
set_option maxRecDepth 100000 in
theorem modDo_k1 (a : Ac) (ha : a.Go) (w : World) (gm : Nat) (FM : List Nat) (S : St) (hf : S.Fit) (hm : ModAt w gm FM S.homes S.visits) (hl1 : S.visits.length ≤ 100000) (hk : a.kind % 4 = 1) :
    Calls Tryz.prog 11 #[.pointer (some ⟨gm, 0, none⟩), a.val] w (ModDone w gm FM S a.edit) := by
  have he : a.edit = .putV a.visit := by unfold Ac.edit; simp only [hk]; rfl
  have hok := acV_ok ha
  have hh := fun w => actVisit_any a ha w
  have hidx : a.visit.id = digitsB (a.id % 8) := rfl
  have hat_ : a.visit.home = a.point := rfl
  have hid := ha.id
  rw [he]
  generalize a.visit = x at *
  obtain ⟨kind, id0, num0, point, flags⟩ := a
  obtain ⟨id, num, at_, mv, ar, ro⟩ := x
  simp only at hidx hat_ hok hk hid
  subst hat_
  unfold Ac.val Ac.cells at *
  unfold VisitR.val VisitR.cells at hh
  simp only at hh ⊢
  have t1 : Int.tmod (kind : Int) 4 = (kind : Int) % 4 := rfl
  have t2 : (kind : Int) % 4 = 1 := by omega
  have t3 : Int.tmod (id0 : Int) 8 = (id0 : Int) % 8 := rfl
  have d1 := fun w' => digits38' (id0 % 8) w' ((id0 : Int) % 8) (by omega) (by omega)
  rw [← hidx] at d1
  have b0 := (Below.refl w.heap.size w).alloc (Nat.le_refl _) (.cells #[.int .u8 (kind : Int), .int .u8 (id0 : Int), .int .u8 (num0 : Int), .int .u16 (at_ : Int), .int .u8 (flags : Int)] 37)
  have HM := Lib.hid hm
  have HF := Lib.hid hf
  have HD := Lib.hid d1
  have HH := Lib.hid hh
  have HB0 := Lib.hid b0
  have HOK := Lib.hid hok
  have HL1 := Lib.hid hl1
  clear hm hf d1 hh b0 hok hidx hk he hid hl1
  go_enter Tryz.func11, Tryz.ntmps11
  by_cases hbig : at_ < 1 ∨ 16383 < at_
  · have hbad : ∀ w' FM', ModAt w' gm FM' S.homes S.visits → Chg FM w w' → NewIn w FM FM' → ModDone w gm FM S (.putV ⟨id, num, at_, mv, ar, ro⟩) (.returned (.int .i64 1)) w' := fun w' FM' h1 h2 h3 => by
      have hE : (Edit.putV ⟨id, num, at_, mv, ar, ro⟩).er S = 1 := by
        show (if VisitR.ok ⟨id, num, at_, mv, ar, ro⟩ = false then (1 : Int) else _) = 1
        rw [HOK.out, if_pos (decide_eq_false (by omega))]
      exact ⟨FM', by rw [hE], by rw [Edit.bad (by rw [hE]; omega)]; exact h1, h2, h3⟩
    have HBAD := Lib.hid hbad
    clear hbad
    rcases hbig with hbig | hbig
    · have q0 : (at_ : Int) < 1 := by omega
      go_wp2_with (first
        | (go_at_call 18; (with_reducible refine (HD.out _).mono ?_); rintro e w1 ⟨rfl, h1⟩; obtain rfl := h1.symm)
        | (go_at_call 40; (with_reducible refine (HH.out _).mono ?_); rintro e w1 ⟨rfl, hB1⟩; have hB := below_then HB0.out hB1)
        | fail)
      go_ret
      have hBq := below_alloc hB (.cells #[encStr id, encStr num, .int .u16 (at_ : Int), .int .u32 (mv : Int), .int .u16 (ar : Int), encStr ro] 54)
      exact HBAD.out _ FM (HM.out.below hBq) (Chg.of_below _ hBq) (NewIn.refl _ _)
    · have q1 : (16383 : Int) < (at_ : Int) := by omega
      have q0 : ¬ (at_ : Int) < 1 := by omega
      go_wp2_with (first
        | (go_at_call 18; (with_reducible refine (HD.out _).mono ?_); rintro e w1 ⟨rfl, h1⟩; obtain rfl := h1.symm)
        | (go_at_call 40; (with_reducible refine (HH.out _).mono ?_); rintro e w1 ⟨rfl, hB1⟩; have hB := below_then HB0.out hB1)
        | fail)
      go_ret
      have hBq := below_alloc hB (.cells #[encStr id, encStr num, .int .u16 (at_ : Int), .int .u32 (mv : Int), .int .u16 (ar : Int), encStr ro] 54)
      exact HBAD.out _ FM (HM.out.below hBq) (Chg.of_below _ hBq) (NewIn.refl _ _)
  · have q1 : ¬ (16383 : Int) < (at_ : Int) := by omega
    have q0 : ¬ (at_ : Int) < 1 := by omega
    have hgood : 1 ≤ at_ ∧ at_ ≤ 16383 := by omega
    have HGOOD := Lib.hid hgood
    clear hbig hgood
    go_upto_block 5 with (first
      | (go_at_call 18; (with_reducible refine (HD.out _).mono ?_); rintro e w1 ⟨rfl, h1⟩; obtain rfl := h1.symm)
      | (go_at_call 40; (with_reducible refine (HH.out _).mono ?_); rintro e w1 ⟨rfl, hB1⟩; have hB := below_then HB0.out hB1)
      | fail)
    obtain ⟨hB2, hx2⟩ : Below w.heap.size w (w1.alloc (.cells #[encStr id, encStr num, .int .u16 (at_ : Int), .int .u32 (mv : Int), .int .u16 (ar : Int), encStr ro] 54)) ∧ (w1.alloc (.cells #[encStr id, encStr num, .int .u16 (at_ : Int), .int .u32 (mv : Int), .int .u16 (ar : Int), encStr ro] 54)).heap[w1.heap.size]? = some (.cells #[encStr id, encStr num, .int .u16 (at_ : Int), .int .u32 (mv : Int), .int .u16 (ar : Int), encStr ro] 54) := ⟨below_alloc hB _, heap_alloc_new w1 _⟩
    generalize w1.alloc (.cells #[encStr id, encStr num, .int .u16 (at_ : Int), .int .u32 (mv : Int), .int .u16 (ar : Int), encStr ro] 54) = wq at *
    generalize w1.heap.size = hb at *
    have hmq := HM.out.below hB2
    obtain ⟨A2, c2, A1, c1, hFM, hmo, hm2, hm1⟩ := hmq
    have hgm : gm < w.heap.size := HM.out.lt gm (by rw [hFM]; simp)
    have HHS := Lib.hid HF.out.vs
    have HLEN := HL1
    have HREST : Hid (FM = gm :: (blk A2 ++ blk A1) ∧ HomeRow wq 0 A2 c2 S.homes ∧ VisitRow wq 0 A1 c1 S.visits) := Lib.hid ⟨hFM, hm2, hm1⟩
    generalize hH : S.visits = H at *
    generalize hV : S.homes = V at *
    have HH1 := Lib.hid hH
    have HV1 := Lib.hid hV
    have HCELL := Lib.hid (show ∀ W, Below wq.heap.size wq W → W.heap[gm]? = some (modObj A2 V.length c2 A1 H.length c1) ∧ W.heap[hb]? = some (.cells #[encStr id, encStr num, .int .u16 (at_ : Int), .int .u32 (mv : Int), .int .u16 (ar : Int), encStr ro] 54) ∧ VisitRow W 0 A1 c1 H from fun W hW => ⟨(hW.block gm (Array.getElem?_eq_some_iff.1 hmo).1).trans hmo, (hW.block hb (Array.getElem?_eq_some_iff.1 hx2).1).trans hx2, Row.below hm1 hW⟩)
    clear hFM hmo hm1 hm2 hx2 hB hB1 hH hV
    go_wp2_with fail
    go_loopw [7, 13, 14] (fun hv dv iv wr => ∃ (k c5 : Nat) (A5 : Option Addr) (d : Bool), k ≤ H.length ∧ iv = .int .i64 k ∧ dv = .bool d ∧ Hid (((H.take k).any fun m => decide (¬ m.id < id)) = d) ∧ hv = .slice A5 (outD VisitR.id ⟨id, num, at_, mv, ar, ro⟩ (H.take k)).length c5 ∧ VisitRow wr wq.heap.size A5 c5 (outD VisitR.id ⟨id, num, at_, mv, ar, ro⟩ (H.take k)) ∧ Below wq.heap.size wq wr ∧ Hid (∀ m ∈ H.take k, ¬ ((m.roam = ro ∧ ro ≠ []) ∧ m.id ≠ id)))
      (fun _ _ iv _ => H.length - (intOf iv).toNat)
    case atStart => exact ⟨0, 0, none, false, Nat.zero_le _, rfl, rfl, Lib.hid rfl, rfl, Row.nil _ _ _ _, Below.refl _ _, Lib.hid (by simp)⟩
    case round =>
      obtain ⟨k, c5, A5, d, hkl, rfl, rfl, HDK, rfl, hrow5, hB5, HNC⟩ := hrel
      by_cases hlt : k < H.length
      · obtain ⟨kmo, kx, km1⟩ := HCELL.out _ hB5
        obtain ⟨g1, rfl, -⟩ := Row.form km1 (by omega)
        have hsorted : (H.take k ++ [H[k]]).Pairwise (fun a b => a.id < b.id) := by
          rw [← List.take_succ_eq_append_getElem hlt]
          exact HHS.out.take
        have hod := outD_snoc (key := VisitR.id) (x := ⟨id, num, at_, mv, ar, ro⟩) hsorted
        rw [← List.take_succ_eq_append_getElem hlt] at hod
        simp only [HDK.out] at hod
        have hany : ((H.take (k + 1)).any fun m => decide (¬ m.id < id)) = (d || decide (¬ H[k].id < id)) := by
          rw [List.take_succ_eq_append_getElem hlt, List.any_append, HDK.out]
          simp
        have hmem : ∀ m ∈ H.take (k + 1), m ∈ H.take k ∨ m = H[k] := by
          intro m hm
          rw [List.take_succ_eq_append_getElem hlt] at hm
          exact (List.mem_append.1 hm).imp _root_.id (fun h => List.mem_singleton.1 h)
        have hgt : H[k].id = id → d = false := by
          intro e
          cases hd : d with
          | false => rfl
          | true =>
            rw [← HDK.out] at hd
            obtain ⟨y, hy, hy2⟩ := List.any_eq_true.1 hd
            have := (List.pairwise_append.1 hsorted).2.2 y hy H[k] (by simp)
            rw [e] at this
            exact absurd this (by simpa using hy2)
        have hOl : (outD VisitR.id ⟨id, num, at_, mv, ar, ro⟩ (H.take k)).length ≤ 100001 := by
          have := outD_len (key := VisitR.id) ⟨id, num, at_, mv, ar, ro⟩ (H.take k)
          rw [List.length_take] at this
          have := HLEN.out
          omega
        generalize hO : outD VisitR.id ⟨id, num, at_, mv, ar, ro⟩ (H.take k) = O at *
        have HMK : Hid (H[k] ∈ H) := Lib.hid (List.getElem_mem hlt)
        have HC2 : Hid (∀ W, Below wq.heap.size wq W → W.cell? ⟨gm, 1, none⟩ = some (.slice (some ⟨g1, 0, none⟩) H.length c1) ∧ W.cell? ⟨g1, k * 6, none⟩ = some (encStr H[k].id) ∧ W.cell? ⟨g1, k * 6 + 1, none⟩ = some (encStr H[k].number) ∧ W.cell? ⟨g1, k * 6 + 2, none⟩ = some (.int .u16 (H[k].home : Int)) ∧ W.cell? ⟨g1, k * 6 + 3, none⟩ = some (.int .u32 (H[k].move : Int)) ∧ W.cell? ⟨g1, k * 6 + 4, none⟩ = some (.int .u16 (H[k].area : Int)) ∧ W.cell? ⟨g1, k * 6 + 5, none⟩ = some (encStr H[k].roam) ∧
            W.cell? ⟨hb, 0, none⟩ = some (encStr id) ∧ W.cell? ⟨hb, 1, none⟩ = some (encStr num) ∧ W.cell? ⟨hb, 2, none⟩ = some (.int .u16 (at_ : Int)) ∧ W.cell? ⟨hb, 3, none⟩ = some (.int .u32 (mv : Int)) ∧ W.cell? ⟨hb, 4, none⟩ = some (.int .u16 (ar : Int)) ∧ W.cell? ⟨hb, 5, none⟩ = some (encStr ro)) := Lib.hid fun W hW => by
          obtain ⟨a1, a2, a3⟩ := HCELL.out W hW
          have x1 := VisitRow.at a3 hlt
          exact ⟨Go.Joins.cell_of_block a1 1, x1 0 (by decide), x1 1 (by decide), x1 2 (by decide), x1 3 (by decide), x1 4 (by decide), x1 5 (by decide), cell_of_row _ _ 0 _ _ _ a2, cell_of_row _ _ 1 _ _ _ a2, cell_of_row _ _ 2 _ _ _ a2, cell_of_row _ _ 3 _ _ _ a2, cell_of_row _ _ 4 _ _ _ a2, cell_of_row _ _ 5 _ _ _ a2⟩
        generalize H[k] = x at *
        obtain ⟨mid, mnum, mat, mmv, mar, mro⟩ := x
        simp only at hod hany hmem hgt HC2
        have HLT := Lib.hid hlt
        have HOD := Lib.hid hod
        have HANY := Lib.hid hany
        have HMEM := Lib.hid hmem
        have HGT := Lib.hid hgt
        have HROW := Lib.hid hrow5
        obtain ⟨k0, y0, -, -, -, -, y5, -, -, -, -, -, z5⟩ := HC2.out _ hB5
        have q2 : (0 : Int) ≤ (k : Int) := by omega
        have q3 : (k : Int) < (H.length : Int) := by omega
        have q4 : k ≤ 100000 := by have := HLEN.out; omega
        clear hod hany hmem hgt hrow5 kmo kx km1 hsorted hO
        go_upto_region 40 with fail
        by_cases hi : mid = id
        · have hi2 : (mid == id) = true := by simpa using hi
          have hbl : Op.bytesLess mid id = false := by rw [bytesLess_eq, hi]; simp
          have HBL2 : Hid (¬ mid < id) := Lib.hid (by rw [hi]; exact List.lt_irrefl _)
          have HBL := HBL2
          have HI := Lib.hid hi
          obtain rfl := HGT.out hi
          clear hi
          go_cut [192] from 156 to 230 (fun c wx => c = .bool false ∧ ∃ n, wx = wr.drewN n)
          case first =>
            by_cases hr : ro = []
            · have hr2 : ro.isEmpty = true := by simpa using hr
              clear hr
              go_quiet (fail)
              go_wp2_with fail
              go_meet
              exact ⟨rfl, nq, rfl⟩
            · have hr2 : ro.isEmpty = false := by simpa using hr
              clear hr
              by_cases hn : mro = ro
              · have hn2 : (mro == ro) = true := by simpa using hn
                clear hn
                go_quiet (fail)
                go_wp2_with fail
                go_meet
                exact ⟨rfl, nq, rfl⟩
              · have hn2 : (mro == ro) = false := by simpa using hn
                clear hn
                go_quiet (fail)
                go_wp2_with fail
                go_meet
                exact ⟨rfl, nq, rfl⟩
          case rest =>
            obtain ⟨rfl, nq, rfl⟩ := hcut
            have hBn : Below wq.heap.size wq (wr.drewN nq) := below_drewN hB5 _
            have hRn := Lib.hid (Row.drewN HROW.out nq)
            generalize wr.drewN nq = wn at *
            clear k0 y0 y5 z5
            obtain ⟨k0, y0, y1, y2, y3, y4, y5, z0, z1, z2, z3, z4, z5⟩ := HC2.out _ hBn
            go_wp2_with (first
              | ((with_reducible refine at_dst 210 rfl ?_)
                 refine wpList_append_row rfl (.tmp 207) (.tmp 209) 31 rfl wq.heap.size 54 _ 6 64 Tryz.underlying31 infoVisit64 rfl A5 O.length c5 _ rfl (Row.alloc hRn.out _) (some ⟨wn.heap.size, 0, none⟩) 1 1 [encStr id, encStr num, .int .u16 (at_ : Int), .int .u32 (mv : Int), .int .u16 (ar : Int), encStr ro] rfl
                   (rd_cells _ _ _ _ (heap_alloc_new _ _)) rfl (by intro v hv; simp at hv; rcases hv with rfl | rfl | rfl | rfl | rfl | rfl <;> rfl) (by simp only [maxLen]; omega) (by omega) (by have := hBn.size; simp; omega) ?_
                 intro A6 c6 w6 h6 hg6 _
                 have hBw6 : Below wq.heap.size wq w6 := (hBn.alloc hBn.size _).grown hg6 (by have := hBn.size; simp; omega) (fun j hj => (Row.lt hRn.out j hj).1)
                 obtain ⟨k0, y0, y1, y2, y3, y4, y5, z0, z1, z2, z3, z4, z5⟩ := HC2.out _ hBw6)
              | fail)
            have hod' : outD VisitR.id ⟨id, num, at_, mv, ar, ro⟩ (H.take (k + 1)) = O ++ [⟨id, num, at_, mv, ar, ro⟩] := by rw [HOD.out, if_pos ⟨by trivial, HBL2.out⟩, if_pos HI.out]; simp
            go_roundw
            case rel =>
              refine ⟨k + 1, c6, A6, true, by have := HLT.out; omega, by go_num, rfl, Lib.hid (by rw [HANY.out]; simp [HBL.out]), by rw [hod']; simp, ?_, hBw6, Lib.hid (fun m hm => ?_)⟩
              · rw [hod']
                unfold VisitRow
                simpa [VisitR.cells] using h6
              · rcases HMEM.out m hm with hm | rfl
                · exact HNC.out m hm
                · rintro ⟨_, h⟩; exact h HI.out
            case measure => have := HLT.out; simp [intOf]; omega
        · have hi2 : (mid == id) = false := by simpa using hi
          have HI := Lib.hid hi
          clear hi
          by_cases hn : mro = ro ∧ ro ≠ []
          · have hn2 : (mro == ro) = true := by simpa using hn.1
            have hr2 : ro.isEmpty = false := by simpa using hn.2
            have HN := Lib.hid hn
            clear hn
            go_quiet (fail)
            go_wp2_with fail
            go_ret
            have hcl : clashV S ⟨id, num, at_, mv, ar, ro⟩ := ⟨⟨mid, mnum, mat, mmv, mar, mro⟩, mem_roamers.2 ⟨by rw [HH1.out]; exact HMK.out, by show mro ≠ []; rw [HN.out.1]; exact HN.out.2⟩, HN.out.1, HI.out⟩
            have hE : (Edit.putV ⟨id, num, at_, mv, ar, ro⟩).er S = 8 := by
              show (if VisitR.ok ⟨id, num, at_, mv, ar, ro⟩ = false then (1 : Int) else if clashV S ⟨id, num, at_, mv, ar, ro⟩ then 8 else 0) = 8
              rw [HOK.out, if_neg (by rw [decide_eq_true HGOOD.out]; simp), if_pos hcl]
            have hBq : Below w.heap.size w (wr.drewN nq) := below_then hB2 (below_drewN hB5 _)
            refine ⟨FM, by rw [hE]; rfl, ?_, Chg.of_below _ hBq, NewIn.refl _ _⟩
            rw [Edit.bad (by rw [hE]; omega)]
            rw [HH1.out, HV1.out]
            exact HM.out.below hBq
          · have HN := Lib.hid hn
            go_cut [192] from 156 to 230 (fun c wx => c = .bool false ∧ ∃ n, wx = wr.drewN n)
            case first =>
              by_cases hr : ro = []
              · have hr2 : ro.isEmpty = true := by simpa using hr
                clear hr hn
                go_quiet (fail)
                go_wp2_with fail
                go_meet
                exact ⟨rfl, nq, rfl⟩
              · have hr2 : ro.isEmpty = false := by simpa using hr
                have hn2 : (mro == ro) = false := by simpa using fun e => hn ⟨e, hr⟩
                clear hr hn
                go_quiet (fail)
                go_wp2_with fail
                go_meet
                exact ⟨rfl, nq, rfl⟩
            case rest =>
            obtain ⟨rfl, nq, rfl⟩ := hcut
            clear hn
            have hBn : Below wq.heap.size wq (wr.drewN nq) := below_drewN hB5 _
            have hRn := Lib.hid (Row.drewN HROW.out nq)
            generalize wr.drewN nq = wn at *
            clear k0 y0 y5 z5
            obtain ⟨k0, y0, y1, y2, y3, y4, y5, z0, z1, z2, z3, z4, z5⟩ := HC2.out _ hBn
            cases d with
            | true =>
              have HBL := HI
              go_wp2_with (first
                | ((with_reducible refine at_dst 230 rfl ?_)
                   refine wpList_append_row rfl (.tmp 221) (.tmp 229) 31 rfl wq.heap.size 54 _ 6 64 Tryz.underlying31 infoVisit64 rfl A5 O.length c5 _ rfl (Row.alloc hRn.out _) (some ⟨wn.heap.size, 0, none⟩) 1 1 [encStr mid, encStr mnum, .int .u16 (mat : Int), .int .u32 (mmv : Int), .int .u16 (mar : Int), encStr mro] rfl
                     (rd_cells _ _ _ _ (heap_alloc_new _ _)) rfl (by intro v hv; simp at hv; rcases hv with rfl | rfl | rfl | rfl | rfl | rfl <;> rfl) (by simp only [maxLen]; omega) (by omega) (by have := hBn.size; simp; omega) ?_
                   intro A7 c7 w7 h7 hg7 _
                   have hBw7 : Below wq.heap.size wq w7 := (hBn.alloc hBn.size _).grown hg7 (by have := hBn.size; simp; omega) (fun j hj => (Row.lt hRn.out j hj).1))
                | fail)
              have hod' : outD VisitR.id ⟨id, num, at_, mv, ar, ro⟩ (H.take (k + 1)) = O ++ [⟨mid, mnum, mat, mmv, mar, mro⟩] := by rw [HOD.out, if_neg (fun h => by cases h.1), if_neg HI.out]
              go_roundw
              case rel =>
                refine ⟨k + 1, c7, A7, true, by have := HLT.out; omega, by go_num, rfl, Lib.hid (by rw [HANY.out]; simp [HBL.out]), by rw [hod']; simp, ?_, hBw7, Lib.hid (fun m hm => ?_)⟩
                · rw [hod']
                  unfold VisitRow
                  simpa [VisitR.cells] using h7
                · rcases HMEM.out m hm with hm | rfl
                  · exact HNC.out m hm
                  · rintro ⟨h, _⟩; exact HN.out h
              case measure => have := HLT.out; simp [intOf]; omega
            | false =>
              by_cases hlo : mid < id
              · have hbl : Op.bytesLess mid id = true := by rw [bytesLess_eq]; simpa using hlo
                have HBL : Hid (mid < id) := Lib.hid hlo
                clear hlo
                go_wp2_with (first
                  | ((with_reducible refine at_dst 230 rfl ?_)
                     refine wpList_append_row rfl (.tmp 221) (.tmp 229) 31 rfl wq.heap.size 54 _ 6 64 Tryz.underlying31 infoVisit64 rfl A5 O.length c5 _ rfl (Row.alloc hRn.out _) (some ⟨wn.heap.size, 0, none⟩) 1 1 [encStr mid, encStr mnum, .int .u16 (mat : Int), .int .u32 (mmv : Int), .int .u16 (mar : Int), encStr mro] rfl
                       (rd_cells _ _ _ _ (heap_alloc_new _ _)) rfl (by intro v hv; simp at hv; rcases hv with rfl | rfl | rfl | rfl | rfl | rfl <;> rfl) (by simp only [maxLen]; omega) (by omega) (by have := hBn.size; simp; omega) ?_
                     intro A7 c7 w7 h7 hg7 _
                     have hBw7 : Below wq.heap.size wq w7 := (hBn.alloc hBn.size _).grown hg7 (by have := hBn.size; simp; omega) (fun j hj => (Row.lt hRn.out j hj).1))
                  | fail)
                have hod' : outD VisitR.id ⟨id, num, at_, mv, ar, ro⟩ (H.take (k + 1)) = O ++ [⟨mid, mnum, mat, mmv, mar, mro⟩] := by rw [HOD.out, if_neg (fun h => h.2 HBL.out), if_neg HI.out]
                go_roundw
                case rel =>
                  refine ⟨k + 1, c7, A7, false, by have := HLT.out; omega, by go_num, rfl, Lib.hid (by rw [HANY.out]; simp [HBL.out]), by rw [hod']; simp, ?_, hBw7, Lib.hid (fun m hm => ?_)⟩
                  · rw [hod']
                    unfold VisitRow
                    simpa [VisitR.cells] using h7
                  · rcases HMEM.out m hm with hm | rfl
                    · exact HNC.out m hm
                    · rintro ⟨h, _⟩; exact HN.out h
                case measure => have := HLT.out; simp [intOf]; omega
              · have hbl : Op.bytesLess mid id = false := by rw [bytesLess_eq]; simpa using hlo
                have HBL : Hid (¬ mid < id) := Lib.hid hlo
                clear hlo
                go_wp2_with (first
                  | ((with_reducible refine at_dst 210 rfl ?_)
                     refine wpList_append_row rfl (.tmp 207) (.tmp 209) 31 rfl wq.heap.size 54 _ 6 64 Tryz.underlying31 infoVisit64 rfl A5 O.length c5 _ rfl (Row.alloc hRn.out _) (some ⟨wn.heap.size, 0, none⟩) 1 1 [encStr id, encStr num, .int .u16 (at_ : Int), .int .u32 (mv : Int), .int .u16 (ar : Int), encStr ro] rfl
                       (rd_cells _ _ _ _ (heap_alloc_new _ _)) rfl (by intro v hv; simp at hv; rcases hv with rfl | rfl | rfl | rfl | rfl | rfl <;> rfl) (by simp only [maxLen]; omega) (by omega) (by have := hBn.size; simp; omega) ?_
                     intro A6 c6 w6 h6 hg6 _
                     have hBw6 : Below wq.heap.size wq w6 := (hBn.alloc hBn.size _).grown hg6 (by have := hBn.size; simp; omega) (fun j hj => (Row.lt hRn.out j hj).1)
                     obtain ⟨k0, y0, y1, y2, y3, y4, y5, z0, z1, z2, z3, z4, z5⟩ := HC2.out _ hBw6)
                  | ((with_reducible refine at_dst 230 rfl ?_)
                     refine wpList_append_row rfl (.tmp 221) (.tmp 229) 31 rfl wq.heap.size 54 _ 6 64 Tryz.underlying31 infoVisit64 rfl A6 (O.length + 1) c6 _ rfl (Row.alloc h6 _) (some ⟨w6.heap.size, 0, none⟩) 1 1 [encStr mid, encStr mnum, .int .u16 (mat : Int), .int .u32 (mmv : Int), .int .u16 (mar : Int), encStr mro] rfl
                       (rd_cells _ _ _ _ (heap_alloc_new _ _)) rfl (by intro v hv; simp at hv; rcases hv with rfl | rfl | rfl | rfl | rfl | rfl <;> rfl) (by simp only [maxLen]; omega) (by omega) (by have := hBw6.size; simp; omega) ?_
                     intro A7 c7 w7 h7 hg7 _
                     have hBw7 : Below wq.heap.size wq w7 := (hBw6.alloc hBw6.size _).grown hg7 (by have := hBw6.size; simp; omega) (fun j hj => (Row.lt h6 j hj).1))
                  | fail)
                have hod' : outD VisitR.id ⟨id, num, at_, mv, ar, ro⟩ (H.take (k + 1)) = O ++ [⟨id, num, at_, mv, ar, ro⟩, ⟨mid, mnum, mat, mmv, mar, mro⟩] := by rw [HOD.out, if_pos ⟨by trivial, HBL.out⟩, if_neg HI.out]; simp
                go_roundw
                case rel =>
                  refine ⟨k + 1, c7, A7, true, by have := HLT.out; omega, by go_num, rfl, Lib.hid (by rw [HANY.out]; simp [HBL.out]), by rw [hod']; simp, ?_, hBw7, Lib.hid (fun m hm => ?_)⟩
                  · rw [hod']
                    unfold VisitRow
                    simpa [VisitR.cells] using h7
                  · rcases HMEM.out m hm with hm | rfl
                    · exact HNC.out m hm
                    · rintro ⟨h, _⟩; exact HN.out h
                case measure => have := HLT.out; simp [intOf]; omega
      · obtain rfl : k = H.length := by omega
        obtain ⟨kmo, kx, km1⟩ := HCELL.out _ hB5
        have k0 : wr.cell? ⟨gm, 1, none⟩ = some (.slice A1 H.length c1) := Go.Joins.cell_of_block kmo 1
        have f0 : wr.frozen? ⟨gm, 1, none⟩ = false := Go.Joins.unfrozen_of_block kmo 1
        have z0 : wr.cell? ⟨hb, 0, none⟩ = some (encStr id) := cell_of_row _ _ 0 _ _ _ kx
        have z1 : wr.cell? ⟨hb, 1, none⟩ = some (encStr num) := cell_of_row _ _ 1 _ _ _ kx
        have z2 : wr.cell? ⟨hb, 2, none⟩ = some (.int .u16 (at_ : Int)) := cell_of_row _ _ 2 _ _ _ kx
        have z3 : wr.cell? ⟨hb, 3, none⟩ = some (.int .u32 (mv : Int)) := cell_of_row _ _ 3 _ _ _ kx
        have z4 : wr.cell? ⟨hb, 4, none⟩ = some (.int .u16 (ar : Int)) := cell_of_row _ _ 4 _ _ _ kx
        have z5 : wr.cell? ⟨hb, 5, none⟩ = some (encStr ro) := cell_of_row _ _ 5 _ _ _ kx
        have hncl : ¬ clashV S ⟨id, num, at_, mv, ar, ro⟩ := by
          rintro ⟨m, hm, h1, h2⟩
          rw [HH1.out] at hm
          obtain ⟨hm1, hm2⟩ := mem_roamers.1 hm
          exact HNC.out m (by rw [List.take_length]; exact hm1) ⟨⟨h1, by have e : m.roam = ro := h1; rw [← e]; exact hm2⟩, h2⟩
        have hE : (Edit.putV ⟨id, num, at_, mv, ar, ro⟩).er S = 0 := er_putV (by rw [HOK.out]; exact decide_eq_true HGOOD.out) hncl
        have haf : ((Edit.putV ⟨id, num, at_, mv, ar, ro⟩).after S).visits = putK VisitR.id ⟨id, num, at_, mv, ar, ro⟩ H ∧ ((Edit.putV ⟨id, num, at_, mv, ar, ro⟩).after S).homes = V := by
          rw [Edit.good hE]
          exact ⟨by show putK VisitR.id _ S.visits = _; rw [HH1.out], HV1.out⟩
        have hgq : gm < wq.heap.size := by have := hB2.size; omega
        have hod : d = true → outD VisitR.id ⟨id, num, at_, mv, ar, ro⟩ (H.take H.length) = putK VisitR.id ⟨id, num, at_, mv, ar, ro⟩ H := fun hd => by
          have h2 := HDK.out
          rw [hd] at h2
          rw [outD_done h2, List.take_length]
        have hod2 : d = false → outD VisitR.id ⟨id, num, at_, mv, ar, ro⟩ (H.take H.length) ++ [⟨id, num, at_, mv, ar, ro⟩] = putK VisitR.id ⟨id, num, at_, mv, ar, ro⟩ H := fun hd => by
          have h2 := HDK.out
          rw [hd] at h2
          rw [outD_end h2, List.take_length]
        have hOl : (outD VisitR.id ⟨id, num, at_, mv, ar, ro⟩ (H.take H.length)).length ≤ 100001 := by
          have := outD_len (key := VisitR.id) ⟨id, num, at_, mv, ar, ro⟩ (H.take H.length)
          rw [List.length_take] at this
          have := HLEN.out
          omega
        have hnew : ∀ (W : World) (A : Option Addr) (c : Nat) (L : List VisitR), VisitRow W wq.heap.size A c L → NewIn w FM (gm :: (blk A2 ++ blk A)) := fun W A c L hr i hi => by
          rw [HREST.out.1]
          simp only [List.mem_cons, List.mem_append] at hi ⊢
          rcases hi with hi | hi | hi
          · exact .inl (.inl hi)
          · exact .inl (.inr (.inl hi))
          · exact .inr (by have := (Row.blk_lt hr i hi).1; have := hB2.size; omega)
        generalize outD VisitR.id ⟨id, num, at_, mv, ar, ro⟩ (H.take H.length) = O at *
        have HAF := Lib.hid haf
        have HE0 := Lib.hid hE
        have HMO := Lib.hid kmo
        have HROW := Lib.hid hrow5
        have HNEW := Lib.hid hnew
        have HNL := Lib.hid hncl
        clear haf hE kmo kx km1 hrow5 hnew hncl
        cases d with
        | true =>
          have HO := Lib.hid (hod rfl)
          clear hod hod2
          go_wp2_with fail
          go_ret
          refine ⟨_, by rw [HE0.out]; rfl, ?_, ((Chg.of_below FM (below_then hB2 hB5)).setCell (p := ⟨gm, 1, none⟩) (by rw [HREST.out.1]; simp) _), HNEW.out wr A5 c5 O HROW.out⟩
          rw [HAF.out.1, HAF.out.2, ← HO.out]
          exact ModAt.set2 HMO.out (Row.below HREST.out.2.1 hB5) HROW.out hgq
        | false =>
          have HO := Lib.hid (hod2 rfl)
          clear hod hod2
          go_wp2_with (first
            | ((with_reducible refine at_dst 236 rfl ?_)
               refine wpList_append_row rfl (.tmp 233) (.tmp 235) 31 rfl wq.heap.size 54 _ 6 64 Tryz.underlying31 infoVisit64 rfl A5 O.length c5 _ rfl (Row.alloc HROW.out _) (some ⟨wr.heap.size, 0, none⟩) 1 1 [encStr id, encStr num, .int .u16 (at_ : Int), .int .u32 (mv : Int), .int .u16 (ar : Int), encStr ro] rfl
                 (rd_cells _ _ _ _ (heap_alloc_new _ _)) rfl (by intro v hv; simp at hv; rcases hv with rfl | rfl | rfl | rfl | rfl | rfl <;> rfl) (by simp only [maxLen]; omega) (by omega) (by have := hB5.size; simp; omega) ?_
               intro A6 c6 w6 h6 hg6 _
               have hBw6 : Below wq.heap.size wq w6 := (hB5.alloc hB5.size _).grown hg6 (by have := hB5.size; simp; omega) (fun j hj => (Row.lt HROW.out j hj).1)
               obtain ⟨kmo6, -, -⟩ := HCELL.out _ hBw6
               have HMO6 := Lib.hid kmo6
               have k06 : w6.cell? ⟨gm, 1, none⟩ = some (.slice A1 H.length c1) := Go.Joins.cell_of_block kmo6 1
               have f06 : w6.frozen? ⟨gm, 1, none⟩ = false := Go.Joins.unfrozen_of_block kmo6 1
               clear kmo6)
            | fail)
          go_ret
          have h6' : VisitRow w6 wq.heap.size A6 c6 (O ++ [⟨id, num, at_, mv, ar, ro⟩]) := by
            unfold VisitRow
            simpa [VisitR.cells] using h6
          refine ⟨_, by rw [HE0.out]; rfl, ?_, ((Chg.of_below FM (below_then hB2 hBw6)).setCell (p := ⟨gm, 1, none⟩) (by rw [HREST.out.1]; simp) _), HNEW.out w6 A6 c6 _ h6'⟩
          rw [HAF.out.1, HAF.out.2, ← HO.out]
          have := ModAt.set2 HMO6.out (Row.below HREST.out.2.1 hBw6) h6' hgq
          simpa using this
end Go.Proofs.YthbbmpelldglmaaGreatDoor
/- Law 38: the definition of a change, kinds 2 and 3, and all. -/
namespace Go.Proofs.YthbbmpelldglmaaGreatDoor
set_option linter.unusedVariables false
set_option linter.unusedSimpArgs false
open Go.RowKit

set_option maxHeartbeats 8000000 in
set_option maxRecDepth 100000 in
theorem modDo_k2 (a : Ac) (ha : a.Go) (w : World) (gm : Nat) (FM : List Nat) (S : St) (hf : S.Fit) (hm : ModAt w gm FM S.homes S.visits) (hl1 : S.homes.length ≤ 100000) (hk : a.kind % 4 = 2) :
    Calls Tryz.prog 11 #[.pointer (some ⟨gm, 0, none⟩), a.val] w (ModDone w gm FM S a.edit) := by
  have he : a.edit = .dropH (digitsB (a.id % 8)) := by unfold Ac.edit; simp only [hk]; rfl
  have hid := ha.id
  rw [he]
  obtain ⟨kind, id0, num0, point, flags⟩ := a
  simp only at hk hid
  unfold Ac.val Ac.cells at *
  simp only at ⊢
  have t1 : Int.tmod (kind : Int) 4 = (kind : Int) % 4 := rfl
  have t2 : (kind : Int) % 4 = 2 := by omega
  have t3 : Int.tmod (id0 : Int) 8 = (id0 : Int) % 8 := rfl
  have d1 := fun w' => digits38' (id0 % 8) w' ((id0 : Int) % 8) (by omega) (by omega)
  generalize digitsB (id0 % 8) = id at *
  have b0 := (Below.refl w.heap.size w).alloc (Nat.le_refl _) (.cells #[.int .u8 (kind : Int), .int .u8 (id0 : Int), .int .u8 (num0 : Int), .int .u16 (point : Int), .int .u8 (flags : Int)] 37)
  have HM := Lib.hid hm
  have HD := Lib.hid d1
  have HL1 := Lib.hid hl1
  clear hm hf d1 hk he hid hl1
  go_enter Tryz.func11, Tryz.ntmps11
  go_upto_block 7 with (first
    | (go_at_call 18; (with_reducible refine (HD.out _).mono ?_); rintro e w1 ⟨rfl, h1⟩; obtain rfl := h1.symm)
    | fail)
  have hB2 := b0
  generalize w.alloc (.cells #[.int .u8 (kind : Int), .int .u8 (id0 : Int), .int .u8 (num0 : Int), .int .u16 (point : Int), .int .u8 (flags : Int)] 37) = wq at *
  have hmq := HM.out.below hB2
  obtain ⟨A1, c1, A2, c2, hFM, hmo, hm1, hm2⟩ := hmq
  have hgm : gm < w.heap.size := HM.out.lt gm (by rw [hFM]; simp)
  have HLEN := HL1
  have HREST : Hid (FM = gm :: (blk A1 ++ blk A2) ∧ VisitRow wq 0 A2 c2 S.visits ∧ HomeRow wq 0 A1 c1 S.homes) := Lib.hid ⟨hFM, hm2, hm1⟩
  generalize hH : S.homes = H at *
  generalize hV : S.visits = V at *
  have HH1 := Lib.hid hH
  have HV1 := Lib.hid hV
  have HCELL := Lib.hid (show ∀ W, Below wq.heap.size wq W → W.heap[gm]? = some (modObj A1 H.length c1 A2 V.length c2) ∧ HomeRow W 0 A1 c1 H from fun W hW => ⟨(hW.block gm (Array.getElem?_eq_some_iff.1 hmo).1).trans hmo, Row.below hm1 hW⟩)
  clear hFM hmo hm1 hm2 b0 hH hV
  go_wp2_with fail
  go_loopw [6, 8, 15] (fun hv tv iv wr => ∃ (k c5 : Nat) (A5 : Option Addr) (d : Bool), k ≤ H.length ∧ iv = .int .i64 k ∧ tv = .bool d ∧ Hid (((H.take k).any fun m => m.id == id) = d) ∧ hv = .slice A5 ((H.take k).filter fun m => !(m.id == id)).length c5 ∧ HomeRow wr wq.heap.size A5 c5 ((H.take k).filter fun m => !(m.id == id)) ∧ Below wq.heap.size wq wr)
    (fun _ _ iv _ => H.length - (intOf iv).toNat)
  case atStart => exact ⟨0, 0, none, false, Nat.zero_le _, rfl, rfl, Lib.hid rfl, rfl, Row.nil _ _ _ _, Below.refl _ _⟩
  case round =>
    obtain ⟨k, c5, A5, d, hkl, rfl, rfl, HDK, rfl, hrow5, hB5⟩ := hrel
    by_cases hlt : k < H.length
    · obtain ⟨kmo, km1⟩ := HCELL.out _ hB5
      obtain ⟨g1, rfl, -⟩ := Row.form km1 (by omega)
      have hod : ((H.take (k + 1)).filter fun m => !(m.id == id)) = ((H.take k).filter fun m => !(m.id == id)) ++ (if H[k].id = id then [] else [H[k]]) := by
        rw [List.take_succ_eq_append_getElem hlt, List.filter_append]
        congr 1
        by_cases e : H[k].id = id <;> simp [e]
      have hany : ((H.take (k + 1)).any fun m => m.id == id) = (d || (H[k].id == id)) := by
        rw [List.take_succ_eq_append_getElem hlt, List.any_append, HDK.out]
        simp
      have hOl : ((H.take k).filter fun m => !(m.id == id)).length ≤ 100001 := by
        have := List.length_filter_le (fun m => !(m.id == id)) (H.take k)
        rw [List.length_take] at this
        have := HLEN.out
        omega
      generalize hO : ((H.take k).filter fun m => !(m.id == id)) = O at *
      have HC2 : Hid (∀ W, Below wq.heap.size wq W → W.cell? ⟨gm, 0, none⟩ = some (.slice (some ⟨g1, 0, none⟩) H.length c1) ∧ W.cell? ⟨g1, k * 6, none⟩ = some (encStr H[k].id) ∧ W.cell? ⟨g1, k * 6 + 1, none⟩ = some (encStr H[k].number) ∧ W.cell? ⟨g1, k * 6 + 2, none⟩ = some (.int .u16 (H[k].at_ : Int)) ∧ W.cell? ⟨g1, k * 6 + 3, none⟩ = some (.int .u32 (H[k].move : Int)) ∧ W.cell? ⟨g1, k * 6 + 4, none⟩ = some (.bool H[k].barred) ∧ W.cell? ⟨g1, k * 6 + 5, none⟩ = some (.bool H[k].waiting)) := Lib.hid fun W hW => by
        obtain ⟨a1, a3⟩ := HCELL.out W hW
        have x1 := HomeRow.at a3 hlt
        exact ⟨Go.Joins.cell_of_block a1 0, x1 0 (by decide), x1 1 (by decide), x1 2 (by decide), x1 3 (by decide), x1 4 (by decide), x1 5 (by decide)⟩
      generalize H[k] = x at *
      obtain ⟨mid, mnum, mat, mmv, mba, mwa⟩ := x
      simp only at hod hany HC2
      have HLT := Lib.hid hlt
      have HOD := Lib.hid hod
      have HANY := Lib.hid hany
      have HROW := Lib.hid hrow5
      obtain ⟨k0, y0, y1, y2, y3, y4, y5⟩ := HC2.out _ hB5
      have q2 : (0 : Int) ≤ (k : Int) := by omega
      have q3 : (k : Int) < (H.length : Int) := by omega
      have q4 : k ≤ 100000 := by have := HLEN.out; omega
      clear hod hany hrow5 kmo km1 hO
      by_cases hi : mid = id
      · have hi2 : (mid == id) = true := by simpa using hi
        have HI := Lib.hid hi
        clear hi
        go_wp2_with fail
        have hod' : ((H.take (k + 1)).filter fun m => !(m.id == id)) = O := by rw [HOD.out, if_pos HI.out]; simp
        go_roundw
        case rel =>
          refine ⟨k + 1, c5, A5, true, by have := HLT.out; omega, by go_num, rfl, Lib.hid (by rw [HANY.out, hi2]; simp), by rw [hod'], ?_, hB5⟩
          rw [hod']
          exact HROW.out
        case measure => have := HLT.out; simp [intOf]; omega
      · have hi2 : (mid == id) = false := by simpa using hi
        have HI := Lib.hid hi
        clear hi
        go_wp2_with (first
          | ((with_reducible refine at_dst 271 rfl ?_)
             refine wpList_append_row rfl (.tmp 262) (.tmp 270) 30 rfl wq.heap.size 52 _ 6 48 Tryz.underlying30 infoHome48 rfl A5 O.length c5 _ rfl (Row.alloc HROW.out _) (some ⟨wr.heap.size, 0, none⟩) 1 1 [encStr mid, encStr mnum, .int .u16 (mat : Int), .int .u32 (mmv : Int), .bool mba, .bool mwa] rfl
               (rd_cells _ _ _ _ (heap_alloc_new _ _)) rfl (by intro v hv; simp at hv; rcases hv with rfl | rfl | rfl | rfl | rfl | rfl <;> rfl) (by simp only [maxLen]; omega) (by omega) (by have := hB5.size; simp; omega) ?_
             intro A7 c7 w7 h7 hg7 _
             have hBw7 : Below wq.heap.size wq w7 := (hB5.alloc hB5.size _).grown hg7 (by have := hB5.size; simp; omega) (fun j hj => (Row.lt HROW.out j hj).1))
          | fail)
        have hod' : ((H.take (k + 1)).filter fun m => !(m.id == id)) = O ++ [⟨mid, mnum, mat, mmv, mba, mwa⟩] := by rw [HOD.out, if_neg HI.out]
        go_roundw
        case rel =>
          refine ⟨k + 1, c7, A7, d, by have := HLT.out; omega, by go_num, rfl, Lib.hid (by rw [HANY.out, hi2]; simp), by rw [hod']; simp, ?_, hBw7⟩
          rw [hod']
          unfold HomeRow
          simpa [HomeR.cells] using h7
        case measure => have := HLT.out; simp [intOf]; omega
    · obtain rfl : k = H.length := by omega
      obtain ⟨kmo, km1⟩ := HCELL.out _ hB5
      have k0 : wr.cell? ⟨gm, 0, none⟩ = some (.slice A1 H.length c1) := Go.Joins.cell_of_block kmo 0
      have f0 : wr.frozen? ⟨gm, 0, none⟩ = false := Go.Joins.unfrozen_of_block kmo 0
      have hthere : (homeOf S id).isSome = d := by
        rw [← HDK.out, List.take_length]
        unfold homeOf
        rw [HH1.out, List.isSome_find?]
      have hgq : gm < wq.heap.size := by have := hB2.size; omega
      have hod : ((Edit.dropH id).after S).homes = (H.take H.length).filter (fun m => !(m.id == id)) ∧ ((Edit.dropH id).after S).visits = V ∧ (Edit.dropH id).er S = if d then 0 else 7 := by
        rw [List.take_length]
        have hE : (Edit.dropH id).er S = if d then 0 else 7 := by
          show (if (homeOf S id).isSome then (0 : Int) else 7) = _
          rw [hthere]
        refine ⟨?_, ?_, hE⟩
        · cases d with
          | true => rw [Edit.good (by rw [hE]; rfl)]; show S.homes.filter _ = _; rw [HH1.out]
          | false =>
            rw [Edit.bad (by rw [hE]; simp), HH1.out]
            refine (List.filter_eq_self.2 fun m hm => ?_).symm
            have h2 := HDK.out
            rw [List.take_length, List.any_eq_false] at h2
            have := h2 m hm
            simpa using this
        · cases d with
          | true => rw [Edit.good (by rw [hE]; rfl)]; exact HV1.out
          | false => rw [Edit.bad (by rw [hE]; simp)]; exact HV1.out
      have hnew : ∀ (W : World) (A : Option Addr) (c : Nat) (L : List HomeR), HomeRow W wq.heap.size A c L → NewIn w FM (gm :: (blk A ++ blk A2)) := fun W A c L hr i hi => by
        rw [HREST.out.1]
        simp only [List.mem_cons, List.mem_append] at hi ⊢
        rcases hi with hi | hi | hi
        · exact .inl (.inl hi)
        · exact .inr (by have := (Row.blk_lt hr i hi).1; have := hB2.size; omega)
        · exact .inl (.inr (.inr hi))
      generalize ((H.take H.length).filter fun m => !(m.id == id)) = O at *
      have HAF := Lib.hid hod
      have HMO := Lib.hid kmo
      have HROW := Lib.hid hrow5
      have HNEW := Lib.hid hnew
      clear hod kmo km1 hrow5 hnew hthere
      have hfin : ModDone w gm FM S (.dropH id) (.returned (.int .i64 (if d then 0 else 7))) (wr.setCell ⟨gm, 0, none⟩ (.slice A5 O.length c5)) := by
        refine ⟨_, by rw [HAF.out.2.2], ?_, ((Chg.of_below FM (below_then hB2 hB5)).setCell (p := ⟨gm, 0, none⟩) (by rw [HREST.out.1]; simp) _), HNEW.out wr A5 c5 O HROW.out⟩
        rw [HAF.out.1, HAF.out.2.1]
        exact ModAt.set1 HMO.out (Row.below HREST.out.2.1 hB5) HROW.out hgq
      have HFIN := Lib.hid hfin
      clear hfin
      cases d with
      | true =>
        go_wp2_with fail
        go_ret
        exact HFIN.out
      | false =>
        go_wp2_with fail
        go_ret
        exact HFIN.out

set_option maxHeartbeats 8000000 in
set_option maxRecDepth 100000 in
theorem modDo_k3 (a : Ac) (ha : a.Go) (w : World) (gm : Nat) (FM : List Nat) (S : St) (hf : S.Fit) (hm : ModAt w gm FM S.homes S.visits) (hl1 : S.visits.length ≤ 100000) (hk : a.kind % 4 = 3) :
    Calls Tryz.prog 11 #[.pointer (some ⟨gm, 0, none⟩), a.val] w (ModDone w gm FM S a.edit) := by
  have he : a.edit = .dropV (digitsB (a.id % 8)) := by unfold Ac.edit; simp only [hk]; rfl
  have hid := ha.id
  rw [he]
  obtain ⟨kind, id0, num0, point, flags⟩ := a
  simp only at hk hid
  unfold Ac.val Ac.cells at *
  simp only at ⊢
  have t1 : Int.tmod (kind : Int) 4 = (kind : Int) % 4 := rfl
  have t2 : (kind : Int) % 4 = 3 := by omega
  have t3 : Int.tmod (id0 : Int) 8 = (id0 : Int) % 8 := rfl
  have d1 := fun w' => digits38' (id0 % 8) w' ((id0 : Int) % 8) (by omega) (by omega)
  generalize digitsB (id0 % 8) = id at *
  have b0 := (Below.refl w.heap.size w).alloc (Nat.le_refl _) (.cells #[.int .u8 (kind : Int), .int .u8 (id0 : Int), .int .u8 (num0 : Int), .int .u16 (point : Int), .int .u8 (flags : Int)] 37)
  have HM := Lib.hid hm
  have HD := Lib.hid d1
  have HL1 := Lib.hid hl1
  clear hm hf d1 hk he hid hl1
  go_enter Tryz.func11, Tryz.ntmps11
  go_upto_block 1 with (first
    | (go_at_call 18; (with_reducible refine (HD.out _).mono ?_); rintro e w1 ⟨rfl, h1⟩; obtain rfl := h1.symm)
    | fail)
  have hB2 := b0
  generalize w.alloc (.cells #[.int .u8 (kind : Int), .int .u8 (id0 : Int), .int .u8 (num0 : Int), .int .u16 (point : Int), .int .u8 (flags : Int)] 37) = wq at *
  have hmq := HM.out.below hB2
  obtain ⟨A2, c2, A1, c1, hFM, hmo, hm2, hm1⟩ := hmq
  have hgm : gm < w.heap.size := HM.out.lt gm (by rw [hFM]; simp)
  have HLEN := HL1
  have HREST : Hid (FM = gm :: (blk A2 ++ blk A1) ∧ HomeRow wq 0 A2 c2 S.homes ∧ VisitRow wq 0 A1 c1 S.visits) := Lib.hid ⟨hFM, hm2, hm1⟩
  generalize hH : S.visits = H at *
  generalize hV : S.homes = V at *
  have HH1 := Lib.hid hH
  have HV1 := Lib.hid hV
  have HCELL := Lib.hid (show ∀ W, Below wq.heap.size wq W → W.heap[gm]? = some (modObj A2 V.length c2 A1 H.length c1) ∧ VisitRow W 0 A1 c1 H from fun W hW => ⟨(hW.block gm (Array.getElem?_eq_some_iff.1 hmo).1).trans hmo, Row.below hm1 hW⟩)
  clear hFM hmo hm1 hm2 b0 hH hV
  go_wp2_with fail
  go_loopw [7, 8, 16] (fun hv tv iv wr => ∃ (k c5 : Nat) (A5 : Option Addr) (d : Bool), k ≤ H.length ∧ iv = .int .i64 k ∧ tv = .bool d ∧ Hid (((H.take k).any fun m => m.id == id) = d) ∧ hv = .slice A5 ((H.take k).filter fun m => !(m.id == id)).length c5 ∧ VisitRow wr wq.heap.size A5 c5 ((H.take k).filter fun m => !(m.id == id)) ∧ Below wq.heap.size wq wr)
    (fun _ _ iv _ => H.length - (intOf iv).toNat)
  case atStart => exact ⟨0, 0, none, false, Nat.zero_le _, rfl, rfl, Lib.hid rfl, rfl, Row.nil _ _ _ _, Below.refl _ _⟩
  case round =>
    obtain ⟨k, c5, A5, d, hkl, rfl, rfl, HDK, rfl, hrow5, hB5⟩ := hrel
    by_cases hlt : k < H.length
    · obtain ⟨kmo, km1⟩ := HCELL.out _ hB5
      obtain ⟨g1, rfl, -⟩ := Row.form km1 (by omega)
      have hod : ((H.take (k + 1)).filter fun m => !(m.id == id)) = ((H.take k).filter fun m => !(m.id == id)) ++ (if H[k].id = id then [] else [H[k]]) := by
        rw [List.take_succ_eq_append_getElem hlt, List.filter_append]
        congr 1
        by_cases e : H[k].id = id <;> simp [e]
      have hany : ((H.take (k + 1)).any fun m => m.id == id) = (d || (H[k].id == id)) := by
        rw [List.take_succ_eq_append_getElem hlt, List.any_append, HDK.out]
        simp
      have hOl : ((H.take k).filter fun m => !(m.id == id)).length ≤ 100001 := by
        have := List.length_filter_le (fun m => !(m.id == id)) (H.take k)
        rw [List.length_take] at this
        have := HLEN.out
        omega
      generalize hO : ((H.take k).filter fun m => !(m.id == id)) = O at *
      have HC2 : Hid (∀ W, Below wq.heap.size wq W → W.cell? ⟨gm, 1, none⟩ = some (.slice (some ⟨g1, 0, none⟩) H.length c1) ∧ W.cell? ⟨g1, k * 6, none⟩ = some (encStr H[k].id) ∧ W.cell? ⟨g1, k * 6 + 1, none⟩ = some (encStr H[k].number) ∧ W.cell? ⟨g1, k * 6 + 2, none⟩ = some (.int .u16 (H[k].home : Int)) ∧ W.cell? ⟨g1, k * 6 + 3, none⟩ = some (.int .u32 (H[k].move : Int)) ∧ W.cell? ⟨g1, k * 6 + 4, none⟩ = some (.int .u16 (H[k].area : Int)) ∧ W.cell? ⟨g1, k * 6 + 5, none⟩ = some (encStr H[k].roam)) := Lib.hid fun W hW => by
        obtain ⟨a1, a3⟩ := HCELL.out W hW
        have x1 := VisitRow.at a3 hlt
        exact ⟨Go.Joins.cell_of_block a1 1, x1 0 (by decide), x1 1 (by decide), x1 2 (by decide), x1 3 (by decide), x1 4 (by decide), x1 5 (by decide)⟩
      generalize H[k] = x at *
      obtain ⟨mid, mnum, mat, mmv, mar, mro⟩ := x
      simp only at hod hany HC2
      have HLT := Lib.hid hlt
      have HOD := Lib.hid hod
      have HANY := Lib.hid hany
      have HROW := Lib.hid hrow5
      obtain ⟨k0, y0, y1, y2, y3, y4, y5⟩ := HC2.out _ hB5
      have q2 : (0 : Int) ≤ (k : Int) := by omega
      have q3 : (k : Int) < (H.length : Int) := by omega
      have q4 : k ≤ 100000 := by have := HLEN.out; omega
      clear hod hany hrow5 kmo km1 hO
      by_cases hi : mid = id
      · have hi2 : (mid == id) = true := by simpa using hi
        have HI := Lib.hid hi
        clear hi
        go_wp2_with fail
        have hod' : ((H.take (k + 1)).filter fun m => !(m.id == id)) = O := by rw [HOD.out, if_pos HI.out]; simp
        go_roundw
        case rel =>
          refine ⟨k + 1, c5, A5, true, by have := HLT.out; omega, by go_num, rfl, Lib.hid (by rw [HANY.out, hi2]; simp), by rw [hod'], ?_, hB5⟩
          rw [hod']
          exact HROW.out
        case measure => have := HLT.out; simp [intOf]; omega
      · have hi2 : (mid == id) = false := by simpa using hi
        have HI := Lib.hid hi
        clear hi
        go_wp2_with (first
          | ((with_reducible refine at_dst 52 rfl ?_)
             refine wpList_append_row rfl (.tmp 43) (.tmp 51) 31 rfl wq.heap.size 54 _ 6 64 Tryz.underlying31 infoVisit64 rfl A5 O.length c5 _ rfl (Row.alloc HROW.out _) (some ⟨wr.heap.size, 0, none⟩) 1 1 [encStr mid, encStr mnum, .int .u16 (mat : Int), .int .u32 (mmv : Int), .int .u16 (mar : Int), encStr mro] rfl
               (rd_cells _ _ _ _ (heap_alloc_new _ _)) rfl (by intro v hv; simp at hv; rcases hv with rfl | rfl | rfl | rfl | rfl | rfl <;> rfl) (by simp only [maxLen]; omega) (by omega) (by have := hB5.size; simp; omega) ?_
             intro A7 c7 w7 h7 hg7 _
             have hBw7 : Below wq.heap.size wq w7 := (hB5.alloc hB5.size _).grown hg7 (by have := hB5.size; simp; omega) (fun j hj => (Row.lt HROW.out j hj).1))
          | fail)
        have hod' : ((H.take (k + 1)).filter fun m => !(m.id == id)) = O ++ [⟨mid, mnum, mat, mmv, mar, mro⟩] := by rw [HOD.out, if_neg HI.out]
        go_roundw
        case rel =>
          refine ⟨k + 1, c7, A7, d, by have := HLT.out; omega, by go_num, rfl, Lib.hid (by rw [HANY.out, hi2]; simp), by rw [hod']; simp, ?_, hBw7⟩
          rw [hod']
          unfold VisitRow
          simpa [VisitR.cells] using h7
        case measure => have := HLT.out; simp [intOf]; omega
    · obtain rfl : k = H.length := by omega
      obtain ⟨kmo, km1⟩ := HCELL.out _ hB5
      have k0 : wr.cell? ⟨gm, 1, none⟩ = some (.slice A1 H.length c1) := Go.Joins.cell_of_block kmo 1
      have f0 : wr.frozen? ⟨gm, 1, none⟩ = false := Go.Joins.unfrozen_of_block kmo 1
      have hthere : (visitOf S id).isSome = d := by
        rw [← HDK.out, List.take_length]
        unfold visitOf
        rw [HH1.out, List.isSome_find?]
      have hgq : gm < wq.heap.size := by have := hB2.size; omega
      have hod : ((Edit.dropV id).after S).visits = (H.take H.length).filter (fun m => !(m.id == id)) ∧ ((Edit.dropV id).after S).homes = V ∧ (Edit.dropV id).er S = if d then 0 else 7 := by
        rw [List.take_length]
        have hE : (Edit.dropV id).er S = if d then 0 else 7 := by
          show (if (visitOf S id).isSome then (0 : Int) else 7) = _
          rw [hthere]
        refine ⟨?_, ?_, hE⟩
        · cases d with
          | true => rw [Edit.good (by rw [hE]; rfl)]; show S.visits.filter _ = _; rw [HH1.out]
          | false =>
            rw [Edit.bad (by rw [hE]; simp), HH1.out]
            refine (List.filter_eq_self.2 fun m hm => ?_).symm
            have h2 := HDK.out
            rw [List.take_length, List.any_eq_false] at h2
            have := h2 m hm
            simpa using this
        · cases d with
          | true => rw [Edit.good (by rw [hE]; rfl)]; exact HV1.out
          | false => rw [Edit.bad (by rw [hE]; simp)]; exact HV1.out
      have hnew : ∀ (W : World) (A : Option Addr) (c : Nat) (L : List VisitR), VisitRow W wq.heap.size A c L → NewIn w FM (gm :: (blk A2 ++ blk A)) := fun W A c L hr i hi => by
        rw [HREST.out.1]
        simp only [List.mem_cons, List.mem_append] at hi ⊢
        rcases hi with hi | hi | hi
        · exact .inl (.inl hi)
        · exact .inl (.inr (.inl hi))
        · exact .inr (by have := (Row.blk_lt hr i hi).1; have := hB2.size; omega)
      generalize ((H.take H.length).filter fun m => !(m.id == id)) = O at *
      have HAF := Lib.hid hod
      have HMO := Lib.hid kmo
      have HROW := Lib.hid hrow5
      have HNEW := Lib.hid hnew
      clear hod kmo km1 hrow5 hnew hthere
      have hfin : ModDone w gm FM S (.dropV id) (.returned (.int .i64 (if d then 0 else 7))) (wr.setCell ⟨gm, 1, none⟩ (.slice A5 O.length c5)) := by
        refine ⟨_, by rw [HAF.out.2.2], ?_, ((Chg.of_below FM (below_then hB2 hB5)).setCell (p := ⟨gm, 1, none⟩) (by rw [HREST.out.1]; simp) _), HNEW.out wr A5 c5 O HROW.out⟩
        rw [HAF.out.1, HAF.out.2.1]
        exact ModAt.set2 HMO.out (Row.below HREST.out.2.1 hB5) HROW.out hgq
      have HFIN := Lib.hid hfin
      clear hfin
      cases d with
      | true =>
        go_wp2_with fail
        go_ret
        exact HFIN.out
      | false =>
        go_wp2_with fail
        go_ret
        exact HFIN.out

/-- the definition of a change -/
theorem modDo_any (a : Ac) (ha : a.Go) (w : World) (gm : Nat) (FM : List Nat) (S : St) (hf : S.Fit) (hm : ModAt w gm FM S.homes S.visits) (hl1 : S.homes.length ≤ 100000) (hl2 : S.visits.length ≤ 100000) :
    Calls Tryz.prog 11 #[.pointer (some ⟨gm, 0, none⟩), a.val] w (ModDone w gm FM S a.edit) := by
  have h4 : a.kind % 4 = 0 ∨ a.kind % 4 = 1 ∨ a.kind % 4 = 2 ∨ a.kind % 4 = 3 := by omega
  rcases h4 with h4 | h4 | h4 | h4
  · exact modDo_k0 a ha w gm FM S hf hm hl1 h4
  · exact modDo_k1 a ha w gm FM S hf hm hl2 h4
  · exact modDo_k2 a ha w gm FM S hf hm hl1 h4
  · exact modDo_k3 a ha w gm FM S hf hm hl2 h4
end Go.Proofs.YthbbmpelldglmaaGreatDoor
/- Law 38: a model copied. -/
namespace Go.Proofs.YthbbmpelldglmaaGreatDoor
set_option linter.unusedVariables false
set_option linter.unusedSimpArgs false
open Go.RowKit

theorem one_home (h : HomeR) : ∀ v ∈ h.cells.toList, v.oneCell' = true := by
  intro v hv
  unfold HomeR.cells at hv
  simp at hv
  rcases hv with rfl | rfl | rfl | rfl | rfl | rfl <;> rfl
theorem one_visit (h : VisitR) : ∀ v ∈ h.cells.toList, v.oneCell' = true := by
  intro v hv
  unfold VisitR.cells at hv
  simp at hv
  rcases hv with rfl | rfl | rfl | rfl | rfl | rfl <;> rfl
theorem flat_len {α : Type} (f : α → List Value) (n : Nat) (h : ∀ x, (f x).length = n) (l : List α) : (l.flatMap f).length = l.length * n := by
  induction l with
  | nil => simp
  | cons x r ih => rw [List.flatMap_cons, List.length_append, ih, h, List.length_cons, Nat.add_mul]; omega

set_option maxHeartbeats 4000000 in
set_option maxRecDepth 100000 in
theorem copied_any (w : World) (gm : Nat) (FM : List Nat) (H : List HomeR) (V : List VisitR) (hm : ModAt w gm FM H V) (hl1 : H.length ≤ 100000) (hl2 : V.length ≤ 100000) :
    Calls Tryz.prog 13 #[.pointer (some ⟨gm, 0, none⟩)] w fun e w' => ∃ g F, e = .returned (.pointer (some ⟨g, 0, none⟩)) ∧ ModAt w' g F H V ∧ Below w.heap.size w w' ∧ ∀ i ∈ F, w.heap.size ≤ i := by
  obtain ⟨A1, c1, A2, c2, rfl, hmo, hm1, hm2⟩ := hm
  have hgm : gm < w.heap.size := (Array.getElem?_eq_some_iff.1 hmo).1
  have e1 : ∀ u ∈ H.flatMap (fun h => h.cells.toList), u.oneCell' = true := by
    intro u hu
    obtain ⟨x, _, hx⟩ := List.mem_flatMap.1 hu
    exact one_home x u hx
  have e2 : ∀ u ∈ V.flatMap (fun h => h.cells.toList), u.oneCell' = true := by
    intro u hu
    obtain ⟨x, _, hx⟩ := List.mem_flatMap.1 hu
    exact one_visit x u hx
  have n1 : (H.flatMap fun h => h.cells.toList).length = H.length * 6 := flat_len _ 6 (fun _ => rfl) H
  have n2 : (V.flatMap fun h => h.cells.toList).length = V.length * 6 := flat_len _ 6 (fun _ => rfl) V
  have HR1 : Hid (∀ W, Below w.heap.size w W → Rd W A1 (H.flatMap fun h => h.cells.toList)) := Lib.hid fun W hb => Rd.below (Row.rd hm1) hb
  have HR2 : Hid (∀ W, Below w.heap.size w W → Rd W A2 (V.flatMap fun h => h.cells.toList)) := Lib.hid fun W hb => Rd.below (Row.rd hm2) hb
  have HO : Hid (∀ W, Below w.heap.size w W → W.heap[gm]? = some (modObj A1 H.length c1 A2 V.length c2)) := Lib.hid fun W hb => (hb.block gm hgm).trans hmo
  have k0 : ∀ w' : World, w'.heap[gm]? = some (modObj A1 H.length c1 A2 V.length c2) → w'.cell? ⟨gm, 0, none⟩ = some (.slice A1 H.length c1) := fun w' h => Go.Joins.cell_of_block h 0
  have k1 : ∀ w' : World, w'.heap[gm]? = some (modObj A1 H.length c1 A2 V.length c2) → w'.cell? ⟨gm, 1, none⟩ = some (.slice A2 V.length c2) := fun w' h => Go.Joins.cell_of_block h 1
  have HE1 := Lib.hid e1
  have HE2 := Lib.hid e2
  have HN1 := Lib.hid n1
  have HN2 := Lib.hid n2
  clear e1 e2 n1 n2 hmo hm1 hm2
  generalize hx1 : (H.flatMap fun h => h.cells.toList) = X1 at *
  generalize hx2 : (V.flatMap fun h => h.cells.toList) = X2 at *
  have HX1 := Lib.hid hx1
  have HX2 := Lib.hid hx2
  clear hx1 hx2
  have hB0 : Below w.heap.size w w.drew := (Below.refl _ _).drew
  go_enter Tryz.func13, Tryz.ntmps13
  go_upto_region 1 with fail
  go_region_held3 (fun w' => w'.heap[gm]? = some (modObj A1 H.length c1 A2 V.length c2))
    (first | exact HO.out _ hB0 | exact HO.out _ (below_alloc hB6 _) | exact HO.out _ hB6 | exact HO.out _ hB5 | fail)
    (first
      | (refine step_append_row (by rfl) (.const (.slice none 0 0)) (.tmp 6) 30 (by rfl) w.heap.size 52 _ 6 48 Tryz.underlying30 infoHome48 rfl none 0 0 [] (by rfl) (Row.nil _ _ _ _) A1 H.length c1 X1 rfl (HR1.out _ hB0) HN1.out HE1.out (by simp only [maxLen]; omega) (by omega) (Nat.le_refl _) ?_
         intro A5 c5 w5 h5 hg5 _
         have hB5 : Below w.heap.size w w5 := hB0.grown hg5 (Nat.le_refl _) (by simp)
         have hs5 := hB5.size)
      | (refine step_append_row (by rfl) (.const (.slice none 0 0)) (.tmp 11) 31 (by rfl) w5.heap.size 54 _ 6 64 Tryz.underlying31 infoVisit64 rfl none 0 0 [] (by rfl) (Row.nil _ _ _ _) A2 V.length c2 X2 rfl (HR2.out _ hB5) HN2.out HE2.out (by simp only [maxLen]; omega) (by omega) (Nat.le_refl _) ?_
         intro A6 c6 w6 h6 hg6 _
         have hB56 : Below w5.heap.size w5 w6 := (Below.refl _ _).grown hg6 (Nat.le_refl _) (by simp)
         have hB6 : Below w.heap.size w w6 := below_then hB5 hB56)
      | (refine step_append_row (by rfl) (.const (.slice none 0 0)) (.tmp 11) 31 (by rfl) w.heap.size 54 _ 6 64 Tryz.underlying31 infoVisit64 rfl none 0 0 [] (by rfl) (Row.nil _ _ _ _) A2 V.length c2 X2 rfl (HR2.out _ hB0) HN2.out HE2.out (by simp only [maxLen]; omega) (by omega) (Nat.le_refl _) ?_
         intro A6 c6 w5 h6 hg6 _
         have hB5 : Below w.heap.size w w5 := hB0.grown hg6 (Nat.le_refl _) (by simp)
         have hs5 := hB5.size)
      | (refine step_append_row (by rfl) (.const (.slice none 0 0)) (.tmp 6) 30 (by rfl) w5.heap.size 52 _ 6 48 Tryz.underlying30 infoHome48 rfl none 0 0 [] (by rfl) (Row.nil _ _ _ _) A1 H.length c1 X1 rfl (HR1.out _ hB5) HN1.out HE1.out (by simp only [maxLen]; omega) (by omega) (Nat.le_refl _) ?_
         intro A5 c5 w6 h5 hg5 _
         have hB56 : Below w5.heap.size w5 w6 := (Below.refl _ _).grown hg5 (Nat.le_refl _) (by simp)
         have hB6 : Below w.heap.size w w6 := below_then hB5 hB56))
  all_goals go_wp2_with fail
  · go_ret
    refine ⟨w6.heap.size, _, rfl, ⟨A5, c5, A6, c6, rfl, heap_alloc_new w6 _, ?_, ?_⟩, below_alloc hB6 _, fun i hi => ?_⟩
    · refine Row.alloc (Row.mono (B := w.heap.size) (Row.below ?_ hB56) (Nat.zero_le _)) _
      rw [HX1.out]
      simpa using h5
    · refine Row.alloc (Row.mono (B := w5.heap.size) ?_ (Nat.zero_le _)) _
      rw [HX2.out]
      simpa using h6
    · simp only [List.mem_cons, List.mem_append] at hi
      rcases hi with rfl | hi | hi
      · exact hB6.size
      · exact (Row.blk_lt h5 i hi).1
      · have := (Row.blk_lt h6 i hi).1; omega
end Go.Proofs.YthbbmpelldglmaaGreatDoor
/- Law 38: a store, a model of it, and the models behind each change, in memory. -/
namespace Go.Proofs.YthbbmpelldglmaaGreatDoor
set_option linter.unusedVariables false
set_option linter.unusedSimpArgs false
open Go.RowKit

/-- the type of a block's cells -/
def tyOf (w : World) (i : Nat) : Option TypeId := match w.heap[i]? with | some (.cells _ T _) => some T | _ => none
theorem tyOf_cells {w : World} {i : Nat} {c : Array Value} {T : TypeId} {fr : Nat × Nat} (h : w.heap[i]? = some (.cells c T fr)) : tyOf w i = some T := by unfold tyOf; rw [h]
theorem tyOf_map {w : World} {P : Program} {K : TypeId} {b n : Nat} {f : List UInt8 → Option Value} (h : MapIs P K w b n f) : tyOf w b = none := by
  obtain ⟨es, k, h1⟩ := h.obj
  unfold tyOf; rw [h1]
theorem row_ty {w : World} {B n c sz : Nat} {A : Option Addr} {E : TypeId} {xs : List Value} (h : Row w B E sz A n c xs) : ∀ i ∈ blk A, tyOf w i = some E := fun i hi => by
  rw [mem_blk] at hi
  rcases h.2 with ⟨rfl, _⟩ | ⟨g, cur, rfl, _, hg, _⟩
  · simp at hi
  · simp at hi; subst hi
    exact tyOf_cells hg
theorem st_ty {w : World} {g : Nat} {F : List Nat} {S : St} (h : StAt w g F S) : ∀ i ∈ F, tyOf w i = none ∨ tyOf w i = some 100 ∨ tyOf w i = some 5 := by
  rcases h with ⟨b1, b2, b3, b4, A, c, rfl, h⟩ | ⟨A, c, rfl, h⟩
  · intro i hi
    simp only [List.mem_cons] at hi
    obtain ⟨hn, ⟨f1, m1, t1⟩, ⟨f2, m2, t2⟩, ⟨f3, m3, t3⟩, ⟨f4, m4, t4⟩⟩ := h.maps
    rcases hi with rfl | rfl | rfl | rfl | rfl | hi
    · exact .inr (.inl (tyOf_cells h.obj))
    · exact .inl (tyOf_map m1)
    · exact .inl (tyOf_map m2)
    · exact .inl (tyOf_map m3)
    · exact .inl (tyOf_map m4)
    · exact .inr (.inr (row_ty h.log i hi))
  · intro i hi
    simp only [List.mem_cons] at hi
    rcases hi with rfl | hi
    · exact .inr (.inl (tyOf_cells h.obj))
    · exact .inr (.inr (row_ty h.log i hi))
theorem mod_ty {w : World} {g : Nat} {F : List Nat} {H : List HomeR} {V : List VisitR} (h : ModAt w g F H V) : ∀ i ∈ F, tyOf w i = some 33 ∨ tyOf w i = some 52 ∨ tyOf w i = some 54 := by
  obtain ⟨A1, c1, A2, c2, rfl, h1, h2, h3⟩ := h
  intro i hi
  simp only [List.mem_cons, List.mem_append] at hi
  rcases hi with rfl | hi | hi
  · exact .inl (tyOf_cells h1)
  · exact .inr (.inl (row_ty h2 i hi))
  · exact .inr (.inr (row_ty h3 i hi))
theorem st_mod {w : World} {g gm : Nat} {F FM : List Nat} {S : St} {H : List HomeR} {V : List VisitR} (h : StAt w g F S) (h2 : ModAt w gm FM H V) : ∀ i ∈ F, i ∉ FM := fun i hi hm => by
  rcases st_ty h i hi with e | e | e <;> rcases mod_ty h2 i hm with e2 | e2 | e2 <;> rw [e] at e2 <;> revert e2 <;> decide
theorem mod_st {w : World} {g gm : Nat} {F FM : List Nat} {S : St} {H : List HomeR} {V : List VisitR} (h : StAt w g F S) (h2 : ModAt w gm FM H V) : ∀ i ∈ FM, i ∉ F := fun i hi hm => st_mod h h2 i hm hi
theorem st_row {w : World} {g B n c sz : Nat} {F : List Nat} {S : St} {A : Option Addr} {E : TypeId} {xs : List Value} (h : StAt w g F S) (hr : Row w B E sz A n c xs) (hE : E ≠ 100 ∧ E ≠ 5) : ∀ i ∈ F, i ∉ blk A := fun i hi hm => by
  have e2 := row_ty hr i hm
  rcases st_ty h i hi with e | e | e <;> rw [e] at e2
  · cases e2
  · exact hE.1 (Option.some.inj e2).symm
  · exact hE.2 (Option.some.inj e2).symm
theorem mod_row {w : World} {gm B n c sz : Nat} {FM : List Nat} {H : List HomeR} {V : List VisitR} {A : Option Addr} {E : TypeId} {xs : List Value} (h : ModAt w gm FM H V) (hr : Row w B E sz A n c xs) (hE : E ≠ 33 ∧ E ≠ 52 ∧ E ≠ 54) : ∀ i ∈ FM, i ∉ blk A := fun i hi hm => by
  have e2 := row_ty hr i hm
  rcases mod_ty h i hi with e | e | e <;> rw [e] at e2
  · exact hE.1 (Option.some.inj e2).symm
  · exact hE.2.1 (Option.some.inj e2).symm
  · exact hE.2.2 (Option.some.inj e2).symm
theorem row_row {w : World} {B n c sz B2 n2 c2 sz2 : Nat} {A A2 : Option Addr} {E E2 : TypeId} {xs xs2 : List Value} (h : Row w B E sz A n c xs) (hr : Row w B2 E2 sz2 A2 n2 c2 xs2) (hE : E ≠ E2) : ∀ i ∈ blk A, i ∉ blk A2 := fun i hi hm => by
  have e := row_ty h i hi
  rw [row_ty hr i hm] at e
  exact hE (Option.some.inj e).symm
theorem row_chg {w w' : World} {B n c sz : Nat} {A : Option Addr} {E : TypeId} {xs : List Value} {F : List Nat} (h : Row w B E sz A n c xs) (hc : Chg F w w') (hF : ∀ i ∈ F, i ∉ blk A) : Row w' B E sz A n c xs :=
  Row.chg h hc (fun k e hk => hF k hk (mem_blk.2 e))

/-- the store and its model behind k acts -/
structure Two (w0 W : World) (l : List Ac) (k : Nat) (gs gm : Nat) (F FM : List Nat) : Prop where
  st : StAt W gs F (Sk l k)
  md : ModAt W gm FM (Sk l k).homes (Sk l k).visits
  below : Below w0.heap.size w0 W
  hF : ∀ i ∈ F, w0.heap.size ≤ i
  hFM : ∀ i ∈ FM, w0.heap.size ≤ i
theorem Two.later {w0 W W' : World} {l : List Ac} {k gs gm : Nat} {F FM : List Nat} (h : Two w0 W l k gs gm F FM) (hb : Below W.heap.size W W') : Two w0 W' l k gs gm F FM :=
  ⟨h.st.below hb, h.md.below hb, h.below.trans (hb.mono h.below.size), h.hF, h.hFM⟩
/-- the store has changed, the model not yet -/
theorem Two.half {w0 W W' : World} {l : List Ac} {k gs gm : Nat} {F FM F' : List Nat} (h : Two w0 W l k gs gm F FM) (hc : Chg F W W') (hn : NewIn W F F') :
    ModAt W' gm FM (Sk l k).homes (Sk l k).visits ∧ Below w0.heap.size w0 W' ∧ ∀ i ∈ F', w0.heap.size ≤ i :=
  ⟨h.md.chg hc (mod_st h.st h.md), h.below.trans (hc.below h.hF h.below.size), fun i hi => (hn i hi).elim (fun h2 => h.hF i h2) (fun h2 => by have := h.below.size; omega)⟩
theorem Two.step {w0 W1 W2 : World} {l : List Ac} {k gs gm : Nat} {FM F' FM' : List Nat} {H : List HomeR} {V : List VisitR} (h2 : StAt W1 gs F' (Sk l (k + 1))) (hb : Below w0.heap.size w0 W1) (hF : ∀ i ∈ F', w0.heap.size ≤ i) (hM : ∀ i ∈ FM, w0.heap.size ≤ i) (hm : ModAt W1 gm FM H V)
    (hmd : ModAt W2 gm FM' (Sk l (k + 1)).homes (Sk l (k + 1)).visits) (hc : Chg FM W1 W2) (hn : NewIn W1 FM FM') : Two w0 W2 l (k + 1) gs gm F' FM' :=
  ⟨h2.chg hc (st_mod h2 hm), hmd, hb.trans (hc.below hM hb.size), hF, fun i hi => (hn i hi).elim (fun h => hM i h) (fun h => by have := hb.size; omega)⟩

theorem infoInt : (Tryz.prog.info? 3).map (fun i => (i.zero, i.size, i.bytes)) = some (some (.int .i64 0), 1, 8) := by kernel_rfl
theorem infoPM : (Tryz.prog.info? 29).map (fun i => (i.zero, i.size, i.bytes)) = some (some (.pointer none), 1, 8) := by kernel_rfl
/-- where the log ends behind the first i acts -/
def endAt (l : List Ac) (i : Nat) : Nat := (Sk l i).log.length
def endsV (l : List Ac) (k : Nat) : List Value := (List.range k).map fun i => .int .i64 (endAt l (i + 1) : Int)
theorem endsV_succ (l : List Ac) (k : Nat) : endsV l (k + 1) = endsV l k ++ [.int .i64 (endAt l (k + 1) : Int)] := by
  unfold endsV
  rw [List.range_succ, List.map_append]
  rfl
theorem endsV_len (l : List Ac) (k : Nat) : (endsV l k).length = k := by simp [endsV]
theorem endsV_get (l : List Ac) (k i : Nat) (h : i < k) : (endsV l k)[i]? = some (.int .i64 (endAt l (i + 1) : Int)) := by simp [endsV, h]
def ptrV (g : Nat) : Value := .pointer (some ⟨g, 0, none⟩)
/-- the copies of the models, apart from the model at work -/
def Models (w : World) (lo : Nat) (FM : List Nat) (l : List Ac) (gl : List Nat) : Prop :=
  ∀ i g, gl[i]? = some g → ∃ F', ModAt w g F' (Sk l (i + 1)).homes (Sk l (i + 1)).visits ∧ ∀ j ∈ F', lo ≤ j ∧ j ∉ FM
theorem Models.chg {w w' : World} {lo : Nat} {FM X : List Nat} {l : List Ac} {gl : List Nat} (h : Models w lo FM l gl) (hc : Chg X w w') (hX : ∀ g F' H V, ModAt w g F' H V → (∀ j ∈ F', j ∉ FM) → ∀ j ∈ F', j ∉ X) : Models w' lo FM l gl := fun i g hg => by
  obtain ⟨F', h1, h2⟩ := h i g hg
  exact ⟨F', h1.chg hc (hX g F' _ _ h1 (fun j hj => (h2 j hj).2)), h2⟩
theorem Models.turn {w w' : World} {lo : Nat} {FM FM' : List Nat} {l : List Ac} {gl : List Nat} (h : Models w lo FM l gl) (hc : Chg FM w w') (hn : NewIn w FM FM') : Models w' lo FM' l gl := fun i g hg => by
  obtain ⟨F', h1, h2⟩ := h i g hg
  refine ⟨F', h1.chg hc (fun j hj => (h2 j hj).2), fun j hj => ⟨(h2 j hj).1, fun hm => ?_⟩⟩
  rcases hn j hm with h3 | h3
  · exact (h2 j hj).2 h3
  · have := h1.lt j hj; omega
theorem Models.below {w w' : World} {lo : Nat} {FM : List Nat} {l : List Ac} {gl : List Nat} (h : Models w lo FM l gl) (hb : Below w.heap.size w w') : Models w' lo FM l gl := h.chg (Chg.of_below [] hb) (by simp)
theorem Models.snoc {w : World} {lo : Nat} {FM : List Nat} {l : List Ac} {gl : List Nat} {g : Nat} {F' : List Nat} (h : Models w lo FM l gl) (h1 : ModAt w g F' (Sk l (gl.length + 1)).homes (Sk l (gl.length + 1)).visits) (h2 : ∀ j ∈ F', lo ≤ j ∧ j ∉ FM) : Models w lo FM l (gl ++ [g]) := fun i x hx => by
  by_cases hi : i < gl.length
  · rw [List.getElem?_append_left hi] at hx
    exact h i x hx
  · rw [List.getElem?_append_right (by omega)] at hx
    obtain rfl : i = gl.length := by have := (List.getElem?_eq_some_iff.1 hx).1; simp at this; omega
    simp at hx
    subst hx
    exact ⟨F', h1, h2⟩
/-- the store, its model, the ends and the models behind k acts -/
structure Four (w0 W : World) (l : List Ac) (k gs gm : Nat) (F FM : List Nat) (A7 : Option Addr) (c7 : Nat) (A8 : Option Addr) (c8 : Nat) (gl : List Nat) : Prop where
  two : Two w0 W l k gs gm F FM
  ends : Row W w0.heap.size 3 1 A7 k c7 (endsV l k)
  mods : Row W w0.heap.size 29 1 A8 k c8 (gl.map ptrV)
  models : Models W w0.heap.size FM l gl
  len : gl.length = k
theorem Four.later {w0 W W' : World} {l : List Ac} {k gs gm : Nat} {F FM : List Nat} {A7 : Option Addr} {c7 : Nat} {A8 : Option Addr} {c8 : Nat} {gl : List Nat} (h : Four w0 W l k gs gm F FM A7 c7 A8 c8 gl) (hb : Below W.heap.size W W') : Four w0 W' l k gs gm F FM A7 c7 A8 c8 gl :=
  ⟨h.two.later hb, h.ends.below hb, h.mods.below hb, h.models.below hb, h.len⟩
/-- an act done with the store and the model: the rows are still those behind k acts -/
structure Mid (w0 W : World) (l : List Ac) (k gs gm : Nat) (F FM : List Nat) (A7 : Option Addr) (c7 : Nat) (A8 : Option Addr) (c8 : Nat) (gl : List Nat) : Prop where
  two : Two w0 W l (k + 1) gs gm F FM
  ends : Row W w0.heap.size 3 1 A7 k c7 (endsV l k)
  mods : Row W w0.heap.size 29 1 A8 k c8 (gl.map ptrV)
  models : Models W w0.heap.size FM l gl
  len : gl.length = k
theorem Mid.later {w0 W W' : World} {l : List Ac} {k gs gm : Nat} {F FM : List Nat} {A7 : Option Addr} {c7 : Nat} {A8 : Option Addr} {c8 : Nat} {gl : List Nat} (h : Mid w0 W l k gs gm F FM A7 c7 A8 c8 gl) (hb : Below W.heap.size W W') : Mid w0 W' l k gs gm F FM A7 c7 A8 c8 gl :=
  ⟨h.two.later hb, h.ends.below hb, h.mods.below hb, h.models.below hb, h.len⟩
theorem Four.mid {w0 W W1 W2 : World} {l : List Ac} {k gs gm : Nat} {F FM F' FM' : List Nat} {A7 : Option Addr} {c7 : Nat} {A8 : Option Addr} {c8 : Nat} {gl : List Nat} (h : Four w0 W l k gs gm F FM A7 c7 A8 c8 gl) (h2 : StAt W1 gs F' (Sk l (k + 1))) (hc1 : Chg F W W1) (hn1 : NewIn W F F')
    (hmd : ModAt W2 gm FM' (Sk l (k + 1)).homes (Sk l (k + 1)).visits) (hc : Chg FM W1 W2) (hn : NewIn W1 FM FM') : Mid w0 W2 l k gs gm F' FM' A7 c7 A8 c8 gl := by
  obtain ⟨p1, p2, p3⟩ := h.two.half hc1 hn1
  have e1 := row_chg h.ends hc1 (st_row h.two.st h.ends (by decide))
  have e2 := row_chg h.mods hc1 (st_row h.two.st h.mods (by decide))
  have e3 := h.models.chg hc1 (fun g F2 H V hm _ => mod_st h.two.st hm)
  exact ⟨Two.step h2 p2 p3 h.two.hFM p1 hmd hc hn, row_chg e1 hc (mod_row p1 e1 (by decide)), row_chg e2 hc (mod_row p1 e2 (by decide)), e3.turn hc hn, h.len⟩
/-- the end of the log is noted -/
theorem Mid.ends2 {w0 W W' : World} {l : List Ac} {k gs gm : Nat} {F FM : List Nat} {A7 A7' : Option Addr} {c7 c7' : Nat} {A8 : Option Addr} {c8 : Nat} {gl : List Nat} (h : Mid w0 W l k gs gm F FM A7 c7 A8 c8 gl) (hg : W.grownBy W' (A7.map (·.block)))
    (hr : Row W' w0.heap.size 3 1 A7' (k + 1) c7' (endsV l (k + 1))) : Two w0 W' l (k + 1) gs gm F FM ∧ Row W' w0.heap.size 3 1 A7' (k + 1) c7' (endsV l (k + 1)) ∧ Row W' w0.heap.size 29 1 A8 k c8 (gl.map ptrV) ∧ Models W' w0.heap.size FM l gl := by
  have hc := Chg.of_row hg
  refine ⟨⟨h.two.st.chg hc (st_row h.two.st h.ends (by decide)), h.two.md.chg hc (mod_row h.two.md h.ends (by decide)), h.two.below.trans (hc.below (fun i hi => (Row.blk_lt h.ends i hi).1) h.two.below.size), h.two.hF, h.two.hFM⟩, hr, row_chg h.mods hc (row_row h.ends h.mods (by decide)), h.models.chg hc (fun g F2 H V hm _ => mod_row hm h.ends (by decide))⟩
/-- the model is copied and noted -/
theorem four_next {w0 W W1 W' : World} {l : List Ac} {k gs gm g : Nat} {F FM F2 : List Nat} {A7 A8 A8' : Option Addr} {c7 c8 c8' : Nat} {gl : List Nat} (h : Two w0 W l (k + 1) gs gm F FM) (he : Row W w0.heap.size 3 1 A7 (k + 1) c7 (endsV l (k + 1))) (hm : Row W w0.heap.size 29 1 A8 k c8 (gl.map ptrV)) (hM : Models W w0.heap.size FM l gl) (hl : gl.length = k)
    (hb : Below W.heap.size W W1) (hcp : ModAt W1 g F2 (Sk l (k + 1)).homes (Sk l (k + 1)).visits) (hF2 : ∀ i ∈ F2, W.heap.size ≤ i) (hg : W1.grownBy W' (A8.map (·.block)))
    (hr : Row W' w0.heap.size 29 1 A8' (k + 1) c8' ((gl ++ [g]).map ptrV)) : Four w0 W' l (k + 1) gs gm F FM A7 c7 A8' c8' (gl ++ [g]) := by
  have h1 := h.later hb
  have he1 := he.below hb
  have hm1 := hm.below hb
  have hM1 := hM.below hb
  have hc := Chg.of_row hg
  have hM2 : Models W1 w0.heap.size FM l (gl ++ [g]) := hM1.snoc (F' := F2) (by rw [hl]; exact hcp) (fun j hj => ⟨by have := hF2 j hj; have := h.below.size; omega, fun hj2 => by have := hF2 j hj; have := h.md.lt j hj2; omega⟩)
  exact ⟨⟨h1.st.chg hc (st_row h1.st hm1 (by decide)), h1.md.chg hc (mod_row h1.md hm1 (by decide)), h1.below.trans (hc.below (fun i hi => (Row.blk_lt hm1 i hi).1) h1.below.size), h1.hF, h1.hFM⟩, row_chg he1 hc (row_row hm1 he1 (by decide)), hr, hM2.chg hc (fun g F2 H V hm _ => mod_row hm hm1 (by decide)), by simp [hl]⟩
end Go.Proofs.YthbbmpelldglmaaGreatDoor
