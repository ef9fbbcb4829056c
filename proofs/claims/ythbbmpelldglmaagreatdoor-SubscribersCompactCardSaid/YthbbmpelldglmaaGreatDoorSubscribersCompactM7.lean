/- Package subscribers: 'Compact'. -/
import Derived.Test.YthbbmpelldglmaaGreatDoorSubscribersCompactM6
import Derived.Deep.QuietTactic
import Derived.BigQuiet
import Derived.ProofKit
import Derived.Test.YthbbmpelldglmaaGreatDoorProg
import Derived.Lib.SmallJoins
import Derived.SizedLaws
import Derived.OpenShut
import Derived.Deep.Slices
import Derived.Deep.RegionHeld3
import Derived.Deep.RegionHeldLaw
import Derived.Deep.CutBlock
namespace Go.Proofs.YthbbmpelldglmaaGreatDoor
set_option linter.unusedVariables false
set_option linter.unusedSimpArgs false
open Go.RowKit

/-- the store's own block and its log, and what another log makes of the store -/
theorem StAt.relog {w : World} {g : Nat} {F : List Nat} {S : St} (h : StAt w g F S) : ∃ m1 m2 m3 m4 A c, w.heap[g]? = some (stObj m1 m2 m3 m4 A S.log.length c S.dur) ∧ RowB w 0 A c S.log ∧ (∀ i ∈ g :: blk A, i ∈ F) ∧
    ∀ (w' : World) (A' : Option Addr) (c' d : Nat) (l : List UInt8), w'.heap[g]? = some (stObj m1 m2 m3 m4 A' l.length c' d) → RowB w' 0 A' c' l → Chg (g :: blk A) w w' → NewIn w (blk A) (blk A') → ∃ F', StAt w' g F' { S with log := l, dur := d } ∧ NewIn w F F' := by
  rcases h with ⟨b1, b2, b3, b4, A, c, rfl, h⟩ | ⟨A, c, rfl, h⟩
  · have hap := h.apart
    refine ⟨_, _, _, _, A, c, h.obj, h.log, fun i hi => by simp at hi ⊢; rcases hi with h | h <;> simp [h], fun w' A' c' d l ho hr hc hn => ⟨g :: b1 :: b2 :: b3 :: b4 :: blk A', .inl ⟨b1, b2, b3, b4, A', c', rfl, ho, hr, ?_⟩, fun i hi => ?_⟩⟩
    · have hm := h.maps.chg hc (by simp; exact ⟨fun e => hap.1.1 e.symm, hap.2.2.1⟩) (by simp; exact ⟨fun e => hap.1.2.1 e.symm, hap.2.2.2.1⟩) (by simp; exact ⟨fun e => hap.1.2.2.1 e.symm, hap.2.2.2.2.1⟩) (by simp; exact ⟨fun e => hap.1.2.2.2 e.symm, hap.2.2.2.2.2⟩)
      exact ⟨hm.nodup, hm.homes, hm.visits, hm.numbers, hm.roams⟩
    · simp only [List.mem_cons] at hi ⊢
      rcases hi with h1 | h1 | h1 | h1 | h1 | h1
      · exact .inl (.inl h1)
      · exact .inl (.inr (.inl h1))
      · exact .inl (.inr (.inr (.inl h1)))
      · exact .inl (.inr (.inr (.inr (.inl h1))))
      · exact .inl (.inr (.inr (.inr (.inr (.inl h1)))))
      · exact (hn i h1).imp (fun h2 => .inr (.inr (.inr (.inr (.inr h2))))) _root_.id
  · refine ⟨_, _, _, _, A, c, h.obj, h.log, fun i hi => hi, fun w' A' c' d l ho hr hc hn => ⟨g :: blk A', .inr ⟨A', c', rfl, ho, hr, h.homes, h.visits⟩, fun i hi => ?_⟩⟩
    simp only [List.mem_cons] at hi ⊢
    rcases hi with h1 | h1
    · exact .inl (.inl h1)
    · exact (hn i h1).imp .inr _root_.id
/-- 'entry', of a store -/
theorem entry_st (w : World) (g : Nat) (F : List Nat) (S : St) (h : StAt w g F S) (hll : S.log.length ≤ 100000000) (kind : UInt8) (Af : Option Addr) (fl : List UInt8) (cf : Nat) (hf : RdB w Af fl) (hfl : fl.length ≤ 1000) :
    Calls Tryz.prog 46 #[.pointer (some ⟨g, 0, none⟩), .int .u8 (kind.toNat : Int), .slice Af fl.length cf] w fun e w' => e = .returned (.tuple #[]) ∧ ∃ F', StAt w' g F' { S with log := S.log ++ entryB kind fl } ∧ Chg F w w' ∧ NewIn w F F' := by
  obtain ⟨m1, m2, m3, m4, A, c, ho, hr, hF, hset⟩ := h.relog
  refine (entry_any w g m1 m2 m3 m4 A c S.dur S.log ho hr hll kind Af fl cf hf hfl).mono ?_
  rintro e w' ⟨he, A', c', h1, h2, h3, h4⟩
  obtain ⟨F', h5, h6⟩ := hset w' A' c' S.dur _ h1 h2 h3 h4
  exact ⟨he, F', h5, h3.mono hF, h6⟩
theorem flat_len2 {α : Type} (f : α → List UInt8) (n : Nat) : ∀ (l : List α), (∀ x ∈ l, (f x).length ≤ n) → (l.flatMap f).length ≤ l.length * n
  | [], _ => by simp
  | x :: r, h => by
    rw [List.flatMap_cons, List.length_append, List.length_cons, Nat.add_mul]
    have := flat_len2 f n r (fun y hy => h y (by simp [hy]))
    have := h x (by simp)
    omega
def homesLog (l : List HomeR) : List UInt8 := l.flatMap fun h => entryB 1 h.fields
def visitsLog (l : List VisitR) : List UInt8 := l.flatMap fun v => entryB 2 v.fields
theorem homesLog_succ (l : List HomeR) (k : Nat) (h : k < l.length) : homesLog (l.take (k + 1)) = homesLog (l.take k) ++ entryB 1 l[k].fields := by
  unfold homesLog
  rw [List.take_succ_eq_append_getElem h, List.flatMap_append]
  simp
theorem visitsLog_succ (l : List VisitR) (k : Nat) (h : k < l.length) : visitsLog (l.take (k + 1)) = visitsLog (l.take k) ++ entryB 2 l[k].fields := by
  unfold visitsLog
  rw [List.take_succ_eq_append_getElem h, List.flatMap_append]
  simp
theorem homesLog_len {l : List HomeR} (h : ∀ x ∈ l, x.ok = true) : (homesLog l).length ≤ l.length * 50 :=
  flat_len2 _ 50 l fun x hx => by have := HomeR.fields_len (h x hx); show (entryB 1 x.fields).length ≤ 50; rw [entryB_len]; omega
theorem visitsLog_len {l : List VisitR} (h : ∀ x ∈ l, x.ok = true) : (visitsLog l).length ≤ l.length * 61 :=
  flat_len2 _ 61 l fun x hx => by have := VisitR.fields_len (h x hx); show (entryB 2 x.fields).length ≤ 61; rw [entryB_len]; omega
theorem take_all {α : Type} {l : List α} {p : α → Prop} (h : ∀ x ∈ l, p x) (k : Nat) : ∀ x ∈ l.take k, p x := fun x hx => h x (List.mem_of_mem_take hx)

set_option maxHeartbeats 4000000 in
set_option maxRecDepth 100000 in
theorem storeCompact_any (w : World) (g : Nat) (F : List Nat) (S : St) (h : StAt w g F S) (hf : S.Fit) (hp : S.puts ≤ 100000) (hl1 : S.homes.length ≤ 1000) (hl2 : S.visits.length ≤ 1000) :
    Calls Tryz.prog 23 #[.pointer (some ⟨g, 0, none⟩)] w fun e w' => ∃ F', e = .returned (.int .i64 0) ∧ StAt w' g F' { S with log := fillLog S, dur := (fillLog S).length } ∧ Chg F w w' ∧ NewIn w F F' := by
  obtain ⟨H, V, lg0, dur0, puts0⟩ := S
  obtain ⟨m1, m2, m3, m4, A, c, ho, hr, hF, hset⟩ := h.relog
  simp only at ho hr hset hp hl1 hl2
  have hgF : g ∈ F := hF g (by simp)
  have f4 := stObj_free ho 4
  have k4 : w.cell? ⟨g, 4, none⟩ = some (.slice A lg0.length c) := stObj_cell ho 4
  have ho1 : (w.setCell ⟨g, 4, none⟩ (.slice none 0 0)).heap[g]? = some (stObj m1 m2 m3 m4 none ([] : List UInt8).length 0 dur0) := stObj_set4 ho
  have hc1 : Chg [g] w (w.setCell ⟨g, 4, none⟩ (.slice none 0 0)) := (Chg.refl _ _).setCell (by simp) _
  obtain ⟨F1, h1, hn1⟩ := hset _ none 0 dur0 [] ho1 (RowB.nil _ _) (hc1.mono (by simp)) (by intro i hi; simp [blk] at hi)
  have hcF : Chg F w (w.setCell ⟨g, 4, none⟩ (.slice none 0 0)) := hc1.mono (by simp [hgF])
  have hfit : ∀ lg d, (St.mk H V lg d puts0).Fit := fun lg d => SameR.fit (S := ⟨H, V, lg0, dur0, puts0⟩) ⟨rfl, rfl⟩ hf
  have hhm := fun W F' lg (h : StAt W g F' ⟨H, V, lg, dur0, puts0⟩) => storeHomes_any W g F' ⟨H, V, lg, dur0, puts0⟩ h (hfit lg dur0) hp
  have hvs := fun W F' lg (h : StAt W g F' ⟨H, V, lg, dur0, puts0⟩) => storeVisits_any W g F' ⟨H, V, lg, dur0, puts0⟩ h (hfit lg dur0) hp
  have hsy := fun W F' lg (h : StAt W g F' ⟨H, V, lg, dur0, puts0⟩) => storeSync_any W g F' ⟨H, V, lg, dur0, puts0⟩ h
  have hen1 : ∀ W F' lg, StAt W g F' ⟨H, V, lg, dur0, puts0⟩ → lg.length ≤ 100000000 → ∀ (Af : Option Addr) (fl : List UInt8) (cf : Nat), RdB W Af fl → fl.length ≤ 1000 → Calls Tryz.prog 46 #[.pointer (some ⟨g, 0, none⟩), .int .u8 1, .slice Af fl.length cf] W fun e w' => e = .returned (.tuple #[]) ∧ ∃ F'', StAt w' g F'' ⟨H, V, lg ++ entryB 1 fl, dur0, puts0⟩ ∧ Chg F' W w' ∧ NewIn W F' F'' := fun W F' lg h hll Af fl cf hr hfl => entry_st W g F' ⟨H, V, lg, dur0, puts0⟩ h hll 1 Af fl cf hr hfl
  have hen2 : ∀ W F' lg, StAt W g F' ⟨H, V, lg, dur0, puts0⟩ → lg.length ≤ 100000000 → ∀ (Af : Option Addr) (fl : List UInt8) (cf : Nat), RdB W Af fl → fl.length ≤ 1000 → Calls Tryz.prog 46 #[.pointer (some ⟨g, 0, none⟩), .int .u8 2, .slice Af fl.length cf] W fun e w' => e = .returned (.tuple #[]) ∧ ∃ F'', StAt w' g F'' ⟨H, V, lg ++ entryB 2 fl, dur0, puts0⟩ ∧ Chg F' W w' ∧ NewIn W F' F'' := fun W F' lg h hll Af fl cf hr hfl => entry_st W g F' ⟨H, V, lg, dur0, puts0⟩ h hll 2 Af fl cf hr hfl
  simp only at hhm hvs hsy h1
  rw [show fillLog ⟨H, V, lg0, dur0, puts0⟩ = homesLog H ++ visitsLog V from rfl]
  simp only
  have hokH : ∀ x ∈ H, x.ok = true ∧ x.Go := hf.hok
  have hokV : ∀ x ∈ V, x.ok = true ∧ x.Go := hf.vok
  have HHM := Lib.hid hhm
  have HVS := Lib.hid hvs
  have HSY := Lib.hid hsy
  have HEN1 := Lib.hid hen1
  have HEN2 := Lib.hid hen2
  have HOKH := Lib.hid hokH
  have HOKV := Lib.hid hokV
  have H1 := Lib.hid h1
  have HN1 := Lib.hid hn1
  have HCF := Lib.hid hcF
  clear hhm hvs hsy hen1 hen2 hokH hokV h1 hn1 hcF hc1 ho1 hset hr ho h hF hfit hf
  go_enter Tryz.func23, Tryz.ntmps23
  go_wp2_with (first
    | (go_at_call 37; (with_reducible refine (HHM.out _ _ [] H1.out).mono ?_); rintro e w2 ⟨A2, rfl, h2, hB2⟩)
    | fail)
  have H2 := Lib.hid (H1.out.below hB2)
  have HC2 := Lib.hid (HCF.out.then_ (Chg.of_below F hB2))
  have HN2 : Hid (NewIn w F F1) := HN1
  have HR2 : Hid (HomeRow w2 0 A2 H.length H) := Lib.hid (Row.mono h2 (Nat.zero_le _))
  clear h2 hB2 H1 HN1 HCF f4 k4
  go_loopw [15] (fun iv wr => ∃ (k : Nat) (F' : List Nat), k ≤ H.length ∧ iv = .int .i64 k ∧ Hid (StAt wr g F' ⟨H, V, homesLog (H.take k), dur0, puts0⟩ ∧ HomeRow wr 0 A2 H.length H ∧ Chg F w wr ∧ NewIn w F F'))
    (fun iv _ => H.length - (intOf iv).toNat)
  case atStart => exact ⟨0, F1, Nat.zero_le _, rfl, Lib.hid ⟨H2.out, HR2.out, HC2.out, HN2.out⟩⟩
  case round =>
    obtain ⟨k, F', hk, rfl, HI⟩ := hrel
    by_cases hlt : k < H.length
    · obtain ⟨g2, rfl, -⟩ := Row.form HI.out.2.1 (by omega)
      have x1 := HomeRow.at HI.out.2.1 hlt
      have hok := HOKH.out H[k] (List.getElem_mem hlt)
      have hfd := fun W => homeFields_any H[k] W hok.1 hok.2
      have hfl : H[k].fields.length ≤ 1000 := by have := HomeR.fields_len hok.1; omega
      have hsucc := homesLog_succ H k hlt
      have hll : (homesLog (H.take k)).length ≤ 100000000 := by
        have := homesLog_len (take_all (fun x hx => (HOKH.out x hx).1) k)
        rw [List.length_take] at this
        omega
      generalize H[k] = x at *
      obtain ⟨mid, mnum, mat, mmv, mba, mwa⟩ := x
      have y0 : wr.cell? ⟨g2, k * 6 + 0, none⟩ = some (encStr mid) := x1 0 (by decide)
      have y1 : wr.cell? ⟨g2, k * 6 + 1, none⟩ = some (encStr mnum) := x1 1 (by decide)
      have y2 : wr.cell? ⟨g2, k * 6 + 2, none⟩ = some (.int .u16 (mat : Int)) := x1 2 (by decide)
      have y3 : wr.cell? ⟨g2, k * 6 + 3, none⟩ = some (.int .u32 (mmv : Int)) := x1 3 (by decide)
      have y4 : wr.cell? ⟨g2, k * 6 + 4, none⟩ = some (.bool mba) := x1 4 (by decide)
      have y5 : wr.cell? ⟨g2, k * 6 + 5, none⟩ = some (.bool mwa) := x1 5 (by decide)
      rw [Nat.add_zero] at y0
      unfold HomeR.val HomeR.cells at hfd
      simp only at hfd
      generalize hfx : (HomeR.mk mid mnum mat mmv mba mwa).fields = fl at *
      have HFD := Lib.hid hfd
      have HSU := Lib.hid hsucc
      have HLT := Lib.hid hlt
      have HLL := Lib.hid hll
      have HFL := Lib.hid hfl
      have q2 : (0 : Int) ≤ (k : Int) := by omega
      have q3 : (k : Int) < (H.length : Int) := by omega
      clear x1 hok hfd hfl hsucc hll hfx
      go_wp2_with (first
        | (go_at_call 47; (with_reducible refine (HFD.out _).mono ?_); rintro e w5 ⟨A5, c5, rfl, h5, hB5⟩
           have hB6 := below_then ((Below.refl wr.heap.size wr).alloc (Nat.le_refl _) (.cells #[encStr mid, encStr mnum, .int .u16 (mat : Int), .int .u32 (mmv : Int), .bool mba, .bool mwa] 52)) hB5
           have HR5 := Lib.hid (RowB.rd h5)
           have HS5 := Lib.hid (HI.out.1.below hB6)
           have HI5 := Lib.hid (And.intro (Row.below HI.out.2.1 hB6) (And.intro (HI.out.2.2.1.then_ (Chg.of_below F hB6)) (show NewIn w F F' from HI.out.2.2.2)))
           clear h5)
        | (go_at_call 46; (with_reducible refine (HEN1.out _ _ _ HS5.out HLL.out _ _ _ HR5.out HFL.out).mono ?_); rintro e w7 ⟨rfl, F7, h7, hc7, hn7⟩)
        | fail)
      go_roundw
      case rel =>
        refine ⟨k + 1, F7, by have := HLT.out; omega, by go_num, Lib.hid ⟨by rw [HSU.out]; exact h7, row_chg HI5.out.1 hc7 (st_row HS5.out HI5.out.1 (by decide)), HI5.out.2.1.trans hc7 HI5.out.2.2, HI5.out.2.2.trans hn7 HI5.out.2.1.size⟩⟩
      case measure => have := HLT.out; simp [intOf]; omega
    · obtain rfl : k = H.length := by omega
      rw [List.take_length] at HI
      go_wp2_with (first
        | (go_at_call 38; (with_reducible refine (HVS.out _ _ _ HI.out.1).mono ?_); rintro e w3 ⟨A3, rfl, h3, hB3⟩)
        | fail)
      have HI3 : Hid (StAt w3 g F' ⟨H, V, homesLog H, dur0, puts0⟩ ∧ VisitRow w3 0 A3 V.length V ∧ Chg F w w3 ∧ NewIn w F F') := Lib.hid ⟨HI.out.1.below hB3, Row.mono h3 (Nat.zero_le _), HI.out.2.2.1.then_ (Chg.of_below F hB3), HI.out.2.2.2⟩
      clear h3 hB3 HI
      go_loopw [27] (fun iv wr => ∃ (k : Nat) (F' : List Nat), k ≤ V.length ∧ iv = .int .i64 k ∧ Hid (StAt wr g F' ⟨H, V, homesLog H ++ visitsLog (V.take k), dur0, puts0⟩ ∧ VisitRow wr 0 A3 V.length V ∧ Chg F w wr ∧ NewIn w F F'))
        (fun iv _ => V.length - (intOf iv).toNat)
      case atStart => exact ⟨0, F', Nat.zero_le _, rfl, Lib.hid ⟨by simpa [visitsLog] using HI3.out.1, HI3.out.2.1, HI3.out.2.2.1, HI3.out.2.2.2⟩⟩
      case round =>
        obtain ⟨k, F', hk, rfl, HI⟩ := hrel
        by_cases hlt : k < V.length
        · obtain ⟨g2, rfl, -⟩ := Row.form HI.out.2.1 (by omega)
          have x1 := VisitRow.at HI.out.2.1 hlt
          have hok := HOKV.out V[k] (List.getElem_mem hlt)
          have hfd := fun W => visitFields_any V[k] W hok.1 hok.2
          have hfl : V[k].fields.length ≤ 1000 := by have := VisitR.fields_len hok.1; omega
          have hsucc := visitsLog_succ V k hlt
          have hll : (homesLog H ++ visitsLog (V.take k)).length ≤ 100000000 := by
            have := visitsLog_len (take_all (fun x hx => (HOKV.out x hx).1) k)
            have h3 := homesLog_len (fun x hx => (HOKH.out x hx).1)
            rw [List.length_take] at this
            rw [List.length_append]
            omega
          generalize V[k] = x at *
          obtain ⟨mid, mnum, mat, mmv, mar, mro⟩ := x
          have y0 : wr.cell? ⟨g2, k * 6 + 0, none⟩ = some (encStr mid) := x1 0 (by decide)
          have y1 : wr.cell? ⟨g2, k * 6 + 1, none⟩ = some (encStr mnum) := x1 1 (by decide)
          have y2 : wr.cell? ⟨g2, k * 6 + 2, none⟩ = some (.int .u16 (mat : Int)) := x1 2 (by decide)
          have y3 : wr.cell? ⟨g2, k * 6 + 3, none⟩ = some (.int .u32 (mmv : Int)) := x1 3 (by decide)
          have y4 : wr.cell? ⟨g2, k * 6 + 4, none⟩ = some (.int .u16 (mar : Int)) := x1 4 (by decide)
          have y5 : wr.cell? ⟨g2, k * 6 + 5, none⟩ = some (encStr mro) := x1 5 (by decide)
          rw [Nat.add_zero] at y0
          unfold VisitR.val VisitR.cells at hfd
          simp only at hfd
          generalize hfx : (VisitR.mk mid mnum mat mmv mar mro).fields = fl at *
          have HFD := Lib.hid hfd
          have HSU := Lib.hid hsucc
          have HLT := Lib.hid hlt
          have HLL := Lib.hid hll
          have HFL := Lib.hid hfl
          have q2 : (0 : Int) ≤ (k : Int) := by omega
          have q3 : (k : Int) < (V.length : Int) := by omega
          clear x1 hok hfd hfl hsucc hll hfx
          go_wp2_with (first
            | (go_at_call 48; (with_reducible refine (HFD.out _).mono ?_); rintro e w5 ⟨A5, c5, rfl, h5, hB5⟩
               have hB6 := below_then ((Below.refl wr.heap.size wr).alloc (Nat.le_refl _) (.cells #[encStr mid, encStr mnum, .int .u16 (mat : Int), .int .u32 (mmv : Int), .int .u16 (mar : Int), encStr mro] 54)) hB5
               have HR5 := Lib.hid (RowB.rd h5)
               have HS5 := Lib.hid (HI.out.1.below hB6)
               have HI5 := Lib.hid (And.intro (Row.below HI.out.2.1 hB6) (And.intro (HI.out.2.2.1.then_ (Chg.of_below F hB6)) (show NewIn w F F' from HI.out.2.2.2)))
               clear h5)
            | (go_at_call 46; (with_reducible refine (HEN2.out _ _ _ HS5.out HLL.out _ _ _ HR5.out HFL.out).mono ?_); rintro e w7 ⟨rfl, F7, h7, hc7, hn7⟩)
            | fail)
          go_roundw
          case rel =>
            refine ⟨k + 1, F7, by have := HLT.out; omega, by go_num, Lib.hid ⟨by rw [HSU.out, ← List.append_assoc]; exact h7, row_chg HI5.out.1 hc7 (st_row HS5.out HI5.out.1 (by decide)), HI5.out.2.1.trans hc7 HI5.out.2.2, HI5.out.2.2.trans hn7 HI5.out.2.1.size⟩⟩
          case measure => have := HLT.out; simp [intOf]; omega
        · obtain rfl : k = V.length := by omega
          rw [List.take_length] at HI
          go_wp2_with (first
            | (go_at_call 14; (with_reducible refine (HSY.out _ _ _ HI.out.1).mono ?_); rintro e w9 ⟨F9, rfl, h9, hc9, hn9⟩)
            | fail)
          go_ret
          exact ⟨F9, rfl, h9, HI.out.2.2.1.trans hc9 HI.out.2.2.2, HI.out.2.2.2.trans hn9 HI.out.2.2.1.size⟩
end Go.Proofs.YthbbmpelldglmaaGreatDoor
/- Package subscribers: 'Replay'. -/
namespace Go.Proofs.YthbbmpelldglmaaGreatDoor
set_option linter.unusedVariables false
set_option linter.unusedSimpArgs false
open Go.RowKit

theorem or_i64 (a b : Nat) (ha : a < 65536) (hb : b < 65536) : bits .or .i64 a b = ((a ||| b : Nat) : Int) :=
  (bits_nat .i64 16 (by decide) (fun n h0 h1 => by rw [IntKind.wrap_i64]; omega) a b ha hb).2
/-- 'sums.Check' at the first entry -/
theorem front_check (W : World) (A : Option Addr) (D : List UInt8) (c m n : Nat) (hA : RdB W A D) (hc : D.length ≤ c) (hm : m = lenAt D) (h4 : m + 4 ≤ D.length) (hl : D.length ≤ 16000) (hn : n = m + 4) :
    Calls Tryz.prog 59 #[.slice A n c] W fun e w' => Below W.heap.size W w' ∧ ((∃ b ad, front D = some b ∧ b.length = m ∧ e = .returned (.tuple #[.slice (some ad) (m + 2) (m + 2), .int .i64 0]) ∧ RdB w' (some (ad.add 2)) b ∧ W.heap.size ≤ ad.block ∧ ad.block < w'.heap.size) ∨
      (front D = none ∧ e = .returned (.tuple #[.slice none 0 0, .int .i64 10]))) := by
  subst hn
  have hl2 : (D.take (m + 4)).length = (m + 2) + 2 := by rw [List.length_take]; omega
  have hk0 : (D.take (m + 4))[m + 2]? = some (D[m + 2]'(by omega)) := by rw [List.getElem?_take_of_lt (by omega), List.getElem?_eq_getElem (by omega)]
  have hk1 : (D.take (m + 4))[m + 2 + 1]? = some (D[m + 3]'(by omega)) := by rw [List.getElem?_take_of_lt (by omega), List.getElem?_eq_getElem (by omega)]
  have ht : (D.take (m + 4)).take (m + 2) = D.take (m + 2) := by rw [List.take_take, Nat.min_eq_left (by omega)]
  have h := check_core A (D.take (m + 4)) (m + 2) c W (hA.take _) hl2 (by omega) (by omega) _ _ hk0 hk1
  have hd : (D.drop (m + 2)).take 2 = [D[m + 2]'(by omega), D[m + 3]'(by omega)] := by
    apply List.ext_getElem?
    intro i
    rw [List.getElem?_take]
    by_cases hi : i < 2
    · rw [if_pos hi, List.getElem?_drop]
      match i, hi with
      | 0, _ => rw [List.getElem?_eq_getElem (by omega)]; rfl
      | 1, _ => rw [List.getElem?_eq_getElem (by omega)]; rfl
    · rw [if_neg hi, List.getElem?_eq_none (by simp; omega)]
  refine h.mono ?_
  rintro e w' ⟨h1, h2⟩
  refine ⟨h2, ?_⟩
  rw [ht, ← hd] at h1
  by_cases hf : (D.drop (m + 2)).take 2 = fcs (D.take (m + 2))
  · rw [if_pos hf] at h1
    obtain ⟨A', rfl, hR⟩ := h1
    have hfr : front D = some ((D.take (m + 2)).drop 2) := by
      unfold front
      rw [← hm, if_pos ⟨by omega, h4, hf⟩]
    have hbl : (D.take (m + 2)).length = m + 2 := by rw [List.length_take]; omega
    unfold RowB at hR
    rw [hbl] at hR
    obtain ⟨g', rfl, hg1, hg2, _⟩ := Row.form hR (by omega)
    exact .inl ⟨_, _, hfr, by rw [List.length_drop, hbl]; omega, rfl, RdB.drop (Row.rd hR) 2, hg1, hg2⟩
  · rw [if_neg hf] at h1
    refine .inr ⟨?_, h1⟩
    unfold front
    rw [← hm, if_neg]
    rintro ⟨_, _, h5⟩
    exact hf h5

theorem addr2 (ad : Addr) : ad.add 2 = ⟨ad.block, ad.off + 2, none⟩ := by unfold Addr.add; split <;> simp_all
/-- how the walk ends -/
def Replayed (w : World) (log : List UInt8) (e : Ending) (w' : World) : Prop :=
  ∃ (g : Nat) (F : List Nat) (T : St) (n : Nat), e = .returned (.tuple #[.pointer (some ⟨g, 0, none⟩), .int .i64 (n : Int)]) ∧ Plays ⟨[], [], [], 0, 0⟩ log T n ∧ T.Fit ∧ 4 * T.puts ≤ n ∧
      StAt w' g F { T with log := log.take n, dur := n } ∧ Below w.heap.size w w' ∧ ∀ i ∈ F, w.heap.size ≤ i
theorem replay_end {w wz wy : World} {A : Option Addr} {log : List UInt8} {k : Nat} {S : St} {Fz : List Nat} {m1 m2 m3 m4 : Value} {Az Ay : Option Addr} {cz : Nat} (he : Eat ⟨[], [], [], 0, 0⟩ log S k) (hw : Way S k) (hp : ∀ b, front (log.drop k) = some b → (applied S b).1 = false)
    (hS : StAt wz w.heap.size Fz S) (hF : ∀ i ∈ Fz, w.heap.size ≤ i) (hB : Below w.heap.size w wz) (hBy : Below wz.heap.size wz wy) (hglt : w.heap.size < wz.heap.size)
    (hoy : wy.heap[w.heap.size]? = some (stObj m1 m2 m3 m4 Az S.log.length cz S.dur))
    (hset : ∀ (w' : World) (A' : Option Addr) (c' d : Nat) (l : List UInt8), w'.heap[w.heap.size]? = some (stObj m1 m2 m3 m4 A' l.length c' d) → RowB w' 0 A' c' l → Chg [w.heap.size] wz w' → ∃ F', StAt w' w.heap.size F' { S with log := l, dur := d } ∧ ∀ i ∈ F', i ∈ Fz ∨ i ∈ blk A')
    (hR : Row wy wz.heap.size 5 1 Ay (log.take k).length (log.take k).length ((log.take k).map byteV)) (hkl : (log.take k).length = k) :
    Replayed w log (.returned (.tuple #[.pointer (some ⟨w.heap.size, 0, none⟩), .int .i64 (k : Int)])) ((wy.setCell ⟨w.heap.size, 4, none⟩ (.slice Ay k k)).setCell ⟨w.heap.size, 5, none⟩ (.int .i64 (k : Int))) := by
  have hpl : Plays ⟨[], [], [], 0, 0⟩ log S k := he.plays (Plays.stop hp)
  have hgA : w.heap.size ∉ blk Ay := fun hi => by have := (Row.blk_lt hR _ hi).1; omega
  have o4 : (wy.setCell ⟨w.heap.size, 4, none⟩ (.slice Ay k k)).heap[w.heap.size]? = some (stObj m1 m2 m3 m4 Ay k k S.dur) := stObj_set4 hoy
  have o5 : ((wy.setCell ⟨w.heap.size, 4, none⟩ (.slice Ay k k)).setCell ⟨w.heap.size, 5, none⟩ (.int .i64 (k : Int))).heap[w.heap.size]? = some (stObj m1 m2 m3 m4 Ay k k k) := Go.Joins.block_setCell (i := 5) o4 _
  have c1 : Chg [w.heap.size] wy ((wy.setCell ⟨w.heap.size, 4, none⟩ (.slice Ay k k)).setCell ⟨w.heap.size, 5, none⟩ (.int .i64 (k : Int))) := ((Chg.refl _ _).setCell (by simp) _).setCell (by simp) _
  have c2 := (Chg.of_below [w.heap.size] hBy).then_ c1
  have hR2 : RowB ((wy.setCell ⟨w.heap.size, 4, none⟩ (.slice Ay k k)).setCell ⟨w.heap.size, 5, none⟩ (.int .i64 (k : Int))) 0 Ay (log.take k).length (log.take k) := Row.mono (Row.chg hR c1 (fun j e hi => hgA (by simp at hi; subst hi; exact mem_blk.2 e))) (Nat.zero_le _)
  rw [← hkl] at o5
  obtain ⟨F', h2, hF'⟩ := hset _ Ay (log.take k).length (log.take k).length (log.take k) (by simpa only [hkl] using o5) (by simpa only [hkl] using hR2) (by simpa only [hkl] using c2)
  rw [hkl] at h2
  refine ⟨w.heap.size, F', S, k, rfl, hpl, hw.fit, hw.puts, h2, hB.trans (c2.below (by simp) hB.size), fun i hi => ?_⟩
  rcases hF' i hi with h3 | h3
  · exact hF i h3
  · have := (Row.blk_lt hR _ h3).1; omega

set_option maxHeartbeats 8000000 in
set_option maxRecDepth 100000 in
theorem replay_any (w : World) (A : Option Addr) (c : Nat) (log : List UInt8) (hA : RdB w A log) (hc : log.length ≤ c) (hcm : c ≤ 9223372036854775807) (hl : log.length ≤ 16000) :
    Calls Tryz.prog 34 #[.slice A log.length c] w (Replayed w log) := by
  have hnew := storeNew_any w
  have HN := Lib.hid hnew
  clear hnew
  go_enter Tryz.func34, Tryz.ntmps34
  go_wp2_with (first
    | (go_at_call 9; (with_reducible refine HN.out.mono ?_); rintro e w1 ⟨rfl, h1, hB1⟩)
    | fail)
  have H1 := Lib.hid h1
  clear h1
  go_loopw [5] (fun v wr => ∃ (k : Nat) (S : St) (F : List Nat), v = .int .i64 k ∧ k ≤ log.length ∧ Hid (Eat ⟨[], [], [], 0, 0⟩ log S k ∧ Way S k) ∧ StAt wr w.heap.size F S ∧ Below w.heap.size w wr ∧ ∀ i ∈ F, w.heap.size ≤ i)
    (fun v _ => log.length - (intOf v).toNat)
  case atStart => exact ⟨0, _, _, rfl, Nat.zero_le _, Lib.hid ⟨Eat.start, Way.start [] 0 0⟩, H1.out, hB1, by simp⟩
  case round =>
    obtain ⟨k, S, F, rfl, hk, HE, hSt, hBz, hF⟩ := hrel
    have HSZ := Lib.hid hSt
    have HFZ := Lib.hid hF
    have HFZA := Lib.hid hF
    clear hSt hF
    have hkc : k ≤ c := by omega
    by_cases h2 : k + 2 ≤ log.length
    · obtain ⟨ad, rfl, hc0⟩ := (hA.below hBz).get (k := k) (by omega)
      obtain ⟨ad', e, hc1⟩ := (hA.below hBz).get (k := k + 1) (by omega)
      cases e
      rw [add_succ] at hc1
      have q1 : ((k : Int) + 2 ≤ (log.length : Int)) := by omega
      obtain ⟨x, hx⟩ : ∃ x, x = log[k].toNat := ⟨_, rfl⟩
      obtain ⟨y, hy⟩ : ∃ y, y = (log[k + 1]).toNat := ⟨_, rfl⟩
      rw [← hx] at hc0
      rw [← hy] at hc1
      have hxl : x < 256 := by rw [hx]; exact log[k].toNat_lt
      have hyl : y < 256 := by rw [hy]; exact (log[k + 1]).toNat_lt
      have HX := Lib.hid hx
      have HY := Lib.hid hy
      clear hx hy
      obtain ⟨m, hm⟩ : ∃ m, m = x + 256 * y := ⟨_, rfl⟩
      have e1 : bits .or .i64 (x : Int) ((y : Int) * 256) = (m : Int) := by
        have := or_i64 x (y * 256) (by omega) (by omega)
        rw [or_lift x y 8 (by omega)] at this
        rw [hm, ← this]
        simp
      have hm2 : m = lenAt (log.drop k) := by
        unfold lenAt
        rw [hm, HX.out, HY.out, List.getD_eq_getElem?_getD, List.getD_eq_getElem?_getD, List.getElem?_drop, List.getElem?_drop, List.getElem?_eq_getElem (by omega), List.getElem?_eq_getElem (by omega)]
        rfl
      have hml : m < 65536 := by omega
      have HM := Lib.hid hm2
      clear hm hm2
      go_upto_region 4 with fail
      have q2 : (0 : Int) ≤ (k : Int) := by omega
      have q3 : (k : Int) < (log.length : Int) := by omega
      have q4 : (0 : Int) ≤ (k : Int) + 1 := by omega
      have q5 : (k : Int) + 1 < (log.length : Int) := by omega
      go_quiet (fail)
      clear e1 hc0 hc1
      have hBn : Below w.heap.size w (wr.drewN nq) := below_drewN hBz _
      have HSN := Lib.hid (HSZ.out.below (below_drewN (Below.refl _ _) nq))
      have hsn : wr.heap.size = (wr.drewN nq).heap.size := rfl
      generalize ewn : wr.drewN nq = wn at *
      clear ewn
      have hBz := hBn
      have HSZ := HSN
      clear HSN hBn hsn
      by_cases h4 : k + m + 4 ≤ log.length
      · have q6 : ¬ (log.length : Int) < (k : Int) + (m : Int) + 4 := by omega
        have hck := front_check wn (some (ad.add k)) (log.drop k) (c - k) m (k + m + 4 - k) (RdB.drop (hA.below hBz) k) (by rw [List.length_drop]; omega) HM.out (by rw [List.length_drop]; omega) (by rw [List.length_drop]; omega) (by omega)
        have HCK := Lib.hid hck
        clear hck
        go_wp2_with fail
        refine HCK.out.mono ?_
        rintro e w5 ⟨hB5, hcase⟩
        have hBz := below_then hBz hB5
        have HSZ := Lib.hid (HSZ.out.below hB5)
        rcases hcase with ⟨b, ad2, hfr, hbl, rfl, hrb, hlo, hhi⟩ | ⟨hfr, rfl⟩
        · have hap := apply_any w5 w.heap.size F S HSZ.out HE.out.2.fit (by have := HE.out.2.puts; omega) (by have := HE.out.2.log; omega) (some (if m + 2 = 2 then ad2 else ad2.add 2)) b m (by
            split
            · have : b = [] := List.eq_nil_of_length_eq_zero (by omega)
              rw [this]; exact RdB.nil _ _
            · exact hrb) (fun a e => by cases e; split <;> (try rw [add_block]) <;> exact hhi) (by omega) (by omega)
          rw [hbl] at hap
          have hfr2 := hfr
          obtain ⟨res, S2, hX⟩ : ∃ r s, applied S b = (r, s) := ⟨_, _, rfl⟩
          rw [hX] at hap
          unfold Applied at hap
          simp only at hap
          by_cases hm0 : m = 0
          · have hb0 : b = [] := List.eq_nil_of_length_eq_zero (by omega)
            have hn : applied S b = (false, S) := by rw [hb0]; rfl
            rw [hn] at hX
            injection hX with hX1 hX2
            subst hX1
            subst hX2
            subst hm0
            rw [if_pos rfl] at hap
            have HPL := Lib.hid (show ∀ b, front (log.drop k) = some b → (applied S b).1 = false from fun b' hb => by rw [hfr] at hb; cases hb; rw [hn])
            have HAP := Lib.hid hap
            clear hfr hfr2 hap hbl hrb hn
            go_wp2_with fail
            refine HAP.out.mono ?_
            rintro e w6 ⟨F6, rfl, h6, hc6, hn6⟩
            have HFZ := Lib.hid (show ∀ i ∈ F6, w.heap.size ≤ i from fun i hi => (hn6 i hi).elim (fun h => HFZ.out i h) (fun h => by have := hBz.size; omega))
            have hBz := hBz.trans (hc6.below (fun i hi => HFZA.out i hi) hBz.size)
            have HSZ := Lib.hid h6
            clear h6 hc6 hn6
            obtain ⟨m1, m2, m3, m4, Az, cz, hoz, hrz, hgA, hAF, hgF, hset⟩ := HSZ.out.obj
            have hkl : (log.take k).length = k := by rw [List.length_take]; omega
            have hcl := fun W (hb : Below w.heap.size w W) => clone_any (some ad) c (log.take k) W ((hA.below hb).take k) (by omega)
            rw [hkl] at hcl
            have HCL := Lib.hid hcl
            have HSET := Lib.hid hset
            have HOZ := Lib.hid hoz
            have hglt : w.heap.size < w6.heap.size := (Array.getElem?_eq_some_iff.1 hoz).1
            have HKL := Lib.hid hkl
            clear hcl hset hoz hrz hAF hgA hkl
            go_wp2_with (first
              | (go_at_call 42; (with_reducible refine (HCL.out _ hBz).mono ?_); rintro e wy ⟨Ay, cy, rfl, hRy, hBy⟩; have hle := Row.le hRy; have hcap := Row.cap_le hRy; simp only [HKL.out] at hle
                 have hoy := (hBy.block _ hglt).trans HOZ.out
                 have k4 := stObj_cell hoy 4
                 have k5 := stObj_cell hoy 5
                 have f4 := stObj_free hoy 4
                 have f5 := stObj_free hoy 5
                 have HOY := Lib.hid hoy
                 clear hoy
                 simp only [show (#[m1, m2, m3, m4, Value.slice Az S.log.length cz, Value.int IntKind.i64 (S.dur : Int)] : Array Value)[4]? = some (Value.slice Az S.log.length cz) from rfl] at k4
                 simp only [show (#[m1, m2, m3, m4, Value.slice Az S.log.length cz, Value.int IntKind.i64 (S.dur : Int)] : Array Value)[5]? = some (Value.int IntKind.i64 (S.dur : Int)) from rfl] at k5)
              | (go_at_call 41; go_must (refine (clip_any _ _ _ _ hle hcap).mono ?_); rintro e wx ⟨rfl, rfl⟩)
              | fail)
            go_ret2
            exact replay_end (A := some ad) HE.out.1 HE.out.2 HPL.out HSZ.out HFZ.out hBz hBy hglt HOY.out HSET.out (Row.clip hRy) HKL.out
          · have hm1 : ¬ m + 2 = 2 := by omega
            rw [if_neg hm1, addr2] at hap
            cases res with
            | false =>
              have hS2 : S2 = S := by have := applied_false (S := S) (b := b) (by rw [hX]); rw [hX] at this; exact this
              subst hS2
              have HPL := Lib.hid (show ∀ b, front (log.drop k) = some b → (applied S2 b).1 = false from fun b' hb => by rw [hfr] at hb; cases hb; rw [hX])
              have HAP := Lib.hid hap
              clear hfr hfr2 hap hbl hrb hX
              go_wp2_with fail
              refine HAP.out.mono ?_
              rintro e w6 ⟨F6, rfl, h6, hc6, hn6⟩
              have HFZ := Lib.hid (show ∀ i ∈ F6, w.heap.size ≤ i from fun i hi => (hn6 i hi).elim (fun h => HFZ.out i h) (fun h => by have := hBz.size; omega))
              have hBz := hBz.trans (hc6.below (fun i hi => HFZA.out i hi) hBz.size)
              have HSZ := Lib.hid h6
              clear h6 hc6 hn6
              obtain ⟨m1, m2, m3, m4, Az, cz, hoz, hrz, hgA, hAF, hgF, hset⟩ := HSZ.out.obj
              have hkl : (log.take k).length = k := by rw [List.length_take]; omega
              have hcl := fun W (hb : Below w.heap.size w W) => clone_any (some ad) c (log.take k) W ((hA.below hb).take k) (by omega)
              rw [hkl] at hcl
              have HCL := Lib.hid hcl
              have HSET := Lib.hid hset
              have HOZ := Lib.hid hoz
              have hglt : w.heap.size < w6.heap.size := (Array.getElem?_eq_some_iff.1 hoz).1
              have HKL := Lib.hid hkl
              clear hcl hset hoz hrz hAF hgA hkl
              go_wp2_with (first
                | (go_at_call 42; (with_reducible refine (HCL.out _ hBz).mono ?_); rintro e wy ⟨Ay, cy, rfl, hRy, hBy⟩; have hle := Row.le hRy; have hcap := Row.cap_le hRy; simp only [HKL.out] at hle
                   have hoy := (hBy.block _ hglt).trans HOZ.out
                   have k4 := stObj_cell hoy 4
                   have k5 := stObj_cell hoy 5
                   have f4 := stObj_free hoy 4
                   have f5 := stObj_free hoy 5
                   have HOY := Lib.hid hoy
                   clear hoy
                   simp only [show (#[m1, m2, m3, m4, Value.slice Az S2.log.length cz, Value.int IntKind.i64 (S2.dur : Int)] : Array Value)[4]? = some (Value.slice Az S2.log.length cz) from rfl] at k4
                   simp only [show (#[m1, m2, m3, m4, Value.slice Az S2.log.length cz, Value.int IntKind.i64 (S2.dur : Int)] : Array Value)[5]? = some (Value.int IntKind.i64 (S2.dur : Int)) from rfl] at k5)
                | (go_at_call 41; go_must (refine (clip_any _ _ _ _ hle hcap).mono ?_); rintro e wx ⟨rfl, rfl⟩)
                | fail)
              go_ret2
              exact replay_end (A := some ad) HE.out.1 HE.out.2 HPL.out HSZ.out HFZ.out hBz hBy hglt HOY.out HSET.out (Row.clip hRy) HKL.out
            | true =>
              have HE2 := Lib.hid (And.intro (Eat.step HE.out.1 hfr hX) (Way.step HE.out.2 hX))
              rw [hbl] at HE2
              have HAP := Lib.hid hap
              clear hfr hfr2 hap hbl hrb hX
              go_wp2_with fail
              refine HAP.out.mono ?_
              rintro e w6 ⟨F6, rfl, h6, hc6, hn6⟩
              have hFn : ∀ i ∈ F6, w.heap.size ≤ i := fun i hi => (hn6 i hi).elim (fun h => HFZ.out i h) (fun h => by have := hBz.size; omega)
              have hBn := hBz.trans (hc6.below (fun i hi => HFZA.out i hi) hBz.size)
              have HSN := Lib.hid h6
              have HFN := Lib.hid hFn
              clear h6 hc6 hn6 hFn
              go_wp2_with fail
              go_roundw
              case rel => exact ⟨k + (m + 4), S2, F6, by go_num, by omega, HE2, HSN.out, hBn, HFN.out⟩
              case measure => simp [intOf]; omega
        · have HPL := Lib.hid (show ∀ b, front (log.drop k) = some b → (applied S b).1 = false from fun b hb => by rw [hfr] at hb; cases hb)
          clear hfr
          obtain ⟨m1, m2, m3, m4, Az, cz, hoz, hrz, hgA, hAF, hgF, hset⟩ := HSZ.out.obj
          have hkl : (log.take k).length = k := by rw [List.length_take]; omega
          have hcl := fun W (hb : Below w.heap.size w W) => clone_any (some ad) c (log.take k) W ((hA.below hb).take k) (by omega)
          rw [hkl] at hcl
          have HCL := Lib.hid hcl
          have HSET := Lib.hid hset
          have HOZ := Lib.hid hoz
          have hglt : w.heap.size < w5.heap.size := (Array.getElem?_eq_some_iff.1 hoz).1
          have HKL := Lib.hid hkl
          clear hcl hset hoz hrz hAF hgA hkl
          go_wp2_with (first
            | (go_at_call 42; (with_reducible refine (HCL.out _ hBz).mono ?_); rintro e wy ⟨Ay, cy, rfl, hRy, hBy⟩; have hle := Row.le hRy; have hcap := Row.cap_le hRy; simp only [HKL.out] at hle
               have hoy := (hBy.block _ hglt).trans HOZ.out
               have k4 := stObj_cell hoy 4
               have k5 := stObj_cell hoy 5
               have f4 := stObj_free hoy 4
               have f5 := stObj_free hoy 5
               have HOY := Lib.hid hoy
               clear hoy
               simp only [show (#[m1, m2, m3, m4, Value.slice Az S.log.length cz, Value.int IntKind.i64 (S.dur : Int)] : Array Value)[4]? = some (Value.slice Az S.log.length cz) from rfl] at k4
               simp only [show (#[m1, m2, m3, m4, Value.slice Az S.log.length cz, Value.int IntKind.i64 (S.dur : Int)] : Array Value)[5]? = some (Value.int IntKind.i64 (S.dur : Int)) from rfl] at k5)
            | (go_at_call 41; go_must (refine (clip_any _ _ _ _ hle hcap).mono ?_); rintro e wx ⟨rfl, rfl⟩)
            | fail)
          go_ret2
          exact replay_end (A := some ad) HE.out.1 HE.out.2 HPL.out HSZ.out HFZ.out hBz hBy hglt HOY.out HSET.out (Row.clip hRy) HKL.out
      · have q6 : (log.length : Int) < (k : Int) + (m : Int) + 4 := by omega
        have HPL := Lib.hid (show ∀ b, front (log.drop k) = some b → (applied S b).1 = false from fun b hb => by
          have := (front_len hb)
          rw [← HM.out, List.length_drop] at this
          omega)
        clear h4
        obtain ⟨m1, m2, m3, m4, Az, cz, hoz, hrz, hgA, hAF, hgF, hset⟩ := HSZ.out.obj
        have hkl : (log.take k).length = k := by rw [List.length_take]; omega
        have hcl := fun W (hb : Below w.heap.size w W) => clone_any (some ad) c (log.take k) W ((hA.below hb).take k) (by omega)
        rw [hkl] at hcl
        have HCL := Lib.hid hcl
        have HSET := Lib.hid hset
        have HOZ := Lib.hid hoz
        have hglt : w.heap.size < wn.heap.size := (Array.getElem?_eq_some_iff.1 hoz).1
        have HKL := Lib.hid hkl
        clear hcl hset hoz hrz hAF hgA hkl
        go_wp2_with (first
          | (go_at_call 42; (with_reducible refine (HCL.out _ hBz).mono ?_); rintro e wy ⟨Ay, cy, rfl, hRy, hBy⟩; have hle := Row.le hRy; have hcap := Row.cap_le hRy; simp only [HKL.out] at hle
             have hoy := (hBy.block _ hglt).trans HOZ.out
             have k4 := stObj_cell hoy 4
             have k5 := stObj_cell hoy 5
             have f4 := stObj_free hoy 4
             have f5 := stObj_free hoy 5
             have HOY := Lib.hid hoy
             clear hoy
             simp only [show (#[m1, m2, m3, m4, Value.slice Az S.log.length cz, Value.int IntKind.i64 (S.dur : Int)] : Array Value)[4]? = some (Value.slice Az S.log.length cz) from rfl] at k4
             simp only [show (#[m1, m2, m3, m4, Value.slice Az S.log.length cz, Value.int IntKind.i64 (S.dur : Int)] : Array Value)[5]? = some (Value.int IntKind.i64 (S.dur : Int)) from rfl] at k5)
          | (go_at_call 41; go_must (refine (clip_any _ _ _ _ hle hcap).mono ?_); rintro e wx ⟨rfl, rfl⟩)
          | fail)
        go_ret2
        exact replay_end (A := some ad) HE.out.1 HE.out.2 HPL.out HSZ.out HFZ.out hBz hBy hglt HOY.out HSET.out (Row.clip hRy) HKL.out
    · have q1 : ¬ ((k : Int) + 2 ≤ (log.length : Int)) := by omega
      have HPL := Lib.hid (show ∀ b, front (log.drop k) = some b → (applied S b).1 = false from fun b hb => by
        have := (front_some hb).1
        rw [List.length_drop] at this
        omega)
      obtain ⟨m1, m2, m3, m4, Az, cz, hoz, hrz, hgA, hAF, hgF, hset⟩ := HSZ.out.obj
      have hkl : (log.take k).length = k := by rw [List.length_take]; omega
      have hcl := fun W (hb : Below w.heap.size w W) => clone_any A c (log.take k) W ((hA.below hb).take k) (by omega)
      rw [hkl] at hcl
      have HCL := Lib.hid hcl
      have HSET := Lib.hid hset
      have HOZ := Lib.hid hoz
      have hglt : w.heap.size < wr.heap.size := (Array.getElem?_eq_some_iff.1 hoz).1
      have HKL := Lib.hid hkl
      clear hcl hset hoz hrz hAF hgA hkl
      go_wp2_with (first
        | (go_at_call 42; (with_reducible refine (HCL.out _ hBz).mono ?_); rintro e wy ⟨Ay, cy, rfl, hRy, hBy⟩; have hle := Row.le hRy; have hcap := Row.cap_le hRy; simp only [HKL.out] at hle
           have hoy := (hBy.block _ hglt).trans HOZ.out
           have k4 := stObj_cell hoy 4
           have k5 := stObj_cell hoy 5
           have f4 := stObj_free hoy 4
           have f5 := stObj_free hoy 5
           have HOY := Lib.hid hoy
           clear hoy
           simp only [show (#[m1, m2, m3, m4, Value.slice Az S.log.length cz, Value.int IntKind.i64 (S.dur : Int)] : Array Value)[4]? = some (Value.slice Az S.log.length cz) from rfl] at k4
           simp only [show (#[m1, m2, m3, m4, Value.slice Az S.log.length cz, Value.int IntKind.i64 (S.dur : Int)] : Array Value)[5]? = some (Value.int IntKind.i64 (S.dur : Int)) from rfl] at k5)
        | (go_at_call 41; go_must (refine (clip_any _ _ _ _ hle hcap).mono ?_); rintro e wx ⟨rfl, rfl⟩)
        | fail)
      go_ret2
      exact replay_end (A := A) HE.out.1 HE.out.2 HPL.out HSZ.out HFZ.out hBz hBy hglt HOY.out HSET.out (Row.clip hRy) HKL.out
end Go.Proofs.YthbbmpelldglmaaGreatDoor
/- Law 38: the chapter's example. -/
namespace Go.Proofs.YthbbmpelldglmaaGreatDoor
set_option linter.unusedVariables false
set_option linter.unusedSimpArgs false
open Go.RowKit

def livCells : Array Value := #[.string ⟨#[50, 54]⟩, .string ⟨#[52, 57, 49]⟩, .int .u16 5, .int .u32 258, .bool false, .bool true]
set_option maxHeartbeats 4000000 in
set_option maxRecDepth 100000 in
theorem lives38_any (w : World) :
    Calls Tryz.prog 8 #[] w fun e w' => e = .returned (.bool true) ∧ Below w.heap.size w w' := by
  have hput : ∀ W F, StAt W w.heap.size F S00 → Calls Tryz.prog 24 #[.pointer (some ⟨w.heap.size, 0, none⟩), .agg #[.string ⟨#[50, 54]⟩, .string ⟨#[52, 57, 49]⟩, .int .u16 5, .int .u32 258, .bool false, .bool true]] W fun e w' => ∃ F', e = .returned (.int .i64 0) ∧ StAt w' w.heap.size F' ⟨[livH], [], livL, 0, 1⟩ ∧ Chg F W w' ∧ NewIn W F F' := fun W F h => by
    refine (putHome_any W w.heap.size F S00 h S00_fit (by decide) (by decide) [50, 54] [52, 57, 49] 5 258 false true liv_go.1 liv_go.2.1 liv_go.2.2).mono ?_
    rintro e w' ⟨F', er, S', rfl, h1, h2, h3, h4⟩
    obtain ⟨rfl, rfl⟩ := out_putH h4
    rw [show Edit.after (.putH ⟨[50, 54], [52, 57, 49], 5, 258, false, true⟩) S00 = _ from liv_after] at h1
    exact ⟨F', by rw [show Edit.er S00 (.putH ⟨[50, 54], [52, 57, 49], 5, 258, false, true⟩) = _ from liv_er], h1, h2, h3⟩
  have hlog : ∀ W F, StAt W w.heap.size F ⟨[livH], [], livL, 0, 1⟩ → Calls Tryz.prog 12 #[.pointer (some ⟨w.heap.size, 0, none⟩)] W fun e w' => ∃ g', e = .returned (.slice (some ⟨g', 0, none⟩) 19 19) ∧ RowB w' W.heap.size (some ⟨g', 0, none⟩) 19 livL ∧ Below W.heap.size W w' := fun W F h => by
    refine (storeLog_any W w.heap.size F _ h (by show livL.length ≤ _; rw [livL_len]; decide)).mono ?_
    rintro e w' ⟨A, rfl, h1, h2⟩
    simp only [livL_len] at h1 ⊢
    obtain ⟨g', rfl, -⟩ := Row.form h1 (by rw [livL_len]; decide)
    exact ⟨g', rfl, h1, h2⟩
  have hrep : ∀ W g', RdB W (some ⟨g', 0, none⟩) livL → Calls Tryz.prog 34 #[.slice (some ⟨g', 0, none⟩) 19 19] W fun e w' => ∃ g F T, e = .returned (.tuple #[.pointer (some ⟨g, 0, none⟩), .int .i64 19]) ∧ StAt w' g F T ∧ T.homes = [livH] ∧ Below W.heap.size W w' := fun W g' h => by
    have := replay_any W (some ⟨g', 0, none⟩) 19 livL h (by rw [livL_len]; decide) (by decide) (by rw [livL_len]; decide)
    rw [livL_len] at this
    refine this.mono ?_
    rintro e w' ⟨g, F, T, n, rfl, h1, h2, h3, h4, h5, h6⟩
    obtain ⟨e1, e2, rfl⟩ := liv_all h1
    exact ⟨g, F, _, rfl, h4, e1, h5⟩
  have hrep2 : ∀ W g', RdB W (some ⟨g', 0, none⟩) livL → Calls Tryz.prog 34 #[.slice (some ⟨g', 0, none⟩) 18 19] W fun e w' => ∃ g F T, e = .returned (.tuple #[.pointer (some ⟨g, 0, none⟩), .int .i64 0]) ∧ StAt w' g F T ∧ T.homes = [] ∧ T.Fit ∧ T.puts ≤ 100000 ∧ Below W.heap.size W w' := fun W g' h => by
    have hl : (livL.take 18).length = 18 := by rw [List.length_take, livL_len]; rfl
    have := replay_any W (some ⟨g', 0, none⟩) 19 (livL.take 18) (h.take 18) (by rw [hl]; decide) (by decide) (by rw [hl]; decide)
    rw [hl] at this
    refine this.mono ?_
    rintro e w' ⟨g, F, T, n, rfl, h1, h2, h3, h4, h5, h6⟩
    obtain ⟨e1, e2, rfl⟩ := liv_part h1
    exact ⟨g, F, _, rfl, h4, e1, SameR.fit (S := T) ⟨rfl, rfl⟩ h2, by show T.puts ≤ 100000; omega, h5⟩
  have hget : ∀ W g F T, StAt W g F T → T.homes = [livH] → Calls Tryz.prog 19 #[.pointer (some ⟨g, 0, none⟩), .string ⟨#[50, 54]⟩] W fun e w' => e = .returned (.tuple #[.agg #[.string ⟨#[50, 54]⟩, .string ⟨#[52, 57, 49]⟩, .int .u16 5, .int .u32 258, .bool false, .bool true], .int .i64 0]) ∧ Below W.heap.size W w' := fun W g F T h e1 => by
    have := storeHome_any W g F T h [50, 54] (by decide)
    have e2 : homeOf T [50, 54] = some livH := by unfold homeOf; rw [e1]; rfl
    rw [e2] at this
    exact this
  have hhomes : ∀ W g F T, StAt W g F T → T.homes = [] → T.Fit → T.puts ≤ 100000 → Calls Tryz.prog 37 #[.pointer (some ⟨g, 0, none⟩)] W fun e w' => (∃ A, e = .returned (.slice A 0 0)) ∧ Below W.heap.size W w' := fun W g F T h e1 hf hp => by
    have := storeHomes_any W g F T h hf hp
    rw [e1] at this
    refine this.mono ?_
    rintro e w' ⟨A, rfl, _, h2⟩
    exact ⟨⟨A, rfl⟩, h2⟩
  have hnew := storeNew_any w
  have HNEW := Lib.hid hnew
  have HPUT := Lib.hid hput
  have HLOG := Lib.hid hlog
  have HREP := Lib.hid hrep
  have HREP2 := Lib.hid hrep2
  have HGET := Lib.hid hget
  have HHOMES := Lib.hid hhomes
  clear hput hlog hrep hrep2 hget hhomes hnew
  go_enter Tryz.func8, Tryz.ntmps8
  go_wp2_with (first
    | (go_at_call 9; (with_reducible refine HNEW.out.mono ?_); rintro e w1 ⟨rfl, h1, hB1⟩
       have HS1 := Lib.hid (h1.below ((Below.refl w1.heap.size w1).alloc (Nat.le_refl _) (.cells #[.string ⟨#[50, 54]⟩, .string ⟨#[52, 57, 49]⟩, .int .u16 5, .int .u32 258, .bool false, .bool true] 52)))
       have hB2 := below_alloc hB1 (.cells #[.string ⟨#[50, 54]⟩, .string ⟨#[52, 57, 49]⟩, .int .u16 5, .int .u32 258, .bool false, .bool true] 52)
       have HX := Lib.hid (heap_alloc_new w1 (.cells #[.string ⟨#[50, 54]⟩, .string ⟨#[52, 57, 49]⟩, .int .u16 5, .int .u32 258, .bool false, .bool true] 52))
       have HGW := Lib.hid (show w.heap.size < w1.heap.size from h1.lt _ (by simp))
       clear h1)
    | (go_at_call 24; (with_reducible refine (HPUT.out _ _ HS1.out).mono ?_); rintro e w3 ⟨F3, rfl, h3, hc3, hn3⟩
       have HS3 := Lib.hid h3
       have HX3 := Lib.hid (hc3.heap HX.out (by have := HGW.out; simp; omega))
       have hB3 := hB2.trans (hc3.below (by simp) hB2.size)
       clear h3 hc3 hn3)
    | (go_at_call 12; (with_reducible refine (HLOG.out _ _ HS3.out).mono ?_); rintro e w4 ⟨g4, rfl, h4, hB4⟩
       have HR4 := Lib.hid h4
       have HX4 := Lib.hid ((hB4.block _ (Array.getElem?_eq_some_iff.1 HX3.out).1).trans HX3.out)
       have hB5 := hB3.trans (hB4.mono hB3.size)
       clear h4)
    | fail)
  obtain ⟨w5, hw5⟩ : ∃ v, v = w4.alloc (.cells #[.int .u8 15, .int .u8 0, .int .u8 1, .int .u8 2, .int .u8 50, .int .u8 54, .int .u8 3, .int .u8 52, .int .u8 57, .int .u8 49, .int .u8 5, .int .u8 0, .int .u8 2, .int .u8 1, .int .u8 0, .int .u8 0, .int .u8 2] 5) := ⟨_, rfl⟩
  have hB5' : Below w.heap.size w w5 := by rw [hw5]; exact below_alloc hB5 _
  have hB45 : Below w4.heap.size w4 w5 := by rw [hw5]; exact (Below.refl _ _).alloc (Nat.le_refl _) _
  have hwant : RdB w5 (some ⟨w4.heap.size, 0, none⟩) [15, 0, 1, 2, 50, 54, 3, 52, 57, 49, 5, 0, 2, 1, 0, 0, 2] := by rw [hw5]; exact rd_lit w4 [15, 0, 1, 2, 50, 54, 3, 52, 57, 49, 5, 0, 2, 1, 0, 0, 2]
  have hlog5 : RowB w5 w3.heap.size (some ⟨g4, 0, none⟩) 19 livL := RowB.below HR4.out hB45
  have hcells : ∀ k, k < 17 → ∃ v : Nat, w5.cell? ⟨g4, k, none⟩ = some (.int .u8 (v : Int)) ∧ w5.cell? ⟨w4.heap.size, k, none⟩ = some (.int .u8 (v : Int)) := fun k hk => by
    have hlk : k < livL.length := by rw [livL_len]; omega
    obtain ⟨ad, e1, c1⟩ := (RowB.rd hlog5).get hlk
    obtain ⟨ad2, e2, c2⟩ := hwant.get (k := k) (by simpa using hk)
    cases e1
    cases e2
    rw [add_lit] at c1 c2
    refine ⟨_, c1, ?_⟩
    rw [c2]
    congr 3
    have h1 : (livL.take 17)[k]? = some livL[k] := by rw [List.getElem?_take_of_lt hk, List.getElem?_eq_getElem hlk]
    rw [livL_take] at h1
    have h2 := (List.getElem?_eq_some_iff.1 h1).2
    rw [h2]
  have hS5 := Lib.hid (HS3.out.chg (Chg.of_below [] hB4) (by simp))
  have HX5 : Hid (w5.heap[w1.heap.size]? = some (.cells #[.string ⟨#[50, 54]⟩, .string ⟨#[52, 57, 49]⟩, .int .u16 5, .int .u32 258, .bool false, .bool true] 52)) := Lib.hid ((hB45.block _ (Array.getElem?_eq_some_iff.1 HX4.out).1).trans HX4.out)
  have HL5 := Lib.hid (RowB.rd hlog5)
  have HCE := Lib.hid hcells
  rw [← hw5]
  generalize w4.heap.size = g5 at *
  clear hw5 hwant hlog5 hcells HX4 HX3 HX HS1 HR4 hB45
  go_loopw [6] (fun iv wr => ∃ k n : Nat, k ≤ 17 ∧ iv = .int .i64 k ∧ wr = w5.drewN n) (fun iv _ => 17 - (intOf iv).toNat)
  case atStart => exact ⟨0, 0, by omega, rfl, rfl⟩
  case round =>
    obtain ⟨k, n, hk, rfl, rfl⟩ := hrel
    by_cases hlt : k < 17
    · obtain ⟨v, c1, c2⟩ := HCE.out k hlt
      have q1 : (0 : Int) ≤ (k : Int) := by omega
      have q2 : (k : Int) < 17 := by omega
      have q3 : (k : Int) < 19 := by omega
      go_upto_region 11 with fail
      go_quiet (fail)
      go_wp2_with fail
      go_roundw
      case rel => exact ⟨k + 1, n + nq, by omega, by go_num, rfl⟩
      case measure => simp [intOf]; omega
    · obtain rfl : k = 17 := by omega
      have hB6 : Below w.heap.size w (w5.drewN n) := below_drewN hB5' n
      have HX6 : Hid ((w5.drewN n).heap[w1.heap.size]? = some (.cells #[.string ⟨#[50, 54]⟩, .string ⟨#[52, 57, 49]⟩, .int .u16 5, .int .u32 258, .bool false, .bool true] 52)) := HX5
      have HL6 : Hid (RdB (w5.drewN n) (some ⟨g4, 0, none⟩) livL) := Lib.hid (HL5.out.drewN n)
      generalize w5.drewN n = w6 at *
      clear hB5' HCE
      go_wp2_with (first
        | (go_at_call 34; (with_reducible refine (HREP.out _ _ HL6.out).mono ?_); rintro e w7 ⟨g7, F7, T7, rfl, h7, e7, hB7⟩
           have HS7 := Lib.hid (And.intro h7 e7)
           have HL7 := Lib.hid (HL6.out.below hB7)
           have hB8 := hB6.trans (hB7.mono hB6.size)
           have HX7 := Lib.hid ((hB7.block _ (Array.getElem?_eq_some_iff.1 HX6.out).1).trans HX6.out)
           clear h7 e7)
        | (go_at_call 34; (with_reducible refine (HREP2.out _ _ HL7.out).mono ?_); rintro e w8 ⟨g8, F8, T8, rfl, h8, e8, hf8, hp8, hB9⟩
           have HS8 := Lib.hid (And.intro h8 (And.intro e8 (And.intro hf8 hp8)))
           have HS7' := Lib.hid (And.intro (HS7.out.1.below hB9) HS7.out.2)
           have hB10 := hB8.trans (hB9.mono hB8.size)
           have HX8 := Lib.hid ((hB9.block _ (Array.getElem?_eq_some_iff.1 HX7.out).1).trans HX7.out)
           clear h8 e8 hf8 hp8)
        | (go_at_call 19; (with_reducible refine (HGET.out _ _ _ _ HS7'.out.1 HS7'.out.2).mono ?_); rintro e w9 ⟨rfl, hB11⟩
           have hB12 := below_alloc (hB10.trans (hB11.mono hB10.size)) (.cells #[.string ⟨#[50, 54]⟩, .string ⟨#[52, 57, 49]⟩, .int .u16 5, .int .u32 258, .bool false, .bool true] 52)
           have HS9 := Lib.hid (And.intro ((HS8.out.1.below hB11).below ((Below.refl w9.heap.size w9).alloc (Nat.le_refl _) (.cells #[.string ⟨#[50, 54]⟩, .string ⟨#[52, 57, 49]⟩, .int .u16 5, .int .u32 258, .bool false, .bool true] 52))) HS8.out.2)
           have x9 := (hB11.block _ (Array.getElem?_eq_some_iff.1 HX8.out).1).trans HX8.out
           have hlt9 := (Array.getElem?_eq_some_iff.1 x9).1
           have x10 := ((Below.refl w9.heap.size w9).alloc (Nat.le_refl _) (.cells #[.string ⟨#[50, 54]⟩, .string ⟨#[52, 57, 49]⟩, .int .u16 5, .int .u32 258, .bool false, .bool true] 52)).block _ hlt9 |>.trans x9
           have a0 := cell_of_row _ _ 0 _ _ _ x10
           have a1 := cell_of_row _ _ 1 _ _ _ x10
           have a2 := cell_of_row _ _ 2 _ _ _ x10
           have a3 := cell_of_row _ _ 3 _ _ _ x10
           have a4 := cell_of_row _ _ 4 _ _ _ x10
           have a5 := cell_of_row _ _ 5 _ _ _ x10)
        | (go_at_call 37; (with_reducible refine (HHOMES.out _ _ _ _ HS9.out.1 HS9.out.2.1 HS9.out.2.2.1 HS9.out.2.2.2).mono ?_); rintro e w11 ⟨⟨A11, rfl⟩, hB13⟩)
        | fail)
      go_ret
      exact ⟨rfl, hB12.trans (hB13.mono hB12.size)⟩
end Go.Proofs.YthbbmpelldglmaaGreatDoor
/- Arguments opened: numbers, slices of numbers, as natural numbers and octets. -/
namespace Go.Proofs.YthbbmpelldglmaaGreatDoor
set_option linter.unusedVariables false
set_option linter.unusedSimpArgs false
open Go.RowKit Go.ChangeShapes

theorem nat_of_u16 {a : Int} (h : (Lit.int .u16 a).wf = true) : ∃ x : Nat, x < 65536 ∧ a = x := by
  have h1 : 0 ≤ a ∧ a ≤ 65535 := by simpa [Lit.wf, IntKind.min, IntKind.max, IntKind.bits, IntKind.signed] using h
  exact ⟨a.toNat, by omega, by omega⟩
theorem nat_of_u8 {a : Int} (h : (Lit.int .u8 a).wf = true) : ∃ x : Nat, x < 256 ∧ a = x := by
  have h1 : 0 ≤ a ∧ a ≤ 255 := by simpa [Lit.wf, IntKind.min, IntKind.max, IntKind.bits, IntKind.signed] using h
  exact ⟨a.toNat, by omega, by omega⟩

theorem rdB_of_ints {W : World} {x : Addr} {zs : List Int} (hcell : ∀ i, i < zs.length → W.cell? (x.add i) = some (.int .u8 (zs.getD i 0))) (hwz : ∀ n ∈ zs, (Lit.int .u8 n).wf = true) {n : Nat} (hn : n ≤ zs.length) :
    ∃ l : List UInt8, l.length = n ∧ RdB W (some x) l := by
  refine ⟨(zs.take n).map fun z => UInt8.ofNat z.toNat, by simp; omega, fun k v hv => ⟨x, rfl, ?_⟩⟩
  rw [List.getElem?_map, List.getElem?_map, List.getElem?_take] at hv
  by_cases hk : k < n
  · rw [if_pos hk, List.getElem?_eq_getElem (by omega)] at hv
    simp at hv
    subst hv
    rw [hcell k (by omega)]
    obtain ⟨b, hb, e⟩ := nat_of_u8 (hwz zs[k] (List.getElem_mem _))
    simp only [List.getD, List.getElem?_eq_getElem (show k < zs.length by omega), Option.getD_some, byteV]
    rw [e]
    simp [UInt8.toNat_ofNat', Nat.mod_eq_of_lt hb]
  · rw [if_neg hk] at hv; simp at hv

/-- numbers of a kind as cells -/
def RdN (k : IntKind) (w : World) (A : Option Addr) (l : List Nat) : Prop := Rd w A (l.map fun n : Nat => .int k (n : Int))
theorem rdN_of_ints {k : IntKind} {W : World} {x : Addr} {zs : List Int} (hcell : ∀ i, i < zs.length → W.cell? (x.add i) = some (.int k (zs.getD i 0))) (hwz : ∀ n ∈ zs, (Lit.int k n).wf = true) (h0 : ∀ a, (Lit.int k a).wf = true → 0 ≤ a) {n : Nat} (hn : n ≤ zs.length) :
    ∃ l : List Nat, l.length = n ∧ RdN k W (some x) l ∧ ∀ m ∈ l, (Lit.int k m).wf = true := by
  refine ⟨(zs.take n).map Int.toNat, by simp; omega, fun i v hv => ⟨x, rfl, ?_⟩, ?_⟩
  · rw [List.getElem?_map, List.getElem?_map, List.getElem?_take] at hv
    by_cases hk : i < n
    · rw [if_pos hk, List.getElem?_eq_getElem (by omega)] at hv
      simp at hv
      subst hv
      rw [hcell i (by omega)]
      have := h0 _ (hwz zs[i] (List.getElem_mem _))
      simp only [List.getD, List.getElem?_eq_getElem (show i < zs.length by omega), Option.getD_some]
      congr 2
      omega
    · rw [if_neg hk] at hv; simp at hv
  · intro m hm
    simp only [List.mem_map] at hm
    obtain ⟨z, hz, rfl⟩ := hm
    have hw := hwz z (List.mem_of_mem_take hz)
    have := h0 _ hw
    rw [show ((z.toNat : Nat) : Int) = z by omega]
    exact hw
theorem rdN_of_u16 {W : World} {x : Addr} {zs : List Int} (hcell : ∀ i, i < zs.length → W.cell? (x.add i) = some (.int .u16 (zs.getD i 0))) (hwz : ∀ n ∈ zs, (Lit.int .u16 n).wf = true) {n : Nat} (hn : n ≤ zs.length) :
    ∃ l : List Nat, l.length = n ∧ RdN .u16 W (some x) l ∧ ∀ m ∈ l, m < 65536 := by
  obtain ⟨l, h1, h2, h3⟩ := rdN_of_ints hcell hwz (fun a h => by obtain ⟨y, _, rfl⟩ := nat_of_u16 h; omega) hn
  exact ⟨l, h1, h2, fun m hm => by obtain ⟨y, hy, e⟩ := nat_of_u16 (h3 m hm); omega⟩
theorem RdN.get {k : IntKind} {w : World} {A : Option Addr} {l : List Nat} (h : RdN k w A l) {i : Nat} (hi : i < l.length) : ∃ ad, A = some ad ∧ w.cell? (ad.add i) = some (.int k (l[i] : Int)) := by
  obtain ⟨ad, e, hc⟩ := Rd.get h (k := i) (by simpa using hi)
  exact ⟨ad, e, by rw [hc]; simp⟩
theorem RdN.below {k : IntKind} {w w' : World} {A : Option Addr} {l : List Nat} (h : RdN k w A l) (hb : Below w.heap.size w w') : RdN k w' A l := Rd.below h hb
end Go.Proofs.YthbbmpelldglmaaGreatDoor
/- Structs and arrays of one-cell parts, by value, opened; octets in a field. -/
namespace Go.Proofs.YthbbmpelldglmaaGreatDoor
set_option linter.unusedVariables false
set_option linter.unusedSimpArgs false
open Go.RowKit Go.ChangeShapes Go.WideShapes

theorem list3 {α : Type} {l : List α} (h : l.length = 3) : ∃ a b c, l = [a, b, c] := by
  match l, h with
  | [a, b, c], _ => exact ⟨a, b, c, rfl⟩
theorem list2 {α : Type} {l : List α} (h : l.length = 2) : ∃ a b, l = [a, b] := by
  match l, h with
  | [a, b], _ => exact ⟨a, b, rfl⟩
theorem list4 {α : Type} {l : List α} (h : l.length = 4) : ∃ a b c d, l = [a, b, c, d] := by
  match l, h with
  | [a, b, c, d], _ => exact ⟨a, b, c, d, rfl⟩
theorem list5 {α : Type} {l : List α} (h : l.length = 5) : ∃ a b c d e, l = [a, b, c, d, e] := by
  match l, h with
  | [a, b, c, d, e], _ => exact ⟨a, b, c, d, e, rfl⟩
theorem list6 {α : Type} {l : List α} (h : l.length = 6) : ∃ a b c d e f, l = [a, b, c, d, e, f] := by
  match l, h with
  | [a, b, c, d, e, f], _ => exact ⟨a, b, c, d, e, f, rfl⟩
section
variable {H : Type} {enc : TypeId × Value → H} {P : Program} {w : World} {base : Nat} {spare : Nat → Bool} {held : Bool}

theorem take_one {α : Type} (l : List α) (i : Nat) (c : α) (h : l[i]? = some c) : (l.drop i).take 1 = [c] := by
  have hi : i < l.length := (List.getElem?_eq_some_iff.1 h).1
  rw [List.drop_eq_getElem_cons hi]
  simp [(List.getElem?_eq_some_iff.1 h).2]
/-- a struct of one-cell fields, by value -/
theorem open_aggN {r : Reach} {b0 : Nat} {t : TypeId} {fs : Array Field} {v : Value} {d : DataW H} {p : List MemPlace} (hs : P.underlying t = some (.struct fs)) (hone : Go.Deep.oneCellFields P fs = true) (hC : P.cellsOf t = fs.size)
    (hv : Value.okWide P w r b0 t v) (h : DataW.Trod enc P w base spare held t v d p) :
    ∃ (l : List Value) (ys : List (DataW H × List MemPlace)) (n : Nat), v = .agg l.toArray ∧ l.length = fs.size ∧ ys.length = fs.size ∧ d = .agg (ys.map (·.1)) ∧
      ∀ (i : Nat) (f : Field) (c : Value) (y : DataW H × List MemPlace), fs[i]? = some f → l[i]? = some c → ys[i]? = some y → DataW.trod enc P w base spare held n f.type [c] = some y := by
  obtain ⟨cs, rfl, hsz⟩ := okWide_struct hs hv
  obtain ⟨l⟩ := cs
  obtain ⟨fuel, hf⟩ := h
  obtain ⟨ys, n, _, hx, _, hlen, hfs⟩ := DataW.trod_struct hs hf
  refine ⟨l, ys, n, rfl, by simpa [hC] using hsz, hlen, congrArg Prod.fst hx, fun i f c y h1 h2 h3 => ?_⟩
  obtain ⟨o, k⟩ := Go.Deep.hone_of hone i f h1
  have := hfs i f h1
  rw [o, k, h3, take_one _ i c (by simpa [Value.cells] using h2)] at this
  exact this
/-- an array of one-cell elements, by value -/
theorem open_arrN {b0 : Nat} {t e : TypeId} {m : Nat} {v : Value} {d : DataW H} {p : List MemPlace} (hs : P.underlying t = some (.array m e)) (hone : P.cellsOf e = 1) (cs : Array Value) (hv : v = .agg cs)
    (h : DataW.Trod enc P w base spare held t v d p) :
    ∃ (ys : List (DataW H × List MemPlace)) (n : Nat), cs.toList.length = P.cellsOf t ∧ ys.length = m ∧ d = .agg (ys.map (·.1)) ∧
      ∀ (i : Nat) (c : Value) (y : DataW H × List MemPlace), i < m → cs.toList[i]? = some c → ys[i]? = some y → DataW.trod enc P w base spare held n e [c] = some y := by
  subst hv
  obtain ⟨fuel, hf⟩ := h
  obtain ⟨ys, n, _, hx, hl, hlen, hfs⟩ := DataW.trod_array hs hf
  refine ⟨ys, n, by simpa [Value.cells] using hl, hlen, congrArg Prod.fst hx, fun i c y h1 h2 h3 => ?_⟩
  have := hfs i h1
  rw [hone, Nat.mul_one, h3, take_one _ i c (by simpa [Value.cells] using h2)] at this
  exact this
theorem sized_field {ts : List TypeId} {ds : List (DataW H)} (h : (DataW.weightsEach P ts ds).all (· ≤ reachBytes) = true) {j : Nat} {t : TypeId} {fs : Array Field} {parts : List (DataW H)} (ht : ts[j]? = some t) (hd : ds[j]? = some (.agg parts))
    (hu : P.underlying t = some (.struct fs)) {i : Nat} {f : Field} {d : DataW H} (hf : fs[i]? = some f) (hp : parts[i]? = some d) {n : Nat} (hn : n ∈ d.weights P f.type) : n ≤ reachBytes := by
  have h1 : n ∈ (DataW.agg parts).weights P t := by
    unfold DataW.weights
    rw [hu]
    exact DataW.weights_mem_each (j := i) (t := f.type) (by rw [List.getElem?_map, Array.getElem?_toList, hf]; rfl) hp n hn
  have := List.all_eq_true.1 h _ (DataW.weights_mem_each ht hd n h1)
  simpa using this
theorem num_of {k : IntKind} {t : TypeId} {n : Nat} {c : Value} {y : DataW H × List MemPlace} (hu : P.underlying t = some (.int k)) (h : DataW.trod enc P w base spare held n t [c] = some y) : ∃ a, c = .int k a ∧ (Lit.int k a).wf = true := by
  obtain ⟨a, e1, _, hw⟩ := DataW.trod_int hu h
  simp at e1
  exact ⟨a, e1, hw⟩
end

/-- octets in a field -/
theorem open_bytes {H : Type} {enc : TypeId × Value → H} {W : World} {n : Nat} {v : Value} {y : DataW H × List MemPlace} (h : DataW.trod enc Tryz.prog W 0 (fun _ => true) true n 39 [v] = some y) :
    ∃ (A : Option Addr) (l : List UInt8) (c : Nat), v = .slice A l.length c ∧ RdB W A l ∧ l.length ≤ c ∧ (c = 0 ∨ c ∈ y.1.weights Tryz.prog 39) := by
  rcases open_ints Tryz.underlying39 Tryz.underlying5 (by kernel_rfl) h with ⟨hcs, _⟩ | ⟨x, len, c, zs, hcs, _, hl, hm, hz, hx, hcell, hwz⟩
  · simp at hcs
    exact ⟨none, [], 0, hcs, by intro k v hv; simp at hv, by simp, .inl rfl⟩
  · simp at hcs
    simp only [if_true] at hz
    obtain ⟨l, hl2, hr⟩ := rdB_of_ints hcell hwz (n := len) (by omega)
    refine ⟨some x, l, c, by rw [hl2]; exact hcs, hr, by omega, .inr ?_⟩
    rw [hx]
    unfold DataW.weights
    rw [Tryz.underlying39]
    simp only [show Tryz.prog.bytesOf 5 = 1 from by kernel_rfl, lits, List.length_map, List.length_take, List.length_drop]
    exact List.mem_cons.2 (.inl (by omega))
end Go.Proofs.YthbbmpelldglmaaGreatDoor
/- Arguments opened: a slice of acts. -/
namespace Go.Proofs.YthbbmpelldglmaaGreatDoor
set_option linter.unusedVariables false
set_option linter.unusedSimpArgs false
open Go.RowKit Go.ChangeShapes Go.WideShapes

/-- the acts at A -/
def ActRd (w : World) (A : Option Addr) (l : List Ac) : Prop := ∀ k (hk : k < l.length), ∃ b off, A = some ⟨b, off, none⟩ ∧ ∀ j (hj : j < 5), w.cell? ⟨b, off + k * 5 + j, none⟩ = some (l[k].cells[j]'hj)
theorem ActRd.below {w w' : World} {A : Option Addr} {l : List Ac} (h : ActRd w A l) (hb : Below w.heap.size w w') : ActRd w' A l := fun k hk => by
  obtain ⟨b, off, e, hc⟩ := h k hk
  exact ⟨b, off, e, fun j hj => cell_later hb (hc j hj)⟩

/-- a struct of one-cell fields, by its cells -/
theorem trod_fields {H : Type} {enc : TypeId × Value → H} {P : Program} {w : World} {base fuel : Nat} {spare : Nat → Bool} {held : Bool} {t : TypeId} {fs : Array Field} {cs : List Value} {x : DataW H × List MemPlace} (hs : P.underlying t = some (.struct fs)) (hone : Go.Deep.oneCellFields P fs = true) (hC : P.cellsOf t = fs.size)
    (h : DataW.trod enc P w base spare held fuel t cs = some x) :
    ∃ (ys : List (DataW H × List MemPlace)) (n : Nat), cs.length = fs.size ∧ ys.length = fs.size ∧ x.1 = .agg (ys.map (·.1)) ∧
      ∀ (i : Nat) (f : Field) (c : Value) (y : DataW H × List MemPlace), fs[i]? = some f → cs[i]? = some c → ys[i]? = some y → DataW.trod enc P w base spare held n f.type [c] = some y := by
  obtain ⟨ys, n, _, hx, hl, hlen, hfs⟩ := DataW.trod_struct hs h
  refine ⟨ys, n, by rw [hl, hC], hlen, congrArg Prod.fst hx, fun i f c y h1 h2 h3 => ?_⟩
  obtain ⟨o, k⟩ := Go.Deep.hone_of hone i f h1
  have := hfs i f h1
  rw [o, k, h3, take_one _ i c h2] at this
  exact this
set_option maxRecDepth 100000 in
/-- a slice of acts -/
theorem open_acts {H : Type} {enc : TypeId × Value → H} {W : World} {r : Reach} {b0 : Nat} {v : Value} {d : DataW H} {p : List MemPlace} (hv : Value.okWide Tryz.prog W r b0 22 v)
    (h : DataW.Trod enc Tryz.prog W 0 (fun _ => true) true 22 v d p) :
    ∃ (A : Option Addr) (l : List Ac) (c : Nat), v = .slice A l.length c ∧ ActRd W A l ∧ (∀ a ∈ l, a.Go) ∧ l.length ≤ c ∧ c ≤ maxLen := by
  obtain ⟨a0, len, cap, rfl⟩ := okWide_slice Tryz.underlying22 hv
  obtain ⟨fuel, hf⟩ := h
  rcases Go.Deep.open_slice Tryz.underlying22 hf with ⟨hcs, _⟩ | ⟨a, len', cap', m, n, D, Pl, hcs, _, hl, hm, hmm, _, hx⟩
  · simp [Value.cells] at hcs
    obtain ⟨rfl, rfl, rfl⟩ := hcs
    exact ⟨none, [], 0, rfl, fun k hk => by simp at hk, by simp, Nat.le_refl _, by simp [maxLen]⟩
  · simp [Value.cells] at hcs
    obtain ⟨rfl, rfl, rfl⟩ := hcs
    simp only [if_true] at hmm
    have hC : Tryz.prog.cellsOf 37 = 5 := by kernel_rfl
    have hact : ∀ i, i < len → ∃ x : Ac, x.Go ∧ ∀ j (hj : j < 5), W.cell? ((a.add (i * 5)).add j) = some (x.cells[j]'hj) := fun i hi => by
      obtain ⟨cs, h1, h2⟩ := hx i (by omega)
      rw [hC] at h1
      obtain ⟨ys, n', hlen, hlen2, _, hfs⟩ := trod_fields Tryz.underlying37 (by kernel_rfl) (by kernel_rfl) h2
      simp at hlen hlen2
      obtain ⟨c0, c1, c2, c3, c4, rfl⟩ := list5 hlen
      obtain ⟨y0, y1, y2, y3, y4, rfl⟩ := list5 hlen2
      obtain ⟨_, _, hcell⟩ := World.cells?_some h1
      obtain ⟨a0, rfl, w0⟩ := num_of Tryz.underlying5 (hfs 0 _ _ _ rfl rfl rfl)
      obtain ⟨a1, rfl, w1⟩ := num_of Tryz.underlying5 (hfs 1 _ _ _ rfl rfl rfl)
      obtain ⟨a2, rfl, w2⟩ := num_of Tryz.underlying5 (hfs 2 _ _ _ rfl rfl rfl)
      obtain ⟨a3, rfl, w3⟩ := num_of Tryz.underlying23 (hfs 3 _ _ _ rfl rfl rfl)
      obtain ⟨a4, rfl, w4⟩ := num_of Tryz.underlying5 (hfs 4 _ _ _ rfl rfl rfl)
      obtain ⟨b0, q0, rfl⟩ := nat_of_u8 w0
      obtain ⟨b1, q1, rfl⟩ := nat_of_u8 w1
      obtain ⟨b2, q2, rfl⟩ := nat_of_u8 w2
      obtain ⟨b3, q3, rfl⟩ := nat_of_u16 w3
      obtain ⟨b4, q4, rfl⟩ := nat_of_u8 w4
      refine ⟨⟨b0, b1, b2, b3, b4⟩, ⟨q0, q1, q2, q3, q4⟩, fun j hj => ?_⟩
      rw [hcell j hj]
      match j, hj with
      | 0, _ => rfl
      | 1, _ => rfl
      | 2, _ => rfl
      | 3, _ => rfl
      | 4, _ => rfl
    have hind : ∀ n, n ≤ len → ∃ l : List Ac, l.length = n ∧ (∀ a ∈ l, a.Go) ∧ ∀ (i : Nat) (x : Ac), l[i]? = some x → ∀ j (hj : j < 5), W.cell? ((a.add (i * 5)).add j) = some (x.cells[j]'hj) := by
      intro n
      induction n with
      | zero => exact fun _ => ⟨[], rfl, by simp, fun i x hi => by simp at hi⟩
      | succ n ih =>
        intro hn
        obtain ⟨l, h1, h2, h3⟩ := ih (by omega)
        obtain ⟨x, h4, h5⟩ := hact n (by omega)
        refine ⟨l ++ [x], by simp [h1], fun y hy => by simp at hy; rcases hy with hy | rfl; exact h2 y hy; exact h4, fun i y hi j hj => ?_⟩
        by_cases hi2 : i < l.length
        · rw [List.getElem?_append_left hi2] at hi
          exact h3 i y hi j hj
        · rw [List.getElem?_append_right (by omega)] at hi
          obtain rfl : i = n := by have := (List.getElem?_eq_some_iff.1 hi).1; simp at this; omega
          simp [h1] at hi
          subst hi
          exact h5 j hj
    obtain ⟨l, h1, h2, h3⟩ := hind len (Nat.le_refl _)
    subst h1
    refine ⟨some a, l, cap, rfl, fun k hk => ?_, h2, hl, hm⟩
    have h4 := h3 k l[k] (List.getElem?_eq_getElem hk)
    simp only [add_add] at h4
    obtain ⟨b, off, spot⟩ := a
    have hspot : spot = none := by
      have := World.cell?_spot (h3 0 l[0] (List.getElem?_eq_getElem (by omega)) 0 (by decide))
      simpa [Addr.add] using this
    subst hspot
    refine ⟨b, off, rfl, fun j hj => ?_⟩
    rw [← h4 j hj]
    congr 1
    unfold Addr.add
    split <;> simp_all
    omega
end Go.Proofs.YthbbmpelldglmaaGreatDoor
/- Package subscribers: 'Crash'. -/
namespace Go.Proofs.YthbbmpelldglmaaGreatDoor
set_option linter.unusedVariables false
set_option linter.unusedSimpArgs false
open Go.RowKit

/-- how the crash ends -/
def Crashed (w : World) (l : List UInt8) (e : Ending) (w' : World) : Prop :=
  ∃ (g : Nat) (F : List Nat) (T : St) (n : Nat), e = .returned (.tuple #[.pointer (some ⟨g, 0, none⟩), .int .i64 0]) ∧ Plays ⟨[], [], [], 0, 0⟩ l T n ∧ T.Fit ∧ 4 * T.puts ≤ n ∧
      StAt w' g F { T with log := l.take n, dur := n } ∧ Below w.heap.size w w' ∧ ∀ i ∈ F, w.heap.size ≤ i

set_option maxHeartbeats 4000000 in
set_option maxRecDepth 100000 in
theorem storeCrash_any (w : World) (g : Nat) (F : List Nat) (S : St) (h : StAt w g F S) (keep : Int) (p : Nat) (hp : (p : Int) = min (max keep (S.dur : Int)) (S.log.length : Int)) (hl : S.log.length ≤ 16000) :
    Calls Tryz.prog 15 #[.pointer (some ⟨g, 0, none⟩), .int .i64 keep] w (Crashed w (S.log.take p)) := by
  obtain ⟨m1, m2, m3, m4, A, c, ho, hr, hgA, hAF, hgF, hset⟩ := h.obj
  have hpl : p ≤ S.log.length := by omega
  have hcl := Row.le hr
  have hcm := Row.cap_le hr
  simp only [maxLen] at hcm
  have hgl : g < w.heap.size := (Array.getElem?_eq_some_iff.1 ho).1
  have htl : (S.log.take p).length = p := by rw [List.length_take]; omega
  have hra := fun W (hb : Below w.heap.size w W) => replay_any W A c (S.log.take p) (((RowB.rd hr).below hb).take p) (by omega) (by omega) (by omega)
  rw [htl] at hra
  have HRA := Lib.hid hra
  have HO : Hid (∀ W, Below w.heap.size w W → W.heap[g]? = some (stObj m1 m2 m3 m4 A S.log.length c S.dur)) := Lib.hid fun W hb => (hb.block g hgl).trans ho
  generalize S.log.take p = LP at *
  generalize S.log.length = n at *
  generalize S.dur = d at *
  have k4 : ∀ w' : World, w'.heap[g]? = some (stObj m1 m2 m3 m4 A n c d) → w'.cell? ⟨g, 4, none⟩ = some (.slice A n c) := fun w' e => stObj_cell e 4
  have k5 : ∀ w' : World, w'.heap[g]? = some (stObj m1 m2 m3 m4 A n c d) → w'.cell? ⟨g, 5, none⟩ = some (.int .i64 (d : Int)) := fun w' e => stObj_cell e 5
  have hB0 : Below w.heap.size w w.drew := (Below.refl _ _).drew
  have q1 : (p : Int) ≤ (n : Int) := by omega
  have q2 : (n : Int) ≤ (c : Int) := by omega
  have q3 : (0 : Int) ≤ (p : Int) := by omega
  have q5 : (p : Int) ≤ (c : Int) := by omega
  have hp2 : min (max keep (d : Int)) (n : Int) = (p : Int) := hp.symm
  clear hp
  clear h ho hr hset hra hpl hcl htl hgA hAF hgF
  go_enter Tryz.func15, Tryz.ntmps15
  go_upto_region 3 with fail
  go_region_held3 (fun w' => w'.heap[g]? = some (stObj m1 m2 m3 m4 A n c d))
    (first | exact HO.out _ hB0 | exact HO.out _ hB6 | fail)
    (first
      | (go_at_call 34; (with_reducible refine (HRA.out _ hB0).mono ?_); rintro e w6 ⟨g6, F6, T6, n6, rfl, h1, h2, h3, h4, h5, h6⟩
         have hB6 := below_then hB0 h5))
  go_wp2_with fail
  go_ret2
  exact ⟨g6, F6, T6, n6, rfl, h1, h2, h3, h4, hB6, h6⟩
end Go.Proofs.YthbbmpelldglmaaGreatDoor
/- Law 38: two stores have the same records. -/
namespace Go.Proofs.YthbbmpelldglmaaGreatDoor
set_option linter.unusedVariables false
set_option linter.unusedSimpArgs false
open Go.RowKit

set_option maxHeartbeats 2000000 in
set_option maxRecDepth 100000 in
theorem same38_any (w : World) (g gt : Nat) (F FT : List Nat) (S T : St) (h : StAt w g F S) (ht : StAt w gt FT T) (hf : S.Fit) (hft : T.Fit) (hp : S.puts ≤ 100000) (hpt : T.puts ≤ 100000) (eh : T.homes = S.homes) (ev : T.visits = S.visits) (hl1 : S.homes.length ≤ 100000) (hl2 : S.visits.length ≤ 100000) :
    Calls Tryz.prog 16 #[.pointer (some ⟨g, 0, none⟩), .pointer (some ⟨gt, 0, none⟩)] w fun e w' => e = .returned (.bool true) ∧ Below w.heap.size w w' := by
  have hh := storeHomes_any w gt FT T ht hft hpt
  have hv := fun w1 (hb : Below w.heap.size w w1) => storeVisits_any w1 gt FT T (ht.below hb) hft hpt
  rw [eh] at hh
  rw [ev] at hv
  have ha := fun w1 (hb : Below w.heap.size w w1) gm FM hm => agrees_any w1 g gm F FM S (h.below hb) hf hp hm hl1 hl2
  generalize S.homes = H at *
  generalize S.visits = V at *
  have HH := Lib.hid hh
  have HV := Lib.hid hv
  have HA := Lib.hid ha
  clear hh hv ha h ht hf hft
  go_enter Tryz.func16, Tryz.ntmps16
  go_wp2_with (first
    | (go_at_call 37; (with_reducible refine HH.out.mono ?_); rintro e w1 ⟨A3, rfl, h3, hB1⟩)
    | (go_at_call 38; (with_reducible refine (HV.out _ hB1).mono ?_); rintro e w2 ⟨A4, rfl, h4, hB2⟩
       have hB := below_then hB1 hB2
       have hm : ModAt (w2.alloc (.cells #[.slice A3 H.length H.length, .slice A4 V.length V.length] 33)) w2.heap.size _ H V :=
         ⟨A3, H.length, A4, V.length, rfl, heap_alloc_new w2 _, Row.alloc (Row.mono (Row.below h3 hB2) (Nat.zero_le _)) _, Row.alloc (Row.mono h4 (Nat.zero_le _)) _⟩
       have hB4 := below_alloc hB (.cells #[.slice A3 H.length H.length, .slice A4 V.length V.length] 33)
       have HM := Lib.hid hm
       clear hm h3 h4)
    | (go_at_call 17; (with_reducible refine (HA.out _ hB4 _ _ HM.out).mono ?_); rintro e w5 ⟨rfl, hB5⟩)
    | fail)
  go_ret
  exact ⟨rfl, below_then hB4 hB5⟩
end Go.Proofs.YthbbmpelldglmaaGreatDoor
/- Law 38: 'SubscribersCompact'. -/
namespace Go.Proofs.YthbbmpelldglmaaGreatDoor
set_option linter.unusedVariables false
set_option linter.unusedSimpArgs false
open Go.RowKit

/-- PutHome, PutVisit: the store behind it -/
theorem putHomeE (W : World) (g : Nat) (F : List Nat) (T : St) (h : StAt W g F T) (hf : T.Fit) (hp : T.puts < 4096) (hl : T.log.length ≤ 100000000) (x : HomeR) (hx : (Edit.putH x).Go) :
    Calls Tryz.prog 24 #[.pointer (some ⟨g, 0, none⟩), x.val] W fun e w' => ∃ F' er, e = .returned (.int .i64 er) ∧ StAt w' g F' ((Edit.putH x).after T) ∧ Chg F W w' ∧ NewIn W F F' := by
  obtain ⟨id, number, at_, move, barred, waiting⟩ := x
  refine (putHome_any W g F T h hf hp hl id number at_ move barred waiting hx.1 hx.2.1 hx.2.2).mono ?_
  rintro e w' ⟨F', er, S', rfl, h1, h2, h3, h4⟩
  obtain ⟨rfl, rfl⟩ := out_putH h4
  exact ⟨F', _, rfl, h1, h2, h3⟩
theorem putVisitE (W : World) (g : Nat) (F : List Nat) (T : St) (h : StAt W g F T) (hf : T.Fit) (hp : T.puts < 4096) (hl : T.log.length ≤ 100000000) (x : VisitR) (hx : (Edit.putV x).Go) :
    Calls Tryz.prog 25 #[.pointer (some ⟨g, 0, none⟩), x.val] W fun e w' => ∃ F' er, e = .returned (.int .i64 er) ∧ StAt w' g F' ((Edit.putV x).after T) ∧ Chg F W w' ∧ NewIn W F F' := by
  obtain ⟨id, number, home, move, area, roam⟩ := x
  refine (putVisit_any W g F T h hf hp hl id number home move area roam hx.1 hx.2.1 hx.2.2.1 hx.2.2.2).mono ?_
  rintro e w' ⟨F', er, S', rfl, h1, h2, h3, h4⟩
  obtain ⟨rfl, rfl⟩ := out_putV h4
  exact ⟨F', _, rfl, h1, h2, h3⟩

set_option maxHeartbeats 8000000 in
set_option maxRecDepth 100000 in
theorem walk_SubscribersCompact (w : World) (A : Option Addr) (l : List Ac) (c : Nat) (hA : ActRd w A l) (hgo : ∀ a ∈ l, a.Go) (hlc : l.length ≤ maxLen) :
    Calls Tryz.prog 5 #[.slice A l.length c] w fun e w' => e = .returned (.bool true) ∧ Below w.heap.size w w' := by
  have hliv := fun W => lives38_any W
  have hnew := storeNew_any w
  have HLIV := Lib.hid hliv
  have HNEW := Lib.hid hnew
  have HGO := Lib.hid hgo
  clear hliv hnew hgo
  simp only [maxLen] at hlc
  go_enter Tryz.func5, Tryz.ntmps5
  by_cases h60 : 60 < l.length
  · have q1 : (60 : Int) < (l.length : Int) := by omega
    go_wp2_with (first
      | (go_at_call 8; (with_reducible refine (HLIV.out _).mono ?_); rintro e w1 ⟨rfl, hB1⟩)
      | fail)
    go_ret
    exact ⟨rfl, hB1⟩
  have q1 : ¬ (60 : Int) < (l.length : Int) := by omega
  go_upto_block 0 with (first
    | (go_at_call 9; (with_reducible refine HNEW.out.mono ?_); rintro e w1 ⟨rfl, h1, hB1⟩)
    | fail)
  obtain ⟨w2, hw2⟩ : ∃ v, v = w1.alloc (.cells #[.slice none 0 0, .slice none 0 0] 33) := ⟨_, rfl⟩
  obtain ⟨gm, hgm⟩ : ∃ v, v = w1.heap.size := ⟨_, rfl⟩
  have hb2 : Below w1.heap.size w1 w2 := by rw [hw2]; exact (Below.refl _ _).alloc (Nat.le_refl _) _
  have hfour : Two w w2 l 0 w.heap.size gm [w.heap.size] [gm] := by
    exact ⟨h1.below hb2, ⟨none, 0, none, 0, by simp [blk], by rw [hw2, hgm]; exact heap_alloc_new w1 _, Row.nil _ _ _ _, Row.nil _ _ _ _⟩, hB1.trans (hb2.mono hB1.size), by simp, by rw [hgm]; simpa using hB1.size⟩
  rw [← hw2, ← hgm]
  have HFOUR := Lib.hid hfour
  clear hw2 hgm hb2 hfour h1 hB1
  go_wp2_with fail
  go_loopw [5] (fun iv wr => ∃ (k : Nat) (F FM : List Nat), k ≤ l.length ∧ iv = .int .i64 k ∧ Hid (Two w wr l k w.heap.size gm F FM))
    (fun iv _ => l.length - (intOf iv).toNat)
  case atStart => exact ⟨0, _, _, Nat.zero_le _, rfl, HFOUR⟩
  case round =>
    obtain ⟨k, F, FM, hk, rfl, H4⟩ := hrel
    by_cases hlt : k < l.length
    · obtain ⟨b0, off, rfl, -⟩ := hA k hlt
      have hac : ∀ W, Below w.heap.size w W → ∀ j (hj : j < 5), W.cell? ⟨b0, off + k * 5 + j, none⟩ = some (l[k].cells[j]'hj) := fun W hb j hj => by
        obtain ⟨b1, off1, e, hc⟩ := hA.below hb k hlt
        cases e
        exact hc j hj
      have hdo := fun W F (h : StAt W w.heap.size F (Sk l k)) => do_any l[k] (HGO.out _ (List.getElem_mem hlt)) W w.heap.size F (Sk l k) h (Sk_fit HGO.out k) (by have := Sk_puts l k; omega) (by have := Sk_len HGO.out k; omega)
      have hmo := fun W FM (h : ModAt W gm FM (Sk l k).homes (Sk l k).visits) => modDo_any l[k] (HGO.out _ (List.getElem_mem hlt)) W gm FM (Sk l k) (Sk_fit HGO.out k) h (by have := Sk_lens l k; omega) (by have := Sk_lens l k; omega)
      unfold Done at hdo
      unfold ModDone at hmo
      rw [← Sk_succ l k hlt] at hdo hmo
      generalize l[k] = x at *
      generalize x.edit.er (Sk l k) = er at *
      obtain ⟨xk, xi, xn, xp, xf⟩ := x
      have HAC : Hid (∀ W, Below w.heap.size w W → W.cell? ⟨b0, off + k * 5, none⟩ = some (.int .u8 (xk : Int)) ∧ W.cell? ⟨b0, off + k * 5 + 1, none⟩ = some (.int .u8 (xi : Int)) ∧ W.cell? ⟨b0, off + k * 5 + 2, none⟩ = some (.int .u8 (xn : Int)) ∧ W.cell? ⟨b0, off + k * 5 + 3, none⟩ = some (.int .u16 (xp : Int)) ∧ W.cell? ⟨b0, off + k * 5 + 4, none⟩ = some (.int .u8 (xf : Int))) :=
        Lib.hid fun W hb => ⟨hac W hb 0 (by decide), hac W hb 1 (by decide), hac W hb 2 (by decide), hac W hb 3 (by decide), hac W hb 4 (by decide)⟩
      unfold Ac.val Ac.cells at hdo hmo
      simp only at hdo hmo
      have HDO := Lib.hid hdo
      have HMO := Lib.hid hmo
      have HLT := Lib.hid hlt
      have q3 : (0 : Int) ≤ (k : Int) := by omega
      have q4 : (k : Int) < (l.length : Int) := by omega
      have q5 : k ≤ 60 := by omega
      have HD : Hid (Two w wr.drew l k w.heap.size gm F FM) := Lib.hid (H4.out.later (Below.refl _ _).drew)
      have hlen := fun k' (h : k' ≤ 61) => show (Sk l k').log.length ≤ 100000000 by have := Sk_len HGO.out k'; omega
      have HLEN := Lib.hid hlen
      clear hdo hmo hac H4 hlen
      go_upto_region 8 with fail
      go_region_held3 (fun w' => w'.cell? ⟨b0, off + k * 5, none⟩ = some (.int .u8 (xk : Int)) ∧ w'.cell? ⟨b0, off + k * 5 + 1, none⟩ = some (.int .u8 (xi : Int)) ∧ w'.cell? ⟨b0, off + k * 5 + 2, none⟩ = some (.int .u8 (xn : Int)) ∧ w'.cell? ⟨b0, off + k * 5 + 3, none⟩ = some (.int .u16 (xp : Int)) ∧ w'.cell? ⟨b0, off + k * 5 + 4, none⟩ = some (.int .u8 (xf : Int)))
        (first | exact HAC.out _ HD.out.below | exact HAC.out _ HH2.out.2.1 | exact HAC.out _ HM3.out.below | fail)
        (first
          | (go_at_call 10; (with_reducible refine (HDO.out _ _ HD.out.st).mono ?_); rintro e w3 ⟨F3, rfl, h3, hc3, hn3⟩
             have HH2 := Lib.hid (HD.out.half hc3 hn3)
             have HS3 := Lib.hid (And.intro h3 (And.intro hc3 hn3))
             clear h3 hc3 hn3)
          | (go_at_call 11; (with_reducible refine (HMO.out _ _ HH2.out.1).mono ?_); rintro e w4 ⟨FM4, rfl, h4, hc4, hn4⟩
             have HM3 := Lib.hid (Two.step HS3.out.1 HH2.out.2.1 HH2.out.2.2 HD.out.hFM HH2.out.1 h4 hc4 hn4)
             clear h4 hc4 hn4))
      clear HD HH2 HS3 HDO HMO HAC
      go_wp2_with fail
      go_roundw
      case rel => exact ⟨k + 1, _, _, by have := HLT.out; omega, by go_num, HM3⟩
      case measure => have := HLT.out; simp [intOf]; omega
    · obtain rfl : k = l.length := by omega
      have hst := H4.out.st
      have hmd := H4.out.md
      have hms := mod_st hst hmd
      have hB := H4.out.below
      have hF := H4.out.hF
      have hFM := H4.out.hFM
      have hfit := Sk_fit HGO.out l.length
      have hpts := Sk_puts l l.length
      have hlns := Sk_lens l l.length
      generalize Sk l l.length = S at *
      obtain ⟨H, V, lg0, dur0, puts0⟩ := S
      simp only at hmd hpts hlns
      obtain ⟨FL, hFL⟩ : ∃ L, L = homesLog H ++ visitsLog V := ⟨_, rfl⟩
      have hfits : ∀ lg d, (St.mk H V lg d puts0).Fit := fun lg d => SameR.fit (S := ⟨H, V, lg0, dur0, puts0⟩) ⟨rfl, rfl⟩ hfit
      have hcm := fun W F lg d (h : StAt W w.heap.size F ⟨H, V, lg, d, puts0⟩) => storeCompact_any W w.heap.size F ⟨H, V, lg, d, puts0⟩ h (hfits lg d) (by show puts0 ≤ _; omega) (by show H.length ≤ _; omega) (by show V.length ≤ _; omega)
      have hflog : ∀ lg d, fillLog ⟨H, V, lg, d, puts0⟩ = FL := fun lg d => by rw [hFL]; rfl
      simp only [hflog] at hcm
      have hokH : ∀ x ∈ H, x.ok = true ∧ x.Go := hfit.hok
      have hokV : ∀ x ∈ V, x.ok = true ∧ x.Go := hfit.vok
      have hFLl : FL.length ≤ 6660 := by
        rw [hFL, List.length_append]
        have h1 := homesLog_len (fun x hx => (hokH x hx).1)
        have h2 := visitsLog_len (fun x hx => (hokV x hx).1)
        omega
      have hlg := fun W F (h : StAt W w.heap.size F ⟨H, V, FL, FL.length, puts0⟩) => storeLog_any W w.heap.size F _ h (by show FL.length ≤ _; omega)
      simp only at hlg
      obtain ⟨T0, hT0⟩ : ∃ T, T = S00 := ⟨_, rfl⟩
      obtain ⟨T1, hT1⟩ : ∃ T, T = runE T0 (H.map Edit.putH) := ⟨_, rfl⟩
      have hgH : ∀ x ∈ H, (Edit.putH x).Go := fun x hx => putH_go (hokH x hx).2 (hokH x hx).1
      have hgV : ∀ x ∈ V, (Edit.putV x).Go := fun x hx => putV_go (hokV x hx).2 (hokV x hx).1
      have hgHm : ∀ o ∈ H.map Edit.putH, o.Go := fun o ho => by obtain ⟨x, hx, rfl⟩ := List.mem_map.1 ho; exact hgH x hx
      have hgVm : ∀ o ∈ V.map Edit.putV, o.Go := fun o ho => by obtain ⟨x, hx, rfl⟩ := List.mem_map.1 ho; exact hgV x hx
      have hbnd : ∀ (S : St) (l : List Edit), S.Fit → (∀ o ∈ l, o.Go) → l.length ≤ 60 → S.puts ≤ 60 → S.log.length ≤ 3660 → (runE S l).Fit ∧ (runE S l).puts < 4096 ∧ (runE S l).log.length ≤ 100000000 := fun S l h1 h2 h3 h4 h5 => by
        have e1 := runE_puts S l
        have e2 := entsE_len l h1 h2
        refine ⟨runE_fit l h1 h2, by omega, ?_⟩
        rw [runE_log, List.length_append]
        omega
      have hf0 : T0.Fit := by rw [hT0]; exact S00_fit
      have hsH : ∀ k, (runE T0 ((H.map Edit.putH).take k)).Fit ∧ (runE T0 ((H.map Edit.putH).take k)).puts < 4096 ∧ (runE T0 ((H.map Edit.putH).take k)).log.length ≤ 100000000 := fun k =>
        hbnd T0 _ hf0 (fun o ho => hgHm o (List.mem_of_mem_take ho)) (by rw [List.length_take, List.length_map]; omega) (by rw [hT0]; decide) (by rw [hT0]; decide)
      have hf1 : T1.Fit := by rw [hT1]; exact runE_fit _ hf0 hgHm
      have hp1 : T1.puts ≤ 60 := by rw [hT1]; have := runE_puts T0 (H.map Edit.putH); rw [List.length_map] at this; have h0 : T0.puts = 0 := by rw [hT0]; rfl
                                    omega
      have hl1 : T1.log.length ≤ 3660 := by
        rw [hT1, runE_log, hT0]
        have := entsE_len (H.map Edit.putH) S00_fit hgHm
        rw [List.length_map] at this
        show ([] ++ entsE S00 (H.map Edit.putH)).length ≤ 3660
        rw [List.nil_append]
        omega
      have hsV : ∀ k, (runE T1 ((V.map Edit.putV).take k)).Fit ∧ (runE T1 ((V.map Edit.putV).take k)).puts < 4096 ∧ (runE T1 ((V.map Edit.putV).take k)).log.length ≤ 100000000 := fun k =>
        hbnd T1 _ hf1 (fun o ho => hgVm o (List.mem_of_mem_take ho)) (by rw [List.length_take, List.length_map]; omega) hp1 hl1
      obtain ⟨r1, r2⟩ := fill_run (S := ⟨H, V, lg0, dur0, puts0⟩) (S0 := S00) hfit rfl rfl
      rw [hflog] at r2
      have hTL : (runE T1 (V.map Edit.putV)).log = FL := by
        rw [hT1, hT0, ← runE_append]
        show (runE S00 (fillE ⟨H, V, lg0, dur0, puts0⟩)).log = FL
        rw [runE_log, r2]
        rfl
      have hcr : ∀ W F, StAt W w.heap.size F ⟨H, V, FL, FL.length, puts0⟩ → Calls Tryz.prog 15 #[.pointer (some ⟨w.heap.size, 0, none⟩), .int .i64 0] W fun e w' =>
          ∃ g' F' T, e = .returned (.tuple #[.pointer (some ⟨g', 0, none⟩), .int .i64 0]) ∧ (T.homes = H ∧ T.visits = V ∧ T.Fit ∧ T.puts ≤ 4096) ∧ StAt w' g' F' T ∧ Below W.heap.size W w' := fun W F h => by
        refine (storeCrash_any W w.heap.size F _ h 0 FL.length (by show (FL.length : Int) = min (max 0 (FL.length : Int)) (FL.length : Int); omega) (by show FL.length ≤ _; omega)).mono ?_
        rintro e w' ⟨g, F', T, n, rfl, h1, h2, h3, h4, h5, h6⟩
        have h1' : Plays S00 (FL.take FL.length) T n := h1
        rw [List.take_length] at h1'
        obtain ⟨T2, p1, p2⟩ := play_all (S' := S00) (fillE ⟨H, V, lg0, dur0, puts0⟩) S00_fit (fillE_go hfit) (SameR.refl _)
        rw [r2] at p1
        obtain ⟨rfl, rfl⟩ := p1.one h1'
        have p3 := r1.symm.trans p2
        exact ⟨g, F', { T2 with log := (FL.take FL.length).take _, dur := _ }, rfl, ⟨p3.1.symm, p3.2.symm, SameR.fit (S := T2) ⟨rfl, rfl⟩ h2, by show T2.puts ≤ 4096; omega⟩, h4, h5⟩
      have hsm : ∀ W g2 F2 T F, StAt W w.heap.size F ⟨H, V, FL, FL.length, puts0⟩ → StAt W g2 F2 T → T.homes = H → T.visits = V → T.Fit → T.puts ≤ 4096 → Calls Tryz.prog 16 #[.pointer (some ⟨g2, 0, none⟩), .pointer (some ⟨w.heap.size, 0, none⟩)] W fun e w' => e = .returned (.bool true) ∧ Below W.heap.size W w' := fun W g2 F2 T F h1 h2 h3 h4 h5 h6 =>
        same38_any W g2 w.heap.size F2 F T ⟨H, V, FL, FL.length, puts0⟩ h2 h1 h5 (hfits _ _) (by omega) (by show puts0 ≤ _; omega) h3.symm h4.symm (by rw [h3]; omega) (by rw [h4]; omega)
      have hag : ∀ W F FM, StAt W w.heap.size F ⟨H, V, FL, FL.length, puts0⟩ → ModAt W gm FM H V → Calls Tryz.prog 17 #[.pointer (some ⟨w.heap.size, 0, none⟩), .pointer (some ⟨gm, 0, none⟩)] W fun e w' => e = .returned (.bool true) ∧ Below W.heap.size W w' := fun W F FM h1 h2 =>
        agrees_any W w.heap.size gm F FM ⟨H, V, FL, FL.length, puts0⟩ h1 (hfits _ _) (by show puts0 ≤ _; omega) h2 (by show H.length ≤ _; omega) (by show V.length ≤ _; omega)
      have hltt := fun W gt FT (h : StAt W gt FT (runE T1 (V.map Edit.putV))) => storeLog_any W gt FT _ h (by rw [hTL]; omega)
      simp only [hTL] at hltt
      have hneww := fun W => storeNew_any W
      have HCM := Lib.hid hcm
      have HLG := Lib.hid hlg
      have HCR := Lib.hid hcr
      have HSM := Lib.hid hsm
      have HAG := Lib.hid hag
      have HLT2 := Lib.hid hltt
      have HNW := Lib.hid hneww
      have HGH := Lib.hid hgH
      have HGV := Lib.hid hgV
      have HSTH := Lib.hid hsH
      have HSTV := Lib.hid hsV
      have HT0 := Lib.hid hT0
      have HT1 := Lib.hid hT1
      have HST := Lib.hid hst
      have HMD := Lib.hid hmd
      have HMS := Lib.hid hms
      have HB := Lib.hid hB
      have HF := Lib.hid hF
      have hlH : H.length ≤ 60 := by omega
      have hlV : V.length ≤ 60 := by omega
      clear hFL hcm hlg hcr hsm hag hltt hneww hgH hgV hsH hsV hT0 hT1 hst hmd hms hB hF hFM hfit hpts hlns hfits hflog hokH hokV hgHm hgVm hbnd hf0 hf1 hp1 hl1 r1 r2 hTL H4
      go_upto_region 14 with (first
        | (go_at_call 23; (with_reducible refine (HCM.out _ _ _ _ HST.out).mono ?_); rintro e w2 ⟨F2, rfl, h2, hc2, hn2⟩
           have HS2 := Lib.hid h2
           have HM2 := Lib.hid (HMD.out.chg hc2 HMS.out)
           have HB2 := Lib.hid (HB.out.trans (hc2.below HF.out HB.out.size))
           have HF2 := Lib.hid (show ∀ i ∈ F2, w.heap.size ≤ i from fun i hi => (hn2 i hi).elim (fun h => HF.out i h) (fun h => by have := HB.out.size; omega))
           clear h2 hc2 hn2)
        | (go_at_call 12; (with_reducible refine (HLG.out _ _ HS2.out).mono ?_); rintro e w3 ⟨A3, rfl, h3, hB3⟩
           have HS3 := Lib.hid (HS2.out.below hB3)
           have HM3 := Lib.hid (HM2.out.below hB3)
           have HB3 := Lib.hid (HB2.out.trans (hB3.mono HB2.out.size))
           have HR3 := Lib.hid (RowB.rd h3)
           have HRF := Lib.hid (show ∀ ad, A3 = some ad → ad.block ∉ F2 from fun ad e hi => by have h4 := HS2.out.lt _ hi; have h5 := (Row.lt h3 ad.block (by rw [e]; rfl)).1; omega)
           clear h3)
        | (go_at_call 23; (with_reducible refine (HCM.out _ _ _ _ HS3.out).mono ?_); rintro e w4 ⟨F4, rfl, h4, hc4, hn4⟩
           have HB4 : Hid (∀ W, Below w4.heap.size w4 W → StAt W w.heap.size F4 ⟨H, V, FL, FL.length, puts0⟩ ∧ ModAt W gm FM H V ∧ RdB W A3 FL) := Lib.hid fun W hb => ⟨h4.below hb, (HM3.out.chg hc4 (mod_st HS3.out HM3.out)).below hb, (RdB.chg HR3.out hc4 HRF.out).below hb⟩
           have HBW := Lib.hid (HB3.out.trans (hc4.below HF2.out HB3.out.size))
           clear h4 hc4 hn4)
        | (go_at_call 9; (with_reducible refine (HNW.out _).mono ?_); rintro e w5 ⟨rfl, h5, hB5⟩)
        | fail)
      have HS5 : Hid (StAt w5 w4.heap.size [w4.heap.size] (runE T0 ((H.map Edit.putH).take 0)) ∧ Below w4.heap.size w4 w5 ∧ ∀ i ∈ [w4.heap.size], w4.heap.size ≤ i) := Lib.hid ⟨by rw [HT0.out]; exact h5, hB5, by simp⟩
      obtain ⟨gt, hgt⟩ : ∃ v, v = w4.heap.size := ⟨_, rfl⟩
      rw [← hgt]
      rw [show Hid (StAt w5 w4.heap.size [w4.heap.size] (runE T0 ((H.map Edit.putH).take 0)) ∧ Below w4.heap.size w4 w5 ∧ ∀ i ∈ [w4.heap.size], w4.heap.size ≤ i) = Hid (StAt w5 gt [w4.heap.size] (runE T0 ((H.map Edit.putH).take 0)) ∧ Below w4.heap.size w4 w5 ∧ ∀ i ∈ [w4.heap.size], w4.heap.size ≤ i) by rw [hgt]] at HS5
      clear h5 hB5 hgt
      go_wp2_with fail
      go_loopw [10] (fun iv wr => ∃ (k : Nat) (FT : List Nat), k ≤ H.length ∧ iv = .int .i64 k ∧ Hid (StAt wr gt FT (runE T0 ((H.map Edit.putH).take k)) ∧ Below w4.heap.size w4 wr ∧ ∀ i ∈ FT, w4.heap.size ≤ i))
        (fun iv _ => H.length - (intOf iv).toNat)
      case atStart => exact ⟨0, _, Nat.zero_le _, rfl, HS5⟩
      case round =>
        obtain ⟨k, FT, hk, rfl, HI⟩ := hrel
        obtain ⟨-, ⟨A1, c1, A2, c2, -, hmo, hm1, hm2⟩, -⟩ := HB4.out _ HI.out.2.1
        have k0 : wr.cell? ⟨gm, 0, none⟩ = some (.slice A1 H.length c1) := Go.Joins.cell_of_block hmo 0
        by_cases hlt : k < H.length
        · obtain ⟨gR, rfl, -⟩ := Row.form hm1 (by omega)
          have x1 := HomeRow.at hm1 hlt
          have hgo := HGH.out H[k] (List.getElem_mem hlt)
          have hsucc : runE T0 ((H.map Edit.putH).take (k + 1)) = (Edit.putH H[k]).after (runE T0 ((H.map Edit.putH).take k)) := by
            rw [runE_snoc _ _ _ (by simpa using hlt)]
            simp
          have hst := HSTH.out k
          have hput := fun W (h : StAt W gt FT _) => putHomeE W gt FT _ h hst.1 hst.2.1 hst.2.2 H[k] hgo
          generalize H[k] = x at *
          obtain ⟨mid, mnum, mat, mmv, mba, mwa⟩ := x
          have y0 : wr.cell? ⟨gR, k * 6 + 0, none⟩ = some (encStr mid) := x1 0 (by decide)
          have y1 : wr.cell? ⟨gR, k * 6 + 1, none⟩ = some (encStr mnum) := x1 1 (by decide)
          have y2 : wr.cell? ⟨gR, k * 6 + 2, none⟩ = some (.int .u16 (mat : Int)) := x1 2 (by decide)
          have y3 : wr.cell? ⟨gR, k * 6 + 3, none⟩ = some (.int .u32 (mmv : Int)) := x1 3 (by decide)
          have y4 : wr.cell? ⟨gR, k * 6 + 4, none⟩ = some (.bool mba) := x1 4 (by decide)
          have y5 : wr.cell? ⟨gR, k * 6 + 5, none⟩ = some (.bool mwa) := x1 5 (by decide)
          rw [Nat.add_zero] at y0
          unfold HomeR.val HomeR.cells at hput
          simp only at hput
          have HPUT := Lib.hid hput
          have HSU := Lib.hid hsucc
          have HLT := Lib.hid hlt
          have q2 : (0 : Int) ≤ (k : Int) := by omega
          have q3 : (k : Int) < (H.length : Int) := by omega
          have q4 : k ≤ 60 := by omega
          clear x1 hgo hput hsucc hst hmo hm1 hm2
          go_wp2_with (first
            | (go_at_call 24; (with_reducible refine (HPUT.out _ HI.out.1).mono ?_); rintro e w7 ⟨F7, er, rfl, h7, hc7, hn7⟩)
            | fail)
          go_roundw
          case rel =>
            refine ⟨k + 1, F7, by have := HLT.out; omega, by go_num, Lib.hid ⟨by rw [HSU.out]; exact h7, HI.out.2.1.trans (hc7.below HI.out.2.2 HI.out.2.1.size), fun i hi => (hn7 i hi).elim (fun h => HI.out.2.2 i h) (fun h => by have := HI.out.2.1.size; omega)⟩⟩
          case measure => have := HLT.out; simp [intOf]; omega
        · obtain rfl : k = H.length := by omega
          have HS6 : Hid (StAt wr gt FT (runE T1 ((V.map Edit.putV).take 0)) ∧ Below w4.heap.size w4 wr ∧ ∀ i ∈ FT, w4.heap.size ≤ i) := Lib.hid ⟨by
            have := HI.out.1
            rw [List.take_of_length_le (by simp), ← HT1.out] at this
            exact this, HI.out.2⟩
          clear HI hmo hm1 hm2
          go_wp2_with fail
          go_loopw [11] (fun iv wr => ∃ (k : Nat) (FT : List Nat), k ≤ V.length ∧ iv = .int .i64 k ∧ Hid (StAt wr gt FT (runE T1 ((V.map Edit.putV).take k)) ∧ Below w4.heap.size w4 wr ∧ ∀ i ∈ FT, w4.heap.size ≤ i))
            (fun iv _ => V.length - (intOf iv).toNat)
          case atStart => exact ⟨0, _, Nat.zero_le _, rfl, HS6⟩
          case round =>
            obtain ⟨k, FT, hk, rfl, HI⟩ := hrel
            obtain ⟨-, ⟨A1, c1, A2, c2, -, hmo, hm1, hm2⟩, -⟩ := HB4.out _ HI.out.2.1
            have k0 : wr.cell? ⟨gm, 1, none⟩ = some (.slice A2 V.length c2) := Go.Joins.cell_of_block hmo 1
            by_cases hlt : k < V.length
            · obtain ⟨gR, rfl, -⟩ := Row.form hm2 (by omega)
              have x1 := VisitRow.at hm2 hlt
              have hgo := HGV.out V[k] (List.getElem_mem hlt)
              have hsucc : runE T1 ((V.map Edit.putV).take (k + 1)) = (Edit.putV V[k]).after (runE T1 ((V.map Edit.putV).take k)) := by
                rw [runE_snoc _ _ _ (by simpa using hlt)]
                simp
              have hst := HSTV.out k
              have hput := fun W (h : StAt W gt FT _) => putVisitE W gt FT _ h hst.1 hst.2.1 hst.2.2 V[k] hgo
              generalize V[k] = x at *
              obtain ⟨mid, mnum, mat, mmv, mar, mro⟩ := x
              have y0 : wr.cell? ⟨gR, k * 6 + 0, none⟩ = some (encStr mid) := x1 0 (by decide)
              have y1 : wr.cell? ⟨gR, k * 6 + 1, none⟩ = some (encStr mnum) := x1 1 (by decide)
              have y2 : wr.cell? ⟨gR, k * 6 + 2, none⟩ = some (.int .u16 (mat : Int)) := x1 2 (by decide)
              have y3 : wr.cell? ⟨gR, k * 6 + 3, none⟩ = some (.int .u32 (mmv : Int)) := x1 3 (by decide)
              have y4 : wr.cell? ⟨gR, k * 6 + 4, none⟩ = some (.int .u16 (mar : Int)) := x1 4 (by decide)
              have y5 : wr.cell? ⟨gR, k * 6 + 5, none⟩ = some (encStr mro) := x1 5 (by decide)
              rw [Nat.add_zero] at y0
              unfold VisitR.val VisitR.cells at hput
              simp only at hput
              have HPUT := Lib.hid hput
              have HSU := Lib.hid hsucc
              have HLT := Lib.hid hlt
              have q2 : (0 : Int) ≤ (k : Int) := by omega
              have q3 : (k : Int) < (V.length : Int) := by omega
              have q4 : k ≤ 60 := by omega
              clear x1 hgo hput hsucc hst hmo hm1 hm2
              go_wp2_with (first
                | (go_at_call 25; (with_reducible refine (HPUT.out _ HI.out.1).mono ?_); rintro e w7 ⟨F7, er, rfl, h7, hc7, hn7⟩)
                | fail)
              go_roundw
              case rel =>
                refine ⟨k + 1, F7, by have := HLT.out; omega, by go_num, Lib.hid ⟨by rw [HSU.out]; exact h7, HI.out.2.1.trans (hc7.below HI.out.2.2 HI.out.2.1.size), fun i hi => (hn7 i hi).elim (fun h => HI.out.2.2 i h) (fun h => by have := HI.out.2.1.size; omega)⟩⟩
              case measure => have := HLT.out; simp [intOf]; omega
            · obtain rfl : k = V.length := by omega
              have HS7 : Hid (StAt wr gt FT (runE T1 (V.map Edit.putV)) ∧ Below w4.heap.size w4 wr) := Lib.hid ⟨by
                have := HI.out.1
                rw [List.take_of_length_le (by simp)] at this
                exact this, HI.out.2.1⟩
              clear HI hmo hm1 hm2
              go_upto_region 23 with (first
                | (go_at_call 15; (with_reducible refine (HCR.out _ _ (HB4.out _ HS7.out.2).1).mono ?_); rintro e w8 ⟨g8, F8, U, rfl, hU, h8, hB8⟩
                   have HU := Lib.hid hU
                   have HS8 := Lib.hid h8
                   have HB8 := Lib.hid (HS7.out.2.trans (hB8.mono HS7.out.2.size))
                   have HT8 := Lib.hid (HS7.out.1.below hB8)
                   clear hU h8 hB8)
                | fail)
              have hcvL : ∀ w', RdB w' A3 FL → (convert 39 9 (.slice A3 FL.length FL.length)).run Tryz.prog w' = .ok (encStr FL) w' := fun w' h => conv_text h rfl
              have hBd : Below w8.heap.size w8 w8.drew := (Below.refl _ _).drew
              have HBd := Lib.hid (HB8.out.trans (hBd.mono HB8.out.size))
              have HUd := Lib.hid (HS8.out.below hBd)
              have HTd := Lib.hid (HT8.out.below hBd)
              clear hBd k0
              go_region_held_law (fun w' => RdB w' A3 FL)
                (first | exact (HB4.out _ HBd.out).2.2 | exact (HB4.out _ HB9.out).2.2 | exact (HB4.out _ HB10.out).2.2 | exact (HB4.out _ HB11.out).2.2 | exact (HB4.out _ HB12.out).2.2 | exact (HB4.out _ HB13.out).2.2 | fail)
                (first
                  | (go_at_call 17; (with_reducible refine (HAG.out _ _ _ (HB4.out _ HBd.out).1 (HB4.out _ HBd.out).2.1).mono ?_); rintro e w9 ⟨rfl, hB9⟩
                     have HB9 := Lib.hid (HBd.out.trans (hB9.mono HBd.out.size))
                     have HU9 := Lib.hid (HUd.out.below hB9)
                     have HT9 := Lib.hid (HTd.out.below hB9)
                     clear hB9)
                  | (go_at_call 16; (with_reducible refine (HSM.out _ _ _ _ _ (HB4.out _ HB9.out).1 HU9.out HU.out.1 HU.out.2.1 HU.out.2.2.1 HU.out.2.2.2).mono ?_); rintro e w10 ⟨rfl, hB10⟩
                     have HB10 := Lib.hid (HB9.out.trans (hB10.mono HB9.out.size))
                     have HT10 := Lib.hid (HT9.out.below hB10)
                     clear hB10)
                  | (go_at_call 12; (with_reducible refine (HLG.out _ _ (HB4.out _ HB10.out).1).mono ?_); rintro e w11 ⟨A11, rfl, h11, hB11⟩
                     have HB11 := Lib.hid (HB10.out.trans (hB11.mono HB10.out.size))
                     have HT11 := Lib.hid (HT10.out.below hB11)
                     have hcv11 := conv_text (c := FL.length) (RowB.rd h11) rfl
                     clear hB11 h11)
                  | (go_at_call 12; (with_reducible refine (HLT2.out _ _ _ HT11.out).mono ?_); rintro e w12 ⟨A12, rfl, h12, hB12⟩
                     have HB12 := Lib.hid (HB11.out.trans (hB12.mono HB11.out.size))
                     have hcv12 := conv_text (c := FL.length) (RowB.rd h12) rfl
                     clear hB12 h12)
                  | (go_at_call 8; (with_reducible refine (HLIV.out _).mono ?_); rintro e w13 ⟨rfl, hB13⟩
                     have HB13 := Lib.hid (HB12.out.trans (hB13.mono HB12.out.size))
                     clear hB13)
                  | fail)
              all_goals go_wp2_with fail
              all_goals go_ret
              all_goals exact ⟨rfl, HBW.out.trans (HB13.out.mono HBW.out.size)⟩
end Go.Proofs.YthbbmpelldglmaaGreatDoor
