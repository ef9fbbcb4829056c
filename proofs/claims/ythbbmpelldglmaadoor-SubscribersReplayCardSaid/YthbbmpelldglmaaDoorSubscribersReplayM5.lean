/- Package subscribers: 'DropVisit'. Printed by wip/tools/dropvisit.py out of SubD. -/
import Derived.Test.YthbbmpelldglmaaDoorSubscribersReplayM4
import Derived.Deep.CutBlock
namespace Go.Proofs.YthbbmpelldglmaaDoor
set_option linter.unusedVariables false
set_option linter.unusedSimpArgs false
open Go.RowKit

/-- 'DropVisit', as plain data -/
def dropVisitS (S : St) (id : List UInt8) : St := { S with visits := S.visits.filter (fun v => !(v.id == id)), log := S.log ++ entryB 4 (textB id) }
def DropOutV (S : St) (id : List UInt8) (er : Int) (S' : St) : Prop := (visitOf S id = none ∧ er = 7 ∧ S' = S) ∨ ((visitOf S id).isSome = true ∧ er = 0 ∧ S' = dropVisitS S id)
theorem FitV.drop {S : St} (h : S.Fit) (id : List UInt8) : (dropVisitS S id).Fit where
  hs := h.hs
  hn := h.hn
  hok := h.hok
  vs := h.vs.filter _
  vr := by
    have : (roamers (S.visits.filter fun v => !(v.id == id))).Sublist (roamers S.visits) := (List.filter_sublist ..).filter _
    exact h.vr.sublist this
  vok := fun y hy => h.vok y (List.mem_filter.1 hy).1

set_option maxHeartbeats 8000000 in
set_option maxRecDepth 100000 in
theorem dropVisit_any (w : World) (g : Nat) (F : List Nat) (S : St) (h : StAt w g F S) (hfit : S.Fit) (hll : S.log.length ≤ 100000000) (id : List UInt8) (l1 : id.length ≤ maxLen) :
    Calls Tryd.prog 97 #[.pointer (some ⟨g, 0, none⟩), encStr id] w fun e w' => ∃ F' er S', e = .returned (.int .i64 er) ∧ StAt w' g F' S' ∧ Chg F w w' ∧ NewIn w F F' ∧ DropOutV S id er S' := by
  have hh := storeVisit_any w g F S h id l1
  cases ho : visitOf S id with
  | none =>
    rw [ho] at hh
    unfold visitZero VisitR.val VisitR.cells at hh
    simp only [Option.getD_none, Option.isSome_none, Option.isSome] at hh
    have HO := Lib.hid ho
    have HH := Lib.hid hh
    have HS := Lib.hid h
    clear ho hh h hfit
    go_enter Tryd.func97, Tryd.ntmps97
    go_wp2_with (first
      | (go_at_call 138; (with_reducible refine HH.out.mono ?_); rintro e w1 ⟨rfl, hB1⟩)
      | fail)
    go_ret
    exact ⟨F, 7, S, rfl, HS.out.below (below_alloc hB1 _), Chg.of_below F (below_alloc hB1 _), NewIn.refl _ _, .inl ⟨HO.out, rfl, rfl⟩⟩
  | some old =>
    have hmem : old ∈ S.visits := List.mem_of_find?_eq_some ho
    have hid : old.id = id := by have := List.find?_some ho; simpa using this
    have hol := VisitR.ok_len (hfit.vok old hmem).1
    have hnum := old_roam hfit id
    rw [ho] at hh hnum
    obtain ⟨oid, onum, ohm, omv, oar, orm⟩ := old
    simp only at hid hol
    rw [hid] at hol
    have hlt := h.lt
    obtain ⟨b1, b2, b3, b4, A, c, rfl, hM⟩ : ∃ b1 b2 b3 b4 A c, F = g :: b1 :: b2 :: b3 :: b4 :: blk A ∧ StM w g b1 b2 b3 b4 A c S := by
      rcases h with h | ⟨A, c, _, h⟩
      · exact h
      · rw [h.visits] at hmem; cases hmem
    unfold VisitR.val VisitR.cells at hh
    simp only [Option.getD_some, Option.isSome_some, Option.isSome] at hh hnum
    have HO := Lib.hid ho
    have HH := Lib.hid hh
    have HNUM := Lib.hid hnum
    have H := Lib.hid hM
    have HFIT := Lib.hid hfit
    have HLT := Lib.hid hlt
    clear ho hh h hM hnum hmem hid hfit hlt
    go_enter Tryd.func97, Tryd.ntmps97
    go_upto_region 4 with (first
      | (go_at_call 138; (with_reducible refine HH.out.mono ?_); rintro e w1 ⟨rfl, hB1⟩)
      | fail)
    have hB2 := below_alloc hB1 (.cells #[encStr oid, encStr onum, .int .u16 (ohm : Int), .int .u32 (omv : Int), .int .u16 (oar : Int), encStr orm] 172)
    have oo2 := heap_alloc_new w1 (.cells #[encStr oid, encStr onum, .int .u16 (ohm : Int), .int .u32 (omv : Int), .int .u16 (oar : Int), encStr orm] 172)
    generalize ew2 : w1.alloc (.cells #[encStr oid, encStr onum, .int .u16 (ohm : Int), .int .u32 (omv : Int), .int .u16 (oar : Int), encStr orm] 172) = w2 at *
    have HM2 := H.out.chg (Chg.of_below [] hB2) (by simp)
    obtain ⟨f1, mh, th⟩ := HM2.maps.visits
    obtain ⟨f3, mn, tn⟩ := HM2.maps.roams
    have hnd := HM2.maps.nodup
    have hap := HM2.apart
    have og2 := HM2.obj
    have k0 : w2.cell? ⟨g, 1, none⟩ = some (.map (some b2)) := stObj_cell og2 1
    obtain ⟨w3, hrun0, m3, t3⟩ := mh.drop Tryd.underlying9 Tryd.underlying158 id l1 0
    have hrun1 : ∀ ty, (Builtin.delete_ #[158, 9] ty #[.map (some b2), encStr id]).run Tryd.prog w2 = .ok (.tuple #[]) w3 := fun ty => hrun0
    have c3 : Chg [b2] w2 w3 := Chg.of_turned t3 (by simp)
    have og3 := c3.heap og2 (by simp; exact hap.1.2.1)
    have mn3 : MapIs Tryd.prog 9 w3.drew b4 S.puts f3 := (mn.chg c3 (by simp; omega)).of_block rfl
    have hob : w1.heap.size ≠ b2 ∧ w1.heap.size ≠ b4 := by
      have h1 := HLT.out b2 (by simp)
      have h3 := HLT.out b4 (by simp)
      have := hB1.size
      omega
    have oo3 := c3.heap oo2 (by simp; exact hob.1)
    obtain ⟨w5, hrun2, m5, t5⟩ := mn3.drop Tryd.underlying9 Tryd.underlying159 orm (by simp only [maxLen]; omega) 0
    have hrun3 : ∀ ty, (Builtin.delete_ #[159, 9] ty #[.map (some b4), encStr orm]).run Tryd.prog w3.drew = .ok (.tuple #[]) w5 := fun ty => hrun2
    have c5 : Chg [b4] w3 w5 := (Chg.refl _ _).drew.then_ (Chg.of_turned t5 (by simp))
    have og5 := c5.heap og3 (by simp; exact hap.1.2.2.2)
    have oo5 := c5.heap oo3 (by simp; exact hob.2)
    have kg2 : ∀ w' : World, w'.heap[g]? = some (stObj (.map (some b1)) (.map (some b2)) (.map (some b3)) (.map (some b4)) A S.log.length c S.dur) → w'.cell? ⟨g, 3, none⟩ = some (.map (some b4)) := fun w' e => stObj_cell e 3
    have ko1 : ∀ w' : World, w'.heap[w1.heap.size]? = some (.cells #[encStr oid, encStr onum, .int .u16 (ohm : Int), .int .u32 (omv : Int), .int .u16 (oar : Int), encStr orm] 172) → w'.cell? ⟨w1.heap.size, 5, none⟩ = some (encStr orm) := fun w' e => cell_of_row _ _ 5 _ _ _ e
    have HM2' := Lib.hid HM2
    have HMS := Lib.hid (And.intro m3 m5)
    have HCS := Lib.hid (And.intro c3 c5)
    have HG5 := Lib.hid og5
    have HB2 := Lib.hid hB2
    have HX := Lib.hid (And.intro hnd hap)
    have HTT := Lib.hid (And.intro th tn)
    clear HM2 mh mn m3 m5 t3 t5 c3 c5 hrun0 hrun2 mn3 hnd hap th tn hob og2 oo2 ew2 hB1 hB2
    go_upto_region 5 with fail
    go_cut [] from 7 (fun wd => wd = w5)
    case first =>
      go_region_held3 (fun w' => w'.heap[g]? = some (stObj (.map (some b1)) (.map (some b2)) (.map (some b3)) (.map (some b4)) A S.log.length c S.dur) ∧ w'.heap[w1.heap.size]? = some (.cells #[encStr oid, encStr onum, .int .u16 (ohm : Int), .int .u32 (omv : Int), .int .u16 (oar : Int), encStr orm] 172))
        (first | exact ⟨og3, oo3⟩ | exact ⟨og5, oo5⟩ | fail)
        (first
          | (refine step_delete (by rfl) (.tmp 24) (.tmp 26) 159 9 (by rfl) b4 (encStr orm) (by rfl) (by rfl) w5 hrun3 ?_)
          | fail)
      all_goals go_wp2_with fail
      all_goals go_meet
      all_goals rfl
    case rest =>
      subst hcut
      have htx := text_any wc.heap.size none [] 0 id wc (RowB.nil _ _) (Nat.le_refl _) (by simp) (by omega)
      simp only [List.nil_append, List.length_nil] at htx
      have hfl : (textB id).length ≤ 16 := by rw [textB_len]; omega
      have hds : dropVisitS S id = { S with visits := S.visits.filter (fun v => !(v.id == id)), log := S.log ++ entryB 4 (textB id) } := rfl
      generalize textB id = fl at *
      have HT := Lib.hid htx
      have HDS := Lib.hid hds
      clear htx hds kg2 ko1 og3 oo3 oo5 hrun1 hrun3 k0 og5
      have hcAll : Chg [b2, b4] w wc := ((Chg.of_below [b2, b4] HB2.out).then_ (HCS.out.1.mono (by simp))).then_ (HCS.out.2.mono (by simp))
      have hlogD : RowB wc 0 A c S.log := Row.chg H.out.log hcAll (fun k e => by
        have hap := HX.out.2
        simp only [List.mem_cons, List.not_mem_nil, or_false, not_or]
        exact ⟨fun e2 => hap.2.2.2.1 (e2 ▸ mem_blk.2 e), fun e2 => hap.2.2.2.2.2 (e2 ▸ mem_blk.2 e)⟩)
      have HCALL := Lib.hid hcAll
      clear hcAll
      go_wp2_with (first
        | (go_at_call 134; (with_reducible refine HT.out.mono ?_); rintro e w6 ⟨Af, cf, rfl, h6, hc6, hn6⟩
           have hB6 := Chg.none hc6
           have hg6 := (hB6.block g (Array.getElem?_eq_some_iff.1 HG5.out).1).trans HG5.out
           have hent := entry_any w6 g _ _ _ _ A c S.dur S.log hg6 (hlogD.below hB6) hll 4 Af fl cf h6.rd (by omega)
           simp only [show ((4 : UInt8).toNat : Int) = 4 from rfl] at hent
           have HE := Lib.hid hent
           clear hent)
        | (go_at_call 87; (with_reducible refine HE.out.mono ?_); rintro e w7 ⟨rfl, A7, c7, o7, h7, hc7, hn7⟩)
        | fail)
      go_ret
      obtain ⟨hnd, hap⟩ := HX.out
      have cF : Chg (g :: b1 :: b2 :: b3 :: b4 :: blk A) w w6 := (HCALL.out.mono (by simp)).then_ (Chg.of_below _ hB6)
      have s6 : w.heap.size ≤ w6.heap.size := cF.size
      have c6D : Chg (g :: blk A) wc w7 := (Chg.of_below _ hB6).then_ hc7
      refine ⟨_, 0, dropVisitS S id, rfl, .inl ⟨b1, b2, b3, b4, A7, c7, rfl, ?_⟩, cF.then_ (hc7.mono (by simp; intro i hi; simp [hi])), ?_, .inr ⟨by rw [HO.out]; rfl, rfl, rfl⟩⟩
      · rw [HDS.out]
        refine ⟨o7, h7, ⟨hnd, ?_, ⟨_, (HMS.out.1.chg HCS.out.2 (by simp; omega)).chg c6D (by simp; exact ⟨fun e => hap.1.2.1 e.symm, hap.2.2.2.1⟩), ?_⟩, ?_, ⟨_, HMS.out.2.chg c6D (by simp; exact ⟨fun e => hap.1.2.2.2 e.symm, hap.2.2.2.2.2⟩), ?_⟩⟩⟩
        · obtain ⟨f2, m2, t2⟩ := H.out.maps.homes
          exact ⟨f2, (m2.chg HCALL.out (by simp; omega)).chg c6D (by simp; exact ⟨fun e => hap.1.1 e.symm, hap.2.2.1⟩), t2⟩
        · exact HTT.out.1.cut2 (key := VisitR.id) id id (fun y => by simp [List.mem_filter]) (fun y _ => Iff.rfl)
        · obtain ⟨f4, m4, t4⟩ := H.out.maps.numbers
          exact ⟨f4, (m4.chg HCALL.out (by simp; omega)).chg c6D (by simp; exact ⟨fun e => hap.1.2.2.1 e.symm, hap.2.2.2.2.1⟩), t4⟩
        · exact HTT.out.2.cut2 (l2 := roamers (S.visits.filter fun v => !(v.id == id))) (key := VisitR.id) id orm (fun y => by rw [mem_roamers, mem_roamers, List.mem_filter]; simp; constructor <;> (rintro ⟨⟨a, b⟩, c⟩; exact ⟨⟨a, c⟩, b⟩)) HNUM.out
      · intro i hi
        simp only [List.mem_cons] at hi ⊢
        rcases hi with rfl | rfl | rfl | rfl | rfl | hi
        · exact .inl (.inl rfl)
        · exact .inl (.inr (.inl rfl))
        · exact .inl (.inr (.inr (.inl rfl)))
        · exact .inl (.inr (.inr (.inr (.inl rfl))))
        · exact .inl (.inr (.inr (.inr (.inr (.inl rfl)))))
        · rcases hn7 i hi with h8 | h8
          · exact .inl (.inr (.inr (.inr (.inr (.inr h8)))))
          · exact .inr (Nat.le_trans s6 h8)
end Go.Proofs.YthbbmpelldglmaaDoor
/- Package subscribers: the changes of a store in one form; the closures of 'apply'. -/
namespace Go.Proofs.YthbbmpelldglmaaDoor
set_option linter.unusedVariables false
set_option linter.unusedSimpArgs false
open Go.RowKit

/-- a change of a store -/
inductive Edit where
  | putH (h : HomeR)
  | putV (v : VisitR)
  | dropH (id : List UInt8)
  | dropV (id : List UInt8)
instance (S : St) (h : HomeR) : Decidable (clash S h) := inferInstanceAs (Decidable (∃ x ∈ S.homes, x.number = h.number ∧ x.id ≠ h.id))
instance (S : St) (v : VisitR) : Decidable (clashV S v) := inferInstanceAs (Decidable (∃ x ∈ roamers S.visits, x.roam = v.roam ∧ x.id ≠ v.id))
/-- what the store answers -/
def Edit.er (S : St) : Edit → Int
  | .putH h => if h.ok = false then 1 else if clash S h then 8 else 0
  | .putV v => if v.ok = false then 1 else if clashV S v then 8 else 0
  | .dropH id => if (homeOf S id).isSome then 0 else 7
  | .dropV id => if (visitOf S id).isSome then 0 else 7
def Edit.next (S : St) : Edit → St
  | .putH h => putHomeS S h
  | .putV v => putVisitS S v
  | .dropH id => dropHomeS S id
  | .dropV id => dropVisitS S id
/-- the store behind the change -/
def Edit.after (o : Edit) (S : St) : St := if o.er S = 0 then o.next S else S
def Edit.kind : Edit → UInt8
  | .putH _ => 1
  | .putV _ => 2
  | .dropH _ => 3
  | .dropV _ => 4
def Edit.fields : Edit → List UInt8
  | .putH h => h.fields
  | .putV v => v.fields
  | .dropH id => textB id
  | .dropV id => textB id
/-- its entry -/
def Edit.ent (o : Edit) : List UInt8 := entryB o.kind o.fields
/-- what a Go value may be -/
def Edit.Go : Edit → Prop
  | .putH h => h.Go ∧ h.id.length ≤ maxLen ∧ h.number.length ≤ maxLen
  | .putV v => v.Go ∧ v.id.length ≤ maxLen ∧ v.number.length ≤ maxLen ∧ v.roam.length ≤ maxLen
  | .dropH id => id.length ≤ maxLen
  | .dropV id => id.length ≤ maxLen
theorem out_putH {S S' : St} {h : HomeR} {er : Int} (ho : PutOut S h er S') : er = (Edit.putH h).er S ∧ S' = (Edit.putH h).after S := by
  unfold Edit.after Edit.er
  rcases ho with ⟨h1, rfl, rfl⟩ | ⟨h1, h2, rfl, rfl⟩ | ⟨h1, h2, rfl, rfl⟩
  · simp [h1]
  · simp [h1, h2]
  · simp [h1, h2, Edit.next]
theorem out_putV {S S' : St} {v : VisitR} {er : Int} (ho : PutOutV S v er S') : er = (Edit.putV v).er S ∧ S' = (Edit.putV v).after S := by
  unfold Edit.after Edit.er
  rcases ho with ⟨h1, rfl, rfl⟩ | ⟨h1, h2, rfl, rfl⟩ | ⟨h1, h2, rfl, rfl⟩
  · simp [h1]
  · simp [h1, h2]
  · simp [h1, h2, Edit.next]
theorem out_dropH {S S' : St} {id : List UInt8} {er : Int} (ho : DropOut S id er S') : er = (Edit.dropH id).er S ∧ S' = (Edit.dropH id).after S := by
  unfold Edit.after Edit.er
  rcases ho with ⟨h1, rfl, rfl⟩ | ⟨h1, rfl, rfl⟩
  · simp [h1]
  · simp [h1, Edit.next]
theorem out_dropV {S S' : St} {id : List UInt8} {er : Int} (ho : DropOutV S id er S') : er = (Edit.dropV id).er S ∧ S' = (Edit.dropV id).after S := by
  unfold Edit.after Edit.er
  rcases ho with ⟨h1, rfl, rfl⟩ | ⟨h1, rfl, rfl⟩
  · simp [h1]
  · simp [h1, Edit.next]
theorem Edit.fit {S : St} {o : Edit} (h : S.Fit) (hg : o.Go) : (o.after S).Fit := by
  unfold Edit.after
  split
  · rename_i he
    cases o with
    | putH x =>
      have he' : (if x.ok = false then (1 : Int) else if clash S x then 8 else 0) = 0 := he
      by_cases h1 : x.ok = false
      · rw [if_pos h1] at he'; omega
      · rw [if_neg h1] at he'
        by_cases h2 : clash S x
        · rw [if_pos h2] at he'; omega
        · exact Fit.put h hg.1 ⟨by cases hx : x.ok <;> simp_all, h2⟩
    | putV x =>
      have he' : (if x.ok = false then (1 : Int) else if clashV S x then 8 else 0) = 0 := he
      by_cases h1 : x.ok = false
      · rw [if_pos h1] at he'; omega
      · rw [if_neg h1] at he'
        by_cases h2 : clashV S x
        · rw [if_pos h2] at he'; omega
        · exact FitV.put h hg.1 ⟨by cases hx : x.ok <;> simp_all, h2⟩
    | dropH id => exact Fit.drop h id
    | dropV id => exact FitV.drop h id
  · exact h
theorem Edit.after_log (o : Edit) (S : St) : (o.after S).log = S.log ++ (if o.er S = 0 then o.ent else []) := by
  unfold Edit.after
  split
  · cases o <;> rfl
  · simp
theorem Edit.after_puts (o : Edit) (S : St) : (o.after S).puts ≤ S.puts + 1 := by
  unfold Edit.after
  split
  · cases o <;> simp [Edit.next, putHomeS, putVisitS, dropHomeS, dropVisitS]
  · omega
theorem Edit.after_dur (o : Edit) (S : St) : (o.after S).dur = S.dur := by
  unfold Edit.after
  split
  · cases o <;> rfl
  · rfl
theorem Edit.bad {o : Edit} {S : St} (h : o.er S ≠ 0) : o.after S = S := by unfold Edit.after; rw [if_neg h]
theorem Edit.good {o : Edit} {S : St} (h : o.er S = 0) : o.after S = o.next S := by unfold Edit.after; rw [if_pos h]

/-- what a change of a store in memory answers -/
def Done (w : World) (g : Nat) (F : List Nat) (S : St) (o : Edit) (e : Ending) (w' : World) : Prop := ∃ F', e = .returned (.int .i64 (o.er S)) ∧ StAt w' g F' (o.after S) ∧ Chg F w w' ∧ NewIn w F F'

set_option maxHeartbeats 1000000 in
set_option maxRecDepth 100000 in
theorem apply1_any (w : World) (g : Nat) (F : List Nat) (S : St) (h : StAt w g F S) (hfit : S.Fit) (hp : S.puts < 4096) (hll : S.log.length ≤ 100000000) (p q : Nat) (hs : w.cell? ⟨p, 0, none⟩ = some (.pointer (some ⟨g, 0, none⟩))) (x : HomeR) (hg : (Edit.putH x).Go) (hx : w.heap[q]? = some (.cells x.cells 63 (0, 0))) :
    Calls Tryd.prog 143 #[.pointer (some ⟨p, 0, none⟩), .pointer (some ⟨q, 0, none⟩)] w (Done w g F S (.putH x)) := by
  obtain ⟨hg, l1, l2⟩ := hg
  obtain ⟨id, number, at_, move, barred, waiting⟩ := x
  have hput := putHome_any w g F S h hfit hp hll id number at_ move barred waiting hg l1 l2
  unfold HomeR.cells at hx
  simp only at hx
  have k0 : w.cell? ⟨q, 0, none⟩ = some (encStr id) := cell_of_row _ _ 0 _ _ _ hx
  have k1 : w.cell? ⟨q, 1, none⟩ = some (encStr number) := cell_of_row _ _ 1 _ _ _ hx
  have k2 : w.cell? ⟨q, 2, none⟩ = some (.int .u16 (at_ : Int)) := cell_of_row _ _ 2 _ _ _ hx
  have k3 : w.cell? ⟨q, 3, none⟩ = some (.int .u32 (move : Int)) := cell_of_row _ _ 3 _ _ _ hx
  have k4 : w.cell? ⟨q, 4, none⟩ = some (.bool barred) := cell_of_row _ _ 4 _ _ _ hx
  have k5 : w.cell? ⟨q, 5, none⟩ = some (.bool waiting) := cell_of_row _ _ 5 _ _ _ hx
  have HP := Lib.hid hput
  clear hput h hx hfit
  go_enter Tryd.func143, Tryd.ntmps143
  go_wp2_with (first
    | (go_at_call 25; (with_reducible refine HP.out.mono ?_); rintro e w1 ⟨F1, er, S1, rfl, h1, hc1, hn1, ho1⟩)
    | fail)
  go_ret
  obtain ⟨rfl, rfl⟩ := out_putH ho1
  exact ⟨F1, rfl, h1, hc1, hn1⟩

set_option maxHeartbeats 1000000 in
set_option maxRecDepth 100000 in
theorem apply2_any (w : World) (g : Nat) (F : List Nat) (S : St) (h : StAt w g F S) (hfit : S.Fit) (hp : S.puts < 4096) (hll : S.log.length ≤ 100000000) (p q : Nat) (hs : w.cell? ⟨p, 0, none⟩ = some (.pointer (some ⟨g, 0, none⟩))) (x : VisitR) (hg : (Edit.putV x).Go) (hx : w.heap[q]? = some (.cells x.cells 172 (0, 0))) :
    Calls Tryd.prog 144 #[.pointer (some ⟨p, 0, none⟩), .pointer (some ⟨q, 0, none⟩)] w (Done w g F S (.putV x)) := by
  obtain ⟨hg, l1, l2, l3⟩ := hg
  obtain ⟨id, number, home, move, area, roam⟩ := x
  have hput := putVisit_any w g F S h hfit hp hll id number home move area roam hg l1 l2 l3
  unfold VisitR.cells at hx
  simp only at hx
  have k0 : w.cell? ⟨q, 0, none⟩ = some (encStr id) := cell_of_row _ _ 0 _ _ _ hx
  have k1 : w.cell? ⟨q, 1, none⟩ = some (encStr number) := cell_of_row _ _ 1 _ _ _ hx
  have k2 : w.cell? ⟨q, 2, none⟩ = some (.int .u16 (home : Int)) := cell_of_row _ _ 2 _ _ _ hx
  have k3 : w.cell? ⟨q, 3, none⟩ = some (.int .u32 (move : Int)) := cell_of_row _ _ 3 _ _ _ hx
  have k4 : w.cell? ⟨q, 4, none⟩ = some (.int .u16 (area : Int)) := cell_of_row _ _ 4 _ _ _ hx
  have k5 : w.cell? ⟨q, 5, none⟩ = some (encStr roam) := cell_of_row _ _ 5 _ _ _ hx
  have HP := Lib.hid hput
  clear hput h hx hfit
  go_enter Tryd.func144, Tryd.ntmps144
  go_wp2_with (first
    | (go_at_call 93; (with_reducible refine HP.out.mono ?_); rintro e w1 ⟨F1, er, S1, rfl, h1, hc1, hn1, ho1⟩)
    | fail)
  go_ret
  obtain ⟨rfl, rfl⟩ := out_putV ho1
  exact ⟨F1, rfl, h1, hc1, hn1⟩

set_option maxHeartbeats 1000000 in
set_option maxRecDepth 100000 in
theorem apply3_any (w : World) (g : Nat) (F : List Nat) (S : St) (h : StAt w g F S) (hfit : S.Fit) (hll : S.log.length ≤ 100000000) (p q : Nat) (hs : w.cell? ⟨p, 0, none⟩ = some (.pointer (some ⟨g, 0, none⟩))) (x : List UInt8) (hg : (Edit.dropH x).Go) (hx : w.cell? ⟨q, 0, none⟩ = some (encStr x)) :
    Calls Tryd.prog 145 #[.pointer (some ⟨p, 0, none⟩), .pointer (some ⟨q, 0, none⟩)] w (Done w g F S (.dropH x)) := by
  have hput := dropHome_any w g F S h hfit hll x hg
  have HP := Lib.hid hput
  clear hput h hfit
  go_enter Tryd.func145, Tryd.ntmps145
  go_wp2_with (first
    | (go_at_call 95; (with_reducible refine HP.out.mono ?_); rintro e w1 ⟨F1, er, S1, rfl, h1, hc1, hn1, ho1⟩)
    | fail)
  go_ret
  obtain ⟨rfl, rfl⟩ := out_dropH ho1
  exact ⟨F1, rfl, h1, hc1, hn1⟩

set_option maxHeartbeats 1000000 in
set_option maxRecDepth 100000 in
theorem apply4_any (w : World) (g : Nat) (F : List Nat) (S : St) (h : StAt w g F S) (hfit : S.Fit) (hll : S.log.length ≤ 100000000) (p q : Nat) (hs : w.cell? ⟨p, 0, none⟩ = some (.pointer (some ⟨g, 0, none⟩))) (x : List UInt8) (hg : (Edit.dropV x).Go) (hx : w.cell? ⟨q, 0, none⟩ = some (encStr x)) :
    Calls Tryd.prog 146 #[.pointer (some ⟨p, 0, none⟩), .pointer (some ⟨q, 0, none⟩)] w (Done w g F S (.dropV x)) := by
  have hput := dropVisit_any w g F S h hfit hll x hg
  have HP := Lib.hid hput
  clear hput h hfit
  go_enter Tryd.func146, Tryd.ntmps146
  go_wp2_with (first
    | (go_at_call 97; (with_reducible refine HP.out.mono ?_); rintro e w1 ⟨F1, er, S1, rfl, h1, hc1, hn1, ho1⟩)
    | fail)
  go_ret
  obtain ⟨rfl, rfl⟩ := out_dropV ho1
  exact ⟨F1, rfl, h1, hc1, hn1⟩
end Go.Proofs.YthbbmpelldglmaaDoor
/- Package subscribers: 'apply', on any bytes. -/
namespace Go.Proofs.YthbbmpelldglmaaDoor
set_option linter.unusedVariables false
set_option linter.unusedSimpArgs false
open Go.RowKit

/-- what the bytes of an entry say -/
def parsed (b : List UInt8) : Option Edit :=
  let r0 : Rdr := ⟨b, false⟩
  let r1 := r0.after 1
  let r2 := r1.afterText
  let r3 := r2.afterText
  let r4 := r3.afterPair
  let r5 := r4.afterLong
  let r6 := r5.after 1
  let v6 := r5.afterPair
  let v7 := v6.afterText
  if r0.byte = 1 then
    if r6.bad = false ∧ r5.byte.toNat ≤ 3 ∧ r6.rest = [] then some (.putH ⟨r1.text, r2.text, r3.pair, r4.long, decide (r5.byte.toNat % 2 = 1), decide (r5.byte.toNat / 2 % 2 = 1)⟩) else none
  else if r0.byte = 2 then
    if v7.bad = false ∧ v7.rest = [] then some (.putV ⟨r1.text, r2.text, r3.pair, r4.long, r5.pair, v6.text⟩) else none
  else if r0.byte = 3 then
    if r2.bad = false ∧ r2.rest = [] then some (.dropH r1.text) else none
  else if r0.byte = 4 then
    if r2.bad = false ∧ r2.rest = [] then some (.dropV r1.text) else none
  else none
/-- whether they were applied, and the store behind it -/
def applied (S : St) (b : List UInt8) : Bool × St := match parsed b with | some o => (decide (o.er S = 0), o.after S) | none => (false, S)
def Applied (w : World) (g : Nat) (F : List Nat) (S : St) (x : Bool × St) (e : Ending) (w' : World) : Prop :=
  ∃ F', e = .returned (.bool x.1) ∧ StAt w' g F' x.2 ∧ Chg F w w' ∧ NewIn w F F'

/-- the store and the reader while fields are read -/
structure Reads (w : World) (g : Nat) (F : List Nat) (S : St) (W : World) (r : Rdr) : Prop where
  below : Below w.heap.size w W
  box : W.cell? ⟨w.heap.size, 0, none⟩ = some (.pointer (some ⟨g, 0, none⟩))
  rd : RdrAt W (w.heap.size + 1) r
theorem Reads.next {w W W' : World} {g : Nat} {F : List Nat} {S : St} {r r' : Rdr} (h : Reads w g F S W r) (hr : RdrAt W' (w.heap.size + 1) r') (hc : Chg [w.heap.size + 1] W W') : Reads w g F S W' r' where
  below := h.below.trans (hc.below (by simp) h.below.size)
  box := hc.cell h.box (by simp)
  rd := hr
theorem Reads.other {w W W' : World} {g : Nat} {F F2 : List Nat} {S : St} {r : Rdr} (h : Reads w g F S W r) (hc : Chg F2 W W') (hF : ∀ i ∈ F2, w.heap.size + 1 < i) : Reads w g F S W' r where
  below := h.below.trans (hc.below (fun i hi => by have := hF i hi; omega) h.below.size)
  box := hc.cell h.box (fun hi => by have := hF _ hi; simp at this; omega)
  rd := h.rd.chg hc hF
theorem Reads.alloc {w W : World} {g : Nat} {F : List Nat} {S : St} {r : Rdr} (h : Reads w g F S W r) (o : Obj) : Reads w g F S (W.alloc o) r :=
  h.other (F2 := []) ((Chg.refl _ _).alloc _) (by simp)
theorem Reads.start {w : World} {g : Nat} {F : List Nat} {S : St} (A : Option Addr) (b : List UInt8) (c : Nat) (hA : RdB w A b) (hl : ∀ ad, A = some ad → ad.block < w.heap.size) (hc : b.length ≤ c) (hcm : c ≤ 9223372036854775807) :
    Reads w g F S ((w.alloc (.cells #[.pointer (some ⟨g, 0, none⟩)] 59)).alloc (.cells #[.slice A b.length c, .bool false] 241)) ⟨b, false⟩ where
  below := below_alloc ((Below.refl _ _).alloc (Nat.le_refl _) _) _
  box := by
    rw [World.cell?_alloc_lt _ _ _ (by simp), cell_of_row _ _ 0 _ _ _ (heap_alloc_new w _)]
    rfl
  rd := ⟨A, c, by
    rw [show w.heap.size + 1 = (w.alloc (.cells #[.pointer (some ⟨g, 0, none⟩)] 59)).heap.size by simp]
    exact heap_alloc_new _ _, (hA.alloc _).alloc _, hc, hcm, fun ad e => by have := hl ad e; omega⟩

theorem flag1 (f : Nat) (h : f < 256) : (bits .and .u8 (f : Int) 1 != 0) = decide (f % 2 = 1) := by
  have := (bits_nat .u8 8 (by decide) wraps_u8 f 1 h (by decide)).1
  simp only [show ((1 : Nat) : Int) = 1 from rfl] at this
  rw [this, Nat.and_one_is_mod]
  rcases Nat.mod_two_eq_zero_or_one f with e | e <;> rw [e] <;> rfl
set_option maxRecDepth 100000 in
theorem flag2 (f : Nat) (h : f < 256) : (bits .and .u8 (f : Int) 2 != 0) = decide (f / 2 % 2 = 1) := by
  have := (bits_nat .u8 8 (by decide) wraps_u8 f 2 h (by decide)).1
  simp only [show ((2 : Nat) : Int) = 2 from rfl] at this
  have hall : ∀ f : Fin 256, (f.val &&& 2) = 2 * (f.val / 2 % 2) := by decide
  have e3 : f &&& 2 = 2 * (f / 2 % 2) := hall ⟨f, h⟩
  rw [this, e3]
  rcases Nat.mod_two_eq_zero_or_one (f / 2) with e | e <;> rw [e] <;> rfl
theorem byte_any (w : World) (g : Nat) (r : Rdr) (h : RdrAt w g r) :
    Calls Tryd.prog 140 #[.pointer (some ⟨g, 0, none⟩), .int .i64 1] w fun e w' => ∃ ad c', e = .returned (.slice (some ad) 1 c') ∧ w'.cell? ad = some (.int .u8 (r.byte.toNat : Int)) ∧ 1 ≤ c' ∧ RdrAt w' g (r.after 1) ∧ Chg [g] w w' := by
  refine (take_any w g r 1 h (by omega)).mono ?_
  rintro e w' ⟨A', c', rfl, h1, h2, h3, h4⟩
  obtain ⟨ad, rfl, hc⟩ := getD_rd h1 (k := 0) (by rw [Rdr.take_len]; omega)
  rw [addr0] at hc
  exact ⟨ad, c', rfl, hc, h2, h3, h4⟩

set_option maxHeartbeats 4000000 in
set_option maxRecDepth 100000 in
theorem apply_k1 (w : World) (g : Nat) (F : List Nat) (S : St) (h : StAt w g F S) (hfit : S.Fit) (hp : S.puts < 4096) (hll : S.log.length ≤ 100000000) (A : Option Addr) (b : List UInt8) (c : Nat) (hA : RdB w A b) (hl : ∀ ad, A = some ad → ad.block < w.heap.size) (hc : b.length ≤ c) (hcm : c ≤ 9223372036854775807)
    (hk : (Rdr.mk b false).byte = 1) :
    Calls Tryd.prog 98 #[.pointer (some ⟨g, 0, none⟩), .slice A b.length c] w (Applied w g F S (applied S b)) := by
  have hr0 := Reads.start (F := F) (S := S) (g := g) A b c hA hl hc hcm
  have hk' : (Rdr.mk b false).byte.toNat = 1 := by rw [hk]; rfl
  have hX : applied S b = (let r0 : Rdr := ⟨b, false⟩
      let r1 := r0.after 1
      let r2 := r1.afterText
      let r3 := r2.afterText
      let r4 := r3.afterPair
      let r5 := r4.afterLong
      let r6 := r5.after 1
      let f := r5.byte.toNat
      let x : Edit := .putH ⟨r1.text, r2.text, r3.pair, r4.long, decide (f % 2 = 1), decide (f / 2 % 2 = 1)⟩
      if r6.bad = false ∧ f ≤ 3 ∧ r6.rest = [] then (decide (x.er S = 0), x.after S) else (false, S)) := by
    unfold applied parsed
    simp only [hk, if_true]
    split <;> rename_i h1 <;> split at h1 <;> rename_i h2
    · cases h1; rw [if_pos h2]
    · cases h1
    · cases h1
    · rw [if_neg h2]
  simp only at hX
  generalize Rdr.mk b false = r0 at *
  have HR := Lib.hid hr0
  have HS := Lib.hid h
  have HFIT := Lib.hid hfit
  have HK := Lib.hid hk'
  clear hr0 h hfit hk hk'
  obtain ⟨r5, e5⟩ : ∃ r, r = ((((r0.after 1).afterText.afterText).afterPair).afterLong) := ⟨_, rfl⟩
  obtain ⟨f, ef⟩ : ∃ f, f = r5.byte.toNat := ⟨_, rfl⟩
  have hf : f < 256 := by rw [ef]; exact r5.byte.toNat_lt
  obtain ⟨r6, e6⟩ : ∃ r, r = r5.after 1 := ⟨_, rfl⟩
  rw [← e5, ← ef, ← e6] at hX
  have HX := Lib.hid hX
  have hgo : (Edit.putH ⟨(r0.after 1).text, (r0.after 1).afterText.text, (r0.after 1).afterText.afterText.pair, (r0.after 1).afterText.afterText.afterPair.long, decide (f % 2 = 1), decide (f / 2 % 2 = 1)⟩).Go := by
    have t1 := (r0.after 1).text_len
    have t2 := (r0.after 1).afterText.text_len
    exact ⟨⟨Rdr.pair_lt _, Rdr.long_lt _⟩, by simp only [maxLen]; omega, by simp only [maxLen]; omega⟩
  have HGO := Lib.hid hgo
  have E5 := Lib.hid e5
  have E6 := Lib.hid e6
  have EF := Lib.hid ef
  clear e5 e6 ef hX hgo
  go_enter Tryd.func98, Tryd.ntmps98
  go_wp2_with (first
    | (go_at_call 140; (with_reducible refine (byte_any _ _ _ HR.out.rd).mono ?_); rintro e wn ⟨ad, cn, rfl, hcell, hcn, hrdn, hCn⟩; (try (rw [HK.out] at hcell; simp only [show ((1 : Nat) : Int) = 1 from rfl] at hcell)); have HR := Lib.hid (HR.out.next hrdn hCn); clear hrdn hCn)
    | (go_at_call 139; (with_reducible refine (rtext_any _ _ _ HR.out.rd).mono ?_); rintro e wn ⟨rfl, hrdn, hCn⟩; have HR := Lib.hid (HR.out.next hrdn hCn); clear hrdn hCn)
    | (go_at_call 141; (with_reducible refine (rpair_any _ _ _ HR.out.rd).mono ?_); rintro e wn ⟨rfl, hrdn, hCn⟩; have HR := Lib.hid (HR.out.next hrdn hCn); clear hrdn hCn)
    | (go_at_call 142; (with_reducible refine (rlong_any _ _ _ HR.out.rd).mono ?_); rintro e wn ⟨rfl, hrdn, hCn⟩; have HR := Lib.hid (HR.out.next hrdn hCn); clear hrdn hCn)
    | fail)
  have hwn : w.heap.size + 1 < wn.heap.size := HR.out.rd.lt
  have HR := Lib.hid (HR.out.alloc (.cells #[encStr (r0.after 1).text, encStr (r0.after 1).afterText.text, .int .u16 ((r0.after 1).afterText.afterText.pair : Int), .int .u32 ((r0.after 1).afterText.afterText.afterPair.long : Int), .bool false, .bool false] 63))
  rw [← E5.out] at HR
  have OH := heap_alloc_new wn (.cells #[encStr (r0.after 1).text, encStr (r0.after 1).afterText.text, .int .u16 ((r0.after 1).afterText.afterText.pair : Int), .int .u32 ((r0.after 1).afterText.afterText.afterPair.long : Int), .bool false, .bool false] 63)
  
  refine (byte_any _ _ _ HR.out.rd).mono ?_
  rintro e w9 ⟨ad9, c9, rfl, hcell9, hc9, hrd9, hC9⟩
  rw [← EF.out] at hcell9
  rw [← E6.out] at hrd9
  have OH := hC9.heap OH (by simp; omega)
  have HR := Lib.hid (HR.out.next hrd9 hC9)
  clear hrd9
  have f4 : w9.frozen? ⟨wn.heap.size, 4, none⟩ = false := Go.Joins.unfrozen_of_block OH 4
  have f5 : w9.frozen? ⟨wn.heap.size, 5, none⟩ = false := Go.Joins.unfrozen_of_block OH 5
  have k4 : w9.cell? ⟨wn.heap.size, 4, none⟩ = some (.bool false) := cell_of_row _ _ 4 _ _ _ OH
  have k5 : w9.cell? ⟨wn.heap.size, 5, none⟩ = some (.bool false) := cell_of_row _ _ 5 _ _ _ OH
  go_upto_region 10 with fail
  have OH := Go.Joins.block_setCell (i := 4) OH (.bool (bits .and .u8 (f : Int) 1 != 0))
  have OH := Go.Joins.block_setCell (i := 5) OH (.bool (bits .and .u8 (f : Int) 2 != 0))
  have hC := (((Chg.refl [wn.heap.size] w9).setCell (p := ⟨wn.heap.size, 4, none⟩) (by simp) (.bool (bits .and .u8 (f : Int) 1 != 0))).setCell (p := ⟨wn.heap.size, 5, none⟩) (by simp) (.bool (bits .and .u8 (f : Int) 2 != 0)))
  rw [flag1 f hf, flag2 f hf] at *
  have HR := Lib.hid (HR.out.other hC (by simp; omega))
  clear hC k4 k5 f4 f5 hcell9 hC9 hc9
  generalize (w9.setCell _ _).setCell _ _ = wa at *
  obtain ⟨A6, c6, ho6, hb6, hl6, hm6, hap6⟩ := HR.out.rd
  have k0 : wa.cell? ⟨w.heap.size + 1, 0, none⟩ = some (.slice A6 r6.rest.length c6) := rdObj_cell ho6 0
  have k1 : wa.cell? ⟨w.heap.size + 1, 1, none⟩ = some (.bool r6.bad) := rdObj_cell ho6 1
  have f1 := rdObj_free ho6 1
  have HO6 := Lib.hid ho6
  have hfin : ∀ v : Bool, Reads w g F S (wa.setCell ⟨w.heap.size + 1, 1, none⟩ (.bool v)) ⟨r6.rest, v⟩ := fun v => by
    have hc : Chg [w.heap.size + 1] wa (wa.setCell ⟨w.heap.size + 1, 1, none⟩ (.bool v)) := (Chg.refl _ _).setCell (by simp) _
    have ho2 : (wa.setCell ⟨w.heap.size + 1, 1, none⟩ (.bool v)).heap[w.heap.size + 1]? = some (rdObj A6 r6.rest.length c6 v) := Go.Joins.block_setCell (i := 1) HO6.out _
    exact HR.out.next ⟨A6, c6, ho2, RdB.chg hb6 hc (fun ad e hi => by have := hap6 ad e; simp at hi; omega), hl6, hm6, hap6⟩ hc
  have hox : ∀ v : Bool, (wa.setCell ⟨w.heap.size + 1, 1, none⟩ (.bool v)).heap[wn.heap.size]? = _ := fun v =>
    ((Chg.refl [w.heap.size + 1] wa).setCell (p := ⟨w.heap.size + 1, 1, none⟩) (by simp) (.bool v)).heap OH (by simp; omega)
  have HFIN := Lib.hid hfin
  have HOX := Lib.hid hox
  have hfalse : ∀ W, Below w.heap.size w W → applied S b = (false, S) → Applied w g F S (applied S b) (.returned (.bool false)) W := fun W hB e => by
    rw [e]; exact ⟨F, rfl, HS.out.below hB, Chg.of_below F hB, NewIn.refl _ _⟩
  have HFALSE := Lib.hid hfalse
  clear ho6 hb6 hl6 hfin hox OH hap6 hfalse
  cases hbd : r6.bad with
  | true =>
    rw [hbd] at k1
    have HBD := Lib.hid hbd
    clear hbd
    go_wp2
    go_ret
    exact HFALSE.out _ (HFIN.out true).below (by rw [HX.out, if_neg]; rintro ⟨h1, _⟩; rw [HBD.out] at h1; cases h1)
  | false =>
    rw [hbd] at k1
    have HBD := Lib.hid hbd
    clear hbd
    by_cases h3 : f ≤ 3
    · have q1 : ¬ (3 : Int) < (f : Int) := by omega
      cases hrest : r6.rest with
      | cons x y =>
        rw [hrest] at k0
        have q2 : ((List.length (x :: y) : Int) == 0) = false := by simp; omega
        have HREST := Lib.hid hrest
        clear hrest
        go_wp2
        go_ret
        exact HFALSE.out _ (HFIN.out false).below (by rw [HX.out, if_neg]; rintro ⟨_, _, h1⟩; rw [HREST.out] at h1; cases h1)
      | nil =>
        rw [hrest] at k0
        have hX2 := HX.out
        rw [if_pos ⟨HBD.out, h3, hrest⟩] at hX2
        have hcl := apply1_any (wa.setCell ⟨w.heap.size + 1, 1, none⟩ (.bool false)) g F S (HS.out.below (HFIN.out false).below) HFIT.out hp hll w.heap.size wn.heap.size (HFIN.out false).box _ HGO.out (HOX.out false)
        have hB := (HFIN.out false).below
        generalize (Edit.putH _) = o at *
        have HX2 := Lib.hid hX2
        have HCL := Lib.hid hcl
        have HB := Lib.hid hB
        clear hcl hB hX2 hrest
        go_wp2_with (first
          | (go_at_call 143; (with_reducible refine HCL.out.mono ?_); rintro e w2 ⟨F1, rfl, h1, hc1, hn1⟩)
          | fail)
        go_ret
        have hend : Applied w g F S (applied S b) (.returned (.bool (o.er S == 0))) w2 := by
          rw [HX2.out]
          exact ⟨F1, rfl, h1, (Chg.of_below F HB.out).then_ hc1, hn1.later HB.out.size⟩
        exact hend
    · have q1 : (3 : Int) < (f : Int) := by omega
      have H3 := Lib.hid h3
      clear h3
      go_wp2
      go_ret
      exact HFALSE.out _ (HFIN.out true).below (by rw [HX.out, if_neg]; rintro ⟨_, h1, _⟩; exact H3.out h1)
end Go.Proofs.YthbbmpelldglmaaDoor
/- Package subscribers: 'apply' at the other kinds of entries. -/
namespace Go.Proofs.YthbbmpelldglmaaDoor
set_option linter.unusedVariables false
set_option linter.unusedSimpArgs false
open Go.RowKit

set_option maxHeartbeats 4000000 in
set_option maxRecDepth 100000 in
theorem apply_k2 (w : World) (g : Nat) (F : List Nat) (S : St) (h : StAt w g F S) (hfit : S.Fit) (hp : S.puts < 4096) (hll : S.log.length ≤ 100000000) (A : Option Addr) (b : List UInt8) (c : Nat) (hA : RdB w A b) (hl : ∀ ad, A = some ad → ad.block < w.heap.size) (hc : b.length ≤ c) (hcm : c ≤ 9223372036854775807)
    (hk : (Rdr.mk b false).byte = 2) :
    Calls Tryd.prog 98 #[.pointer (some ⟨g, 0, none⟩), .slice A b.length c] w (Applied w g F S (applied S b)) := by
  have hr0 := Reads.start (F := F) (S := S) (g := g) A b c hA hl hc hcm
  have hk' : (Rdr.mk b false).byte.toNat = 2 := by rw [hk]; rfl
  have hX : applied S b = (let r0 : Rdr := ⟨b, false⟩
      let r1 := r0.after 1
      let r2 := r1.afterText
      let r3 := r2.afterText
      let r4 := r3.afterPair
      let r5 := r4.afterLong
      let r6 := r5.afterPair
      let r7 := r6.afterText
      let x : Edit := .putV ⟨r1.text, r2.text, r3.pair, r4.long, r5.pair, r6.text⟩
      if r7.bad = false ∧ r7.rest = [] then (decide (x.er S = 0), x.after S) else (false, S)) := by
    unfold applied parsed
    simp only [hk, if_true, show ¬ ((2 : UInt8) = 1) from by decide, if_false]
    split <;> rename_i h1 <;> split at h1 <;> rename_i h2
    · cases h1; rw [if_pos h2]
    · cases h1
    · cases h1
    · rw [if_neg h2]
  simp only at hX
  generalize Rdr.mk b false = r0 at *
  have HR := Lib.hid hr0
  have HS := Lib.hid h
  have HFIT := Lib.hid hfit
  have HK := Lib.hid hk'
  clear hr0 h hfit hk hk'
  obtain ⟨r1, e1⟩ : ∃ r, r = r0.after 1 := ⟨_, rfl⟩
  rw [← e1] at hX
  obtain ⟨r2, e2⟩ : ∃ r, r = r1.afterText := ⟨_, rfl⟩
  rw [← e2] at hX
  obtain ⟨r3, e3⟩ : ∃ r, r = r2.afterText := ⟨_, rfl⟩
  rw [← e3] at hX
  obtain ⟨r4, e4⟩ : ∃ r, r = r3.afterPair := ⟨_, rfl⟩
  rw [← e4] at hX
  obtain ⟨r5, e5⟩ : ∃ r, r = r4.afterLong := ⟨_, rfl⟩
  rw [← e5] at hX
  obtain ⟨r6, e6⟩ : ∃ r, r = r5.afterPair := ⟨_, rfl⟩
  rw [← e6] at hX
  obtain ⟨r7, e7⟩ : ∃ r, r = r6.afterText := ⟨_, rfl⟩
  rw [← e7] at hX
  have HX := Lib.hid hX
  have hgo : (Edit.putV ⟨r1.text, r2.text, r3.pair, r4.long, r5.pair, r6.text⟩).Go := by
    have t1 := r1.text_len
    have t2 := r2.text_len
    have t3 := r6.text_len
    exact ⟨⟨Rdr.pair_lt _, Rdr.long_lt _, Rdr.pair_lt _⟩, by simp only [maxLen]; omega, by simp only [maxLen]; omega, by simp only [maxLen]; omega⟩
  have HGO := Lib.hid hgo
  have E1 := Lib.hid e1
  have E2 := Lib.hid e2
  have E3 := Lib.hid e3
  have E4 := Lib.hid e4
  have E5 := Lib.hid e5
  have E6 := Lib.hid e6
  have E7 := Lib.hid e7
  clear e1 e2 e3 e4 e5 e6 e7 hX hgo
  go_enter Tryd.func98, Tryd.ntmps98
  go_upto_region 21 with (first
    | (go_at_call 140; (with_reducible refine (byte_any _ _ _ HR.out.rd).mono ?_); rintro e wn ⟨ad, cn, rfl, hcell, hcn, hrdn, hCn⟩; (try (rw [HK.out] at hcell; simp only [show ((2 : Nat) : Int) = 2 from rfl] at hcell)); (first | rw [← E1.out] at hrdn | rw [← E2.out] at hrdn | rw [← E3.out] at hrdn | rw [← E4.out] at hrdn | rw [← E5.out] at hrdn | rw [← E6.out] at hrdn | rw [← E7.out] at hrdn); have HR := Lib.hid (HR.out.next hrdn hCn); clear hrdn hCn)
    | (go_at_call 139; (with_reducible refine (rtext_any _ _ _ HR.out.rd).mono ?_); rintro e wn ⟨rfl, hrdn, hCn⟩; (first | rw [← E1.out] at hrdn | rw [← E2.out] at hrdn | rw [← E3.out] at hrdn | rw [← E4.out] at hrdn | rw [← E5.out] at hrdn | rw [← E6.out] at hrdn | rw [← E7.out] at hrdn); have HR := Lib.hid (HR.out.next hrdn hCn); clear hrdn hCn)
    | (go_at_call 141; (with_reducible refine (rpair_any _ _ _ HR.out.rd).mono ?_); rintro e wn ⟨rfl, hrdn, hCn⟩; (first | rw [← E1.out] at hrdn | rw [← E2.out] at hrdn | rw [← E3.out] at hrdn | rw [← E4.out] at hrdn | rw [← E5.out] at hrdn | rw [← E6.out] at hrdn | rw [← E7.out] at hrdn); have HR := Lib.hid (HR.out.next hrdn hCn); clear hrdn hCn)
    | (go_at_call 142; (with_reducible refine (rlong_any _ _ _ HR.out.rd).mono ?_); rintro e wn ⟨rfl, hrdn, hCn⟩; (first | rw [← E1.out] at hrdn | rw [← E2.out] at hrdn | rw [← E3.out] at hrdn | rw [← E4.out] at hrdn | rw [← E5.out] at hrdn | rw [← E6.out] at hrdn | rw [← E7.out] at hrdn); have HR := Lib.hid (HR.out.next hrdn hCn); clear hrdn hCn)
    | fail)
  have hwn : w.heap.size + 1 < wn.heap.size := HR.out.rd.lt
  have OH := heap_alloc_new wn (.cells #[encStr r1.text, encStr r2.text, .int .u16 (r3.pair : Int), .int .u32 (r4.long : Int), .int .u16 (r5.pair : Int), encStr r6.text] 172)
  have HR := Lib.hid (HR.out.alloc (.cells #[encStr r1.text, encStr r2.text, .int .u16 (r3.pair : Int), .int .u32 (r4.long : Int), .int .u16 (r5.pair : Int), encStr r6.text] 172))
  generalize ewa : wn.alloc _ = wa at *
  obtain ⟨A6, c6, ho6, hb6, hl6, hm6, hap6⟩ := HR.out.rd
  have k0 : wa.cell? ⟨w.heap.size + 1, 0, none⟩ = some (.slice A6 r7.rest.length c6) := rdObj_cell ho6 0
  have k1 : wa.cell? ⟨w.heap.size + 1, 1, none⟩ = some (.bool r7.bad) := rdObj_cell ho6 1
  have HOX := Lib.hid OH
  have hfalse : ∀ W, Below w.heap.size w W → applied S b = (false, S) → Applied w g F S (applied S b) (.returned (.bool false)) W := fun W hB e => by
    rw [e]; exact ⟨F, rfl, HS.out.below hB, Chg.of_below F hB, NewIn.refl _ _⟩
  have HFALSE := Lib.hid hfalse
  clear ho6 hb6 hl6 OH hap6 hfalse ewa
  cases hbd : r7.bad with
  | true =>
    rw [hbd] at k1
    have HBD := Lib.hid hbd
    clear hbd
    go_wp2
    go_ret
    exact HFALSE.out _ HR.out.below (by rw [HX.out, if_neg]; rintro ⟨h1, _⟩; rw [HBD.out] at h1; cases h1)
  | false =>
    rw [hbd] at k1
    have HBD := Lib.hid hbd
    clear hbd
    cases hrest : r7.rest with
    | cons x y =>
      rw [hrest] at k0
      have q2 : ((List.length (x :: y) : Int) == 0) = false := by simp; omega
      have HREST := Lib.hid hrest
      clear hrest
      go_wp2
      go_ret
      exact HFALSE.out _ HR.out.below (by rw [HX.out, if_neg]; rintro ⟨_, h1⟩; rw [HREST.out] at h1; cases h1)
    | nil =>
      rw [hrest] at k0
      have hX2 := HX.out
      rw [if_pos ⟨HBD.out, hrest⟩] at hX2
      have hcl := apply2_any wa g F S (HS.out.below HR.out.below) HFIT.out hp hll w.heap.size wn.heap.size HR.out.box _ HGO.out HOX.out
      have hB := HR.out.below
      generalize (Edit.putV _) = o at *
      have HX2 := Lib.hid hX2
      have HCL := Lib.hid hcl
      have HB := Lib.hid hB
      clear hcl hB hX2 hrest
      go_wp2_with (first
        | (go_at_call 144; (with_reducible refine HCL.out.mono ?_); rintro e w2 ⟨F1, rfl, h1, hc1, hn1⟩)
        | fail)
      go_ret
      have hend : Applied w g F S (applied S b) (.returned (.bool (o.er S == 0))) w2 := by
        rw [HX2.out]
        exact ⟨F1, rfl, h1, (Chg.of_below F HB.out).then_ hc1, hn1.later HB.out.size⟩
      exact hend

set_option maxHeartbeats 4000000 in
set_option maxRecDepth 100000 in
theorem apply_k3 (w : World) (g : Nat) (F : List Nat) (S : St) (h : StAt w g F S) (hfit : S.Fit) (hll : S.log.length ≤ 100000000) (A : Option Addr) (b : List UInt8) (c : Nat) (hA : RdB w A b) (hl : ∀ ad, A = some ad → ad.block < w.heap.size) (hc : b.length ≤ c) (hcm : c ≤ 9223372036854775807)
    (hk : (Rdr.mk b false).byte = 3) :
    Calls Tryd.prog 98 #[.pointer (some ⟨g, 0, none⟩), .slice A b.length c] w (Applied w g F S (applied S b)) := by
  have hr0 := Reads.start (F := F) (S := S) (g := g) A b c hA hl hc hcm
  have hk' : (Rdr.mk b false).byte.toNat = 3 := by rw [hk]; rfl
  have hX : applied S b = (let r0 : Rdr := ⟨b, false⟩
      let r1 := r0.after 1
      let r2 := r1.afterText
      let x : Edit := .dropH r1.text
      if r2.bad = false ∧ r2.rest = [] then (decide (x.er S = 0), x.after S) else (false, S)) := by
    unfold applied parsed
    simp only [hk, if_true, show ¬ ((3 : UInt8) = 1) from by decide, show ¬ ((3 : UInt8) = 2) from by decide, if_false]
    split <;> rename_i h1 <;> split at h1 <;> rename_i h2
    · cases h1; rw [if_pos h2]
    · cases h1
    · cases h1
    · rw [if_neg h2]
  simp only at hX
  generalize Rdr.mk b false = r0 at *
  have HR := Lib.hid hr0
  have HS := Lib.hid h
  have HFIT := Lib.hid hfit
  have HK := Lib.hid hk'
  clear hr0 h hfit hk hk'
  obtain ⟨r1, e1⟩ : ∃ r, r = r0.after 1 := ⟨_, rfl⟩
  rw [← e1] at hX
  obtain ⟨r2, e2⟩ : ∃ r, r = r1.afterText := ⟨_, rfl⟩
  rw [← e2] at hX
  have HX := Lib.hid hX
  have hgo : (Edit.dropH r1.text).Go := by
    have t1 := r1.text_len
    show _ ≤ maxLen
    simp only [maxLen]; omega
  have HGO := Lib.hid hgo
  have E1 := Lib.hid e1
  have E2 := Lib.hid e2
  clear e1 e2 hX hgo
  go_enter Tryd.func98, Tryd.ntmps98
  go_upto_region 21 with (first
    | (go_at_call 140; (with_reducible refine (byte_any _ _ _ HR.out.rd).mono ?_); rintro e wn ⟨ad, cn, rfl, hcell, hcn, hrdn, hCn⟩; (try (rw [HK.out] at hcell; simp only [show ((3 : Nat) : Int) = 3 from rfl] at hcell)); (first | rw [← E1.out] at hrdn | rw [← E2.out] at hrdn); have HR := Lib.hid (HR.out.next hrdn hCn); clear hrdn hCn)
    | (go_at_call 139; (with_reducible refine (rtext_any _ _ _ HR.out.rd).mono ?_); rintro e wn ⟨rfl, hrdn, hCn⟩; (first | rw [← E1.out] at hrdn | rw [← E2.out] at hrdn); have HR := Lib.hid (HR.out.next hrdn hCn); clear hrdn hCn)
    | (go_at_call 141; (with_reducible refine (rpair_any _ _ _ HR.out.rd).mono ?_); rintro e wn ⟨rfl, hrdn, hCn⟩; (first | rw [← E1.out] at hrdn | rw [← E2.out] at hrdn); have HR := Lib.hid (HR.out.next hrdn hCn); clear hrdn hCn)
    | (go_at_call 142; (with_reducible refine (rlong_any _ _ _ HR.out.rd).mono ?_); rintro e wn ⟨rfl, hrdn, hCn⟩; (first | rw [← E1.out] at hrdn | rw [← E2.out] at hrdn); have HR := Lib.hid (HR.out.next hrdn hCn); clear hrdn hCn)
    | fail)
  have hwn : w.heap.size + 1 < wn.heap.size := HR.out.rd.lt
  have OH := heap_alloc_new wn (.cells #[encStr r1.text] 9)
  have HR := Lib.hid (HR.out.alloc (.cells #[encStr r1.text] 9))
  generalize ewa : wn.alloc _ = wa at *
  obtain ⟨A6, c6, ho6, hb6, hl6, hm6, hap6⟩ := HR.out.rd
  have k0 : wa.cell? ⟨w.heap.size + 1, 0, none⟩ = some (.slice A6 r2.rest.length c6) := rdObj_cell ho6 0
  have k1 : wa.cell? ⟨w.heap.size + 1, 1, none⟩ = some (.bool r2.bad) := rdObj_cell ho6 1
  have HOX := Lib.hid OH
  have hfalse : ∀ W, Below w.heap.size w W → applied S b = (false, S) → Applied w g F S (applied S b) (.returned (.bool false)) W := fun W hB e => by
    rw [e]; exact ⟨F, rfl, HS.out.below hB, Chg.of_below F hB, NewIn.refl _ _⟩
  have HFALSE := Lib.hid hfalse
  clear ho6 hb6 hl6 OH hap6 hfalse ewa
  cases hbd : r2.bad with
  | true =>
    rw [hbd] at k1
    have HBD := Lib.hid hbd
    clear hbd
    go_wp2
    go_ret
    exact HFALSE.out _ HR.out.below (by rw [HX.out, if_neg]; rintro ⟨h1, _⟩; rw [HBD.out] at h1; cases h1)
  | false =>
    rw [hbd] at k1
    have HBD := Lib.hid hbd
    clear hbd
    cases hrest : r2.rest with
    | cons x y =>
      rw [hrest] at k0
      have q2 : ((List.length (x :: y) : Int) == 0) = false := by simp; omega
      have HREST := Lib.hid hrest
      clear hrest
      go_wp2
      go_ret
      exact HFALSE.out _ HR.out.below (by rw [HX.out, if_neg]; rintro ⟨_, h1⟩; rw [HREST.out] at h1; cases h1)
    | nil =>
      rw [hrest] at k0
      have hX2 := HX.out
      rw [if_pos ⟨HBD.out, hrest⟩] at hX2
      have hcl := apply3_any wa g F S (HS.out.below HR.out.below) HFIT.out hll w.heap.size wn.heap.size HR.out.box _ HGO.out (cell_of_row _ _ 0 _ _ _ HOX.out)
      have hB := HR.out.below
      generalize (Edit.dropH _) = o at *
      have HX2 := Lib.hid hX2
      have HCL := Lib.hid hcl
      have HB := Lib.hid hB
      clear hcl hB hX2 hrest
      go_wp2_with (first
        | (go_at_call 145; (with_reducible refine HCL.out.mono ?_); rintro e w2 ⟨F1, rfl, h1, hc1, hn1⟩)
        | fail)
      go_ret
      have hend : Applied w g F S (applied S b) (.returned (.bool (o.er S == 0))) w2 := by
        rw [HX2.out]
        exact ⟨F1, rfl, h1, (Chg.of_below F HB.out).then_ hc1, hn1.later HB.out.size⟩
      exact hend

set_option maxHeartbeats 4000000 in
set_option maxRecDepth 100000 in
theorem apply_k4 (w : World) (g : Nat) (F : List Nat) (S : St) (h : StAt w g F S) (hfit : S.Fit) (hll : S.log.length ≤ 100000000) (A : Option Addr) (b : List UInt8) (c : Nat) (hA : RdB w A b) (hl : ∀ ad, A = some ad → ad.block < w.heap.size) (hc : b.length ≤ c) (hcm : c ≤ 9223372036854775807)
    (hk : (Rdr.mk b false).byte = 4) :
    Calls Tryd.prog 98 #[.pointer (some ⟨g, 0, none⟩), .slice A b.length c] w (Applied w g F S (applied S b)) := by
  have hr0 := Reads.start (F := F) (S := S) (g := g) A b c hA hl hc hcm
  have hk' : (Rdr.mk b false).byte.toNat = 4 := by rw [hk]; rfl
  have hX : applied S b = (let r0 : Rdr := ⟨b, false⟩
      let r1 := r0.after 1
      let r2 := r1.afterText
      let x : Edit := .dropV r1.text
      if r2.bad = false ∧ r2.rest = [] then (decide (x.er S = 0), x.after S) else (false, S)) := by
    unfold applied parsed
    simp only [hk, if_true, show ¬ ((4 : UInt8) = 1) from by decide, show ¬ ((4 : UInt8) = 2) from by decide, show ¬ ((4 : UInt8) = 3) from by decide, if_false]
    split <;> rename_i h1 <;> split at h1 <;> rename_i h2
    · cases h1; rw [if_pos h2]
    · cases h1
    · cases h1
    · rw [if_neg h2]
  simp only at hX
  generalize Rdr.mk b false = r0 at *
  have HR := Lib.hid hr0
  have HS := Lib.hid h
  have HFIT := Lib.hid hfit
  have HK := Lib.hid hk'
  clear hr0 h hfit hk hk'
  obtain ⟨r1, e1⟩ : ∃ r, r = r0.after 1 := ⟨_, rfl⟩
  rw [← e1] at hX
  obtain ⟨r2, e2⟩ : ∃ r, r = r1.afterText := ⟨_, rfl⟩
  rw [← e2] at hX
  have HX := Lib.hid hX
  have hgo : (Edit.dropV r1.text).Go := by
    have t1 := r1.text_len
    show _ ≤ maxLen
    simp only [maxLen]; omega
  have HGO := Lib.hid hgo
  have E1 := Lib.hid e1
  have E2 := Lib.hid e2
  clear e1 e2 hX hgo
  go_enter Tryd.func98, Tryd.ntmps98
  go_upto_region 21 with (first
    | (go_at_call 140; (with_reducible refine (byte_any _ _ _ HR.out.rd).mono ?_); rintro e wn ⟨ad, cn, rfl, hcell, hcn, hrdn, hCn⟩; (try (rw [HK.out] at hcell; simp only [show ((4 : Nat) : Int) = 4 from rfl] at hcell)); (first | rw [← E1.out] at hrdn | rw [← E2.out] at hrdn); have HR := Lib.hid (HR.out.next hrdn hCn); clear hrdn hCn)
    | (go_at_call 139; (with_reducible refine (rtext_any _ _ _ HR.out.rd).mono ?_); rintro e wn ⟨rfl, hrdn, hCn⟩; (first | rw [← E1.out] at hrdn | rw [← E2.out] at hrdn); have HR := Lib.hid (HR.out.next hrdn hCn); clear hrdn hCn)
    | (go_at_call 141; (with_reducible refine (rpair_any _ _ _ HR.out.rd).mono ?_); rintro e wn ⟨rfl, hrdn, hCn⟩; (first | rw [← E1.out] at hrdn | rw [← E2.out] at hrdn); have HR := Lib.hid (HR.out.next hrdn hCn); clear hrdn hCn)
    | (go_at_call 142; (with_reducible refine (rlong_any _ _ _ HR.out.rd).mono ?_); rintro e wn ⟨rfl, hrdn, hCn⟩; (first | rw [← E1.out] at hrdn | rw [← E2.out] at hrdn); have HR := Lib.hid (HR.out.next hrdn hCn); clear hrdn hCn)
    | fail)
  have hwn : w.heap.size + 1 < wn.heap.size := HR.out.rd.lt
  have OH := heap_alloc_new wn (.cells #[encStr r1.text] 9)
  have HR := Lib.hid (HR.out.alloc (.cells #[encStr r1.text] 9))
  generalize ewa : wn.alloc _ = wa at *
  obtain ⟨A6, c6, ho6, hb6, hl6, hm6, hap6⟩ := HR.out.rd
  have k0 : wa.cell? ⟨w.heap.size + 1, 0, none⟩ = some (.slice A6 r2.rest.length c6) := rdObj_cell ho6 0
  have k1 : wa.cell? ⟨w.heap.size + 1, 1, none⟩ = some (.bool r2.bad) := rdObj_cell ho6 1
  have HOX := Lib.hid OH
  have hfalse : ∀ W, Below w.heap.size w W → applied S b = (false, S) → Applied w g F S (applied S b) (.returned (.bool false)) W := fun W hB e => by
    rw [e]; exact ⟨F, rfl, HS.out.below hB, Chg.of_below F hB, NewIn.refl _ _⟩
  have HFALSE := Lib.hid hfalse
  clear ho6 hb6 hl6 OH hap6 hfalse ewa
  cases hbd : r2.bad with
  | true =>
    rw [hbd] at k1
    have HBD := Lib.hid hbd
    clear hbd
    go_wp2
    go_ret
    exact HFALSE.out _ HR.out.below (by rw [HX.out, if_neg]; rintro ⟨h1, _⟩; rw [HBD.out] at h1; cases h1)
  | false =>
    rw [hbd] at k1
    have HBD := Lib.hid hbd
    clear hbd
    cases hrest : r2.rest with
    | cons x y =>
      rw [hrest] at k0
      have q2 : ((List.length (x :: y) : Int) == 0) = false := by simp; omega
      have HREST := Lib.hid hrest
      clear hrest
      go_wp2
      go_ret
      exact HFALSE.out _ HR.out.below (by rw [HX.out, if_neg]; rintro ⟨_, h1⟩; rw [HREST.out] at h1; cases h1)
    | nil =>
      rw [hrest] at k0
      have hX2 := HX.out
      rw [if_pos ⟨HBD.out, hrest⟩] at hX2
      have hcl := apply4_any wa g F S (HS.out.below HR.out.below) HFIT.out hll w.heap.size wn.heap.size HR.out.box _ HGO.out (cell_of_row _ _ 0 _ _ _ HOX.out)
      have hB := HR.out.below
      generalize (Edit.dropV _) = o at *
      have HX2 := Lib.hid hX2
      have HCL := Lib.hid hcl
      have HB := Lib.hid hB
      clear hcl hB hX2 hrest
      go_wp2_with (first
        | (go_at_call 146; (with_reducible refine HCL.out.mono ?_); rintro e w2 ⟨F1, rfl, h1, hc1, hn1⟩)
        | fail)
      go_ret
      have hend : Applied w g F S (applied S b) (.returned (.bool (o.er S == 0))) w2 := by
        rw [HX2.out]
        exact ⟨F1, rfl, h1, (Chg.of_below F HB.out).then_ hc1, hn1.later HB.out.size⟩
      exact hend

end Go.Proofs.YthbbmpelldglmaaDoor
/- Package subscribers: 'apply'. -/
namespace Go.Proofs.YthbbmpelldglmaaDoor
set_option linter.unusedVariables false
set_option linter.unusedSimpArgs false
open Go.RowKit

set_option maxHeartbeats 4000000 in
set_option maxRecDepth 100000 in
theorem apply_k0 (w : World) (g : Nat) (F : List Nat) (S : St) (h : StAt w g F S) (A : Option Addr) (b : List UInt8) (c : Nat) (hA : RdB w A b) (hl : ∀ ad, A = some ad → ad.block < w.heap.size) (hc : b.length ≤ c) (hcm : c ≤ 9223372036854775807)
    (hk1 : (Rdr.mk b false).byte ≠ 1) (hk2 : (Rdr.mk b false).byte ≠ 2) (hk3 : (Rdr.mk b false).byte ≠ 3) (hk4 : (Rdr.mk b false).byte ≠ 4) :
    Calls Tryd.prog 98 #[.pointer (some ⟨g, 0, none⟩), .slice A b.length c] w (Applied w g F S (applied S b)) := by
  have hr0 := Reads.start (F := F) (S := S) (g := g) A b c hA hl hc hcm
  have hX : applied S b = (false, S) := by
    unfold applied parsed
    simp only [hk1, hk2, hk3, hk4, if_false]
  rw [hX]
  have q : ∀ k : UInt8, (Rdr.mk b false).byte ≠ k → (((Rdr.mk b false).byte.toNat : Int) == (k.toNat : Int)) = false := fun k h => byte_ne h
  have q1 := q 1 hk1
  have q2 := q 2 hk2
  have q3 := q 3 hk3
  have q4 := q 4 hk4
  simp only [show ((1 : UInt8).toNat : Int) = 1 from rfl, show ((2 : UInt8).toNat : Int) = 2 from rfl, show ((3 : UInt8).toNat : Int) = 3 from rfl, show ((4 : UInt8).toNat : Int) = 4 from rfl] at q1 q2 q3 q4
  generalize Rdr.mk b false = r0 at *
  have hby : ∀ W, RdrAt W (w.heap.size + 1) r0 → Calls Tryd.prog 140 #[.pointer (some ⟨w.heap.size + 1, 0, none⟩), .int .i64 1] W fun e w' => ∃ ad c', e = .returned (.slice (some ad) 1 c') ∧ w'.cell? ad = some (.int .u8 (r0.byte.toNat : Int)) ∧ 1 ≤ c' ∧ RdrAt w' (w.heap.size + 1) (r0.after 1) ∧ Chg [w.heap.size + 1] W w' := fun W h => byte_any W _ r0 h
  generalize (r0.byte.toNat : Int) = k at *
  have HR := Lib.hid hr0
  have HS := Lib.hid h
  have HBY := Lib.hid hby
  clear hr0 h hk1 hk2 hk3 hk4 hX q hby
  go_enter Tryd.func98, Tryd.ntmps98
  go_wp2_with (first
    | (go_at_call 140; (with_reducible refine (HBY.out _ HR.out.rd).mono ?_); rintro e wn ⟨ad, cn, rfl, hcell, hcn, hrdn, hCn⟩; have HR := Lib.hid (HR.out.next hrdn hCn); clear hrdn hCn)
    | fail)
  go_ret
  exact ⟨F, rfl, HS.out.below HR.out.below, Chg.of_below F HR.out.below, NewIn.refl _ _⟩

/-- 'apply' -/
theorem apply_any (w : World) (g : Nat) (F : List Nat) (S : St) (h : StAt w g F S) (hfit : S.Fit) (hp : S.puts < 4096) (hll : S.log.length ≤ 100000000) (A : Option Addr) (b : List UInt8) (c : Nat) (hA : RdB w A b) (hl : ∀ ad, A = some ad → ad.block < w.heap.size) (hc : b.length ≤ c) (hcm : c ≤ 9223372036854775807) :
    Calls Tryd.prog 98 #[.pointer (some ⟨g, 0, none⟩), .slice A b.length c] w (Applied w g F S (applied S b)) := by
  by_cases h1 : (Rdr.mk b false).byte = 1
  · exact apply_k1 w g F S h hfit hp hll A b c hA hl hc hcm h1
  by_cases h2 : (Rdr.mk b false).byte = 2
  · exact apply_k2 w g F S h hfit hp hll A b c hA hl hc hcm h2
  by_cases h3 : (Rdr.mk b false).byte = 3
  · exact apply_k3 w g F S h hfit hll A b c hA hl hc hcm h3
  by_cases h4 : (Rdr.mk b false).byte = 4
  · exact apply_k4 w g F S h hfit hll A b c hA hl hc hcm h4
  exact apply_k0 w g F S h A b c hA hl hc hcm h1 h2 h3 h4
end Go.Proofs.YthbbmpelldglmaaDoor
/- Package subscribers: the replay of a log, plain. -/
namespace Go.Proofs.YthbbmpelldglmaaDoor
set_option linter.unusedVariables false
set_option linter.unusedSimpArgs false
open Go.RowKit

/-- the number in the first two bytes -/
def lenAt (l : List UInt8) : Nat := (l.getD 0 0).toNat + 256 * (l.getD 1 0).toNat
/-- the body of the first entry, if it is whole and its check sequence is right -/
def front (l : List UInt8) : Option (List UInt8) :=
  if 2 ≤ l.length ∧ lenAt l + 4 ≤ l.length ∧ (l.drop (lenAt l + 2)).take 2 = fcs (l.take (lenAt l + 2)) then some ((l.take (lenAt l + 2)).drop 2) else none
theorem front_some {l b : List UInt8} (h : front l = some b) : 2 ≤ l.length ∧ lenAt l + 4 ≤ l.length ∧ (l.drop (lenAt l + 2)).take 2 = fcs (l.take (lenAt l + 2)) ∧ b = (l.take (lenAt l + 2)).drop 2 := by
  unfold front at h
  split at h
  · rename_i h1
    cases h
    exact ⟨h1.1, h1.2.1, h1.2.2, rfl⟩
  · cases h
theorem front_len {l b : List UInt8} (h : front l = some b) : b.length = lenAt l ∧ b.length + 4 ≤ l.length := by
  obtain ⟨h1, h2, h3, rfl⟩ := front_some h
  have : ((l.take (lenAt l + 2)).drop 2).length = lenAt l := by rw [List.length_drop, List.length_take]; omega
  omega
/-- from the store S on the bytes l: the store behind the replay, and how many bytes were replayed -/
inductive Plays : St → List UInt8 → St → Nat → Prop where
  | stop {S l} (h : ∀ b, front l = some b → (applied S b).1 = false) : Plays S l S 0
  | step {S l b S' T n} (h1 : front l = some b) (h2 : applied S b = (true, S')) (h3 : Plays S' (l.drop (b.length + 4)) T n) : Plays S l T (b.length + 4 + n)
theorem Plays.one {S l T n} (h : Plays S l T n) : ∀ {T' n'}, Plays S l T' n' → T = T' ∧ n = n' := by
  induction h with
  | stop h =>
    intro T' n' h'
    cases h' with
    | stop _ => exact ⟨rfl, rfl⟩
    | step h1 h2 _ => have := h _ h1; rw [h2] at this; cases this
  | step h1 h2 h3 ih =>
    intro T' n' h'
    cases h' with
    | stop h => have := h _ h1; rw [h2] at this; cases this
    | step g1 g2 g3 =>
      rw [h1] at g1
      cases g1
      rw [h2] at g2
      cases g2
      obtain ⟨e1, e2⟩ := ih g3
      exact ⟨e1, by rw [e2]⟩
theorem Plays.le {S l T n} (h : Plays S l T n) : n ≤ l.length := by
  induction h with
  | stop h => omega
  | step h1 h2 h3 ih =>
    have := (front_len h1).2
    rw [List.length_drop] at ih
    omega
/-- the way into the bytes -/
inductive Eat (S0 : St) (log : List UInt8) : St → Nat → Prop where
  | start : Eat S0 log S0 0
  | step {S b S' k} (h : Eat S0 log S k) (h1 : front (log.drop k) = some b) (h2 : applied S b = (true, S')) : Eat S0 log S' (k + (b.length + 4))
theorem Eat.plays {S0 log S k} (h : Eat S0 log S k) : ∀ {T n}, Plays S (log.drop k) T n → Plays S0 log T (k + n) := by
  induction h with
  | start => intro T n h; simpa using h
  | step h h1 h2 ih =>
    intro T n h3
    have h4 : Plays _ _ T _ := Plays.step h1 h2 (by rw [List.drop_drop]; exact h3)
    have := ih h4
    rw [Nat.add_assoc]
    exact this
theorem textLen (r : Rdr) : (textB r.text).length ≤ 256 := by rw [textB_len]; have := r.text_len; omega
theorem parsed_go {b : List UInt8} {o : Edit} (h : parsed b = some o) : o.Go ∧ o.ent.length ≤ 1000 := by
  have el : ∀ (k : UInt8) (f : List UInt8), f.length ≤ 900 → (entryB k f).length ≤ 1000 := fun k f hf => by
    unfold entryB bodyB
    simp only [List.length_append, pairB_len, fcs_len, List.length_cons, List.length_nil]
    omega
  have tl : ∀ r : Rdr, r.text.length ≤ maxLen := fun r => by have := r.text_len; simp only [maxLen]; omega
  unfold parsed at h
  extract_lets r0 r1 r2 r3 r4 r5 r6 v6 v7 at h
  clear_value v7 v6 r6 r5 r4 r3 r2 r1 r0
  split at h
  · split at h
    · injection h with h
      subst h
      refine ⟨⟨⟨Rdr.pair_lt _, Rdr.long_lt _⟩, tl _, tl _⟩, el _ _ ?_⟩
      unfold Edit.fields HomeR.fields
      simp only [List.length_append, pairB_len, longB_len, List.length_cons, List.length_nil]
      have h1 := textLen r1
      have h2 := textLen r2
      omega
    · cases h
  · split at h
    · split at h
      · injection h with h
        subst h
        refine ⟨⟨⟨Rdr.pair_lt _, Rdr.long_lt _, Rdr.pair_lt _⟩, tl _, tl _, tl _⟩, el _ _ ?_⟩
        unfold Edit.fields VisitR.fields
        simp only [List.length_append, pairB_len, longB_len, List.length_cons, List.length_nil]
        have h1 := textLen r1
        have h2 := textLen r2
        have h3 := textLen v6
        omega
      · cases h
    · split at h
      · split at h
        · injection h with h
          subst h
          refine ⟨tl _, el _ _ ?_⟩
          have h1 := textLen r1
          exact Nat.le_trans h1 (by omega)
        · cases h
      · split at h
        · split at h
          · injection h with h
            subst h
            refine ⟨tl _, el _ _ ?_⟩
            have h1 := textLen r1
            exact Nat.le_trans h1 (by omega)
          · cases h
        · cases h
/-- what holds of the store under way -/
structure Way (S : St) (k : Nat) : Prop where
  fit : S.Fit
  puts : 4 * S.puts ≤ k
  log : S.log.length ≤ 250 * k
theorem applied_true {S S' : St} {b : List UInt8} (h : applied S b = (true, S')) : ∃ o, parsed b = some o ∧ o.er S = 0 ∧ S' = o.after S := by
  unfold applied at h
  split at h
  · rename_i o ho
    injection h with h1 h2
    exact ⟨o, ho, by simpa using h1, h2.symm⟩
  · cases h
theorem applied_false {S : St} {b : List UInt8} (h : (applied S b).1 = false) : (applied S b).2 = S := by
  unfold applied at h ⊢
  split at h
  · rename_i o ho
    exact Edit.bad (by simpa using h)
  · rfl
theorem Way.step {S S' : St} {k : Nat} {b : List UInt8} (h : Way S k) (ha : applied S b = (true, S')) : Way S' (k + (b.length + 4)) := by
  obtain ⟨o, ho, he, rfl⟩ := applied_true ha
  obtain ⟨hg, hl⟩ := parsed_go ho
  have h1 := o.after_puts S
  have h2 := o.after_log S
  rw [if_pos he] at h2
  refine ⟨o.fit h.fit hg, by have := h.puts; omega, ?_⟩
  rw [h2, List.length_append]
  have := h.log
  omega
theorem Way.start (l : List UInt8) (d p : Nat) : Way ⟨[], [], [], d, 0⟩ 0 where
  fit := ⟨by simp, by simp, by simp, by simp, by simp [roamers], by simp⟩
  puts := by simp
  log := by simp
end Go.Proofs.YthbbmpelldglmaaDoor
/- Package subscribers: the log of a store: Log, Sync. -/
namespace Go.Proofs.YthbbmpelldglmaaDoor
set_option linter.unusedVariables false
set_option linter.unusedSimpArgs false
open Go.RowKit

/-- the store's own block, and what another log in it makes of the store -/
theorem StAt.obj {w : World} {g : Nat} {F : List Nat} {S : St} (h : StAt w g F S) : ∃ m1 m2 m3 m4 A c, w.heap[g]? = some (stObj m1 m2 m3 m4 A S.log.length c S.dur) ∧ RowB w 0 A c S.log ∧ g ∉ blk A ∧ (∀ i ∈ blk A, i ∈ F) ∧ g ∈ F ∧
    ∀ (w' : World) (A' : Option Addr) (c' d : Nat) (l : List UInt8), w'.heap[g]? = some (stObj m1 m2 m3 m4 A' l.length c' d) → RowB w' 0 A' c' l → Chg [g] w w' → ∃ F', StAt w' g F' { S with log := l, dur := d } ∧ ∀ i ∈ F', i ∈ F ∨ i ∈ blk A' := by
  rcases h with ⟨b1, b2, b3, b4, A, c, rfl, h⟩ | ⟨A, c, rfl, h⟩
  · have hap := h.apart
    refine ⟨_, _, _, _, A, c, h.obj, h.log, hap.2.1, fun i hi => by simp [hi], by simp, fun w' A' c' d l ho hr hc => ⟨g :: b1 :: b2 :: b3 :: b4 :: blk A', .inl ⟨b1, b2, b3, b4, A', c', rfl, ho, hr, ?_⟩, fun i hi => by simp at hi ⊢; rcases hi with h | h | h | h | h | h <;> simp [h]⟩⟩
    have hm := h.maps.chg hc (by simp; exact fun e => hap.1.1 e.symm) (by simp; exact fun e => hap.1.2.1 e.symm) (by simp; exact fun e => hap.1.2.2.1 e.symm) (by simp; exact fun e => hap.1.2.2.2 e.symm)
    exact ⟨hm.nodup, hm.homes, hm.visits, hm.numbers, hm.roams⟩
  · exact ⟨_, _, _, _, A, c, h.obj, h.log, stObj_apart h.obj h.log, fun i hi => by simp [hi], by simp, fun w' A' c' d l ho hr hc => ⟨g :: blk A', .inr ⟨A', c', rfl, ho, hr, h.homes, h.visits⟩, fun i hi => by simp at hi ⊢; rcases hi with h | h <;> simp [h]⟩⟩

set_option maxHeartbeats 1000000 in
set_option maxRecDepth 100000 in
/-- 'Log' -/
theorem storeLog_any (w : World) (g : Nat) (F : List Nat) (S : St) (h : StAt w g F S) (hl : S.log.length ≤ 100000000) :
    Calls Tryd.prog 27 #[.pointer (some ⟨g, 0, none⟩)] w fun e w' => ∃ A', e = .returned (.slice A' S.log.length S.log.length) ∧ RowB w' w.heap.size A' S.log.length S.log ∧ Below w.heap.size w w' := by
  obtain ⟨m1, m2, m3, m4, A, c, ho, hr, _⟩ := h.obj
  have k4 : w.cell? ⟨g, 4, none⟩ = some (.slice A S.log.length c) := stObj_cell ho 4
  have hcl := clone_any A c S.log w hr.rd (by omega)
  have HCL := Lib.hid hcl
  clear hcl h ho hr
  generalize S.log = L at *
  go_enter Tryd.func27, Tryd.ntmps27
  go_wp2_with (first
    | (go_at_call 70; (with_reducible refine HCL.out.mono ?_); rintro e w2 ⟨A2, c2, rfl, hR, hB2⟩; have hle := Row.le hR; have hcap := Row.cap_le hR)
    | (go_at_call 62; go_must (refine (clip_any _ _ _ _ hle hcap).mono ?_); rintro e w3 ⟨rfl, rfl⟩)
    | fail)
  go_ret
  exact ⟨A2, rfl, Row.clip hR, hB2⟩

set_option maxHeartbeats 1000000 in
set_option maxRecDepth 100000 in
/-- 'Sync' -/
theorem storeSync_any (w : World) (g : Nat) (F : List Nat) (S : St) (h : StAt w g F S) :
    Calls Tryd.prog 42 #[.pointer (some ⟨g, 0, none⟩)] w fun e w' => ∃ F', e = .returned (.int .i64 (S.log.length : Int)) ∧ StAt w' g F' { S with dur := S.log.length } ∧ Chg F w w' ∧ NewIn w F F' := by
  obtain ⟨m1, m2, m3, m4, A, c, ho, hr, hgA, hAF, hgF, hset⟩ := h.obj
  have k4 : w.cell? ⟨g, 4, none⟩ = some (.slice A S.log.length c) := stObj_cell ho 4
  have k5 : w.cell? ⟨g, 5, none⟩ = some (.int .i64 (S.dur : Int)) := stObj_cell ho 5
  have f5 := stObj_free ho 5
  have ho2 : (w.setCell ⟨g, 5, none⟩ (.int .i64 (S.log.length : Int))).heap[g]? = some (stObj m1 m2 m3 m4 A S.log.length c S.log.length) := Go.Joins.block_setCell (i := 5) ho _
  have hc2 : Chg [g] w (w.setCell ⟨g, 5, none⟩ (.int .i64 (S.log.length : Int))) := (Chg.refl _ _).setCell (by simp) _
  obtain ⟨F', h2, hF'⟩ := hset _ A c S.log.length S.log ho2 (Row.chg hr hc2 (fun k e hi => hgA (by simp at hi; subst hi; exact mem_blk.2 e))) hc2
  have hc3 := hc2.mono (F1 := F) (fun i hi => by simp at hi; subst hi; exact hgF)
  have hn3 : NewIn w F F' := fun i hi => (hF' i hi).elim .inl (fun h3 => .inl (hAF i h3))
  have H2 := Lib.hid (And.intro h2 (And.intro hc3 hn3))
  clear h ho hr hset ho2 hc2 h2 hF' hc3 hn3
  generalize S.log.length = L at *
  go_enter Tryd.func42, Tryd.ntmps42
  go_wp2
  go_ret
  exact ⟨F', rfl, H2.out.1, H2.out.2.1, H2.out.2.2⟩
end Go.Proofs.YthbbmpelldglmaaDoor
/- Package subscribers: the replay of what a store has written. Plain. -/
namespace Go.Proofs.YthbbmpelldglmaaDoor
set_option linter.unusedVariables false
set_option linter.unusedSimpArgs false
open Go.RowKit

theorem rd_byte (x : UInt8) (r : List UInt8) (bad : Bool) : (Rdr.mk (x :: r) bad).byte = x ∧ (Rdr.mk (x :: r) bad).after 1 = ⟨r, bad⟩ := by
  unfold Rdr.byte Rdr.take Rdr.after
  simp
theorem rd_after (a r : List UInt8) (n : Nat) (h : a.length = n) (bad : Bool) : (Rdr.mk (a ++ r) bad).take n = a ∧ (Rdr.mk (a ++ r) bad).after n = ⟨r, bad⟩ := by
  subst h
  unfold Rdr.take Rdr.after
  have h1 : ¬ (a ++ r).length < a.length := by rw [List.length_append]; omega
  simp only [if_neg h1]
  simp
theorem rd_text (s r : List UInt8) (h : s.length ≤ 255) (bad : Bool) : (Rdr.mk (textB s ++ r) bad).text = s ∧ (Rdr.mk (textB s ++ r) bad).afterText = ⟨r, bad⟩ := by
  unfold Rdr.text Rdr.afterText textB
  rw [List.cons_append]
  obtain ⟨h1, h2⟩ := rd_byte (UInt8.ofNat s.length) (s ++ r) bad
  rw [h1, h2]
  have h3 : (UInt8.ofNat s.length).toNat = s.length := by simp; omega
  rw [h3]
  exact rd_after s r s.length rfl bad
theorem rd_pair (n : Nat) (r : List UInt8) (h : n < 65536) (bad : Bool) : (Rdr.mk (pairB n ++ r) bad).pair = n ∧ (Rdr.mk (pairB n ++ r) bad).afterPair = ⟨r, bad⟩ := by
  unfold Rdr.pair Rdr.afterPair
  obtain ⟨h1, h2⟩ := rd_after (pairB n) r 2 rfl bad
  rw [h1, h2]
  refine ⟨?_, rfl⟩
  unfold pairB
  simp
  omega
theorem rd_long (n : Nat) (r : List UInt8) (h : n < 4294967296) (bad : Bool) : (Rdr.mk (longB n ++ r) bad).long = n ∧ (Rdr.mk (longB n ++ r) bad).afterLong = ⟨r, bad⟩ := by
  unfold longB Rdr.long Rdr.afterLong
  rw [List.append_assoc]
  obtain ⟨h1, h2⟩ := rd_pair (n % 65536) (pairB (n / 65536) ++ r) (by omega) bad
  rw [h1, h2]
  obtain ⟨h3, h4⟩ := rd_pair (n / 65536) r (by omega) bad
  rw [h3, h4]
  exact ⟨by omega, rfl⟩
theorem flagsB_val (a b : Bool) : (flagsB a b).toNat ≤ 3 ∧ decide ((flagsB a b).toNat % 2 = 1) = a ∧ decide ((flagsB a b).toNat / 2 % 2 = 1) = b := by
  cases a <;> cases b <;> decide
/-- an edit that an entry can tell -/
def Edit.Short : Edit → Prop
  | .putH h => h.Go ∧ h.id.length ≤ 255 ∧ h.number.length ≤ 255
  | .putV v => v.Go ∧ v.id.length ≤ 255 ∧ v.number.length ≤ 255 ∧ v.roam.length ≤ 255
  | .dropH id => id.length ≤ 255
  | .dropV id => id.length ≤ 255
theorem parsed_ent (o : Edit) (h : o.Short) : parsed (o.kind :: o.fields) = some o := by
  unfold parsed
  obtain ⟨b1, b2⟩ := rd_byte o.kind o.fields false
  simp only [b1, b2]
  cases o with
  | putH x =>
    obtain ⟨id, number, at_, move, barred, waiting⟩ := x
    obtain ⟨⟨g1, g2⟩, g3, g4⟩ := h
    simp only at g1 g2 g3 g4
    simp only [Edit.kind, Edit.fields, HomeR.fields, List.append_assoc]
    obtain ⟨t1, t2⟩ := rd_text id (textB number ++ (pairB at_ ++ (longB move ++ [flagsB barred waiting]))) g3 false
    obtain ⟨t3, t4⟩ := rd_text number (pairB at_ ++ (longB move ++ [flagsB barred waiting])) g4 false
    obtain ⟨t5, t6⟩ := rd_pair at_ (longB move ++ [flagsB barred waiting]) g1 false
    obtain ⟨t7, t8⟩ := rd_long move [flagsB barred waiting] g2 false
    obtain ⟨t9, t10⟩ := rd_byte (flagsB barred waiting) [] false
    obtain ⟨f1, f2, f3⟩ := flagsB_val barred waiting
    simp only [t1, t2, t3, t4, t5, t6, t7, t8, t9, t10, f1, f2, f3]
    simp
  | putV x =>
    obtain ⟨id, number, home, move, area, roam⟩ := x
    obtain ⟨⟨g1, g2, g3⟩, g4, g5, g6⟩ := h
    simp only at g1 g2 g3 g4 g5 g6
    simp only [Edit.kind, Edit.fields, VisitR.fields, List.append_assoc]
    obtain ⟨t1, t2⟩ := rd_text id (textB number ++ (pairB home ++ (longB move ++ (pairB area ++ textB roam)))) g4 false
    obtain ⟨t3, t4⟩ := rd_text number (pairB home ++ (longB move ++ (pairB area ++ textB roam))) g5 false
    obtain ⟨t5, t6⟩ := rd_pair home (longB move ++ (pairB area ++ textB roam)) g1 false
    obtain ⟨t7, t8⟩ := rd_long move (pairB area ++ textB roam) g2 false
    obtain ⟨t9, t10⟩ := rd_pair area (textB roam) g3 false
    obtain ⟨t11, t12⟩ := rd_text roam [] g6 false
    rw [List.append_nil] at t11 t12
    simp only [t1, t2, t3, t4, t5, t6, t7, t8, t9, t10, t11, t12]
    simp
  | dropH id =>
    simp only [Edit.kind, Edit.fields]
    obtain ⟨t1, t2⟩ := rd_text id [] h false
    rw [List.append_nil] at t1 t2
    simp only [t1, t2]
    simp
  | dropV id =>
    simp only [Edit.kind, Edit.fields]
    obtain ⟨t1, t2⟩ := rd_text id [] h false
    rw [List.append_nil] at t1 t2
    simp only [t1, t2]
    simp
theorem num_pos {l : List UInt8} (h : isNum l = true) : 1 ≤ l.length ∧ l.length ≤ 15 := isNum_len h
theorem homeOf_some {S : St} {id : List UInt8} (h : (homeOf S id).isSome = true) : ∃ x ∈ S.homes, x.id = id ∧ homeOf S id = some x := by
  unfold homeOf at *
  obtain ⟨x, hx⟩ := Option.isSome_iff_exists.1 h
  exact ⟨x, List.mem_of_find?_eq_some hx, by simpa using List.find?_some hx, hx⟩
theorem visitOf_some {S : St} {id : List UInt8} (h : (visitOf S id).isSome = true) : ∃ x ∈ S.visits, x.id = id ∧ visitOf S id = some x := by
  unfold visitOf at *
  obtain ⟨x, hx⟩ := Option.isSome_iff_exists.1 h
  exact ⟨x, List.mem_of_find?_eq_some hx, by simpa using List.find?_some hx, hx⟩
/-- what was accepted is short -/
theorem Edit.short {S : St} {o : Edit} (hf : S.Fit) (hg : o.Go) (he : o.er S = 0) : o.Short ∧ 2 ≤ o.fields.length ∧ o.fields.length ≤ 56 := by
  cases o with
  | putH h =>
    have hok : h.ok = true := by
      have he' : (if h.ok = false then (1 : Int) else if clash S h then 8 else 0) = 0 := he
      cases hx : h.ok with
      | true => rfl
      | false => rw [if_pos hx] at he'; omega
    have hl := HomeR.ok_len hok
    refine ⟨⟨hg.1, by omega, by omega⟩, ?_, ?_⟩
    · simp only [Edit.fields, HomeR.fields, List.length_append, textB_len]; omega
    · have := HomeR.fields_len hok
      simp only [Edit.fields]; omega
  | putV v =>
    have hok : v.ok = true := by
      have he' : (if v.ok = false then (1 : Int) else if clashV S v then 8 else 0) = 0 := he
      cases hx : v.ok with
      | true => rfl
      | false => rw [if_pos hx] at he'; omega
    have hl := VisitR.ok_len hok
    refine ⟨⟨hg.1, by omega, by omega, by omega⟩, ?_, ?_⟩
    · simp only [Edit.fields, VisitR.fields, List.length_append, textB_len]; omega
    · have := VisitR.fields_len hok
      simp only [Edit.fields]; omega
  | dropH id =>
    have he' : (if (homeOf S id).isSome then (0 : Int) else 7) = 0 := he
    have hs : (homeOf S id).isSome = true := by
      cases hx : (homeOf S id).isSome with
      | true => rfl
      | false => rw [hx] at he'; simp at he'
    obtain ⟨x, hx, rfl, _⟩ := homeOf_some hs
    have hl := HomeR.ok_len (hf.hok x hx).1
    refine ⟨show x.id.length ≤ 255 by omega, ?_, ?_⟩ <;> simp only [Edit.fields, textB_len] <;> omega
  | dropV id =>
    have he' : (if (visitOf S id).isSome then (0 : Int) else 7) = 0 := he
    have hs : (visitOf S id).isSome = true := by
      cases hx : (visitOf S id).isSome with
      | true => rfl
      | false => rw [hx] at he'; simp at he'
    obtain ⟨x, hx, rfl, _⟩ := visitOf_some hs
    have hl := VisitR.ok_len (hf.vok x hx).1
    refine ⟨show x.id.length ≤ 255 by omega, ?_, ?_⟩ <;> simp only [Edit.fields, textB_len] <;> omega
theorem bodyB_len (k : UInt8) (f : List UInt8) : (bodyB k f).length = f.length + 3 := by
  unfold bodyB; simp only [List.length_append, pairB_len, List.length_cons, List.length_nil]; omega
theorem entryB_len (k : UInt8) (f : List UInt8) : (entryB k f).length = f.length + 5 := by
  unfold entryB; rw [List.length_append, bodyB_len, fcs_len]
theorem Edit.ent_len (o : Edit) : o.ent.length = o.fields.length + 5 := entryB_len _ _
theorem lenAt_pair (n : Nat) (r : List UInt8) (h : n < 65536) : lenAt (pairB n ++ r) = n := by
  unfold lenAt pairB
  simp
  omega
theorem entryB_form (k : UInt8) (f : List UInt8) : entryB k f = pairB (1 + f.length) ++ (k :: f ++ fcs (bodyB k f)) := by
  unfold entryB bodyB
  simp
theorem entryB_lenAt (k : UInt8) (f r : List UInt8) (h : f.length < 65535) : lenAt (entryB k f ++ r) = 1 + f.length := by
  rw [entryB_form, List.append_assoc]
  exact lenAt_pair _ _ (by omega)
theorem front_entry (k : UInt8) (f r : List UInt8) (h : f.length < 65535) : front (entryB k f ++ r) = some (k :: f) := by
  have hl := entryB_lenAt k f r h
  have h1 : (entryB k f ++ r).take (lenAt (entryB k f ++ r) + 2) = bodyB k f := by
    rw [hl]
    unfold entryB
    rw [List.append_assoc, List.take_append_of_le_length (by rw [bodyB_len]; omega), List.take_of_length_le (by rw [bodyB_len]; omega)]
  have h2 : (entryB k f ++ r).drop (lenAt (entryB k f ++ r) + 2) = fcs (bodyB k f) ++ r := by
    rw [hl]
    unfold entryB
    rw [List.append_assoc, List.drop_append_of_le_length (by rw [bodyB_len]; omega), List.drop_of_length_le (by rw [bodyB_len]; omega)]
    try rfl
  have h3 : (fcs (bodyB k f) ++ r).take 2 = fcs (bodyB k f) := by rw [List.take_append_of_le_length (by rw [fcs_len]; omega), List.take_of_length_le (by rw [fcs_len]; omega)]
  unfold front
  rw [h1, h2, if_pos ⟨by rw [List.length_append, entryB_len]; omega, by rw [hl, List.length_append, entryB_len]; omega, h3⟩]
  unfold bodyB
  simp [pairB]
theorem front_short {l : List UInt8} (h : l.length < 4) : front l = none := by
  unfold front
  rw [if_neg]
  rintro ⟨_, h2, _⟩
  omega
theorem front_cut (k : UInt8) (f r : List UInt8) (h : f.length < 65535) (j : Nat) (hj : j < f.length + 5) : front ((entryB k f ++ r).take j) = none := by
  have ht : (entryB k f ++ r).take j = (entryB k f).take j := List.take_append_of_le_length (by rw [entryB_len]; omega)
  rw [ht]
  by_cases h4 : j < 4
  · exact front_short (by rw [List.length_take]; omega)
  · unfold front
    rw [if_neg]
    rintro ⟨_, h2, _⟩
    have hl : lenAt ((entryB k f).take j) = 1 + f.length := by
      rw [entryB_form]
      obtain ⟨i, rfl⟩ : ∃ i, j = (pairB (1 + f.length)).length + i := ⟨j - 2, by rw [pairB_len]; omega⟩
      rw [List.take_length_add_append]
      exact lenAt_pair _ _ (by omega)
    rw [hl, List.length_take, entryB_len] at h2
    omega

/-- two stores have the same records -/
def SameR (S T : St) : Prop := S.homes = T.homes ∧ S.visits = T.visits
theorem SameR.refl (S : St) : SameR S S := ⟨rfl, rfl⟩
theorem SameR.symm {S T : St} (h : SameR S T) : SameR T S := ⟨h.1.symm, h.2.symm⟩
theorem SameR.trans {S T U : St} (h : SameR S T) (h2 : SameR T U) : SameR S U := ⟨h.1.trans h2.1, h.2.trans h2.2⟩
theorem SameR.er {S T : St} (h : SameR S T) (o : Edit) : o.er S = o.er T := by
  obtain ⟨h1, h2⟩ := h
  cases o with
  | putH h => exact ite_congr rfl (fun _ => rfl) (fun _ => ite_congr (by unfold clash; rw [h1]) (fun _ => rfl) (fun _ => rfl))
  | putV v => exact ite_congr rfl (fun _ => rfl) (fun _ => ite_congr (by unfold clashV; rw [h2]) (fun _ => rfl) (fun _ => rfl))
  | dropH id => unfold Edit.er homeOf; simp only [h1]
  | dropV id => unfold Edit.er visitOf; simp only [h2]
theorem SameR.after {S T : St} (h : SameR S T) (o : Edit) : SameR (o.after S) (o.after T) := by
  have he := h.er o
  unfold Edit.after
  rw [he]
  split
  · obtain ⟨h1, h2⟩ := h
    cases o <;> simp only [Edit.next, putHomeS, putVisitS, dropHomeS, dropVisitS, SameR, h1, h2, and_self]
  · exact h
theorem SameR.fit {S T : St} (h : SameR S T) (hf : S.Fit) : T.Fit := by
  obtain ⟨h1, h2⟩ := h
  exact ⟨h1 ▸ hf.hs, h1 ▸ hf.hn, h1 ▸ hf.hok, h2 ▸ hf.vs, h2 ▸ hf.vr, h2 ▸ hf.vok⟩
/-- the store behind a list of changes, and what they add to the log -/
def runE (S : St) (l : List Edit) : St := l.foldl (fun S o => o.after S) S
def entE (S : St) (o : Edit) : List UInt8 := if o.er S = 0 then o.ent else []
def entsE : St → List Edit → List UInt8
  | _, [] => []
  | S, o :: l => entE S o ++ entsE (o.after S) l
theorem runE_cons (S : St) (o : Edit) (l : List Edit) : runE S (o :: l) = runE (o.after S) l := rfl
theorem runE_append (S : St) (l m : List Edit) : runE S (l ++ m) = runE (runE S l) m := List.foldl_append
theorem entsE_append (S : St) (l m : List Edit) : entsE S (l ++ m) = entsE S l ++ entsE (runE S l) m := by
  induction l generalizing S with
  | nil => rfl
  | cons o l ih => rw [List.cons_append, entsE, entsE, ih, List.append_assoc, runE_cons]
theorem runE_log (S : St) (l : List Edit) : (runE S l).log = S.log ++ entsE S l := by
  induction l generalizing S with
  | nil => simp [runE, entsE]
  | cons o l ih => rw [runE_cons, ih, Edit.after_log, entsE, List.append_assoc]; rfl
theorem runE_snoc (S : St) (l : List Edit) (k : Nat) (h : k < l.length) : runE S (l.take (k + 1)) = l[k].after (runE S (l.take k)) := by
  rw [List.take_succ_eq_append_getElem h, runE_append]; rfl
theorem entsE_snoc (S : St) (l : List Edit) (k : Nat) (h : k < l.length) : entsE S (l.take (k + 1)) = entsE S (l.take k) ++ entE (runE S (l.take k)) l[k] := by
  rw [List.take_succ_eq_append_getElem h, entsE_append]
  congr 1
  unfold entsE entsE
  simp
theorem runE_fit {S : St} (l : List Edit) (hf : S.Fit) (hg : ∀ o ∈ l, o.Go) : (runE S l).Fit := by
  induction l generalizing S with
  | nil => exact hf
  | cons o l ih => rw [runE_cons]; exact ih (o.fit hf (hg o (by simp))) (fun x hx => hg x (by simp [hx]))
theorem runE_dur (S : St) (l : List Edit) : (runE S l).dur = S.dur := by
  induction l generalizing S with
  | nil => rfl
  | cons o l ih => rw [runE_cons, ih, Edit.after_dur]
theorem runE_puts (S : St) (l : List Edit) : (runE S l).puts ≤ S.puts + l.length := by
  induction l generalizing S with
  | nil => simp [runE]
  | cons o l ih =>
    rw [runE_cons]
    have := ih (o.after S)
    have := o.after_puts S
    rw [List.length_cons]; omega
theorem entE_len {S : St} {o : Edit} (hf : S.Fit) (hg : o.Go) : (entE S o).length ≤ 61 := by
  unfold entE
  split
  · rename_i he
    have := Edit.short hf hg he
    rw [Edit.ent_len]; omega
  · simp
theorem entsE_len {S : St} (l : List Edit) (hf : S.Fit) (hg : ∀ o ∈ l, o.Go) : (entsE S l).length ≤ 61 * l.length := by
  induction l generalizing S with
  | nil => simp [entsE]
  | cons o l ih =>
    rw [entsE, List.length_append, List.length_cons]
    have := entE_len hf (hg o (by simp))
    have := ih (o.fit hf (hg o (by simp))) (fun x hx => hg x (by simp [hx]))
    omega
/-- the replay of what the changes have written -/
theorem play_run {S : St} (l : List Edit) (hf : S.Fit) (hg : ∀ o ∈ l, o.Go) : ∀ {S' : St}, SameR S S' → ∃ T', SameR (runE S l) T' ∧ ∀ {tail T n}, Plays T' tail T n → Plays S' (entsE S l ++ tail) T ((entsE S l).length + n) := by
  induction l generalizing S with
  | nil => exact fun {S'} hs => ⟨S', hs, fun h => by simpa [entsE] using h⟩
  | cons o l ih =>
    intro S' hs
    have hf2 := o.fit hf (hg o (by simp))
    obtain ⟨T', h1, h2⟩ := ih hf2 (fun x hx => hg x (by simp [hx])) (hs.after o)
    rw [runE_cons]
    refine ⟨T', h1, fun {tail T n} hp => ?_⟩
    have h3 := h2 hp
    rw [entsE]
    unfold entE
    split
    · rename_i he
      obtain ⟨hsh, hlo, hhi⟩ := Edit.short hf (hg o (by simp)) he
      have he' : o.er S' = 0 := by rw [← hs.er]; exact he
      have hfr : front (o.ent ++ (entsE (o.after S) l ++ tail)) = some (o.kind :: o.fields) := front_entry _ _ _ (by omega)
      have hap : applied S' (o.kind :: o.fields) = (true, o.after S') := by
        unfold applied
        rw [parsed_ent o hsh]
        simp [he']
      have h4 : Plays S' (o.ent ++ (entsE (o.after S) l ++ tail)) T _ := Plays.step hfr hap (by
        have : (o.ent ++ (entsE (o.after S) l ++ tail)).drop ((o.kind :: o.fields).length + 4) = entsE (o.after S) l ++ tail := by
          rw [List.drop_append_of_le_length (by rw [Edit.ent_len, List.length_cons]; omega), List.drop_of_length_le (by rw [Edit.ent_len, List.length_cons]; omega)]
          rfl
        rw [this]
        exact h3)
      rw [List.append_assoc, List.length_append, Edit.ent_len]
      rw [List.length_cons] at h4
      have e : o.fields.length + 1 + 4 + ((entsE (o.after S) l).length + n) = o.fields.length + 5 + (entsE (o.after S) l).length + n := by omega
      rw [e] at h4
      exact h4
    · rename_i he
      have he' : ¬ o.er S' = 0 := by rw [← hs.er]; exact he
      rw [Edit.bad he'] at h3
      simpa using h3
theorem stop_none {S : St} {l : List UInt8} (h : front l = none) : Plays S l S 0 := Plays.stop fun b hb => by rw [h] at hb; cases hb
/-- the greatest number of changes, of the first i, whose entries lie in the first p bytes -/
def lastE (S : St) (l : List Edit) (p : Nat) : Nat → Nat
  | 0 => 0
  | i + 1 => if (entsE S (l.take (i + 1))).length ≤ p then i + 1 else lastE S l p i
theorem lastE_le (S : St) (l : List Edit) (p : Nat) : ∀ i, lastE S l p i ≤ i ∧ (entsE S (l.take (lastE S l p i))).length ≤ p ∧ ∀ k, lastE S l p i < k → k ≤ i → p < (entsE S (l.take k)).length
  | 0 => ⟨Nat.le_refl _, by simp [lastE, entsE], fun k h1 h2 => by omega⟩
  | i + 1 => by
    obtain ⟨h1, h2, h3⟩ := lastE_le S l p i
    unfold lastE
    split
    · rename_i h
      exact ⟨Nat.le_refl _, h, fun k h4 h5 => by omega⟩
    · rename_i h
      refine ⟨by omega, h2, fun k h4 h5 => ?_⟩
      by_cases hk : k = i + 1
      · subst hk; omega
      · exact h3 k h4 (by omega)
/-- the replay of a part of the log -/
theorem play_part {S S' : St} (l : List Edit) (hf : S.Fit) (hg : ∀ o ∈ l, o.Go) (hs : SameR S S') (p : Nat) :
    ∃ T, Plays S' ((entsE S l).take p) T (entsE S (l.take (lastE S l p l.length))).length ∧ SameR (runE S (l.take (lastE S l p l.length))) T := by
  obtain ⟨h1, h2, h3⟩ := lastE_le S l p l.length
  generalize lastE S l p l.length = K at *
  have hgK : ∀ o ∈ l.take K, o.Go := fun o ho => hg o (List.mem_of_mem_take ho)
  obtain ⟨T', h4, h5⟩ := play_run (l.take K) hf hgK hs
  refine ⟨T', ?_, h4⟩
  have hsplit : entsE S l = entsE S (l.take K) ++ entsE (runE S (l.take K)) (l.drop K) := by
    conv => lhs; rw [← List.take_append_drop K l]
    rw [entsE_append]
  obtain ⟨j, hj⟩ : ∃ j, p = (entsE S (l.take K)).length + j := ⟨p - (entsE S (l.take K)).length, by omega⟩
  have hpl := h5 (tail := (entsE (runE S (l.take K)) (l.drop K)).take j) (stop_none ?_)
  · rw [hsplit, hj, List.take_length_add_append]
    exact hpl
  · by_cases hK : K < l.length
    · have h6 := h3 (K + 1) (by omega) (by omega)
      rw [entsE_snoc S l K hK, List.length_append, hj] at h6
      rw [List.drop_eq_getElem_cons hK, entsE]
      have hfK := runE_fit (l.take K) hf hgK
      have hgo := hg l[K] (List.getElem_mem hK)
      unfold entE at h6 ⊢
      split at h6
      · rename_i he
        rw [if_pos he]
        obtain ⟨_, _, hhi⟩ := Edit.short hfK hgo he
        refine front_cut _ _ _ (by omega) j ?_
        rw [Edit.ent_len] at h6
        omega
      · exfalso; simp only [List.length_nil] at h6; omega
    · rw [List.drop_of_length_le (by omega)]
      exact front_short (by simp [entsE])
theorem play_all {S S' : St} (l : List Edit) (hf : S.Fit) (hg : ∀ o ∈ l, o.Go) (hs : SameR S S') : ∃ T, Plays S' (entsE S l) T (entsE S l).length ∧ SameR (runE S l) T := by
  obtain ⟨T', h4, h5⟩ := play_run l hf hg hs
  have := h5 (tail := []) (stop_none (front_short (by simp)))
  simp only [List.append_nil, Nat.add_zero] at this
  exact ⟨T', this, h4⟩
/-- what follows the log -/
theorem play_more {S S' : St} (l : List Edit) (hf : S.Fit) (hg : ∀ o ∈ l, o.Go) (hs : SameR S S') (b : List UInt8) {T : St} {m : Nat} (h : Plays S' (entsE S l ++ b) T m) :
    (entsE S l).length ≤ m ∧ m ≤ (entsE S l).length + b.length ∧ (b.length < 6 → m = (entsE S l).length) ∧ (m = (entsE S l).length → SameR (runE S l) T) := by
  obtain ⟨T', h4, h5⟩ := play_run l hf hg hs
  have ht : ∃ U k, Plays T' b U k := by
    have hx : ∀ (n : Nat) (b : List UInt8) (T : St), b.length ≤ n → ∃ U k, Plays T b U k := by
      intro n
      induction n with
      | zero => exact fun b T hb => ⟨T, 0, stop_none (front_short (by omega))⟩
      | succ n ih =>
        intro b T hb
        cases hfr : front b with
        | none => exact ⟨T, 0, stop_none hfr⟩
        | some x =>
          obtain ⟨res, S2, hX⟩ : ∃ r s, applied T x = (r, s) := ⟨_, _, rfl⟩
          cases res with
          | false => exact ⟨T, 0, Plays.stop fun y hy => by rw [hfr] at hy; cases hy; rw [hX]⟩
          | true =>
            have hl := (front_len hfr).2
            obtain ⟨U, k, hk⟩ := ih (b.drop (x.length + 4)) S2 (by rw [List.length_drop]; omega)
            exact ⟨U, _, Plays.step hfr hX hk⟩
    exact hx b.length b T' (Nat.le_refl _)
  obtain ⟨U, k, hk⟩ := ht
  obtain ⟨rfl, rfl⟩ := (h5 hk).one h
  have hle := hk.le
  refine ⟨by omega, by omega, fun hb => ?_, fun hm => ?_⟩
  · cases hk with
    | stop _ => rfl
    | step h1 h2 h3 =>
      rename_i x S2 n
      have hl := front_len h1
      have : x.length ≤ 1 := by omega
      exfalso
      have hp : parsed x = none := by
        match x, this with
        | [], _ => rfl
        | [y], _ =>
          unfold parsed
          obtain ⟨b1, b2⟩ := rd_byte y [] false
          simp only [b1, b2]
          have e1 : ((Rdr.mk [] false).afterText).bad = true := by decide
          have e2 : ∀ r : Rdr, r.bad = true → (r.after 1).bad = true ∧ (∀ n, (r.after n).bad = true) := fun r h => ⟨by unfold Rdr.after; split <;> simp [h], fun n => by unfold Rdr.after; split <;> simp [h]⟩
          have e3 : ∀ r : Rdr, r.bad = true → r.afterText.bad = true := fun r h => by unfold Rdr.afterText; exact (e2 _ ((e2 r h).2 _)).2 _
          have e4 : ∀ r : Rdr, r.bad = true → r.afterPair.bad = true := fun r h => (e2 r h).2 _
          have e5 : ∀ r : Rdr, r.bad = true → r.afterLong.bad = true := fun r h => e4 _ (e4 _ h)
          generalize (Rdr.mk [] false).afterText = r at *
          have g1 := e3 r e1
          have g2 := (e2 _ (e5 _ (e4 _ g1))).1
          have g3 := e3 _ (e4 _ (e5 _ (e4 _ g1)))
          simp only [e1, g2, g3]
          simp
      unfold applied at h2
      rw [hp] at h2
      cases h2
  · cases hk with
    | stop _ => exact h4
    | step h1 h2 h3 => exfalso; omega
end Go.Proofs.YthbbmpelldglmaaDoor
/- Package subscribers: a store filled with records; what the definition gathers. Plain. -/
namespace Go.Proofs.YthbbmpelldglmaaDoor
set_option linter.unusedVariables false
set_option linter.unusedSimpArgs false
open Go.RowKit

theorem putK_last {α : Type} {key : α → List UInt8} {x : α} : ∀ {l : List α}, (∀ y ∈ l, key y < key x) → putK key x l = l ++ [x]
  | [], _ => rfl
  | z :: r, h => by
    unfold putK
    rw [if_pos (h z (by simp)), putK_last (fun y hy => h y (by simp [hy]))]
    rfl
theorem putH_go {h : HomeR} (hg : h.Go) (ho : h.ok = true) : (Edit.putH h).Go := by
  have := HomeR.ok_len ho
  exact ⟨hg, by simp only [maxLen]; omega, by simp only [maxLen]; omega⟩
theorem putV_go {v : VisitR} (hg : v.Go) (ho : v.ok = true) : (Edit.putV v).Go := by
  have := VisitR.ok_len ho
  exact ⟨hg, by simp only [maxLen]; omega, by simp only [maxLen]; omega, by simp only [maxLen]; omega⟩
theorem er_putH {S : St} {h : HomeR} (ho : h.ok = true) (hc : ¬ clash S h) : (Edit.putH h).er S = 0 := by
  show (if h.ok = false then (1 : Int) else if clash S h then 8 else 0) = 0
  rw [if_neg (by rw [ho]; simp), if_neg hc]
theorem er_putV {S : St} {v : VisitR} (ho : v.ok = true) (hc : ¬ clashV S v) : (Edit.putV v).er S = 0 := by
  show (if v.ok = false then (1 : Int) else if clashV S v then 8 else 0) = 0
  rw [if_neg (by rw [ho]; simp), if_neg hc]
theorem fill_homes : ∀ (b a : List HomeR) (S : St), S.homes = a → (a ++ b).Pairwise (fun x y => x.id < y.id) → (a ++ b).Pairwise (fun x y => x.number ≠ y.number) → (∀ h ∈ b, h.ok = true) →
    (runE S (b.map Edit.putH)).homes = a ++ b ∧ (runE S (b.map Edit.putH)).visits = S.visits ∧ entsE S (b.map Edit.putH) = b.flatMap fun h => entryB 1 h.fields
  | [], a, S, e, _, _, _ => by simp [runE, entsE, e]
  | h :: b, a, S, e, h1, h2, h3 => by
    have hl : ∀ y ∈ a, y.id < h.id := fun y hy => (List.pairwise_append.1 h1).2.2 y hy h (by simp)
    have hn : ∀ y ∈ a, y.number ≠ h.number := fun y hy => (List.pairwise_append.1 h2).2.2 y hy h (by simp)
    have he : (Edit.putH h).er S = 0 := er_putH (h3 h (by simp)) (by rintro ⟨x, hx, e1, _⟩; rw [e] at hx; exact hn x hx e1)
    have ha : (Edit.putH h).after S = putHomeS S h := by rw [Edit.good he]; rfl
    obtain ⟨g1, g2, g3⟩ := fill_homes b (a ++ [h]) (putHomeS S h) (by show putK HomeR.id h S.homes = _; rw [e, putK_last hl]) (by simpa using h1) (by simpa using h2) (fun x hx => h3 x (by simp [hx]))
    rw [List.map_cons, runE_cons, ha, entsE, ha]
    refine ⟨by rw [g1]; simp, g2, ?_⟩
    unfold entE
    rw [if_pos he, g3]
    rfl
theorem fill_visits : ∀ (b a : List VisitR) (S : St), S.visits = a → (a ++ b).Pairwise (fun x y => x.id < y.id) → (roamers (a ++ b)).Pairwise (fun x y => x.roam ≠ y.roam) → (∀ h ∈ b, h.ok = true) →
    (runE S (b.map Edit.putV)).visits = a ++ b ∧ (runE S (b.map Edit.putV)).homes = S.homes ∧ entsE S (b.map Edit.putV) = b.flatMap fun h => entryB 2 h.fields
  | [], a, S, e, _, _, _ => by simp [runE, entsE, e]
  | h :: b, a, S, e, h1, h2, h3 => by
    have hl : ∀ y ∈ a, y.id < h.id := fun y hy => (List.pairwise_append.1 h1).2.2 y hy h (by simp)
    have hr : roamers (a ++ h :: b) = roamers a ++ roamers (h :: b) := by unfold roamers; rw [List.filter_append]
    have hc : ¬ clashV S h := by
      rintro ⟨x, hx, e1, _⟩
      rw [e] at hx
      have hne := (mem_roamers.1 hx).2
      have hm : h ∈ roamers (h :: b) := mem_roamers.2 ⟨by simp, by rw [← e1]; exact hne⟩
      rw [hr] at h2
      exact (List.pairwise_append.1 h2).2.2 x hx h hm e1
    have he : (Edit.putV h).er S = 0 := er_putV (h3 h (by simp)) hc
    have ha : (Edit.putV h).after S = putVisitS S h := by rw [Edit.good he]; rfl
    obtain ⟨g1, g2, g3⟩ := fill_visits b (a ++ [h]) (putVisitS S h) (by show putK VisitR.id h S.visits = _; rw [e, putK_last hl]) (by simpa using h1) (by simpa using h2) (fun x hx => h3 x (by simp [hx]))
    rw [List.map_cons, runE_cons, ha, entsE, ha]
    refine ⟨by rw [g1]; simp, g2, ?_⟩
    unfold entE
    rw [if_pos he, g3]
    rfl
/-- the changes that fill a store with the records of S -/
def fillE (S : St) : List Edit := S.homes.map Edit.putH ++ S.visits.map Edit.putV
def fillLog (S : St) : List UInt8 := (S.homes.flatMap fun h => entryB 1 h.fields) ++ S.visits.flatMap fun v => entryB 2 v.fields
theorem fillE_go {S : St} (h : S.Fit) : ∀ o ∈ fillE S, o.Go := by
  intro o ho
  unfold fillE at ho
  rcases List.mem_append.1 ho with ho | ho
  · obtain ⟨x, hx, rfl⟩ := List.mem_map.1 ho
    exact putH_go (h.hok x hx).2 (h.hok x hx).1
  · obtain ⟨x, hx, rfl⟩ := List.mem_map.1 ho
    exact putV_go (h.vok x hx).2 (h.vok x hx).1
theorem fill_run {S S0 : St} (h : S.Fit) (h1 : S0.homes = []) (h2 : S0.visits = []) : SameR (runE S0 (fillE S)) S ∧ entsE S0 (fillE S) = fillLog S := by
  obtain ⟨a1, a2, a3⟩ := fill_homes S.homes [] S0 h1 (by simpa using h.hs) (by simpa using h.hn) (fun x hx => (h.hok x hx).1)
  obtain ⟨b1, b2, b3⟩ := fill_visits S.visits [] (runE S0 (S.homes.map Edit.putH)) (by rw [a2, h2]) (by simpa using h.vs) (by simpa using h.vr) (fun x hx => (h.vok x hx).1)
  unfold fillE fillLog
  rw [runE_append, entsE_append, a3, b3]
  exact ⟨⟨by rw [b2, a1]; simp, by rw [b1]; simp⟩, rfl⟩

/-- what the definition's loop has gathered -/
def outD {α : Type} (key : α → List UInt8) (x : α) (l : List α) : List α := if (l.any fun m => decide (¬ key m < key x)) = true then putK key x l else l
theorem putK_snoc {α : Type} {key : α → List UInt8} {x m : α} : ∀ {l : List α}, (l ++ [m]).Pairwise (fun a b => key a < key b) → (l.any fun m => decide (¬ key m < key x)) = true → putK key x (l ++ [m]) = putK key x l ++ [m]
  | [], _, h => by simp at h
  | z :: r, hs, h => by
    rw [List.cons_append] at hs
    obtain ⟨h1, h2⟩ := List.pairwise_cons.1 hs
    rw [List.cons_append]
    unfold putK
    by_cases hz : key z < key x
    · rw [if_pos hz, if_pos hz, putK_snoc h2 (by rw [List.any_cons, decide_eq_false (fun h => h hz), Bool.false_or] at h; exact h)]
      rfl
    · rw [if_neg hz, if_neg hz]
      split <;> rfl
theorem outD_snoc {α : Type} {key : α → List UInt8} {x m : α} {l : List α} (hs : (l ++ [m]).Pairwise (fun a b => key a < key b)) :
    outD key x (l ++ [m]) = (if (l.any fun m => decide (¬ key m < key x)) = false ∧ ¬ key m < key x then outD key x l ++ [x] else outD key x l) ++ (if key m = key x then [] else [m]) := by
  have hlm : ∀ y ∈ l, key y < key m := fun y hy => (List.pairwise_append.1 hs).2.2 y hy m (by simp)
  unfold outD
  rw [List.any_append]
  cases hd : (l.any fun m => decide (¬ key m < key x)) with
  | true =>
    obtain ⟨y, hy, hy2⟩ := List.any_eq_true.1 hd
    have hne : ¬ key m = key x := by
      intro e
      have := hlm y hy
      rw [e] at this
      simp [this] at hy2
    rw [if_pos (by simp), if_pos rfl, if_neg (by simp), if_neg hne, putK_snoc hs hd]
  | false =>
    have hall : ∀ y ∈ l, key y < key x := fun y hy => by
      apply Classical.byContradiction
      intro hn
      have : (l.any fun m => decide (¬ key m < key x)) = true := List.any_eq_true.2 ⟨y, hy, by simp [hn]⟩
      rw [hd] at this; cases this
    by_cases hm : key m < key x
    · have hne : ¬ key m = key x := fun e => List.lt_irrefl _ (e ▸ hm)
      have e1 : ([m].any fun m => decide (¬ key m < key x)) = false := by rw [List.any_cons, decide_eq_false (fun h => h hm)]; rfl
      refine (if_neg (by rw [e1]; simp)).trans ?_
      rw [if_neg hne]
      exact congrArg (· ++ [m]) ((if_neg (fun h => h.2 hm)).trans (if_neg (by simp))).symm
    · have e1 : ([m].any fun m => decide (¬ key m < key x)) = true := by rw [List.any_cons, decide_eq_true hm]; rfl
      refine (if_pos (by rw [e1]; simp)).trans ?_
      rw [show (if (false = false ∧ ¬ key m < key x) then (if false = true then putK key x l else l) ++ [x] else (if false = true then putK key x l else l)) = l ++ [x] from (if_pos ⟨rfl, hm⟩).trans (congrArg (· ++ [x]) (if_neg (by simp)))]
      clear hs hlm hd e1
      induction l with
      | nil =>
        simp only [List.nil_append]
        unfold putK
        rw [if_neg hm]
        split <;> rfl
      | cons z r ih =>
        rw [List.cons_append]
        unfold putK
        rw [if_pos (hall z (by simp)), ih (fun y hy => hall y (by simp [hy]))]
        rfl
theorem outD_end {α : Type} {key : α → List UInt8} {x : α} {l : List α} (hd : (l.any fun m => decide (¬ key m < key x)) = false) : outD key x l ++ [x] = putK key x l := by
  unfold outD
  rw [if_neg (by rw [hd]; simp), putK_last]
  intro y hy
  apply Classical.byContradiction
  intro hn
  have : (l.any fun m => decide (¬ key m < key x)) = true := List.any_eq_true.2 ⟨y, hy, by simp [hn]⟩
  rw [hd] at this; cases this
theorem outD_done {α : Type} {key : α → List UInt8} {x : α} {l : List α} (hd : (l.any fun m => decide (¬ key m < key x)) = true) : outD key x l = putK key x l := by
  unfold outD
  rw [if_pos hd]
end Go.Proofs.YthbbmpelldglmaaDoor
/- Law 38: the chapter's example. Plain. -/
namespace Go.Proofs.YthbbmpelldglmaaDoor
set_option linter.unusedVariables false
set_option linter.unusedSimpArgs false
open Go.RowKit

/-- the chapter's example -/
def livH : HomeR := ⟨[50, 54], [52, 57, 49], 5, 258, false, true⟩
def S00 : St := ⟨[], [], [], 0, 0⟩
theorem S00_fit : S00.Fit := ⟨by simp [S00], by simp [S00], by simp [S00], by simp [S00], by simp [S00, roamers], by simp [S00]⟩
theorem liv_ok : livH.ok = true := by decide
theorem liv_go : (Edit.putH livH).Go := putH_go ⟨by decide, by decide⟩ liv_ok
theorem liv_er : (Edit.putH livH).er S00 = 0 := er_putH liv_ok (by rintro ⟨x, hx, _⟩; cases hx)
def livL : List UInt8 := entryB 1 livH.fields
theorem livL_len : livL.length = 19 := by unfold livL; rw [entryB_len]; rfl
theorem livL_take : livL.take 17 = [15, 0, 1, 2, 50, 54, 3, 52, 57, 49, 5, 0, 2, 1, 0, 0, 2] := by
  unfold livL entryB
  rw [List.take_append_of_le_length (by rw [bodyB_len]; decide)]
  decide
theorem liv_after : (Edit.putH livH).after S00 = ⟨[livH], [], livL, 0, 1⟩ := by rw [Edit.good liv_er]; rfl
theorem liv_ents : entsE S00 [Edit.putH livH] = livL := by
  unfold entsE entE entsE
  rw [if_pos liv_er]
  simp only [List.append_nil]
  rfl
theorem liv_all {T : St} {n : Nat} (h : Plays S00 livL T n) : T.homes = [livH] ∧ T.visits = [] ∧ n = 19 := by
  obtain ⟨T', h1, h2⟩ := play_all (S' := S00) [Edit.putH livH] S00_fit (by intro o ho; simp at ho; subst ho; exact liv_go) (SameR.refl _)
  rw [liv_ents] at h1
  obtain ⟨rfl, rfl⟩ := h1.one h
  have h3 : SameR (⟨[livH], [], livL, 0, 1⟩ : St) T' := by rw [← liv_after]; exact h2
  exact ⟨h3.1.symm, h3.2.symm, livL_len⟩
theorem liv_part {T : St} {n : Nat} (h : Plays S00 (livL.take 18) T n) : T.homes = [] ∧ T.visits = [] ∧ n = 0 := by
  have hf : front (livL.take 18) = none := by
    have := front_cut 1 livH.fields [] (by decide) 18 (by decide)
    rwa [List.append_nil] at this
  obtain ⟨rfl, rfl⟩ := (stop_none (S := S00) hf).one h
  exact ⟨rfl, rfl, rfl⟩
end Go.Proofs.YthbbmpelldglmaaDoor
