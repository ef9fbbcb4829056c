/- Package subscribers: 'PutVisit'. Printed by wip/tools/putvisit.py out of SubP. -/
import Derived.Test.YthbbmpelldglmaaGreatDoorSubscribersPlayM3
import Derived.Deep.CutBlock
namespace Go.Proofs.YthbbmpelldglmaaGreatDoor
set_option linter.unusedVariables false
set_option linter.unusedSimpArgs false
open Go.RowKit

theorem mem_roamers {l : List VisitR} {y : VisitR} : y ∈ roamers l ↔ y ∈ l ∧ y.roam ≠ [] := by
  unfold roamers
  rw [List.mem_filter]
  cases e : y.roam <;> simp [e]
/-- 'PutVisit', as plain data -/
def clashV (S : St) (v : VisitR) : Prop := ∃ x ∈ roamers S.visits, x.roam = v.roam ∧ x.id ≠ v.id
def putVisitS (S : St) (v : VisitR) : St := { S with visits := putK VisitR.id v S.visits, log := S.log ++ entryB 2 v.fields, puts := S.puts + 1 }
def GoodV (S : St) (v : VisitR) : Prop := v.ok = true ∧ ¬ clashV S v
def PutOutV (S : St) (v : VisitR) (er : Int) (S' : St) : Prop := (v.ok = false ∧ er = 1 ∧ S' = S) ∨ (v.ok = true ∧ clashV S v ∧ er = 8 ∧ S' = S) ∨ (v.ok = true ∧ ¬ clashV S v ∧ er = 0 ∧ S' = putVisitS S v)
theorem roam_one {S : St} (h : S.Fit) {x y : VisitR} (hx : x ∈ roamers S.visits) (hy : y ∈ roamers S.visits) (e : x.roam = y.roam) : x = y := pair_one h.vr hx hy e
theorem mem_roamers_put {S : St} (h : S.Fit) (x : VisitR) (y : VisitR) : y ∈ roamers (putK VisitR.id x S.visits) ↔ (y = x ∧ x.roam ≠ []) ∨ (y ∈ roamers S.visits ∧ y.id ≠ x.id) := by
  rw [mem_roamers, mem_putK h.vs, mem_roamers]
  constructor
  · rintro ⟨rfl | ⟨h1, h2⟩, h3⟩
    · exact .inl ⟨rfl, h3⟩
    · exact .inr ⟨⟨h1, h3⟩, h2⟩
  · rintro (⟨rfl, h3⟩ | ⟨⟨h1, h3⟩, h2⟩)
    · exact ⟨.inl rfl, h3⟩
    · exact ⟨.inr ⟨h1, h2⟩, h3⟩
theorem FitV.put {S : St} (h : S.Fit) {x : VisitR} (hx : x.Go) (hg : GoodV S x) : (putVisitS S x).Fit where
  hs := h.hs
  hn := h.hn
  hok := h.hok
  vs := sorted_putK h.vs
  vr := by
    have hs : (roamers (putK VisitR.id x S.visits)).Pairwise fun a b => a.id < b.id := (sorted_putK h.vs).filter _
    refine hs.imp_of_mem fun {a b} ha hb hlt e => ?_
    have hne : a.id ≠ b.id := fun e2 => by rw [e2] at hlt; exact List.lt_irrefl _ hlt
    rcases (mem_roamers_put h x a).1 ha with ⟨rfl, _⟩ | ⟨ha1, ha2⟩
    · rcases (mem_roamers_put h a b).1 hb with ⟨rfl, _⟩ | ⟨hb1, hb2⟩
      · exact hne rfl
      · exact hg.2 ⟨b, hb1, e.symm, hb2⟩
    · rcases (mem_roamers_put h x b).1 hb with ⟨rfl, _⟩ | ⟨hb1, hb2⟩
      · exact hg.2 ⟨a, ha1, e, ha2⟩
      · exact hne (by rw [roam_one h ha1 hb1 e])
  vok := fun y hy => by
    rcases (mem_putK h.vs y).1 hy with rfl | ⟨hy, _⟩
    · exact ⟨hg.1, hx⟩
    · exact h.vok y hy
theorem old_roam {S : St} (h : S.Fit) (id : List UInt8) : ∀ y ∈ roamers S.visits, y.roam = ((visitOf S id).getD visitZero).roam ↔ y.id = id := fun y hy => by
  have hm := mem_roamers.1 hy
  unfold visitOf
  cases e : S.visits.find? (fun x => x.id == id) with
  | none =>
    rw [List.find?_eq_none] at e
    have h1 : y.id ≠ id := fun h2 => e y hm.1 (by simpa using h2)
    constructor
    · intro h4
      simp only [Option.getD_none, visitZero] at h4
      exact absurd h4 hm.2
    · exact fun h4 => absurd h4 h1
  | some x =>
    have e1 := List.mem_of_find?_eq_some e
    have e2 : x.id = id := by simpa using List.find?_some e
    simp only [Option.getD_some]
    constructor
    · intro h4
      have hx : x ∈ roamers S.visits := mem_roamers.2 ⟨e1, by rw [← h4]; exact hm.2⟩
      rw [← e2, roam_one h hy hx h4]
    · intro h4
      rw [sorted_one h.vs hm.1 e1 (h4.trans e2.symm)]
theorem old_lenV {S : St} (h : S.Fit) (id : List UInt8) : ((visitOf S id).getD visitZero).roam.length ≤ 15 := by
  unfold visitOf
  cases e : S.visits.find? (fun x => x.id == id) with
  | none => simp [visitZero]
  | some x => exact (VisitR.ok_len (h.vok x (List.mem_of_find?_eq_some e)).1).2.2.1
theorem Tells.cut2 {α : Type} {f : List UInt8 → Option Value} {l l2 : List α} {key num : α → List UInt8} {vf : α → Value} (h : Tells f l num vf) (k0 : List UInt8) (old : List UInt8)
    (hm : ∀ y, y ∈ l2 ↔ y ∈ l ∧ key y ≠ k0) (hold : ∀ y ∈ l, num y = old ↔ key y = k0) : Tells (cut f old) l2 num vf := fun k v => by
  unfold cut
  by_cases e2 : k = old
  · rw [if_pos e2]
    constructor
    · intro h1; cases h1
    · rintro ⟨y, hy, h1, h2⟩
      obtain ⟨h3, h4⟩ := (hm y).1 hy
      exact absurd ((hold y h3).1 (h1.trans e2)) h4
  · rw [if_neg e2, h k v]
    constructor
    · rintro ⟨y, hy, h1, h2⟩
      exact ⟨y, (hm y).2 ⟨hy, fun h3 => e2 (h1.symm.trans ((hold y hy).2 h3))⟩, h1, h2⟩
    · rintro ⟨y, hy, h1, h2⟩
      exact ⟨y, ((hm y).1 hy).1, h1, h2⟩

set_option maxHeartbeats 8000000 in
set_option maxRecDepth 100000 in
theorem putVisit_any (w : World) (g : Nat) (F : List Nat) (S : St) (h : StAt w g F S) (hfit : S.Fit) (hp : S.puts < 4096) (hll : S.log.length ≤ 100000000) (id number : List UInt8) (home move area : Nat) (roam : List UInt8) (hg : (VisitR.mk id number home move area roam).Go) (l1 : id.length ≤ maxLen) (l2 : number.length ≤ maxLen) (l3 : roam.length ≤ maxLen) :
    Calls Tryz.prog 25 #[.pointer (some ⟨g, 0, none⟩), .agg #[encStr id, encStr number, .int .u16 (home : Int), .int .u32 (move : Int), .int .u16 (area : Int), encStr roam]] w fun e w' => ∃ F' er S', e = .returned (.int .i64 er) ∧ StAt w' g F' S' ∧ Chg F w w' ∧ NewIn w F F' ∧ PutOutV S ⟨id, number, home, move, area, roam⟩ er S' := by
  have hlt := h.lt
  have b0 := (Below.refl w.heap.size w).alloc (Nat.le_refl _) (.cells #[encStr id, encStr number, .int .u16 (home : Int), .int .u32 (move : Int), .int .u16 (area : Int), encStr roam] 54)
  have hrd := ready_any _ g F S (h.below b0)
  have hvd := fun w => visitValid_any ⟨id, number, home, move, area, roam⟩ w hg (by simp only [maxLen] at l1; simp only; omega) (by simp only [maxLen] at l2; simp only; omega) (by simp only [maxLen] at l3; simp only; omega)
  have hb0 := heap_alloc_new w (.cells #[encStr id, encStr number, .int .u16 (home : Int), .int .u32 (move : Int), .int .u16 (area : Int), encStr roam] 54)
  unfold VisitR.val VisitR.cells at hvd
  simp only at hvd
  obtain ⟨ok, hok⟩ : ∃ ok, (VisitR.mk id number home move area roam).ok = ok := ⟨_, rfl⟩
  rw [hok] at hvd
  have HOK := Lib.hid hok
  have HG := Lib.hid hg
  have HRD := Lib.hid hrd
  have HVD := Lib.hid hvd
  have HB0 := Lib.hid hb0
  have HLT := Lib.hid hlt
  have HFIT := Lib.hid hfit
  clear hrd hvd hb0 h hok hg hlt hfit
  go_enter Tryz.func25, Tryz.ntmps25
  go_upto_region 4 with (first
    | (go_at_call 49; (with_reducible refine HRD.out.mono ?_); rintro e w1 ⟨rfl, b1, b2, b3, b4, A, c, h1, hc1, hn1⟩)
    | fail)
  have o1 := hc1.heap HB0.out (fun hi => by have := HLT.out _ hi; omega)
  have HC1 := Lib.hid ((Chg.of_below F b0).then_ hc1)
  have HN1 := Lib.hid hn1.alloc
  obtain ⟨f1, mh, th⟩ := h1.maps.visits
  obtain ⟨f3, mn, tn⟩ := h1.maps.roams
  obtain ⟨old, hold⟩ : ∃ r, r = (visitOf S id).getD visitZero := ⟨_, rfl⟩
  obtain ⟨there, hthere⟩ : ∃ b, b = (visitOf S id).isSome := ⟨_, rfl⟩
  obtain ⟨uid, huid⟩ : ∃ r, r = (((roamers S.visits).find? fun x => x.roam == roam).map VisitR.id).getD [] := ⟨_, rfl⟩
  obtain ⟨used, hused⟩ : ∃ b, b = ((roamers S.visits).find? fun x => x.roam == roam).isSome := ⟨_, rfl⟩
  obtain ⟨oid, onum, ohm, omv, oar, orm⟩ := old
  obtain ⟨es1, k1, hm1, hesn⟩ := mh.obj_le
  obtain ⟨es3, k3, hm3⟩ := mn.obj
  have kl1 := mh.look_at hm1 Tryz.underlying9 Tryz.underlying97 zeroVisitV id l1 (VisitR.mk oid onum ohm omv oar orm).val there (by rw [th.get id, hold]; unfold visitOf; cases S.visits.find? (fun x => x.id == id) <;> rfl) (by rw [th.get id, hthere]; unfold visitOf; cases S.visits.find? (fun x => x.id == id) <;> rfl)
  have kl3 := mn.look_at hm3 Tryz.underlying9 Tryz.underlying98 zeroStrV roam l3 (encStr uid) used (by rw [tn.get roam, huid]; cases (roamers S.visits).find? (fun x => x.roam == roam) <;> rfl) (by rw [tn.get roam, hused]; cases (roamers S.visits).find? (fun x => x.roam == roam) <;> rfl)
  unfold VisitR.val VisitR.cells at kl1
  simp only at kl1
  have kg0 : ∀ w' : World, w'.heap[g]? = some (stObj (.map (some b1)) (.map (some b2)) (.map (some b3)) (.map (some b4)) A S.log.length c S.dur) → w'.cell? ⟨g, 1, none⟩ = some (.map (some b2)) := fun w' e => stObj_cell e 1
  have kg2 : ∀ w' : World, w'.heap[g]? = some (stObj (.map (some b1)) (.map (some b2)) (.map (some b3)) (.map (some b4)) A S.log.length c S.dur) → w'.cell? ⟨g, 3, none⟩ = some (.map (some b4)) := fun w' e => stObj_cell e 3
  have kh0 : ∀ w' : World, w'.heap[w.heap.size]? = some (.cells #[encStr id, encStr number, .int .u16 (home : Int), .int .u32 (move : Int), .int .u16 (area : Int), encStr roam] 54) → w'.cell? ⟨w.heap.size, 0, none⟩ = some (encStr id) := fun w' e => cell_of_row _ _ 0 _ _ _ e
  have kh1 : ∀ w' : World, w'.heap[w.heap.size]? = some (.cells #[encStr id, encStr number, .int .u16 (home : Int), .int .u32 (move : Int), .int .u16 (area : Int), encStr roam] 54) → w'.cell? ⟨w.heap.size, 5, none⟩ = some (encStr roam) := fun w' e => cell_of_row _ _ 5 _ _ _ e
  have hgl : g < w1.heap.size := (Array.getElem?_eq_some_iff.1 h1.obj).1
  have htl : w.heap.size < w1.heap.size := (Array.getElem?_eq_some_iff.1 o1).1
  have hbl : b2 < w1.heap.size := (Array.getElem?_eq_some_iff.1 hm1).1
  have hbl3 : b4 < w1.heap.size := (Array.getElem?_eq_some_iff.1 hm3).1
  have ho1 := h1.obj
  have H1 := Lib.hid h1
  have HOLD := Lib.hid hold
  have HTHERE := Lib.hid hthere
  have HUID := Lib.hid huid
  have HUSED := Lib.hid hused
  clear h1 hold hthere huid hused b0 hc1 hn1
  go_cut [5, 6] from 9 (fun s5 s6 wc => s5 = .pointer (some ⟨w1.heap.size, 0, none⟩) ∧ s6 = .bool there ∧ Below w1.heap.size w1 wc ∧ wc.heap[w1.heap.size]? = some (.cells #[encStr oid, encStr onum, .int .u16 (ohm : Int), .int .u32 (omv : Int), .int .u16 (oar : Int), encStr orm] 54))
  case first =>
    go_region_held3 (fun w' => w'.heap[g]? = some (stObj (.map (some b1)) (.map (some b2)) (.map (some b3)) (.map (some b4)) A S.log.length c S.dur) ∧ w'.heap[w.heap.size]? = some (.cells #[encStr id, encStr number, .int .u16 (home : Int), .int .u32 (move : Int), .int .u16 (area : Int), encStr roam] 54) ∧ w'.heap[b2]? = some (.map es1 k1))
      (first | exact ⟨ho1, o1, hm1⟩ | exact ⟨(Below.heap_alloc _ _ _ hgl).trans ho1, (Below.heap_alloc _ _ _ htl).trans o1, (Below.heap_alloc _ _ _ hbl).trans hm1⟩ | fail)
      (fail)
    all_goals go_wp2_with fail
    all_goals go_meet
    all_goals exact ⟨rfl, rfl, ((Below.refl _ _).alloc (Nat.le_refl _) _).drew, heap_alloc_new w1 _⟩
  case rest =>
    obtain ⟨rfl, rfl, hB2, oo2⟩ := hcut
    have og2 := (hB2.block g hgl).trans ho1
    have oh2 := (hB2.block w.heap.size htl).trans o1
    have om2 := (hB2.block b4 hbl3).trans hm3
    have HB2 := Lib.hid hB2
    have HOO2 := Lib.hid oo2
    have HBM2 := Lib.hid ((hB2.block b2 hbl).trans hm1)
    clear ho1 o1 hm1 hm3 hB2 oo2 kl1
    go_upto_region 5 with fail
    go_cut [7, 8] from 9 (fun s7 s8 wd => s7 = encStr uid ∧ s8 = .bool used ∧ wd = wc.drew)
    case first =>
      go_region_held3 (fun w' => w'.heap[g]? = some (stObj (.map (some b1)) (.map (some b2)) (.map (some b3)) (.map (some b4)) A S.log.length c S.dur) ∧ w'.heap[w.heap.size]? = some (.cells #[encStr id, encStr number, .int .u16 (home : Int), .int .u32 (move : Int), .int .u16 (area : Int), encStr roam] 54) ∧ w'.heap[b4]? = some (.map es3 k3))
        (first | exact ⟨og2, oh2, om2⟩ | fail)
        (fail)
      all_goals go_wp2_with fail
      all_goals go_meet
      all_goals exact ⟨rfl, rfl, rfl⟩
    case rest =>
      obtain ⟨rfl, rfl, rfl⟩ := hcut
      have hB3 : Below w1.heap.size w1 wc.drew := HB2.out.drew
      have oo3 : wc.drew.heap[w1.heap.size]? = some (.cells #[encStr oid, encStr onum, .int .u16 (ohm : Int), .int .u32 (omv : Int), .int .u16 (oar : Int), encStr orm] 54) := HOO2.out
      have og3 : wc.drew.heap[g]? = some (stObj (.map (some b1)) (.map (some b2)) (.map (some b3)) (.map (some b4)) A S.log.length c S.dur) := og2
      have oh3 : wc.drew.heap[w.heap.size]? = some (.cells #[encStr id, encStr number, .int .u16 (home : Int), .int .u32 (move : Int), .int .u16 (area : Int), encStr roam] 54) := oh2
      have hbm3 : b2 < wc.drew.heap.size ∧ wc.drew.heap[b2]? = some (.map es1 k1) := ⟨(Array.getElem?_eq_some_iff.1 HBM2.out).1, HBM2.out⟩
      have HBM3 := Lib.hid hbm3
      clear hbm3
      clear HBM2
      generalize wc.drew = w3 at *
      clear og2 oh2 om2 HB2 HOO2 kl3
      have y0 : w3.cell? ⟨w.heap.size, 0, none⟩ = some (encStr id) := kh0 w3 oh3
      have y1 : w3.cell? ⟨w.heap.size, 1, none⟩ = some (encStr number) := cell_of_row _ _ 1 _ _ _ oh3
      have y2 : w3.cell? ⟨w.heap.size, 2, none⟩ = some (.int .u16 (home : Int)) := cell_of_row _ _ 2 _ _ _ oh3
      have y3 : w3.cell? ⟨w.heap.size, 3, none⟩ = some (.int .u32 (move : Int)) := cell_of_row _ _ 3 _ _ _ oh3
      have y4 : w3.cell? ⟨w.heap.size, 4, none⟩ = some (.int .u16 (area : Int)) := cell_of_row _ _ 4 _ _ _ oh3
      have y5 : w3.cell? ⟨w.heap.size, 5, none⟩ = some (encStr roam) := cell_of_row _ _ 5 _ _ _ oh3
      have HB3 := Lib.hid hB3
      have HOO3 := Lib.hid oo3
      have HOG3 := Lib.hid og3
      have HOH3 := Lib.hid oh3
      clear hB3 oo3 og3 oh3 kh0 kh1 kg0 kg2
      have hcl : clashV S ⟨id, number, home, move, area, roam⟩ ↔ used = true ∧ uid ≠ id := by
        unfold clashV
        rw [HUSED.out, HUID.out]
        cases e : (roamers S.visits).find? (fun x => x.roam == roam) with
        | none =>
          rw [List.find?_eq_none] at e
          constructor
          · rintro ⟨x, hx, h1, _⟩
            exact absurd (by simpa using h1) (e x hx)
          · rintro ⟨h1, _⟩; cases h1
        | some x =>
          have e1 := List.mem_of_find?_eq_some e
          have e2 : x.roam = roam := by simpa using List.find?_some e
          constructor
          · rintro ⟨y, hy, h1, h2⟩
            refine ⟨rfl, ?_⟩
            have := roam_one HFIT.out e1 hy (e2.trans h1.symm)
            subst this
            exact h2
          · rintro ⟨_, h2⟩
            exact ⟨x, e1, e2, h2⟩
      have hes : (es1.size : Int) < 4096 := by have := hesn; omega
      have HCL := Lib.hid hcl
      clear hcl
      go_upto_block 0 with fail
      go_cut [] from 9 (fun wd => GoodV S ⟨id, number, home, move, area, roam⟩ ∧ Below w3.heap.size w3 wd)
      case first =>
        cases ok with
        | false =>
          go_wp2_with (first
            | (go_at_call 51; (with_reducible refine (HVD.out _).mono ?_); rintro e w4 ⟨rfl, hB4⟩)
            | fail)
          go_ret
          have cW : Chg F w w4 := HC1.out.then_ (Chg.of_below F (below_then HB3.out hB4))
          exact ⟨_, 1, S, rfl, .inl ⟨b1, b2, b3, b4, A, c, rfl, H1.out.chg (Chg.of_below [] (below_then HB3.out hB4)) (by simp)⟩, cW, HN1.out, .inl ⟨HOK.out, rfl, rfl⟩⟩
        | true =>
          cases used with
          | true =>
            by_cases hu : uid = id
            · have hu2 : (uid == id) = true := by simpa using hu
              have HU := Lib.hid hu
              clear hu
              cases there with
              | true =>
                go_wp2_with (first
                  | (go_at_call 51; (with_reducible refine (HVD.out _).mono ?_); rintro e w4 ⟨rfl, hB4⟩
                     have z0 := cell_later hB4 y0
                     have zg : w4.cell? ⟨g, 1, none⟩ = some (.map (some b2)) := stObj_cell ((hB4.block g (Array.getElem?_eq_some_iff.1 HOG3.out).1).trans HOG3.out) 1
                     have zm : w4.heap[b2]? = some (.map es1 k1) := (hB4.block b2 HBM3.out.1).trans HBM3.out.2
                     have zl := fun ty => len_obj (P := Tryz.prog) zm Tryz.underlying97 ty)
                  | fail)
                go_meet
                exact ⟨⟨HOK.out, fun h => (HCL.out.1 h).2 HU.out⟩, hB4⟩
              | false =>
                go_wp2_with (first
                  | (go_at_call 51; (with_reducible refine (HVD.out _).mono ?_); rintro e w4 ⟨rfl, hB4⟩
                     have z0 := cell_later hB4 y0
                     have zg : w4.cell? ⟨g, 1, none⟩ = some (.map (some b2)) := stObj_cell ((hB4.block g (Array.getElem?_eq_some_iff.1 HOG3.out).1).trans HOG3.out) 1
                     have zm : w4.heap[b2]? = some (.map es1 k1) := (hB4.block b2 HBM3.out.1).trans HBM3.out.2
                     have zl := fun ty => len_obj (P := Tryz.prog) zm Tryz.underlying97 ty)
                  | fail)
                go_meet
                exact ⟨⟨HOK.out, fun h => (HCL.out.1 h).2 HU.out⟩, hB4⟩
            · have hu2 : (uid == id) = false := by simpa using hu
              have HU := Lib.hid hu
              clear hu
              go_wp2_with (first
                | (go_at_call 51; (with_reducible refine (HVD.out _).mono ?_); rintro e w4 ⟨rfl, hB4⟩
                   have z0 := cell_later hB4 y0
                   have zg : w4.cell? ⟨g, 1, none⟩ = some (.map (some b2)) := stObj_cell ((hB4.block g (Array.getElem?_eq_some_iff.1 HOG3.out).1).trans HOG3.out) 1
                   have zm : w4.heap[b2]? = some (.map es1 k1) := (hB4.block b2 HBM3.out.1).trans HBM3.out.2
                   have zl := fun ty => len_obj (P := Tryz.prog) zm Tryz.underlying97 ty)
                | fail)
              go_ret
              have cW : Chg F w w4 := HC1.out.then_ (Chg.of_below F (below_then HB3.out hB4))
              exact ⟨_, 8, S, rfl, .inl ⟨b1, b2, b3, b4, A, c, rfl, H1.out.chg (Chg.of_below [] (below_then HB3.out hB4)) (by simp)⟩, cW, HN1.out, .inr (.inl ⟨HOK.out, HCL.out.2 ⟨trivial, HU.out⟩, rfl, rfl⟩)⟩
          | false =>
            cases there with
            | true =>
              go_wp2_with (first
                | (go_at_call 51; (with_reducible refine (HVD.out _).mono ?_); rintro e w4 ⟨rfl, hB4⟩
                   have z0 := cell_later hB4 y0
                   have zg : w4.cell? ⟨g, 1, none⟩ = some (.map (some b2)) := stObj_cell ((hB4.block g (Array.getElem?_eq_some_iff.1 HOG3.out).1).trans HOG3.out) 1
                   have zm : w4.heap[b2]? = some (.map es1 k1) := (hB4.block b2 HBM3.out.1).trans HBM3.out.2
                   have zl := fun ty => len_obj (P := Tryz.prog) zm Tryz.underlying97 ty)
                | fail)
              go_meet
              exact ⟨⟨HOK.out, fun h => by have := (HCL.out.1 h).1; cases this⟩, hB4⟩
            | false =>
              go_wp2_with (first
                | (go_at_call 51; (with_reducible refine (HVD.out _).mono ?_); rintro e w4 ⟨rfl, hB4⟩
                   have z0 := cell_later hB4 y0
                   have zg : w4.cell? ⟨g, 1, none⟩ = some (.map (some b2)) := stObj_cell ((hB4.block g (Array.getElem?_eq_some_iff.1 HOG3.out).1).trans HOG3.out) 1
                   have zm : w4.heap[b2]? = some (.map es1 k1) := (hB4.block b2 HBM3.out.1).trans HBM3.out.2
                   have zl := fun ty => len_obj (P := Tryz.prog) zm Tryz.underlying97 ty)
                | fail)
              go_meet
              exact ⟨⟨HOK.out, fun h => by have := (HCL.out.1 h).1; cases this⟩, hB4⟩
      case rest =>
        obtain ⟨hgood, hB4⟩ := hcut
        have hB := below_then HB3.out hB4
        have og : wc.heap[g]? = some (stObj (.map (some b1)) (.map (some b2)) (.map (some b3)) (.map (some b4)) A S.log.length c S.dur) := (hB4.block g (Array.getElem?_eq_some_iff.1 HOG3.out).1).trans HOG3.out
        have oh : wc.heap[w.heap.size]? = some (.cells #[encStr id, encStr number, .int .u16 (home : Int), .int .u32 (move : Int), .int .u16 (area : Int), encStr roam] 54) := (hB4.block _ (Array.getElem?_eq_some_iff.1 HOH3.out).1).trans HOH3.out
        have oo : wc.heap[w1.heap.size]? = some (.cells #[encStr oid, encStr onum, .int .u16 (ohm : Int), .int .u32 (omv : Int), .int .u16 (oar : Int), encStr orm] 54) := (hB4.block _ (Array.getElem?_eq_some_iff.1 HOO3.out).1).trans HOO3.out
        have mhc := mh.chg (Chg.of_below [] hB) (by simp)
        have mnc := mn.chg (Chg.of_below [] hB) (by simp)
        have hol : orm.length ≤ maxLen := by
          have := old_lenV HFIT.out id
          rw [← HOLD.out] at this
          simp only [maxLen]; simp only at this; omega
        have H1c := H1.out.chg (Chg.of_below [] hB) (by simp)
        obtain ⟨w5, hrun0, mn5, tu5⟩ := (show MapIs Tryz.prog 9 wc.drew b4 S.puts f3 from mnc.of_block rfl).drop Tryz.underlying9 Tryz.underlying98 orm hol 0
        have hrun : ∀ ty, (Builtin.delete_ #[98, 9] ty #[.map (some b4), encStr orm]).run Tryz.prog wc.drew = .ok (.tuple #[]) w5 := fun ty => hrun0
        have c5 : Chg [b4] wc w5 := (Chg.refl _ _).drew.then_ (Chg.of_turned tu5 (by simp))
        have hn5 : g ≠ b4 ∧ w.heap.size ≠ b4 ∧ w1.heap.size ≠ b4 := by
          refine ⟨fun e => ?_, fun e => ?_, fun e => by omega⟩
          · obtain ⟨es, k, hm⟩ := mnc.obj
            rw [← e, og] at hm
            simp [stObj] at hm
          · obtain ⟨es, k, hm⟩ := mnc.obj
            rw [← e, oh] at hm
            simp at hm
        have og5 := c5.heap og (by simpa using hn5.1)
        have oo5 := c5.heap oo (by simpa using hn5.2.2)
        have oh5 := c5.heap oh (by simpa using hn5.2.1)
        have kg2 : ∀ w' : World, w'.heap[g]? = some (stObj (.map (some b1)) (.map (some b2)) (.map (some b3)) (.map (some b4)) A S.log.length c S.dur) → w'.cell? ⟨g, 3, none⟩ = some (.map (some b4)) := fun w' e => stObj_cell e 3
        have kg0 : ∀ w' : World, w'.heap[g]? = some (stObj (.map (some b1)) (.map (some b2)) (.map (some b3)) (.map (some b4)) A S.log.length c S.dur) → w'.cell? ⟨g, 1, none⟩ = some (.map (some b2)) := fun w' e => stObj_cell e 1
        have ko1 : ∀ w' : World, w'.heap[w1.heap.size]? = some (.cells #[encStr oid, encStr onum, .int .u16 (ohm : Int), .int .u32 (omv : Int), .int .u16 (oar : Int), encStr orm] 54) → w'.cell? ⟨w1.heap.size, 5, none⟩ = some (encStr orm) := fun w' e => cell_of_row _ _ 5 _ _ _ e
        have HG5 := Lib.hid og5
        have HH5 := Lib.hid oh5
        have HH1 := Lib.hid H1c
        have HMH := Lib.hid mhc
        have HTU := Lib.hid tu5
        have HMN5 := Lib.hid mn5
        have HC5 := Lib.hid c5
        have HGOOD := Lib.hid hgood
        have HB := Lib.hid hB
        clear mnc mhc hrun0 H1c tu5 mn5 c5 oh oh5 hgood hB hB4 y0 y1 y2 y3 y4 y5
        go_upto_region 12 with fail
        go_cut [] from 9 (fun wd => wd = w5)
        case first =>
          go_region_held3 (fun w' => w'.heap[g]? = some (stObj (.map (some b1)) (.map (some b2)) (.map (some b3)) (.map (some b4)) A S.log.length c S.dur) ∧ w'.heap[w1.heap.size]? = some (.cells #[encStr oid, encStr onum, .int .u16 (ohm : Int), .int .u32 (omv : Int), .int .u16 (oar : Int), encStr orm] 54))
            (first | exact ⟨og, oo⟩ | exact ⟨og5, oo5⟩ | fail)
            (first
              | (refine step_delete (by rfl) (.tmp 59) (.tmp 61) 98 9 (by rfl) b4 (encStr orm) (by rfl) (by rfl) w5 hrun ?_)
              | fail)
          all_goals go_wp2_with fail
          all_goals go_meet
          all_goals rfl
        case rest =>
          subst hcut
          have hnd := HH1.out.maps.nodup
          have hlm : S.puts < maxLen := by simp only [maxLen]; omega
          have hb5 : b2 ∉ [b4] := by simp; omega
          have hb6 : b4 ∉ [b2] := by simp; omega
          have mh5 : MapIs Tryz.prog 9 wc.drew b2 S.puts f1 := (HMH.out.chg HC5.out hb5).of_block rfl
          obtain ⟨wA, rA, mA, tA⟩ := mh5.store Tryz.underlying9 Tryz.underlying97 hlm id l1 (.agg #[encStr id, encStr number, .int .u16 (home : Int), .int .u32 (move : Int), .int .u16 (area : Int), encStr roam])
          have cA : Chg [b2] wc wA := (Chg.refl _ _).drew.then_ (Chg.of_turned tA (by simp))
          have mn6 : MapIs Tryz.prog 9 wA.drew b4 S.puts (cut f3 orm) := (HMN5.out.chg cA hb6).of_block rfl
          obtain ⟨wB, rB, mB, tB⟩ := mn6.store Tryz.underlying9 Tryz.underlying98 hlm roam l3 (encStr id)
          have cB : Chg [b4] wA wB := (Chg.refl _ _).drew.then_ (Chg.of_turned tB (by simp))
          have hn6 : g ≠ b2 ∧ w.heap.size ≠ b2 := by
            refine ⟨fun e => ?_, fun e => ?_⟩
            · obtain ⟨es, k, hm⟩ := mh5.obj
              rw [← e] at hm
              have := HG5.out.symm.trans hm
              simp [stObj] at this
            · obtain ⟨es, k, hm⟩ := mh5.obj
              rw [← e] at hm
              have := HH5.out.symm.trans hm
              simp at this
          have hgA := cA.heap HG5.out (by simpa using hn6.1)
          have hhA := cA.heap HH5.out (by simpa using hn6.2)
          have hgB := cB.heap hgA (by simpa using hn5.1)
          have hhB := cB.heap hhA (by simpa using hn5.2.1)
          have hg0 := HG5.out
          have hh0 := HH5.out
          have kh0 : ∀ w' : World, w'.heap[w.heap.size]? = some (.cells #[encStr id, encStr number, .int .u16 (home : Int), .int .u32 (move : Int), .int .u16 (area : Int), encStr roam] 54) → w'.cell? ⟨w.heap.size, 0, none⟩ = some (encStr id) := fun w' e => cell_of_row _ _ 0 _ _ _ e
          have kh1 : ∀ w' : World, w'.heap[w.heap.size]? = some (.cells #[encStr id, encStr number, .int .u16 (home : Int), .int .u32 (move : Int), .int .u16 (area : Int), encStr roam] 54) → w'.cell? ⟨w.heap.size, 1, none⟩ = some (encStr number) := fun w' e => cell_of_row _ _ 1 _ _ _ e
          have kh2 : ∀ w' : World, w'.heap[w.heap.size]? = some (.cells #[encStr id, encStr number, .int .u16 (home : Int), .int .u32 (move : Int), .int .u16 (area : Int), encStr roam] 54) → w'.cell? ⟨w.heap.size, 2, none⟩ = some (.int .u16 (home : Int)) := fun w' e => cell_of_row _ _ 2 _ _ _ e
          have kh3 : ∀ w' : World, w'.heap[w.heap.size]? = some (.cells #[encStr id, encStr number, .int .u16 (home : Int), .int .u32 (move : Int), .int .u16 (area : Int), encStr roam] 54) → w'.cell? ⟨w.heap.size, 3, none⟩ = some (.int .u32 (move : Int)) := fun w' e => cell_of_row _ _ 3 _ _ _ e
          have kh4 : ∀ w' : World, w'.heap[w.heap.size]? = some (.cells #[encStr id, encStr number, .int .u16 (home : Int), .int .u32 (move : Int), .int .u16 (area : Int), encStr roam] 54) → w'.cell? ⟨w.heap.size, 4, none⟩ = some (.int .u16 (area : Int)) := fun w' e => cell_of_row _ _ 4 _ _ _ e
          have kh5 : ∀ w' : World, w'.heap[w.heap.size]? = some (.cells #[encStr id, encStr number, .int .u16 (home : Int), .int .u32 (move : Int), .int .u16 (area : Int), encStr roam] 54) → w'.cell? ⟨w.heap.size, 5, none⟩ = some (encStr roam) := fun w' e => cell_of_row _ _ 5 _ _ _ e
          obtain ⟨wE, hwE, hgE, hhE, cE, m2E, m4E⟩ : ∃ wE, (wE = if roam = [] then wA else wB) ∧ wE.heap[g]? = some (stObj (.map (some b1)) (.map (some b2)) (.map (some b3)) (.map (some b4)) A S.log.length c S.dur) ∧ wE.heap[w.heap.size]? = some (.cells #[encStr id, encStr number, .int .u16 (home : Int), .int .u32 (move : Int), .int .u16 (area : Int), encStr roam] 54) ∧ Chg [b2, b4] wc wE ∧ MapIs Tryz.prog 9 wE b2 (S.puts + 1) (upd f1 id (.agg #[encStr id, encStr number, .int .u16 (home : Int), .int .u32 (move : Int), .int .u16 (area : Int), encStr roam])) ∧ MapIs Tryz.prog 9 wE b4 (S.puts + 1) (if roam = [] then cut f3 orm else upd (cut f3 orm) roam (encStr id)) := by
            by_cases hr : roam = []
            · refine ⟨wA, by rw [if_pos hr], hgA, hhA, cA.mono (by simp), mA, ?_⟩
              rw [if_pos hr]
              exact (MapIs.of_block mn6 rfl).mono (Nat.le_succ _)
            · refine ⟨wB, by rw [if_neg hr], hgB, hhB, (cA.mono (by simp)).then_ (cB.mono (by simp)), mA.chg cB hb5, ?_⟩
              rw [if_neg hr]
              exact mB
          have y5 := kh5 wA hhA
          have HmE := Lib.hid (And.intro m2E m4E)
          have HCE := Lib.hid cE
          have HWE := Lib.hid hwE
          have HE1 := Lib.hid (And.intro hgE hhE)
          clear mh5 mA mB cA cB tA tB mn6 og oo og5 oo5 ko1 hrun hb5 hb6 m2E m4E cE hwE hgE hhE
          go_upto_region 13 with fail
          go_cut [] from 9 (fun wd => wd = wA)
          case first =>
            go_region_held3 (fun w' => w'.heap[g]? = some (stObj (.map (some b1)) (.map (some b2)) (.map (some b3)) (.map (some b4)) A S.log.length c S.dur) ∧ w'.heap[w.heap.size]? = some (.cells #[encStr id, encStr number, .int .u16 (home : Int), .int .u32 (move : Int), .int .u16 (area : Int), encStr roam] 54))
              (first | exact ⟨hg0, hh0⟩ | exact ⟨hgA, hhA⟩ | fail)
              (fail)
            all_goals go_wp2_with fail
            all_goals go_meet
            all_goals rfl
          case rest =>
            subst hcut
            go_upto_if 71 with fail
            go_cut [] from 9 (fun wd => wd = wE)
            case first =>
              cases roam with
              | nil =>
                go_wp2_with fail
                go_meet
                exact HWE.out.symm
              | cons x r =>
                go_upto_region 15 with fail
                go_region_held3 (fun w' => w'.heap[g]? = some (stObj (.map (some b1)) (.map (some b2)) (.map (some b3)) (.map (some b4)) A S.log.length c S.dur) ∧ w'.heap[w.heap.size]? = some (.cells #[encStr id, encStr number, .int .u16 (home : Int), .int .u32 (move : Int), .int .u16 (area : Int), encStr (x :: r)] 54))
                  (first | exact ⟨hgA, hhA⟩ | exact ⟨hgB, hhB⟩ | fail)
                  (fail)
                all_goals go_wp2_with fail
                all_goals go_meet
                all_goals exact HWE.out.symm
            case rest =>
              subst hcut
              have hhE := HE1.out.2
              have y0 := kh0 wc hhE
              have y1 := kh1 wc hhE
              have y2 := kh2 wc hhE
              have y3 := kh3 wc hhE
              have y4 := kh4 wc hhE
              have y5' := kh5 wc hhE
              have hflen : (VisitR.mk id number home move area roam).fields.length ≤ 56 := VisitR.fields_len HGOOD.out.1
              have hfld := visitFields_any ⟨id, number, home, move, area, roam⟩ wc HGOOD.out.1 HG.out
              have hputs : putVisitS S ⟨id, number, home, move, area, roam⟩ = { S with visits := putK VisitR.id ⟨id, number, home, move, area, roam⟩ S.visits, log := S.log ++ entryB 2 (VisitR.mk id number home move area roam).fields, puts := S.puts + 1 } := rfl
              generalize hfl : (VisitR.mk id number home move area roam).fields = fl at *
              unfold VisitR.val VisitR.cells at hfld
              simp only at hfld
              have HF := Lib.hid hfld
              have HPUT := Lib.hid hputs
              have HX := Lib.hid hn5
              have HX6 := Lib.hid hn6
              clear hfld hputs hfl kh0 kh1 kh2 kh3 kh4 kh5 hg0 hh0 hgA hhA hgB hhB hhE rA rB kg0 kg2 hn5 hn6 y5
              have hcAll : Chg [b2, b4] w1 wc := ((Chg.of_below [b2, b4] HB.out).then_ (HC5.out.mono (by simp))).then_ HCE.out
              have hap := H1.out.apart
              have hlogD : RowB wc 0 A c S.log := Row.chg H1.out.log hcAll (fun k e => by
                simp only [List.mem_cons, List.not_mem_nil, or_false, not_or]
                exact ⟨fun e2 => hap.2.2.2.1 (e2 ▸ mem_blk.2 e), fun e2 => hap.2.2.2.2.2 (e2 ▸ mem_blk.2 e)⟩)
              have HAP := Lib.hid hap
              have HCALL := Lib.hid hcAll
              clear hap hcAll
              go_wp2_with (first
                | (go_at_call 48; (with_reducible refine HF.out.mono ?_); rintro e w6 ⟨Af, cf, rfl, h6, hB6⟩
                   have hg6 := (hB6.block g (Array.getElem?_eq_some_iff.1 HE1.out.1).1).trans HE1.out.1
                   have hent := entry_any w6 g _ _ _ _ A c S.dur S.log hg6 (hlogD.below hB6) hll 2 Af fl cf h6.rd (by omega)
                   simp only [show ((2 : UInt8).toNat : Int) = 2 from rfl] at hent
                   have HE := Lib.hid hent
                   clear hent)
                | (go_at_call 46; (with_reducible refine HE.out.mono ?_); rintro e w7 ⟨rfl, A7, c7, o7, h7, hc7, hn7⟩)
                | fail)
              go_ret
              have hap := HAP.out
              have hnd := HH1.out.maps.nodup
              have hnf := HN1.out
              have nF : NewIn w F [b2, b4] := fun i hi => hnf i (by simp at hi ⊢; rcases hi with rfl | rfl <;> simp)
              have nG : NewIn w F (g :: blk A) := fun i hi => hnf i (by simp at hi ⊢; rcases hi with rfl | hi <;> simp [*])
              have cF : Chg F w w6 := (HC1.out.trans HCALL.out nF).then_ (Chg.of_below F hB6)
              have s6 : w.heap.size ≤ w6.heap.size := cF.size
              have c6D : Chg (g :: blk A) wc w7 := (Chg.of_below _ hB6).then_ hc7
              refine ⟨_, 0, putVisitS S ⟨id, number, home, move, area, roam⟩, rfl, .inl ⟨b1, b2, b3, b4, A7, c7, rfl, ?_⟩, cF.trans hc7 nG, ?_, .inr (.inr ⟨HGOOD.out.1, HGOOD.out.2, rfl, rfl⟩)⟩
              · rw [HPUT.out]
                refine ⟨o7, h7, ⟨hnd, ?_, ⟨_, HmE.out.1.chg c6D (by simp; exact ⟨fun e => hap.1.2.1 e.symm, hap.2.2.2.1⟩), ?_⟩, ?_, ⟨_, HmE.out.2.chg c6D (by simp; exact ⟨fun e => hap.1.2.2.2 e.symm, hap.2.2.2.2.2⟩), ?_⟩⟩⟩
                · obtain ⟨f2, m2, t2⟩ := H1.out.maps.homes
                  exact ⟨f2, (((m2.chg HCALL.out (by simp; omega)).chg c6D (by simp; exact ⟨fun e => hap.1.1 e.symm, hap.2.2.1⟩))).mono (Nat.le_succ _), t2⟩
                · exact th.put HFIT.out.vs ⟨id, number, home, move, area, roam⟩
                · obtain ⟨f4, m4, t4⟩ := H1.out.maps.numbers
                  exact ⟨f4, (((m4.chg HCALL.out (by simp; omega)).chg c6D (by simp; exact ⟨fun e => hap.1.2.2.1 e.symm, hap.2.2.2.2.1⟩))).mono (Nat.le_succ _), t4⟩
                · have hon := HOLD.out
                  have h9 := old_roam HFIT.out id
                  rw [← hon] at h9
                  have hmr := mem_roamers_put HFIT.out ⟨id, number, home, move, area, roam⟩
                  by_cases hr : roam = []
                  · rw [if_pos hr]
                    refine Tells.cut2 (l2 := roamers (putK VisitR.id ⟨id, number, home, move, area, roam⟩ S.visits)) (key := VisitR.id) tn id orm (fun y => ?_) h9
                    rw [hmr y]
                    constructor
                    · rintro (⟨_, h⟩ | h)
                      · exact absurd hr h
                      · exact h
                    · exact fun h => .inr h
                  · rw [if_neg hr]
                    refine Tells.put2 (l2 := roamers (putK VisitR.id ⟨id, number, home, move, area, roam⟩ S.visits)) (key := VisitR.id) tn ⟨id, number, home, move, area, roam⟩ orm (fun y => ?_) h9 (fun y hy e => Classical.byContradiction fun h2 => HGOOD.out.2 ⟨y, hy, e, h2⟩)
                    rw [hmr y]
                    constructor
                    · rintro (⟨h, _⟩ | h)
                      · exact .inl h
                      · exact .inr h
                    · rintro (h | h)
                      · exact .inl ⟨h, hr⟩
                      · exact .inr h
              · intro i hi
                simp only [List.mem_cons] at hi
                rcases hi with rfl | rfl | rfl | rfl | rfl | hi
                · exact hnf _ (by simp)
                · exact hnf _ (by simp)
                · exact hnf _ (by simp)
                · exact hnf _ (by simp)
                · exact hnf _ (by simp)
                · rcases hn7 i hi with h8 | h8
                  · exact hnf _ (by simp [h8])
                  · exact .inr (Nat.le_trans s6 h8)
end Go.Proofs.YthbbmpelldglmaaGreatDoor
/- Package subscribers: 'DropHome'. -/
namespace Go.Proofs.YthbbmpelldglmaaGreatDoor
set_option linter.unusedVariables false
set_option linter.unusedSimpArgs false
open Go.RowKit

/-- 'DropHome', as plain data -/
def dropHomeS (S : St) (id : List UInt8) : St := { S with homes := S.homes.filter (fun h => !(h.id == id)), log := S.log ++ entryB 3 (textB id) }
def DropOut (S : St) (id : List UInt8) (er : Int) (S' : St) : Prop := (homeOf S id = none ∧ er = 7 ∧ S' = S) ∨ ((homeOf S id).isSome = true ∧ er = 0 ∧ S' = dropHomeS S id)
theorem Fit.drop {S : St} (h : S.Fit) (id : List UInt8) : (dropHomeS S id).Fit where
  hs := h.hs.filter _
  hn := h.hn.filter _
  hok := fun y hy => h.hok y (List.mem_filter.1 hy).1
  vs := h.vs
  vr := h.vr
  vok := h.vok

set_option maxHeartbeats 8000000 in
set_option maxRecDepth 100000 in
theorem dropHome_any (w : World) (g : Nat) (F : List Nat) (S : St) (h : StAt w g F S) (hfit : S.Fit) (hll : S.log.length ≤ 100000000) (id : List UInt8) (l1 : id.length ≤ maxLen) :
    Calls Tryz.prog 35 #[.pointer (some ⟨g, 0, none⟩), encStr id] w fun e w' => ∃ F' er S', e = .returned (.int .i64 er) ∧ StAt w' g F' S' ∧ Chg F w w' ∧ NewIn w F F' ∧ DropOut S id er S' := by
  have hh := storeHome_any w g F S h id l1
  cases ho : homeOf S id with
  | none =>
    rw [ho] at hh
    unfold homeZero HomeR.val HomeR.cells at hh
    simp only [Option.getD_none, Option.isSome_none, Option.isSome] at hh
    have HO := Lib.hid ho
    have HH := Lib.hid hh
    have HS := Lib.hid h
    clear ho hh h hfit
    go_enter Tryz.func35, Tryz.ntmps35
    go_wp2_with (first
      | (go_at_call 19; (with_reducible refine HH.out.mono ?_); rintro e w1 ⟨rfl, hB1⟩)
      | fail)
    go_ret
    exact ⟨F, 7, S, rfl, HS.out.below (below_alloc hB1 _), Chg.of_below F (below_alloc hB1 _), NewIn.refl _ _, .inl ⟨HO.out, rfl, rfl⟩⟩
  | some old =>
    have hmem : old ∈ S.homes := List.mem_of_find?_eq_some ho
    have hid : old.id = id := by have := List.find?_some ho; simpa using this
    have hol := HomeR.ok_len (hfit.hok old hmem).1
    have hnum := old_num hfit id
    rw [ho] at hh hnum
    obtain ⟨oid, onum, oat, omv, oba, owa⟩ := old
    simp only at hid hol
    rw [hid] at hol
    have hlt := h.lt
    obtain ⟨b1, b2, b3, b4, A, c, rfl, hM⟩ : ∃ b1 b2 b3 b4 A c, F = g :: b1 :: b2 :: b3 :: b4 :: blk A ∧ StM w g b1 b2 b3 b4 A c S := by
      rcases h with h | ⟨A, c, _, h⟩
      · exact h
      · rw [h.homes] at hmem; cases hmem
    unfold HomeR.val HomeR.cells at hh
    simp only [Option.getD_some, Option.isSome_some, Option.isSome] at hh hnum
    have HO := Lib.hid ho
    have HH := Lib.hid hh
    have HNUM := Lib.hid hnum
    have H := Lib.hid hM
    have HFIT := Lib.hid hfit
    have HLT := Lib.hid hlt
    clear ho hh h hM hnum hmem hid hfit hlt
    go_enter Tryz.func35, Tryz.ntmps35
    go_upto_region 4 with (first
      | (go_at_call 19; (with_reducible refine HH.out.mono ?_); rintro e w1 ⟨rfl, hB1⟩)
      | fail)
    have hB2 := below_alloc hB1 (.cells #[encStr oid, encStr onum, .int .u16 (oat : Int), .int .u32 (omv : Int), .bool oba, .bool owa] 52)
    have oo2 := heap_alloc_new w1 (.cells #[encStr oid, encStr onum, .int .u16 (oat : Int), .int .u32 (omv : Int), .bool oba, .bool owa] 52)
    generalize ew2 : w1.alloc (.cells #[encStr oid, encStr onum, .int .u16 (oat : Int), .int .u32 (omv : Int), .bool oba, .bool owa] 52) = w2 at *
    have HM2 := H.out.chg (Chg.of_below [] hB2) (by simp)
    obtain ⟨f1, mh, th⟩ := HM2.maps.homes
    obtain ⟨f3, mn, tn⟩ := HM2.maps.numbers
    have hnd := HM2.maps.nodup
    have hap := HM2.apart
    have og2 := HM2.obj
    have k0 : w2.cell? ⟨g, 0, none⟩ = some (.map (some b1)) := stObj_cell og2 0
    obtain ⟨w3, hrun0, m3, t3⟩ := mh.drop Tryz.underlying9 Tryz.underlying96 id l1 0
    have hrun1 : ∀ ty, (Builtin.delete_ #[96, 9] ty #[.map (some b1), encStr id]).run Tryz.prog w2 = .ok (.tuple #[]) w3 := fun ty => hrun0
    have c3 : Chg [b1] w2 w3 := Chg.of_turned t3 (by simp)
    have og3 := c3.heap og2 (by simp; exact hap.1.1)
    have mn3 : MapIs Tryz.prog 9 w3.drew b3 S.puts f3 := (mn.chg c3 (by simp; omega)).of_block rfl
    have hob : w1.heap.size ≠ b1 ∧ w1.heap.size ≠ b3 := by
      have h1 := HLT.out b1 (by simp)
      have h3 := HLT.out b3 (by simp)
      have := hB1.size
      omega
    have oo3 := c3.heap oo2 (by simp; exact hob.1)
    obtain ⟨w5, hrun2, m5, t5⟩ := mn3.drop Tryz.underlying9 Tryz.underlying98 onum (by simp only [maxLen]; omega) 0
    have hrun3 : ∀ ty, (Builtin.delete_ #[98, 9] ty #[.map (some b3), encStr onum]).run Tryz.prog w3.drew = .ok (.tuple #[]) w5 := fun ty => hrun2
    have c5 : Chg [b3] w3 w5 := (Chg.refl _ _).drew.then_ (Chg.of_turned t5 (by simp))
    have og5 := c5.heap og3 (by simp; exact hap.1.2.2.1)
    have oo5 := c5.heap oo3 (by simp; exact hob.2)
    have kg2 : ∀ w' : World, w'.heap[g]? = some (stObj (.map (some b1)) (.map (some b2)) (.map (some b3)) (.map (some b4)) A S.log.length c S.dur) → w'.cell? ⟨g, 2, none⟩ = some (.map (some b3)) := fun w' e => stObj_cell e 2
    have ko1 : ∀ w' : World, w'.heap[w1.heap.size]? = some (.cells #[encStr oid, encStr onum, .int .u16 (oat : Int), .int .u32 (omv : Int), .bool oba, .bool owa] 52) → w'.cell? ⟨w1.heap.size, 1, none⟩ = some (encStr onum) := fun w' e => cell_of_row _ _ 1 _ _ _ e
    have HM2' := Lib.hid HM2
    have HMS := Lib.hid (And.intro m3 m5)
    have HCS := Lib.hid (And.intro c3 c5)
    have HG5 := Lib.hid og5
    have HB2 := Lib.hid hB2
    have HX := Lib.hid (And.intro hnd hap)
    have HTT := Lib.hid (And.intro th tn)
    clear HM2 mh mn m3 m5 t3 t5 c3 c5 hrun0 hrun2 mn3 hnd hap th tn hob og2 oo2 ew2 hB1 hB2
    go_upto_region 5 with fail
    go_cut [] from 7 (fun wd => wd = w5)
    case first =>
      go_region_held3 (fun w' => w'.heap[g]? = some (stObj (.map (some b1)) (.map (some b2)) (.map (some b3)) (.map (some b4)) A S.log.length c S.dur) ∧ w'.heap[w1.heap.size]? = some (.cells #[encStr oid, encStr onum, .int .u16 (oat : Int), .int .u32 (omv : Int), .bool oba, .bool owa] 52))
        (first | exact ⟨og3, oo3⟩ | exact ⟨og5, oo5⟩ | fail)
        (first
          | (refine step_delete (by rfl) (.tmp 24) (.tmp 26) 98 9 (by rfl) b3 (encStr onum) (by rfl) (by rfl) w5 hrun3 ?_)
          | fail)
      all_goals go_wp2_with fail
      all_goals go_meet
      all_goals rfl
    case rest =>
      subst hcut
      have htx := text_any wc.heap.size none [] 0 id wc (RowB.nil _ _) (Nat.le_refl _) (by simp) (by omega)
      simp only [List.nil_append, List.length_nil] at htx
      have hfl : (textB id).length ≤ 16 := by rw [textB_len]; omega
      have hds : dropHomeS S id = { S with homes := S.homes.filter (fun h => !(h.id == id)), log := S.log ++ entryB 3 (textB id) } := rfl
      generalize textB id = fl at *
      have HT := Lib.hid htx
      have HDS := Lib.hid hds
      clear htx hds kg2 ko1 og3 oo3 oo5 hrun1 hrun3 k0 og5
      have hcAll : Chg [b1, b3] w wc := ((Chg.of_below [b1, b3] HB2.out).then_ (HCS.out.1.mono (by simp))).then_ (HCS.out.2.mono (by simp))
      have hlogD : RowB wc 0 A c S.log := Row.chg H.out.log hcAll (fun k e => by
        have hap := HX.out.2
        simp only [List.mem_cons, List.not_mem_nil, or_false, not_or]
        exact ⟨fun e2 => hap.2.2.1 (e2 ▸ mem_blk.2 e), fun e2 => hap.2.2.2.2.1 (e2 ▸ mem_blk.2 e)⟩)
      have HCALL := Lib.hid hcAll
      clear hcAll
      go_wp2_with (first
        | (go_at_call 61; (with_reducible refine HT.out.mono ?_); rintro e w6 ⟨Af, cf, rfl, h6, hc6, hn6⟩
           have hB6 := Chg.none hc6
           have hg6 := (hB6.block g (Array.getElem?_eq_some_iff.1 HG5.out).1).trans HG5.out
           have hent := entry_any w6 g _ _ _ _ A c S.dur S.log hg6 (hlogD.below hB6) hll 3 Af fl cf h6.rd (by omega)
           simp only [show ((3 : UInt8).toNat : Int) = 3 from rfl] at hent
           have HE := Lib.hid hent
           clear hent)
        | (go_at_call 46; (with_reducible refine HE.out.mono ?_); rintro e w7 ⟨rfl, A7, c7, o7, h7, hc7, hn7⟩)
        | fail)
      go_ret
      obtain ⟨hnd, hap⟩ := HX.out
      have cF : Chg (g :: b1 :: b2 :: b3 :: b4 :: blk A) w w6 := (HCALL.out.mono (by simp)).then_ (Chg.of_below _ hB6)
      have s6 : w.heap.size ≤ w6.heap.size := cF.size
      have c6D : Chg (g :: blk A) wc w7 := (Chg.of_below _ hB6).then_ hc7
      refine ⟨_, 0, dropHomeS S id, rfl, .inl ⟨b1, b2, b3, b4, A7, c7, rfl, ?_⟩, cF.then_ (hc7.mono (by simp; intro i hi; simp [hi])), ?_, .inr ⟨by rw [HO.out]; rfl, rfl, rfl⟩⟩
      · rw [HDS.out]
        refine ⟨o7, h7, ⟨hnd, ⟨_, (HMS.out.1.chg HCS.out.2 (by simp; omega)).chg c6D (by simp; exact ⟨fun e => hap.1.1 e.symm, hap.2.2.1⟩), ?_⟩, ?_, ⟨_, HMS.out.2.chg c6D (by simp; exact ⟨fun e => hap.1.2.2.1 e.symm, hap.2.2.2.2.1⟩), ?_⟩, ?_⟩⟩
        · exact HTT.out.1.cut2 (key := HomeR.id) id id (fun y => by simp [List.mem_filter]) (fun y _ => Iff.rfl)
        · obtain ⟨f2, m2, t2⟩ := H.out.maps.visits
          exact ⟨f2, (m2.chg HCALL.out (by simp; omega)).chg c6D (by simp; exact ⟨fun e => hap.1.2.1 e.symm, hap.2.2.2.1⟩), t2⟩
        · exact HTT.out.2.cut2 (key := HomeR.id) id onum (fun y => by simp [List.mem_filter]) HNUM.out
        · obtain ⟨f4, m4, t4⟩ := H.out.maps.roams
          exact ⟨f4, (m4.chg HCALL.out (by simp; omega)).chg c6D (by simp; exact ⟨fun e => hap.1.2.2.2 e.symm, hap.2.2.2.2.2⟩), t4⟩
      · intro i hi
        simp only [List.mem_cons] at hi ⊢
        rcases hi with rfl | rfl | rfl | rfl | rfl | hi
        · exact .inl (.inl rfl)
        · exact .inl (.inr (.inl rfl))
        · exact .inl (.inr (.inr (.inl rfl)))
        · exact .inl (.inr (.inr (.inr (.inl rfl))))
        · exact .inl (.inr (.inr (.inr (.inr (.inl rfl)))))
        · rcases hn7 i hi with h8 | h8
          · exact .inl (.inr (.inr (.inr (.inr (.inr h8)))))
          · exact .inr (Nat.le_trans s6 h8)
end Go.Proofs.YthbbmpelldglmaaGreatDoor
/- Package subscribers: 'DropVisit'. Printed by wip/tools/dropvisit.py out of SubD. -/
namespace Go.Proofs.YthbbmpelldglmaaGreatDoor
set_option linter.unusedVariables false
set_option linter.unusedSimpArgs false
open Go.RowKit

/-- 'DropVisit', as plain data -/
def dropVisitS (S : St) (id : List UInt8) : St := { S with visits := S.visits.filter (fun v => !(v.id == id)), log := S.log ++ entryB 4 (textB id) }
def DropOutV (S : St) (id : List UInt8) (er : Int) (S' : St) : Prop := (visitOf S id = none ∧ er = 7 ∧ S' = S) ∨ ((visitOf S id).isSome = true ∧ er = 0 ∧ S' = dropVisitS S id)
theorem FitV.drop {S : St} (h : S.Fit) (id : List UInt8) : (dropVisitS S id).Fit where
  hs := h.hs
  hn := h.hn
  hok := h.hok
  vs := h.vs.filter _
  vr := by
    have : (roamers (S.visits.filter fun v => !(v.id == id))).Sublist (roamers S.visits) := (List.filter_sublist ..).filter _
    exact h.vr.sublist this
  vok := fun y hy => h.vok y (List.mem_filter.1 hy).1

set_option maxHeartbeats 8000000 in
set_option maxRecDepth 100000 in
theorem dropVisit_any (w : World) (g : Nat) (F : List Nat) (S : St) (h : StAt w g F S) (hfit : S.Fit) (hll : S.log.length ≤ 100000000) (id : List UInt8) (l1 : id.length ≤ maxLen) :
    Calls Tryz.prog 36 #[.pointer (some ⟨g, 0, none⟩), encStr id] w fun e w' => ∃ F' er S', e = .returned (.int .i64 er) ∧ StAt w' g F' S' ∧ Chg F w w' ∧ NewIn w F F' ∧ DropOutV S id er S' := by
  have hh := storeVisit_any w g F S h id l1
  cases ho : visitOf S id with
  | none =>
    rw [ho] at hh
    unfold visitZero VisitR.val VisitR.cells at hh
    simp only [Option.getD_none, Option.isSome_none, Option.isSome] at hh
    have HO := Lib.hid ho
    have HH := Lib.hid hh
    have HS := Lib.hid h
    clear ho hh h hfit
    go_enter Tryz.func36, Tryz.ntmps36
    go_wp2_with (first
      | (go_at_call 21; (with_reducible refine HH.out.mono ?_); rintro e w1 ⟨rfl, hB1⟩)
      | fail)
    go_ret
    exact ⟨F, 7, S, rfl, HS.out.below (below_alloc hB1 _), Chg.of_below F (below_alloc hB1 _), NewIn.refl _ _, .inl ⟨HO.out, rfl, rfl⟩⟩
  | some old =>
    have hmem : old ∈ S.visits := List.mem_of_find?_eq_some ho
    have hid : old.id = id := by have := List.find?_some ho; simpa using this
    have hol := VisitR.ok_len (hfit.vok old hmem).1
    have hnum := old_roam hfit id
    rw [ho] at hh hnum
    obtain ⟨oid, onum, ohm, omv, oar, orm⟩ := old
    simp only at hid hol
    rw [hid] at hol
    have hlt := h.lt
    obtain ⟨b1, b2, b3, b4, A, c, rfl, hM⟩ : ∃ b1 b2 b3 b4 A c, F = g :: b1 :: b2 :: b3 :: b4 :: blk A ∧ StM w g b1 b2 b3 b4 A c S := by
      rcases h with h | ⟨A, c, _, h⟩
      · exact h
      · rw [h.visits] at hmem; cases hmem
    unfold VisitR.val VisitR.cells at hh
    simp only [Option.getD_some, Option.isSome_some, Option.isSome] at hh hnum
    have HO := Lib.hid ho
    have HH := Lib.hid hh
    have HNUM := Lib.hid hnum
    have H := Lib.hid hM
    have HFIT := Lib.hid hfit
    have HLT := Lib.hid hlt
    clear ho hh h hM hnum hmem hid hfit hlt
    go_enter Tryz.func36, Tryz.ntmps36
    go_upto_region 4 with (first
      | (go_at_call 21; (with_reducible refine HH.out.mono ?_); rintro e w1 ⟨rfl, hB1⟩)
      | fail)
    have hB2 := below_alloc hB1 (.cells #[encStr oid, encStr onum, .int .u16 (ohm : Int), .int .u32 (omv : Int), .int .u16 (oar : Int), encStr orm] 54)
    have oo2 := heap_alloc_new w1 (.cells #[encStr oid, encStr onum, .int .u16 (ohm : Int), .int .u32 (omv : Int), .int .u16 (oar : Int), encStr orm] 54)
    generalize ew2 : w1.alloc (.cells #[encStr oid, encStr onum, .int .u16 (ohm : Int), .int .u32 (omv : Int), .int .u16 (oar : Int), encStr orm] 54) = w2 at *
    have HM2 := H.out.chg (Chg.of_below [] hB2) (by simp)
    obtain ⟨f1, mh, th⟩ := HM2.maps.visits
    obtain ⟨f3, mn, tn⟩ := HM2.maps.roams
    have hnd := HM2.maps.nodup
    have hap := HM2.apart
    have og2 := HM2.obj
    have k0 : w2.cell? ⟨g, 1, none⟩ = some (.map (some b2)) := stObj_cell og2 1
    obtain ⟨w3, hrun0, m3, t3⟩ := mh.drop Tryz.underlying9 Tryz.underlying97 id l1 0
    have hrun1 : ∀ ty, (Builtin.delete_ #[97, 9] ty #[.map (some b2), encStr id]).run Tryz.prog w2 = .ok (.tuple #[]) w3 := fun ty => hrun0
    have c3 : Chg [b2] w2 w3 := Chg.of_turned t3 (by simp)
    have og3 := c3.heap og2 (by simp; exact hap.1.2.1)
    have mn3 : MapIs Tryz.prog 9 w3.drew b4 S.puts f3 := (mn.chg c3 (by simp; omega)).of_block rfl
    have hob : w1.heap.size ≠ b2 ∧ w1.heap.size ≠ b4 := by
      have h1 := HLT.out b2 (by simp)
      have h3 := HLT.out b4 (by simp)
      have := hB1.size
      omega
    have oo3 := c3.heap oo2 (by simp; exact hob.1)
    obtain ⟨w5, hrun2, m5, t5⟩ := mn3.drop Tryz.underlying9 Tryz.underlying98 orm (by simp only [maxLen]; omega) 0
    have hrun3 : ∀ ty, (Builtin.delete_ #[98, 9] ty #[.map (some b4), encStr orm]).run Tryz.prog w3.drew = .ok (.tuple #[]) w5 := fun ty => hrun2
    have c5 : Chg [b4] w3 w5 := (Chg.refl _ _).drew.then_ (Chg.of_turned t5 (by simp))
    have og5 := c5.heap og3 (by simp; exact hap.1.2.2.2)
    have oo5 := c5.heap oo3 (by simp; exact hob.2)
    have kg2 : ∀ w' : World, w'.heap[g]? = some (stObj (.map (some b1)) (.map (some b2)) (.map (some b3)) (.map (some b4)) A S.log.length c S.dur) → w'.cell? ⟨g, 3, none⟩ = some (.map (some b4)) := fun w' e => stObj_cell e 3
    have ko1 : ∀ w' : World, w'.heap[w1.heap.size]? = some (.cells #[encStr oid, encStr onum, .int .u16 (ohm : Int), .int .u32 (omv : Int), .int .u16 (oar : Int), encStr orm] 54) → w'.cell? ⟨w1.heap.size, 5, none⟩ = some (encStr orm) := fun w' e => cell_of_row _ _ 5 _ _ _ e
    have HM2' := Lib.hid HM2
    have HMS := Lib.hid (And.intro m3 m5)
    have HCS := Lib.hid (And.intro c3 c5)
    have HG5 := Lib.hid og5
    have HB2 := Lib.hid hB2
    have HX := Lib.hid (And.intro hnd hap)
    have HTT := Lib.hid (And.intro th tn)
    clear HM2 mh mn m3 m5 t3 t5 c3 c5 hrun0 hrun2 mn3 hnd hap th tn hob og2 oo2 ew2 hB1 hB2
    go_upto_region 5 with fail
    go_cut [] from 7 (fun wd => wd = w5)
    case first =>
      go_region_held3 (fun w' => w'.heap[g]? = some (stObj (.map (some b1)) (.map (some b2)) (.map (some b3)) (.map (some b4)) A S.log.length c S.dur) ∧ w'.heap[w1.heap.size]? = some (.cells #[encStr oid, encStr onum, .int .u16 (ohm : Int), .int .u32 (omv : Int), .int .u16 (oar : Int), encStr orm] 54))
        (first | exact ⟨og3, oo3⟩ | exact ⟨og5, oo5⟩ | fail)
        (first
          | (refine step_delete (by rfl) (.tmp 24) (.tmp 26) 98 9 (by rfl) b4 (encStr orm) (by rfl) (by rfl) w5 hrun3 ?_)
          | fail)
      all_goals go_wp2_with fail
      all_goals go_meet
      all_goals rfl
    case rest =>
      subst hcut
      have htx := text_any wc.heap.size none [] 0 id wc (RowB.nil _ _) (Nat.le_refl _) (by simp) (by omega)
      simp only [List.nil_append, List.length_nil] at htx
      have hfl : (textB id).length ≤ 16 := by rw [textB_len]; omega
      have hds : dropVisitS S id = { S with visits := S.visits.filter (fun v => !(v.id == id)), log := S.log ++ entryB 4 (textB id) } := rfl
      generalize textB id = fl at *
      have HT := Lib.hid htx
      have HDS := Lib.hid hds
      clear htx hds kg2 ko1 og3 oo3 oo5 hrun1 hrun3 k0 og5
      have hcAll : Chg [b2, b4] w wc := ((Chg.of_below [b2, b4] HB2.out).then_ (HCS.out.1.mono (by simp))).then_ (HCS.out.2.mono (by simp))
      have hlogD : RowB wc 0 A c S.log := Row.chg H.out.log hcAll (fun k e => by
        have hap := HX.out.2
        simp only [List.mem_cons, List.not_mem_nil, or_false, not_or]
        exact ⟨fun e2 => hap.2.2.2.1 (e2 ▸ mem_blk.2 e), fun e2 => hap.2.2.2.2.2 (e2 ▸ mem_blk.2 e)⟩)
      have HCALL := Lib.hid hcAll
      clear hcAll
      go_wp2_with (first
        | (go_at_call 61; (with_reducible refine HT.out.mono ?_); rintro e w6 ⟨Af, cf, rfl, h6, hc6, hn6⟩
           have hB6 := Chg.none hc6
           have hg6 := (hB6.block g (Array.getElem?_eq_some_iff.1 HG5.out).1).trans HG5.out
           have hent := entry_any w6 g _ _ _ _ A c S.dur S.log hg6 (hlogD.below hB6) hll 4 Af fl cf h6.rd (by omega)
           simp only [show ((4 : UInt8).toNat : Int) = 4 from rfl] at hent
           have HE := Lib.hid hent
           clear hent)
        | (go_at_call 46; (with_reducible refine HE.out.mono ?_); rintro e w7 ⟨rfl, A7, c7, o7, h7, hc7, hn7⟩)
        | fail)
      go_ret
      obtain ⟨hnd, hap⟩ := HX.out
      have cF : Chg (g :: b1 :: b2 :: b3 :: b4 :: blk A) w w6 := (HCALL.out.mono (by simp)).then_ (Chg.of_below _ hB6)
      have s6 : w.heap.size ≤ w6.heap.size := cF.size
      have c6D : Chg (g :: blk A) wc w7 := (Chg.of_below _ hB6).then_ hc7
      refine ⟨_, 0, dropVisitS S id, rfl, .inl ⟨b1, b2, b3, b4, A7, c7, rfl, ?_⟩, cF.then_ (hc7.mono (by simp; intro i hi; simp [hi])), ?_, .inr ⟨by rw [HO.out]; rfl, rfl, rfl⟩⟩
      · rw [HDS.out]
        refine ⟨o7, h7, ⟨hnd, ?_, ⟨_, (HMS.out.1.chg HCS.out.2 (by simp; omega)).chg c6D (by simp; exact ⟨fun e => hap.1.2.1 e.symm, hap.2.2.2.1⟩), ?_⟩, ?_, ⟨_, HMS.out.2.chg c6D (by simp; exact ⟨fun e => hap.1.2.2.2 e.symm, hap.2.2.2.2.2⟩), ?_⟩⟩⟩
        · obtain ⟨f2, m2, t2⟩ := H.out.maps.homes
          exact ⟨f2, (m2.chg HCALL.out (by simp; omega)).chg c6D (by simp; exact ⟨fun e => hap.1.1 e.symm, hap.2.2.1⟩), t2⟩
        · exact HTT.out.1.cut2 (key := VisitR.id) id id (fun y => by simp [List.mem_filter]) (fun y _ => Iff.rfl)
        · obtain ⟨f4, m4, t4⟩ := H.out.maps.numbers
          exact ⟨f4, (m4.chg HCALL.out (by simp; omega)).chg c6D (by simp; exact ⟨fun e => hap.1.2.2.1 e.symm, hap.2.2.2.2.1⟩), t4⟩
        · exact HTT.out.2.cut2 (l2 := roamers (S.visits.filter fun v => !(v.id == id))) (key := VisitR.id) id orm (fun y => by rw [mem_roamers, mem_roamers, List.mem_filter]; simp; constructor <;> (rintro ⟨⟨a, b⟩, c⟩; exact ⟨⟨a, c⟩, b⟩)) HNUM.out
      · intro i hi
        simp only [List.mem_cons] at hi ⊢
        rcases hi with rfl | rfl | rfl | rfl | rfl | hi
        · exact .inl (.inl rfl)
        · exact .inl (.inr (.inl rfl))
        · exact .inl (.inr (.inr (.inl rfl)))
        · exact .inl (.inr (.inr (.inr (.inl rfl))))
        · exact .inl (.inr (.inr (.inr (.inr (.inl rfl)))))
        · rcases hn7 i hi with h8 | h8
          · exact .inl (.inr (.inr (.inr (.inr (.inr h8)))))
          · exact .inr (Nat.le_trans s6 h8)
end Go.Proofs.YthbbmpelldglmaaGreatDoor
/- Package subscribers: the changes of a store in one form; the closures of 'apply'. -/
namespace Go.Proofs.YthbbmpelldglmaaGreatDoor
set_option linter.unusedVariables false
set_option linter.unusedSimpArgs false
open Go.RowKit

/-- a change of a store -/
inductive Edit where
  | putH (h : HomeR)
  | putV (v : VisitR)
  | dropH (id : List UInt8)
  | dropV (id : List UInt8)
instance (S : St) (h : HomeR) : Decidable (clash S h) := inferInstanceAs (Decidable (∃ x ∈ S.homes, x.number = h.number ∧ x.id ≠ h.id))
instance (S : St) (v : VisitR) : Decidable (clashV S v) := inferInstanceAs (Decidable (∃ x ∈ roamers S.visits, x.roam = v.roam ∧ x.id ≠ v.id))
/-- what the store answers -/
def Edit.er (S : St) : Edit → Int
  | .putH h => if h.ok = false then 1 else if clash S h then 8 else 0
  | .putV v => if v.ok = false then 1 else if clashV S v then 8 else 0
  | .dropH id => if (homeOf S id).isSome then 0 else 7
  | .dropV id => if (visitOf S id).isSome then 0 else 7
def Edit.next (S : St) : Edit → St
  | .putH h => putHomeS S h
  | .putV v => putVisitS S v
  | .dropH id => dropHomeS S id
  | .dropV id => dropVisitS S id
/-- the store behind the change -/
def Edit.after (o : Edit) (S : St) : St := if o.er S = 0 then o.next S else S
def Edit.kind : Edit → UInt8
  | .putH _ => 1
  | .putV _ => 2
  | .dropH _ => 3
  | .dropV _ => 4
def Edit.fields : Edit → List UInt8
  | .putH h => h.fields
  | .putV v => v.fields
  | .dropH id => textB id
  | .dropV id => textB id
/-- its entry -/
def Edit.ent (o : Edit) : List UInt8 := entryB o.kind o.fields
/-- what a Go value may be -/
def Edit.Go : Edit → Prop
  | .putH h => h.Go ∧ h.id.length ≤ maxLen ∧ h.number.length ≤ maxLen
  | .putV v => v.Go ∧ v.id.length ≤ maxLen ∧ v.number.length ≤ maxLen ∧ v.roam.length ≤ maxLen
  | .dropH id => id.length ≤ maxLen
  | .dropV id => id.length ≤ maxLen
theorem out_putH {S S' : St} {h : HomeR} {er : Int} (ho : PutOut S h er S') : er = (Edit.putH h).er S ∧ S' = (Edit.putH h).after S := by
  unfold Edit.after Edit.er
  rcases ho with ⟨h1, rfl, rfl⟩ | ⟨h1, h2, rfl, rfl⟩ | ⟨h1, h2, rfl, rfl⟩
  · simp [h1]
  · simp [h1, h2]
  · simp [h1, h2, Edit.next]
theorem out_putV {S S' : St} {v : VisitR} {er : Int} (ho : PutOutV S v er S') : er = (Edit.putV v).er S ∧ S' = (Edit.putV v).after S := by
  unfold Edit.after Edit.er
  rcases ho with ⟨h1, rfl, rfl⟩ | ⟨h1, h2, rfl, rfl⟩ | ⟨h1, h2, rfl, rfl⟩
  · simp [h1]
  · simp [h1, h2]
  · simp [h1, h2, Edit.next]
theorem out_dropH {S S' : St} {id : List UInt8} {er : Int} (ho : DropOut S id er S') : er = (Edit.dropH id).er S ∧ S' = (Edit.dropH id).after S := by
  unfold Edit.after Edit.er
  rcases ho with ⟨h1, rfl, rfl⟩ | ⟨h1, rfl, rfl⟩
  · simp [h1]
  · simp [h1, Edit.next]
theorem out_dropV {S S' : St} {id : List UInt8} {er : Int} (ho : DropOutV S id er S') : er = (Edit.dropV id).er S ∧ S' = (Edit.dropV id).after S := by
  unfold Edit.after Edit.er
  rcases ho with ⟨h1, rfl, rfl⟩ | ⟨h1, rfl, rfl⟩
  · simp [h1]
  · simp [h1, Edit.next]
theorem Edit.fit {S : St} {o : Edit} (h : S.Fit) (hg : o.Go) : (o.after S).Fit := by
  unfold Edit.after
  split
  · rename_i he
    cases o with
    | putH x =>
      have he' : (if x.ok = false then (1 : Int) else if clash S x then 8 else 0) = 0 := he
      by_cases h1 : x.ok = false
      · rw [if_pos h1] at he'; omega
      · rw [if_neg h1] at he'
        by_cases h2 : clash S x
        · rw [if_pos h2] at he'; omega
        · exact Fit.put h hg.1 ⟨by cases hx : x.ok <;> simp_all, h2⟩
    | putV x =>
      have he' : (if x.ok = false then (1 : Int) else if clashV S x then 8 else 0) = 0 := he
      by_cases h1 : x.ok = false
      · rw [if_pos h1] at he'; omega
      · rw [if_neg h1] at he'
        by_cases h2 : clashV S x
        · rw [if_pos h2] at he'; omega
        · exact FitV.put h hg.1 ⟨by cases hx : x.ok <;> simp_all, h2⟩
    | dropH id => exact Fit.drop h id
    | dropV id => exact FitV.drop h id
  · exact h
theorem Edit.after_log (o : Edit) (S : St) : (o.after S).log = S.log ++ (if o.er S = 0 then o.ent else []) := by
  unfold Edit.after
  split
  · cases o <;> rfl
  · simp
theorem Edit.after_puts (o : Edit) (S : St) : (o.after S).puts ≤ S.puts + 1 := by
  unfold Edit.after
  split
  · cases o <;> simp [Edit.next, putHomeS, putVisitS, dropHomeS, dropVisitS]
  · omega
theorem Edit.after_dur (o : Edit) (S : St) : (o.after S).dur = S.dur := by
  unfold Edit.after
  split
  · cases o <;> rfl
  · rfl
theorem Edit.bad {o : Edit} {S : St} (h : o.er S ≠ 0) : o.after S = S := by unfold Edit.after; rw [if_neg h]
theorem Edit.good {o : Edit} {S : St} (h : o.er S = 0) : o.after S = o.next S := by unfold Edit.after; rw [if_pos h]

/-- what a change of a store in memory answers -/
def Done (w : World) (g : Nat) (F : List Nat) (S : St) (o : Edit) (e : Ending) (w' : World) : Prop := ∃ F', e = .returned (.int .i64 (o.er S)) ∧ StAt w' g F' (o.after S) ∧ Chg F w w' ∧ NewIn w F F'

set_option maxHeartbeats 1000000 in
set_option maxRecDepth 100000 in
theorem apply1_any (w : World) (g : Nat) (F : List Nat) (S : St) (h : StAt w g F S) (hfit : S.Fit) (hp : S.puts < 4096) (hll : S.log.length ≤ 100000000) (p q : Nat) (hs : w.cell? ⟨p, 0, none⟩ = some (.pointer (some ⟨g, 0, none⟩))) (x : HomeR) (hg : (Edit.putH x).Go) (hx : w.heap[q]? = some (.cells x.cells 52 (0, 0))) :
    Calls Tryz.prog 85 #[.pointer (some ⟨p, 0, none⟩), .pointer (some ⟨q, 0, none⟩)] w (Done w g F S (.putH x)) := by
  obtain ⟨hg, l1, l2⟩ := hg
  obtain ⟨id, number, at_, move, barred, waiting⟩ := x
  have hput := putHome_any w g F S h hfit hp hll id number at_ move barred waiting hg l1 l2
  unfold HomeR.cells at hx
  simp only at hx
  have k0 : w.cell? ⟨q, 0, none⟩ = some (encStr id) := cell_of_row _ _ 0 _ _ _ hx
  have k1 : w.cell? ⟨q, 1, none⟩ = some (encStr number) := cell_of_row _ _ 1 _ _ _ hx
  have k2 : w.cell? ⟨q, 2, none⟩ = some (.int .u16 (at_ : Int)) := cell_of_row _ _ 2 _ _ _ hx
  have k3 : w.cell? ⟨q, 3, none⟩ = some (.int .u32 (move : Int)) := cell_of_row _ _ 3 _ _ _ hx
  have k4 : w.cell? ⟨q, 4, none⟩ = some (.bool barred) := cell_of_row _ _ 4 _ _ _ hx
  have k5 : w.cell? ⟨q, 5, none⟩ = some (.bool waiting) := cell_of_row _ _ 5 _ _ _ hx
  have HP := Lib.hid hput
  clear hput h hx hfit
  go_enter Tryz.func85, Tryz.ntmps85
  go_wp2_with (first
    | (go_at_call 24; (with_reducible refine HP.out.mono ?_); rintro e w1 ⟨F1, er, S1, rfl, h1, hc1, hn1, ho1⟩)
    | fail)
  go_ret
  obtain ⟨rfl, rfl⟩ := out_putH ho1
  exact ⟨F1, rfl, h1, hc1, hn1⟩

set_option maxHeartbeats 1000000 in
set_option maxRecDepth 100000 in
theorem apply2_any (w : World) (g : Nat) (F : List Nat) (S : St) (h : StAt w g F S) (hfit : S.Fit) (hp : S.puts < 4096) (hll : S.log.length ≤ 100000000) (p q : Nat) (hs : w.cell? ⟨p, 0, none⟩ = some (.pointer (some ⟨g, 0, none⟩))) (x : VisitR) (hg : (Edit.putV x).Go) (hx : w.heap[q]? = some (.cells x.cells 54 (0, 0))) :
    Calls Tryz.prog 86 #[.pointer (some ⟨p, 0, none⟩), .pointer (some ⟨q, 0, none⟩)] w (Done w g F S (.putV x)) := by
  obtain ⟨hg, l1, l2, l3⟩ := hg
  obtain ⟨id, number, home, move, area, roam⟩ := x
  have hput := putVisit_any w g F S h hfit hp hll id number home move area roam hg l1 l2 l3
  unfold VisitR.cells at hx
  simp only at hx
  have k0 : w.cell? ⟨q, 0, none⟩ = some (encStr id) := cell_of_row _ _ 0 _ _ _ hx
  have k1 : w.cell? ⟨q, 1, none⟩ = some (encStr number) := cell_of_row _ _ 1 _ _ _ hx
  have k2 : w.cell? ⟨q, 2, none⟩ = some (.int .u16 (home : Int)) := cell_of_row _ _ 2 _ _ _ hx
  have k3 : w.cell? ⟨q, 3, none⟩ = some (.int .u32 (move : Int)) := cell_of_row _ _ 3 _ _ _ hx
  have k4 : w.cell? ⟨q, 4, none⟩ = some (.int .u16 (area : Int)) := cell_of_row _ _ 4 _ _ _ hx
  have k5 : w.cell? ⟨q, 5, none⟩ = some (encStr roam) := cell_of_row _ _ 5 _ _ _ hx
  have HP := Lib.hid hput
  clear hput h hx hfit
  go_enter Tryz.func86, Tryz.ntmps86
  go_wp2_with (first
    | (go_at_call 25; (with_reducible refine HP.out.mono ?_); rintro e w1 ⟨F1, er, S1, rfl, h1, hc1, hn1, ho1⟩)
    | fail)
  go_ret
  obtain ⟨rfl, rfl⟩ := out_putV ho1
  exact ⟨F1, rfl, h1, hc1, hn1⟩

set_option maxHeartbeats 1000000 in
set_option maxRecDepth 100000 in
theorem apply3_any (w : World) (g : Nat) (F : List Nat) (S : St) (h : StAt w g F S) (hfit : S.Fit) (hll : S.log.length ≤ 100000000) (p q : Nat) (hs : w.cell? ⟨p, 0, none⟩ = some (.pointer (some ⟨g, 0, none⟩))) (x : List UInt8) (hg : (Edit.dropH x).Go) (hx : w.cell? ⟨q, 0, none⟩ = some (encStr x)) :
    Calls Tryz.prog 87 #[.pointer (some ⟨p, 0, none⟩), .pointer (some ⟨q, 0, none⟩)] w (Done w g F S (.dropH x)) := by
  have hput := dropHome_any w g F S h hfit hll x hg
  have HP := Lib.hid hput
  clear hput h hfit
  go_enter Tryz.func87, Tryz.ntmps87
  go_wp2_with (first
    | (go_at_call 35; (with_reducible refine HP.out.mono ?_); rintro e w1 ⟨F1, er, S1, rfl, h1, hc1, hn1, ho1⟩)
    | fail)
  go_ret
  obtain ⟨rfl, rfl⟩ := out_dropH ho1
  exact ⟨F1, rfl, h1, hc1, hn1⟩

set_option maxHeartbeats 1000000 in
set_option maxRecDepth 100000 in
theorem apply4_any (w : World) (g : Nat) (F : List Nat) (S : St) (h : StAt w g F S) (hfit : S.Fit) (hll : S.log.length ≤ 100000000) (p q : Nat) (hs : w.cell? ⟨p, 0, none⟩ = some (.pointer (some ⟨g, 0, none⟩))) (x : List UInt8) (hg : (Edit.dropV x).Go) (hx : w.cell? ⟨q, 0, none⟩ = some (encStr x)) :
    Calls Tryz.prog 88 #[.pointer (some ⟨p, 0, none⟩), .pointer (some ⟨q, 0, none⟩)] w (Done w g F S (.dropV x)) := by
  have hput := dropVisit_any w g F S h hfit hll x hg
  have HP := Lib.hid hput
  clear hput h hfit
  go_enter Tryz.func88, Tryz.ntmps88
  go_wp2_with (first
    | (go_at_call 36; (with_reducible refine HP.out.mono ?_); rintro e w1 ⟨F1, er, S1, rfl, h1, hc1, hn1, ho1⟩)
    | fail)
  go_ret
  obtain ⟨rfl, rfl⟩ := out_dropV ho1
  exact ⟨F1, rfl, h1, hc1, hn1⟩
end Go.Proofs.YthbbmpelldglmaaGreatDoor
/- Package subscribers: 'apply', on any bytes. -/
namespace Go.Proofs.YthbbmpelldglmaaGreatDoor
set_option linter.unusedVariables false
set_option linter.unusedSimpArgs false
open Go.RowKit

/-- what the bytes of an entry say -/
def parsed (b : List UInt8) : Option Edit :=
  let r0 : Rdr := ⟨b, false⟩
  let r1 := r0.after 1
  let r2 := r1.afterText
  let r3 := r2.afterText
  let r4 := r3.afterPair
  let r5 := r4.afterLong
  let r6 := r5.after 1
  let v6 := r5.afterPair
  let v7 := v6.afterText
  if r0.byte = 1 then
    if r6.bad = false ∧ r5.byte.toNat ≤ 3 ∧ r6.rest = [] then some (.putH ⟨r1.text, r2.text, r3.pair, r4.long, decide (r5.byte.toNat % 2 = 1), decide (r5.byte.toNat / 2 % 2 = 1)⟩) else none
  else if r0.byte = 2 then
    if v7.bad = false ∧ v7.rest = [] then some (.putV ⟨r1.text, r2.text, r3.pair, r4.long, r5.pair, v6.text⟩) else none
  else if r0.byte = 3 then
    if r2.bad = false ∧ r2.rest = [] then some (.dropH r1.text) else none
  else if r0.byte = 4 then
    if r2.bad = false ∧ r2.rest = [] then some (.dropV r1.text) else none
  else none
/-- whether they were applied, and the store behind it -/
def applied (S : St) (b : List UInt8) : Bool × St := match parsed b with | some o => (decide (o.er S = 0), o.after S) | none => (false, S)
def Applied (w : World) (g : Nat) (F : List Nat) (S : St) (x : Bool × St) (e : Ending) (w' : World) : Prop :=
  ∃ F', e = .returned (.bool x.1) ∧ StAt w' g F' x.2 ∧ Chg F w w' ∧ NewIn w F F'

/-- the store and the reader while fields are read -/
structure Reads (w : World) (g : Nat) (F : List Nat) (S : St) (W : World) (r : Rdr) : Prop where
  below : Below w.heap.size w W
  box : W.cell? ⟨w.heap.size, 0, none⟩ = some (.pointer (some ⟨g, 0, none⟩))
  rd : RdrAt W (w.heap.size + 1) r
theorem Reads.next {w W W' : World} {g : Nat} {F : List Nat} {S : St} {r r' : Rdr} (h : Reads w g F S W r) (hr : RdrAt W' (w.heap.size + 1) r') (hc : Chg [w.heap.size + 1] W W') : Reads w g F S W' r' where
  below := h.below.trans (hc.below (by simp) h.below.size)
  box := hc.cell h.box (by simp)
  rd := hr
theorem Reads.other {w W W' : World} {g : Nat} {F F2 : List Nat} {S : St} {r : Rdr} (h : Reads w g F S W r) (hc : Chg F2 W W') (hF : ∀ i ∈ F2, w.heap.size + 1 < i) : Reads w g F S W' r where
  below := h.below.trans (hc.below (fun i hi => by have := hF i hi; omega) h.below.size)
  box := hc.cell h.box (fun hi => by have := hF _ hi; simp at this; omega)
  rd := h.rd.chg hc hF
theorem Reads.alloc {w W : World} {g : Nat} {F : List Nat} {S : St} {r : Rdr} (h : Reads w g F S W r) (o : Obj) : Reads w g F S (W.alloc o) r :=
  h.other (F2 := []) ((Chg.refl _ _).alloc _) (by simp)
theorem Reads.start {w : World} {g : Nat} {F : List Nat} {S : St} (A : Option Addr) (b : List UInt8) (c : Nat) (hA : RdB w A b) (hl : ∀ ad, A = some ad → ad.block < w.heap.size) (hc : b.length ≤ c) (hcm : c ≤ 9223372036854775807) :
    Reads w g F S ((w.alloc (.cells #[.pointer (some ⟨g, 0, none⟩)] 25)).alloc (.cells #[.slice A b.length c, .bool false] 155)) ⟨b, false⟩ where
  below := below_alloc ((Below.refl _ _).alloc (Nat.le_refl _) _) _
  box := by
    rw [World.cell?_alloc_lt _ _ _ (by simp), cell_of_row _ _ 0 _ _ _ (heap_alloc_new w _)]
    rfl
  rd := ⟨A, c, by
    rw [show w.heap.size + 1 = (w.alloc (.cells #[.pointer (some ⟨g, 0, none⟩)] 25)).heap.size by simp]
    exact heap_alloc_new _ _, (hA.alloc _).alloc _, hc, hcm, fun ad e => by have := hl ad e; omega⟩

theorem flag1 (f : Nat) (h : f < 256) : (bits .and .u8 (f : Int) 1 != 0) = decide (f % 2 = 1) := by
  have := (bits_nat .u8 8 (by decide) wraps_u8 f 1 h (by decide)).1
  simp only [show ((1 : Nat) : Int) = 1 from rfl] at this
  rw [this, Nat.and_one_is_mod]
  rcases Nat.mod_two_eq_zero_or_one f with e | e <;> rw [e] <;> rfl
set_option maxRecDepth 100000 in
theorem flag2 (f : Nat) (h : f < 256) : (bits .and .u8 (f : Int) 2 != 0) = decide (f / 2 % 2 = 1) := by
  have := (bits_nat .u8 8 (by decide) wraps_u8 f 2 h (by decide)).1
  simp only [show ((2 : Nat) : Int) = 2 from rfl] at this
  have hall : ∀ f : Fin 256, (f.val &&& 2) = 2 * (f.val / 2 % 2) := by decide
  have e3 : f &&& 2 = 2 * (f / 2 % 2) := hall ⟨f, h⟩
  rw [this, e3]
  rcases Nat.mod_two_eq_zero_or_one (f / 2) with e | e <;> rw [e] <;> rfl
theorem byte_any (w : World) (g : Nat) (r : Rdr) (h : RdrAt w g r) :
    Calls Tryz.prog 82 #[.pointer (some ⟨g, 0, none⟩), .int .i64 1] w fun e w' => ∃ ad c', e = .returned (.slice (some ad) 1 c') ∧ w'.cell? ad = some (.int .u8 (r.byte.toNat : Int)) ∧ 1 ≤ c' ∧ RdrAt w' g (r.after 1) ∧ Chg [g] w w' := by
  refine (take_any w g r 1 h (by omega)).mono ?_
  rintro e w' ⟨A', c', rfl, h1, h2, h3, h4⟩
  obtain ⟨ad, rfl, hc⟩ := getD_rd h1 (k := 0) (by rw [Rdr.take_len]; omega)
  rw [addr0] at hc
  exact ⟨ad, c', rfl, hc, h2, h3, h4⟩

set_option maxHeartbeats 4000000 in
set_option maxRecDepth 100000 in
theorem apply_k1 (w : World) (g : Nat) (F : List Nat) (S : St) (h : StAt w g F S) (hfit : S.Fit) (hp : S.puts < 4096) (hll : S.log.length ≤ 100000000) (A : Option Addr) (b : List UInt8) (c : Nat) (hA : RdB w A b) (hl : ∀ ad, A = some ad → ad.block < w.heap.size) (hc : b.length ≤ c) (hcm : c ≤ 9223372036854775807)
    (hk : (Rdr.mk b false).byte = 1) :
    Calls Tryz.prog 60 #[.pointer (some ⟨g, 0, none⟩), .slice A b.length c] w (Applied w g F S (applied S b)) := by
  have hr0 := Reads.start (F := F) (S := S) (g := g) A b c hA hl hc hcm
  have hk' : (Rdr.mk b false).byte.toNat = 1 := by rw [hk]; rfl
  have hX : applied S b = (let r0 : Rdr := ⟨b, false⟩
      let r1 := r0.after 1
      let r2 := r1.afterText
      let r3 := r2.afterText
      let r4 := r3.afterPair
      let r5 := r4.afterLong
      let r6 := r5.after 1
      let f := r5.byte.toNat
      let x : Edit := .putH ⟨r1.text, r2.text, r3.pair, r4.long, decide (f % 2 = 1), decide (f / 2 % 2 = 1)⟩
      if r6.bad = false ∧ f ≤ 3 ∧ r6.rest = [] then (decide (x.er S = 0), x.after S) else (false, S)) := by
    unfold applied parsed
    simp only [hk, if_true]
    split <;> rename_i h1 <;> split at h1 <;> rename_i h2
    · cases h1; rw [if_pos h2]
    · cases h1
    · cases h1
    · rw [if_neg h2]
  simp only at hX
  generalize Rdr.mk b false = r0 at *
  have HR := Lib.hid hr0
  have HS := Lib.hid h
  have HFIT := Lib.hid hfit
  have HK := Lib.hid hk'
  clear hr0 h hfit hk hk'
  obtain ⟨r5, e5⟩ : ∃ r, r = ((((r0.after 1).afterText.afterText).afterPair).afterLong) := ⟨_, rfl⟩
  obtain ⟨f, ef⟩ : ∃ f, f = r5.byte.toNat := ⟨_, rfl⟩
  have hf : f < 256 := by rw [ef]; exact r5.byte.toNat_lt
  obtain ⟨r6, e6⟩ : ∃ r, r = r5.after 1 := ⟨_, rfl⟩
  rw [← e5, ← ef, ← e6] at hX
  have HX := Lib.hid hX
  have hgo : (Edit.putH ⟨(r0.after 1).text, (r0.after 1).afterText.text, (r0.after 1).afterText.afterText.pair, (r0.after 1).afterText.afterText.afterPair.long, decide (f % 2 = 1), decide (f / 2 % 2 = 1)⟩).Go := by
    have t1 := (r0.after 1).text_len
    have t2 := (r0.after 1).afterText.text_len
    exact ⟨⟨Rdr.pair_lt _, Rdr.long_lt _⟩, by simp only [maxLen]; omega, by simp only [maxLen]; omega⟩
  have HGO := Lib.hid hgo
  have E5 := Lib.hid e5
  have E6 := Lib.hid e6
  have EF := Lib.hid ef
  clear e5 e6 ef hX hgo
  go_enter Tryz.func60, Tryz.ntmps60
  go_wp2_with (first
    | (go_at_call 82; (with_reducible refine (byte_any _ _ _ HR.out.rd).mono ?_); rintro e wn ⟨ad, cn, rfl, hcell, hcn, hrdn, hCn⟩; (try (rw [HK.out] at hcell; simp only [show ((1 : Nat) : Int) = 1 from rfl] at hcell)); have HR := Lib.hid (HR.out.next hrdn hCn); clear hrdn hCn)
    | (go_at_call 81; (with_reducible refine (rtext_any _ _ _ HR.out.rd).mono ?_); rintro e wn ⟨rfl, hrdn, hCn⟩; have HR := Lib.hid (HR.out.next hrdn hCn); clear hrdn hCn)
    | (go_at_call 83; (with_reducible refine (rpair_any _ _ _ HR.out.rd).mono ?_); rintro e wn ⟨rfl, hrdn, hCn⟩; have HR := Lib.hid (HR.out.next hrdn hCn); clear hrdn hCn)
    | (go_at_call 84; (with_reducible refine (rlong_any _ _ _ HR.out.rd).mono ?_); rintro e wn ⟨rfl, hrdn, hCn⟩; have HR := Lib.hid (HR.out.next hrdn hCn); clear hrdn hCn)
    | fail)
  have hwn : w.heap.size + 1 < wn.heap.size := HR.out.rd.lt
  have HR := Lib.hid (HR.out.alloc (.cells #[encStr (r0.after 1).text, encStr (r0.after 1).afterText.text, .int .u16 ((r0.after 1).afterText.afterText.pair : Int), .int .u32 ((r0.after 1).afterText.afterText.afterPair.long : Int), .bool false, .bool false] 52))
  rw [← E5.out] at HR
  have OH := heap_alloc_new wn (.cells #[encStr (r0.after 1).text, encStr (r0.after 1).afterText.text, .int .u16 ((r0.after 1).afterText.afterText.pair : Int), .int .u32 ((r0.after 1).afterText.afterText.afterPair.long : Int), .bool false, .bool false] 52)
  
  refine (byte_any _ _ _ HR.out.rd).mono ?_
  rintro e w9 ⟨ad9, c9, rfl, hcell9, hc9, hrd9, hC9⟩
  rw [← EF.out] at hcell9
  rw [← E6.out] at hrd9
  have OH := hC9.heap OH (by simp; omega)
  have HR := Lib.hid (HR.out.next hrd9 hC9)
  clear hrd9
  have f4 : w9.frozen? ⟨wn.heap.size, 4, none⟩ = false := Go.Joins.unfrozen_of_block OH 4
  have f5 : w9.frozen? ⟨wn.heap.size, 5, none⟩ = false := Go.Joins.unfrozen_of_block OH 5
  have k4 : w9.cell? ⟨wn.heap.size, 4, none⟩ = some (.bool false) := cell_of_row _ _ 4 _ _ _ OH
  have k5 : w9.cell? ⟨wn.heap.size, 5, none⟩ = some (.bool false) := cell_of_row _ _ 5 _ _ _ OH
  go_upto_region 10 with fail
  have OH := Go.Joins.block_setCell (i := 4) OH (.bool (bits .and .u8 (f : Int) 1 != 0))
  have OH := Go.Joins.block_setCell (i := 5) OH (.bool (bits .and .u8 (f : Int) 2 != 0))
  have hC := (((Chg.refl [wn.heap.size] w9).setCell (p := ⟨wn.heap.size, 4, none⟩) (by simp) (.bool (bits .and .u8 (f : Int) 1 != 0))).setCell (p := ⟨wn.heap.size, 5, none⟩) (by simp) (.bool (bits .and .u8 (f : Int) 2 != 0)))
  rw [flag1 f hf, flag2 f hf] at *
  have HR := Lib.hid (HR.out.other hC (by simp; omega))
  clear hC k4 k5 f4 f5 hcell9 hC9 hc9
  generalize (w9.setCell _ _).setCell _ _ = wa at *
  obtain ⟨A6, c6, ho6, hb6, hl6, hm6, hap6⟩ := HR.out.rd
  have k0 : wa.cell? ⟨w.heap.size + 1, 0, none⟩ = some (.slice A6 r6.rest.length c6) := rdObj_cell ho6 0
  have k1 : wa.cell? ⟨w.heap.size + 1, 1, none⟩ = some (.bool r6.bad) := rdObj_cell ho6 1
  have f1 := rdObj_free ho6 1
  have HO6 := Lib.hid ho6
  have hfin : ∀ v : Bool, Reads w g F S (wa.setCell ⟨w.heap.size + 1, 1, none⟩ (.bool v)) ⟨r6.rest, v⟩ := fun v => by
    have hc : Chg [w.heap.size + 1] wa (wa.setCell ⟨w.heap.size + 1, 1, none⟩ (.bool v)) := (Chg.refl _ _).setCell (by simp) _
    have ho2 : (wa.setCell ⟨w.heap.size + 1, 1, none⟩ (.bool v)).heap[w.heap.size + 1]? = some (rdObj A6 r6.rest.length c6 v) := Go.Joins.block_setCell (i := 1) HO6.out _
    exact HR.out.next ⟨A6, c6, ho2, RdB.chg hb6 hc (fun ad e hi => by have := hap6 ad e; simp at hi; omega), hl6, hm6, hap6⟩ hc
  have hox : ∀ v : Bool, (wa.setCell ⟨w.heap.size + 1, 1, none⟩ (.bool v)).heap[wn.heap.size]? = _ := fun v =>
    ((Chg.refl [w.heap.size + 1] wa).setCell (p := ⟨w.heap.size + 1, 1, none⟩) (by simp) (.bool v)).heap OH (by simp; omega)
  have HFIN := Lib.hid hfin
  have HOX := Lib.hid hox
  have hfalse : ∀ W, Below w.heap.size w W → applied S b = (false, S) → Applied w g F S (applied S b) (.returned (.bool false)) W := fun W hB e => by
    rw [e]; exact ⟨F, rfl, HS.out.below hB, Chg.of_below F hB, NewIn.refl _ _⟩
  have HFALSE := Lib.hid hfalse
  clear ho6 hb6 hl6 hfin hox OH hap6 hfalse
  cases hbd : r6.bad with
  | true =>
    rw [hbd] at k1
    have HBD := Lib.hid hbd
    clear hbd
    go_wp2
    go_ret
    exact HFALSE.out _ (HFIN.out true).below (by rw [HX.out, if_neg]; rintro ⟨h1, _⟩; rw [HBD.out] at h1; cases h1)
  | false =>
    rw [hbd] at k1
    have HBD := Lib.hid hbd
    clear hbd
    by_cases h3 : f ≤ 3
    · have q1 : ¬ (3 : Int) < (f : Int) := by omega
      cases hrest : r6.rest with
      | cons x y =>
        rw [hrest] at k0
        have q2 : ((List.length (x :: y) : Int) == 0) = false := by simp; omega
        have HREST := Lib.hid hrest
        clear hrest
        go_wp2
        go_ret
        exact HFALSE.out _ (HFIN.out false).below (by rw [HX.out, if_neg]; rintro ⟨_, _, h1⟩; rw [HREST.out] at h1; cases h1)
      | nil =>
        rw [hrest] at k0
        have hX2 := HX.out
        rw [if_pos ⟨HBD.out, h3, hrest⟩] at hX2
        have hcl := apply1_any (wa.setCell ⟨w.heap.size + 1, 1, none⟩ (.bool false)) g F S (HS.out.below (HFIN.out false).below) HFIT.out hp hll w.heap.size wn.heap.size (HFIN.out false).box _ HGO.out (HOX.out false)
        have hB := (HFIN.out false).below
        generalize (Edit.putH _) = o at *
        have HX2 := Lib.hid hX2
        have HCL := Lib.hid hcl
        have HB := Lib.hid hB
        clear hcl hB hX2 hrest
        go_wp2_with (first
          | (go_at_call 85; (with_reducible refine HCL.out.mono ?_); rintro e w2 ⟨F1, rfl, h1, hc1, hn1⟩)
          | fail)
        go_ret
        have hend : Applied w g F S (applied S b) (.returned (.bool (o.er S == 0))) w2 := by
          rw [HX2.out]
          exact ⟨F1, rfl, h1, (Chg.of_below F HB.out).then_ hc1, hn1.later HB.out.size⟩
        exact hend
    · have q1 : (3 : Int) < (f : Int) := by omega
      have H3 := Lib.hid h3
      clear h3
      go_wp2
      go_ret
      exact HFALSE.out _ (HFIN.out true).below (by rw [HX.out, if_neg]; rintro ⟨_, h1, _⟩; exact H3.out h1)
end Go.Proofs.YthbbmpelldglmaaGreatDoor
/- Package subscribers: 'apply' at the other kinds of entries. -/
namespace Go.Proofs.YthbbmpelldglmaaGreatDoor
set_option linter.unusedVariables false
set_option linter.unusedSimpArgs false
open Go.RowKit

set_option maxHeartbeats 4000000 in
set_option maxRecDepth 100000 in
theorem apply_k2 (w : World) (g : Nat) (F : List Nat) (S : St) (h : StAt w g F S) (hfit : S.Fit) (hp : S.puts < 4096) (hll : S.log.length ≤ 100000000) (A : Option Addr) (b : List UInt8) (c : Nat) (hA : RdB w A b) (hl : ∀ ad, A = some ad → ad.block < w.heap.size) (hc : b.length ≤ c) (hcm : c ≤ 9223372036854775807)
    (hk : (Rdr.mk b false).byte = 2) :
    Calls Tryz.prog 60 #[.pointer (some ⟨g, 0, none⟩), .slice A b.length c] w (Applied w g F S (applied S b)) := by
  have hr0 := Reads.start (F := F) (S := S) (g := g) A b c hA hl hc hcm
  have hk' : (Rdr.mk b false).byte.toNat = 2 := by rw [hk]; rfl
  have hX : applied S b = (let r0 : Rdr := ⟨b, false⟩
      let r1 := r0.after 1
      let r2 := r1.afterText
      let r3 := r2.afterText
      let r4 := r3.afterPair
      let r5 := r4.afterLong
      let r6 := r5.afterPair
      let r7 := r6.afterText
      let x : Edit := .putV ⟨r1.text, r2.text, r3.pair, r4.long, r5.pair, r6.text⟩
      if r7.bad = false ∧ r7.rest = [] then (decide (x.er S = 0), x.after S) else (false, S)) := by
    unfold applied parsed
    simp only [hk, if_true, show ¬ ((2 : UInt8) = 1) from by decide, if_false]
    split <;> rename_i h1 <;> split at h1 <;> rename_i h2
    · cases h1; rw [if_pos h2]
    · cases h1
    · cases h1
    · rw [if_neg h2]
  simp only at hX
  generalize Rdr.mk b false = r0 at *
  have HR := Lib.hid hr0
  have HS := Lib.hid h
  have HFIT := Lib.hid hfit
  have HK := Lib.hid hk'
  clear hr0 h hfit hk hk'
  obtain ⟨r1, e1⟩ : ∃ r, r = r0.after 1 := ⟨_, rfl⟩
  rw [← e1] at hX
  obtain ⟨r2, e2⟩ : ∃ r, r = r1.afterText := ⟨_, rfl⟩
  rw [← e2] at hX
  obtain ⟨r3, e3⟩ : ∃ r, r = r2.afterText := ⟨_, rfl⟩
  rw [← e3] at hX
  obtain ⟨r4, e4⟩ : ∃ r, r = r3.afterPair := ⟨_, rfl⟩
  rw [← e4] at hX
  obtain ⟨r5, e5⟩ : ∃ r, r = r4.afterLong := ⟨_, rfl⟩
  rw [← e5] at hX
  obtain ⟨r6, e6⟩ : ∃ r, r = r5.afterPair := ⟨_, rfl⟩
  rw [← e6] at hX
  obtain ⟨r7, e7⟩ : ∃ r, r = r6.afterText := ⟨_, rfl⟩
  rw [← e7] at hX
  have HX := Lib.hid hX
  have hgo : (Edit.putV ⟨r1.text, r2.text, r3.pair, r4.long, r5.pair, r6.text⟩).Go := by
    have t1 := r1.text_len
    have t2 := r2.text_len
    have t3 := r6.text_len
    exact ⟨⟨Rdr.pair_lt _, Rdr.long_lt _, Rdr.pair_lt _⟩, by simp only [maxLen]; omega, by simp only [maxLen]; omega, by simp only [maxLen]; omega⟩
  have HGO := Lib.hid hgo
  have E1 := Lib.hid e1
  have E2 := Lib.hid e2
  have E3 := Lib.hid e3
  have E4 := Lib.hid e4
  have E5 := Lib.hid e5
  have E6 := Lib.hid e6
  have E7 := Lib.hid e7
  clear e1 e2 e3 e4 e5 e6 e7 hX hgo
  go_enter Tryz.func60, Tryz.ntmps60
  go_upto_region 21 with (first
    | (go_at_call 82; (with_reducible refine (byte_any _ _ _ HR.out.rd).mono ?_); rintro e wn ⟨ad, cn, rfl, hcell, hcn, hrdn, hCn⟩; (try (rw [HK.out] at hcell; simp only [show ((2 : Nat) : Int) = 2 from rfl] at hcell)); (first | rw [← E1.out] at hrdn | rw [← E2.out] at hrdn | rw [← E3.out] at hrdn | rw [← E4.out] at hrdn | rw [← E5.out] at hrdn | rw [← E6.out] at hrdn | rw [← E7.out] at hrdn); have HR := Lib.hid (HR.out.next hrdn hCn); clear hrdn hCn)
    | (go_at_call 81; (with_reducible refine (rtext_any _ _ _ HR.out.rd).mono ?_); rintro e wn ⟨rfl, hrdn, hCn⟩; (first | rw [← E1.out] at hrdn | rw [← E2.out] at hrdn | rw [← E3.out] at hrdn | rw [← E4.out] at hrdn | rw [← E5.out] at hrdn | rw [← E6.out] at hrdn | rw [← E7.out] at hrdn); have HR := Lib.hid (HR.out.next hrdn hCn); clear hrdn hCn)
    | (go_at_call 83; (with_reducible refine (rpair_any _ _ _ HR.out.rd).mono ?_); rintro e wn ⟨rfl, hrdn, hCn⟩; (first | rw [← E1.out] at hrdn | rw [← E2.out] at hrdn | rw [← E3.out] at hrdn | rw [← E4.out] at hrdn | rw [← E5.out] at hrdn | rw [← E6.out] at hrdn | rw [← E7.out] at hrdn); have HR := Lib.hid (HR.out.next hrdn hCn); clear hrdn hCn)
    | (go_at_call 84; (with_reducible refine (rlong_any _ _ _ HR.out.rd).mono ?_); rintro e wn ⟨rfl, hrdn, hCn⟩; (first | rw [← E1.out] at hrdn | rw [← E2.out] at hrdn | rw [← E3.out] at hrdn | rw [← E4.out] at hrdn | rw [← E5.out] at hrdn | rw [← E6.out] at hrdn | rw [← E7.out] at hrdn); have HR := Lib.hid (HR.out.next hrdn hCn); clear hrdn hCn)
    | fail)
  have hwn : w.heap.size + 1 < wn.heap.size := HR.out.rd.lt
  have OH := heap_alloc_new wn (.cells #[encStr r1.text, encStr r2.text, .int .u16 (r3.pair : Int), .int .u32 (r4.long : Int), .int .u16 (r5.pair : Int), encStr r6.text] 54)
  have HR := Lib.hid (HR.out.alloc (.cells #[encStr r1.text, encStr r2.text, .int .u16 (r3.pair : Int), .int .u32 (r4.long : Int), .int .u16 (r5.pair : Int), encStr r6.text] 54))
  generalize ewa : wn.alloc _ = wa at *
  obtain ⟨A6, c6, ho6, hb6, hl6, hm6, hap6⟩ := HR.out.rd
  have k0 : wa.cell? ⟨w.heap.size + 1, 0, none⟩ = some (.slice A6 r7.rest.length c6) := rdObj_cell ho6 0
  have k1 : wa.cell? ⟨w.heap.size + 1, 1, none⟩ = some (.bool r7.bad) := rdObj_cell ho6 1
  have HOX := Lib.hid OH
  have hfalse : ∀ W, Below w.heap.size w W → applied S b = (false, S) → Applied w g F S (applied S b) (.returned (.bool false)) W := fun W hB e => by
    rw [e]; exact ⟨F, rfl, HS.out.below hB, Chg.of_below F hB, NewIn.refl _ _⟩
  have HFALSE := Lib.hid hfalse
  clear ho6 hb6 hl6 OH hap6 hfalse ewa
  cases hbd : r7.bad with
  | true =>
    rw [hbd] at k1
    have HBD := Lib.hid hbd
    clear hbd
    go_wp2
    go_ret
    exact HFALSE.out _ HR.out.below (by rw [HX.out, if_neg]; rintro ⟨h1, _⟩; rw [HBD.out] at h1; cases h1)
  | false =>
    rw [hbd] at k1
    have HBD := Lib.hid hbd
    clear hbd
    cases hrest : r7.rest with
    | cons x y =>
      rw [hrest] at k0
      have q2 : ((List.length (x :: y) : Int) == 0) = false := by simp; omega
      have HREST := Lib.hid hrest
      clear hrest
      go_wp2
      go_ret
      exact HFALSE.out _ HR.out.below (by rw [HX.out, if_neg]; rintro ⟨_, h1⟩; rw [HREST.out] at h1; cases h1)
    | nil =>
      rw [hrest] at k0
      have hX2 := HX.out
      rw [if_pos ⟨HBD.out, hrest⟩] at hX2
      have hcl := apply2_any wa g F S (HS.out.below HR.out.below) HFIT.out hp hll w.heap.size wn.heap.size HR.out.box _ HGO.out HOX.out
      have hB := HR.out.below
      generalize (Edit.putV _) = o at *
      have HX2 := Lib.hid hX2
      have HCL := Lib.hid hcl
      have HB := Lib.hid hB
      clear hcl hB hX2 hrest
      go_wp2_with (first
        | (go_at_call 86; (with_reducible refine HCL.out.mono ?_); rintro e w2 ⟨F1, rfl, h1, hc1, hn1⟩)
        | fail)
      go_ret
      have hend : Applied w g F S (applied S b) (.returned (.bool (o.er S == 0))) w2 := by
        rw [HX2.out]
        exact ⟨F1, rfl, h1, (Chg.of_below F HB.out).then_ hc1, hn1.later HB.out.size⟩
      exact hend

set_option maxHeartbeats 4000000 in
set_option maxRecDepth 100000 in
theorem apply_k3 (w : World) (g : Nat) (F : List Nat) (S : St) (h : StAt w g F S) (hfit : S.Fit) (hll : S.log.length ≤ 100000000) (A : Option Addr) (b : List UInt8) (c : Nat) (hA : RdB w A b) (hl : ∀ ad, A = some ad → ad.block < w.heap.size) (hc : b.length ≤ c) (hcm : c ≤ 9223372036854775807)
    (hk : (Rdr.mk b false).byte = 3) :
    Calls Tryz.prog 60 #[.pointer (some ⟨g, 0, none⟩), .slice A b.length c] w (Applied w g F S (applied S b)) := by
  have hr0 := Reads.start (F := F) (S := S) (g := g) A b c hA hl hc hcm
  have hk' : (Rdr.mk b false).byte.toNat = 3 := by rw [hk]; rfl
  have hX : applied S b = (let r0 : Rdr := ⟨b, false⟩
      let r1 := r0.after 1
      let r2 := r1.afterText
      let x : Edit := .dropH r1.text
      if r2.bad = false ∧ r2.rest = [] then (decide (x.er S = 0), x.after S) else (false, S)) := by
    unfold applied parsed
    simp only [hk, if_true, show ¬ ((3 : UInt8) = 1) from by decide, show ¬ ((3 : UInt8) = 2) from by decide, if_false]
    split <;> rename_i h1 <;> split at h1 <;> rename_i h2
    · cases h1; rw [if_pos h2]
    · cases h1
    · cases h1
    · rw [if_neg h2]
  simp only at hX
  generalize Rdr.mk b false = r0 at *
  have HR := Lib.hid hr0
  have HS := Lib.hid h
  have HFIT := Lib.hid hfit
  have HK := Lib.hid hk'
  clear hr0 h hfit hk hk'
  obtain ⟨r1, e1⟩ : ∃ r, r = r0.after 1 := ⟨_, rfl⟩
  rw [← e1] at hX
  obtain ⟨r2, e2⟩ : ∃ r, r = r1.afterText := ⟨_, rfl⟩
  rw [← e2] at hX
  have HX := Lib.hid hX
  have hgo : (Edit.dropH r1.text).Go := by
    have t1 := r1.text_len
    show _ ≤ maxLen
    simp only [maxLen]; omega
  have HGO := Lib.hid hgo
  have E1 := Lib.hid e1
  have E2 := Lib.hid e2
  clear e1 e2 hX hgo
  go_enter Tryz.func60, Tryz.ntmps60
  go_upto_region 21 with (first
    | (go_at_call 82; (with_reducible refine (byte_any _ _ _ HR.out.rd).mono ?_); rintro e wn ⟨ad, cn, rfl, hcell, hcn, hrdn, hCn⟩; (try (rw [HK.out] at hcell; simp only [show ((3 : Nat) : Int) = 3 from rfl] at hcell)); (first | rw [← E1.out] at hrdn | rw [← E2.out] at hrdn); have HR := Lib.hid (HR.out.next hrdn hCn); clear hrdn hCn)
    | (go_at_call 81; (with_reducible refine (rtext_any _ _ _ HR.out.rd).mono ?_); rintro e wn ⟨rfl, hrdn, hCn⟩; (first | rw [← E1.out] at hrdn | rw [← E2.out] at hrdn); have HR := Lib.hid (HR.out.next hrdn hCn); clear hrdn hCn)
    | (go_at_call 83; (with_reducible refine (rpair_any _ _ _ HR.out.rd).mono ?_); rintro e wn ⟨rfl, hrdn, hCn⟩; (first | rw [← E1.out] at hrdn | rw [← E2.out] at hrdn); have HR := Lib.hid (HR.out.next hrdn hCn); clear hrdn hCn)
    | (go_at_call 84; (with_reducible refine (rlong_any _ _ _ HR.out.rd).mono ?_); rintro e wn ⟨rfl, hrdn, hCn⟩; (first | rw [← E1.out] at hrdn | rw [← E2.out] at hrdn); have HR := Lib.hid (HR.out.next hrdn hCn); clear hrdn hCn)
    | fail)
  have hwn : w.heap.size + 1 < wn.heap.size := HR.out.rd.lt
  have OH := heap_alloc_new wn (.cells #[encStr r1.text] 9)
  have HR := Lib.hid (HR.out.alloc (.cells #[encStr r1.text] 9))
  generalize ewa : wn.alloc _ = wa at *
  obtain ⟨A6, c6, ho6, hb6, hl6, hm6, hap6⟩ := HR.out.rd
  have k0 : wa.cell? ⟨w.heap.size + 1, 0, none⟩ = some (.slice A6 r2.rest.length c6) := rdObj_cell ho6 0
  have k1 : wa.cell? ⟨w.heap.size + 1, 1, none⟩ = some (.bool r2.bad) := rdObj_cell ho6 1
  have HOX := Lib.hid OH
  have hfalse : ∀ W, Below w.heap.size w W → applied S b = (false, S) → Applied w g F S (applied S b) (.returned (.bool false)) W := fun W hB e => by
    rw [e]; exact ⟨F, rfl, HS.out.below hB, Chg.of_below F hB, NewIn.refl _ _⟩
  have HFALSE := Lib.hid hfalse
  clear ho6 hb6 hl6 OH hap6 hfalse ewa
  cases hbd : r2.bad with
  | true =>
    rw [hbd] at k1
    have HBD := Lib.hid hbd
    clear hbd
    go_wp2
    go_ret
    exact HFALSE.out _ HR.out.below (by rw [HX.out, if_neg]; rintro ⟨h1, _⟩; rw [HBD.out] at h1; cases h1)
  | false =>
    rw [hbd] at k1
    have HBD := Lib.hid hbd
    clear hbd
    cases hrest : r2.rest with
    | cons x y =>
      rw [hrest] at k0
      have q2 : ((List.length (x :: y) : Int) == 0) = false := by simp; omega
      have HREST := Lib.hid hrest
      clear hrest
      go_wp2
      go_ret
      exact HFALSE.out _ HR.out.below (by rw [HX.out, if_neg]; rintro ⟨_, h1⟩; rw [HREST.out] at h1; cases h1)
    | nil =>
      rw [hrest] at k0
      have hX2 := HX.out
      rw [if_pos ⟨HBD.out, hrest⟩] at hX2
      have hcl := apply3_any wa g F S (HS.out.below HR.out.below) HFIT.out hll w.heap.size wn.heap.size HR.out.box _ HGO.out (cell_of_row _ _ 0 _ _ _ HOX.out)
      have hB := HR.out.below
      generalize (Edit.dropH _) = o at *
      have HX2 := Lib.hid hX2
      have HCL := Lib.hid hcl
      have HB := Lib.hid hB
      clear hcl hB hX2 hrest
      go_wp2_with (first
        | (go_at_call 87; (with_reducible refine HCL.out.mono ?_); rintro e w2 ⟨F1, rfl, h1, hc1, hn1⟩)
        | fail)
      go_ret
      have hend : Applied w g F S (applied S b) (.returned (.bool (o.er S == 0))) w2 := by
        rw [HX2.out]
        exact ⟨F1, rfl, h1, (Chg.of_below F HB.out).then_ hc1, hn1.later HB.out.size⟩
      exact hend

set_option maxHeartbeats 4000000 in
set_option maxRecDepth 100000 in
theorem apply_k4 (w : World) (g : Nat) (F : List Nat) (S : St) (h : StAt w g F S) (hfit : S.Fit) (hll : S.log.length ≤ 100000000) (A : Option Addr) (b : List UInt8) (c : Nat) (hA : RdB w A b) (hl : ∀ ad, A = some ad → ad.block < w.heap.size) (hc : b.length ≤ c) (hcm : c ≤ 9223372036854775807)
    (hk : (Rdr.mk b false).byte = 4) :
    Calls Tryz.prog 60 #[.pointer (some ⟨g, 0, none⟩), .slice A b.length c] w (Applied w g F S (applied S b)) := by
  have hr0 := Reads.start (F := F) (S := S) (g := g) A b c hA hl hc hcm
  have hk' : (Rdr.mk b false).byte.toNat = 4 := by rw [hk]; rfl
  have hX : applied S b = (let r0 : Rdr := ⟨b, false⟩
      let r1 := r0.after 1
      let r2 := r1.afterText
      let x : Edit := .dropV r1.text
      if r2.bad = false ∧ r2.rest = [] then (decide (x.er S = 0), x.after S) else (false, S)) := by
    unfold applied parsed
    simp only [hk, if_true, show ¬ ((4 : UInt8) = 1) from by decide, show ¬ ((4 : UInt8) = 2) from by decide, show ¬ ((4 : UInt8) = 3) from by decide, if_false]
    split <;> rename_i h1 <;> split at h1 <;> rename_i h2
    · cases h1; rw [if_pos h2]
    · cases h1
    · cases h1
    · rw [if_neg h2]
  simp only at hX
  generalize Rdr.mk b false = r0 at *
  have HR := Lib.hid hr0
  have HS := Lib.hid h
  have HFIT := Lib.hid hfit
  have HK := Lib.hid hk'
  clear hr0 h hfit hk hk'
  obtain ⟨r1, e1⟩ : ∃ r, r = r0.after 1 := ⟨_, rfl⟩
  rw [← e1] at hX
  obtain ⟨r2, e2⟩ : ∃ r, r = r1.afterText := ⟨_, rfl⟩
  rw [← e2] at hX
  have HX := Lib.hid hX
  have hgo : (Edit.dropV r1.text).Go := by
    have t1 := r1.text_len
    show _ ≤ maxLen
    simp only [maxLen]; omega
  have HGO := Lib.hid hgo
  have E1 := Lib.hid e1
  have E2 := Lib.hid e2
  clear e1 e2 hX hgo
  go_enter Tryz.func60, Tryz.ntmps60
  go_upto_region 21 with (first
    | (go_at_call 82; (with_reducible refine (byte_any _ _ _ HR.out.rd).mono ?_); rintro e wn ⟨ad, cn, rfl, hcell, hcn, hrdn, hCn⟩; (try (rw [HK.out] at hcell; simp only [show ((4 : Nat) : Int) = 4 from rfl] at hcell)); (first | rw [← E1.out] at hrdn | rw [← E2.out] at hrdn); have HR := Lib.hid (HR.out.next hrdn hCn); clear hrdn hCn)
    | (go_at_call 81; (with_reducible refine (rtext_any _ _ _ HR.out.rd).mono ?_); rintro e wn ⟨rfl, hrdn, hCn⟩; (first | rw [← E1.out] at hrdn | rw [← E2.out] at hrdn); have HR := Lib.hid (HR.out.next hrdn hCn); clear hrdn hCn)
    | (go_at_call 83; (with_reducible refine (rpair_any _ _ _ HR.out.rd).mono ?_); rintro e wn ⟨rfl, hrdn, hCn⟩; (first | rw [← E1.out] at hrdn | rw [← E2.out] at hrdn); have HR := Lib.hid (HR.out.next hrdn hCn); clear hrdn hCn)
    | (go_at_call 84; (with_reducible refine (rlong_any _ _ _ HR.out.rd).mono ?_); rintro e wn ⟨rfl, hrdn, hCn⟩; (first | rw [← E1.out] at hrdn | rw [← E2.out] at hrdn); have HR := Lib.hid (HR.out.next hrdn hCn); clear hrdn hCn)
    | fail)
  have hwn : w.heap.size + 1 < wn.heap.size := HR.out.rd.lt
  have OH := heap_alloc_new wn (.cells #[encStr r1.text] 9)
  have HR := Lib.hid (HR.out.alloc (.cells #[encStr r1.text] 9))
  generalize ewa : wn.alloc _ = wa at *
  obtain ⟨A6, c6, ho6, hb6, hl6, hm6, hap6⟩ := HR.out.rd
  have k0 : wa.cell? ⟨w.heap.size + 1, 0, none⟩ = some (.slice A6 r2.rest.length c6) := rdObj_cell ho6 0
  have k1 : wa.cell? ⟨w.heap.size + 1, 1, none⟩ = some (.bool r2.bad) := rdObj_cell ho6 1
  have HOX := Lib.hid OH
  have hfalse : ∀ W, Below w.heap.size w W → applied S b = (false, S) → Applied w g F S (applied S b) (.returned (.bool false)) W := fun W hB e => by
    rw [e]; exact ⟨F, rfl, HS.out.below hB, Chg.of_below F hB, NewIn.refl _ _⟩
  have HFALSE := Lib.hid hfalse
  clear ho6 hb6 hl6 OH hap6 hfalse ewa
  cases hbd : r2.bad with
  | true =>
    rw [hbd] at k1
    have HBD := Lib.hid hbd
    clear hbd
    go_wp2
    go_ret
    exact HFALSE.out _ HR.out.below (by rw [HX.out, if_neg]; rintro ⟨h1, _⟩; rw [HBD.out] at h1; cases h1)
  | false =>
    rw [hbd] at k1
    have HBD := Lib.hid hbd
    clear hbd
    cases hrest : r2.rest with
    | cons x y =>
      rw [hrest] at k0
      have q2 : ((List.length (x :: y) : Int) == 0) = false := by simp; omega
      have HREST := Lib.hid hrest
      clear hrest
      go_wp2
      go_ret
      exact HFALSE.out _ HR.out.below (by rw [HX.out, if_neg]; rintro ⟨_, h1⟩; rw [HREST.out] at h1; cases h1)
    | nil =>
      rw [hrest] at k0
      have hX2 := HX.out
      rw [if_pos ⟨HBD.out, hrest⟩] at hX2
      have hcl := apply4_any wa g F S (HS.out.below HR.out.below) HFIT.out hll w.heap.size wn.heap.size HR.out.box _ HGO.out (cell_of_row _ _ 0 _ _ _ HOX.out)
      have hB := HR.out.below
      generalize (Edit.dropV _) = o at *
      have HX2 := Lib.hid hX2
      have HCL := Lib.hid hcl
      have HB := Lib.hid hB
      clear hcl hB hX2 hrest
      go_wp2_with (first
        | (go_at_call 88; (with_reducible refine HCL.out.mono ?_); rintro e w2 ⟨F1, rfl, h1, hc1, hn1⟩)
        | fail)
      go_ret
      have hend : Applied w g F S (applied S b) (.returned (.bool (o.er S == 0))) w2 := by
        rw [HX2.out]
        exact ⟨F1, rfl, h1, (Chg.of_below F HB.out).then_ hc1, hn1.later HB.out.size⟩
      exact hend

end Go.Proofs.YthbbmpelldglmaaGreatDoor
/- Package subscribers: 'apply'. -/
namespace Go.Proofs.YthbbmpelldglmaaGreatDoor
set_option linter.unusedVariables false
set_option linter.unusedSimpArgs false
open Go.RowKit

set_option maxHeartbeats 4000000 in
set_option maxRecDepth 100000 in
theorem apply_k0 (w : World) (g : Nat) (F : List Nat) (S : St) (h : StAt w g F S) (A : Option Addr) (b : List UInt8) (c : Nat) (hA : RdB w A b) (hl : ∀ ad, A = some ad → ad.block < w.heap.size) (hc : b.length ≤ c) (hcm : c ≤ 9223372036854775807)
    (hk1 : (Rdr.mk b false).byte ≠ 1) (hk2 : (Rdr.mk b false).byte ≠ 2) (hk3 : (Rdr.mk b false).byte ≠ 3) (hk4 : (Rdr.mk b false).byte ≠ 4) :
    Calls Tryz.prog 60 #[.pointer (some ⟨g, 0, none⟩), .slice A b.length c] w (Applied w g F S (applied S b)) := by
  have hr0 := Reads.start (F := F) (S := S) (g := g) A b c hA hl hc hcm
  have hX : applied S b = (false, S) := by
    unfold applied parsed
    simp only [hk1, hk2, hk3, hk4, if_false]
  rw [hX]
  have q : ∀ k : UInt8, (Rdr.mk b false).byte ≠ k → (((Rdr.mk b false).byte.toNat : Int) == (k.toNat : Int)) = false := fun k h => byte_ne h
  have q1 := q 1 hk1
  have q2 := q 2 hk2
  have q3 := q 3 hk3
  have q4 := q 4 hk4
  simp only [show ((1 : UInt8).toNat : Int) = 1 from rfl, show ((2 : UInt8).toNat : Int) = 2 from rfl, show ((3 : UInt8).toNat : Int) = 3 from rfl, show ((4 : UInt8).toNat : Int) = 4 from rfl] at q1 q2 q3 q4
  generalize Rdr.mk b false = r0 at *
  have hby : ∀ W, RdrAt W (w.heap.size + 1) r0 → Calls Tryz.prog 82 #[.pointer (some ⟨w.heap.size + 1, 0, none⟩), .int .i64 1] W fun e w' => ∃ ad c', e = .returned (.slice (some ad) 1 c') ∧ w'.cell? ad = some (.int .u8 (r0.byte.toNat : Int)) ∧ 1 ≤ c' ∧ RdrAt w' (w.heap.size + 1) (r0.after 1) ∧ Chg [w.heap.size + 1] W w' := fun W h => byte_any W _ r0 h
  generalize (r0.byte.toNat : Int) = k at *
  have HR := Lib.hid hr0
  have HS := Lib.hid h
  have HBY := Lib.hid hby
  clear hr0 h hk1 hk2 hk3 hk4 hX q hby
  go_enter Tryz.func60, Tryz.ntmps60
  go_wp2_with (first
    | (go_at_call 82; (with_reducible refine (HBY.out _ HR.out.rd).mono ?_); rintro e wn ⟨ad, cn, rfl, hcell, hcn, hrdn, hCn⟩; have HR := Lib.hid (HR.out.next hrdn hCn); clear hrdn hCn)
    | fail)
  go_ret
  exact ⟨F, rfl, HS.out.below HR.out.below, Chg.of_below F HR.out.below, NewIn.refl _ _⟩

/-- 'apply' -/
theorem apply_any (w : World) (g : Nat) (F : List Nat) (S : St) (h : StAt w g F S) (hfit : S.Fit) (hp : S.puts < 4096) (hll : S.log.length ≤ 100000000) (A : Option Addr) (b : List UInt8) (c : Nat) (hA : RdB w A b) (hl : ∀ ad, A = some ad → ad.block < w.heap.size) (hc : b.length ≤ c) (hcm : c ≤ 9223372036854775807) :
    Calls Tryz.prog 60 #[.pointer (some ⟨g, 0, none⟩), .slice A b.length c] w (Applied w g F S (applied S b)) := by
  by_cases h1 : (Rdr.mk b false).byte = 1
  · exact apply_k1 w g F S h hfit hp hll A b c hA hl hc hcm h1
  by_cases h2 : (Rdr.mk b false).byte = 2
  · exact apply_k2 w g F S h hfit hp hll A b c hA hl hc hcm h2
  by_cases h3 : (Rdr.mk b false).byte = 3
  · exact apply_k3 w g F S h hfit hll A b c hA hl hc hcm h3
  by_cases h4 : (Rdr.mk b false).byte = 4
  · exact apply_k4 w g F S h hfit hll A b c hA hl hc hcm h4
  exact apply_k0 w g F S h A b c hA hl hc hcm h1 h2 h3 h4
end Go.Proofs.YthbbmpelldglmaaGreatDoor
