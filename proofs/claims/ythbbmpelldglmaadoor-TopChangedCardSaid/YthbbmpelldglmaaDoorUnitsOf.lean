/- 'pointcodetop.unitsOf': the units in bits. -/
import Derived.Test.YthbbmpelldglmaaDoorUof
import Derived.Test.YthbbmpelldglmaaDoorRead
namespace Go.Proofs.YthbbmpelldglmaaDoor
set_option linter.unusedVariables false
set_option linter.unusedSimpArgs false
open Go.RowKit

theorem infoUnit7 : (Tryd.prog.info? 45).map (fun i => (i.zero, i.size, i.bytes)) = some (some unitZero, 7, 32) := by kernel_rfl

/-- what a content holds: a unit, or octets that 'sums.Check' rejects -/
def Held (d : List UInt8) : Option Un → Prop
  | some u => u.Ok ∧ d = u.octets ++ fcs u.octets
  | none => ∀ A c w, RdB w A d → d.length ≤ c → Calls Tryd.prog 54 #[.slice A d.length c] w fun e w' => e = .returned (.tuple #[.slice none 0 0, .int .i64 10]) ∧ Below w.heap.size w w'
/-- the units, and the numbers of wrong contents -/
def goods : List (Option Un) → List Un := fun l => l.filterMap id
def bads : List (Option Un) → Nat := fun l => (l.filter (fun o => o.isNone)).length
theorem goods_snoc (l : List (Option Un)) (k : Nat) (h : k < l.length) : goods (l.take (k + 1)) = goods (l.take k) ++ (match l[k] with | some u => [u] | none => []) := by
  unfold goods
  rw [List.take_succ_eq_append_getElem h, List.filterMap_append]
  cases l[k] <;> rfl
theorem bads_snoc (l : List (Option Un)) (k : Nat) (h : k < l.length) : bads (l.take (k + 1)) = bads (l.take k) + (match l[k] with | some u => 0 | none => 1) := by
  unfold bads
  rw [List.take_succ_eq_append_getElem h, List.filter_append, List.length_append]
  cases l[k] <;> rfl

/-- a row of units with their loads -/
def UnitRow (w : World) (B : Nat) (A : Option Addr) (c : Nat) (us : List (Un × Option Addr)) : Prop :=
  Row w B 45 7 A us.length c (us.flatMap fun p => (p.1.cells p.2 p.1.load.length).toList) ∧ ∀ p ∈ us, RowB w B p.2 p.1.load.length p.1.load ∧ Apart p.2 A
theorem UnitRow.below {w w' : World} {B : Nat} {A : Option Addr} {c : Nat} {us : List (Un × Option Addr)} (h : UnitRow w B A c us) (hb : Below w.heap.size w w') : UnitRow w' B A c us :=
  ⟨Row.below h.1 hb, fun p hp => ⟨RowB.below (h.2 p hp).1 hb, (h.2 p hp).2⟩⟩
theorem UnitRow.mono {w : World} {B B' : Nat} {A : Option Addr} {c : Nat} {us : List (Un × Option Addr)} (h : UnitRow w B A c us) (hB : B' ≤ B) : UnitRow w B' A c us :=
  ⟨Row.mono h.1 hB, fun p hp => ⟨Row.mono (h.2 p hp).1 hB, (h.2 p hp).2⟩⟩
/-- a unit more -/
theorem UnitRow.more {w w' : World} {B : Nat} {A A' : Option Addr} {c c' : Nat} {us : List (Un × Option Addr)} (h : UnitRow w B A c us) (v : Un) (A2 : Option Addr) (hg : w.grownBy w' (A.map (·.block))) (hA : A' = A ∨ A' = some ⟨w.heap.size, 0, none⟩)
    (hr : Row w' B 45 7 A' (us.length + 1) c' (us.flatMap (fun p => (p.1.cells p.2 p.1.load.length).toList) ++ (v.cells A2 v.load.length).toList)) (h2 : RowB w B A2 v.load.length v.load) (ha : Apart A2 A) : UnitRow w' B A' c' (us ++ [(v, A2)]) := by
  refine ⟨?_, fun p hp => ?_⟩
  · rw [List.length_append, List.flatMap_append]
    simpa using hr
  · have hall : RowB w B p.2 p.1.load.length p.1.load ∧ Apart p.2 A := by
      rcases List.mem_append.1 hp with hp | hp
      · exact h.2 p hp
      · simp at hp; subst hp; exact ⟨h2, ha⟩
    exact ⟨RowB.kept hall.1 hg hall.2, Apart.grown hall.2 hall.1 hA⟩
theorem UnitRow.nil (w : World) (B : Nat) : UnitRow w B none 0 [] := ⟨Row.nil _ _ _ _, fun p hp => by cases hp⟩

set_option maxHeartbeats 2000000 in
set_option maxRecDepth 100000 in
theorem unitsOf_any (B g : Nat) (s u : Sc) (A : Option Addr) (l : List UInt8) (c : Nat) (os : List (Option Un)) (w : World) (h : ScanAt w B g s) (hr : Run s l u) (hA : RdB w A l) (hlow : Low B A) (hl : l.length ≤ 900000)
    (hm : s.many ≤ 1000000) (ho : s.ones ≤ 1000000) (hf : s.found.length ≤ 10000) (hol : os.length = u.found.length) (hu : u.found.length ≤ 10000) (hd : ∀ d ∈ u.found, d.length ≤ 280)
    (hos : ∀ (k : Nat) (o : Option Un) (d : List UInt8), os[k]? = some o → u.found[k]? = some d → Held d o) :
    Calls Tryd.prog 19 #[.pointer (some ⟨g, 0, none⟩), .slice A l.length c] w fun e w' => ∃ A' c' us, e = .returned (.tuple #[.slice A' us.length c', .int .i64 (bads os : Nat)]) ∧ us.map (·.1) = goods os ∧ UnitRow w' w.heap.size A' c' us ∧ Below B w w' := by
  have her := fun w' h => errors_any B g s w' h
  have her2 := fun w' h => errors_any B g { u with found := [] } w' h
  have hfe := feed_any B g s u A l c w h hr hA hlow hl hm ho hf
  obtain ⟨Ak0, ck0, Af0, cf0, ss0, h0⟩ := h
  have hge := h0.ge
  have hglt := h0.lt
  have h : ScanAt w B g s := ⟨_, _, _, _, _, h0⟩
  generalize hF : u.found = F at *
  have HE := Lib.hid her
  have HE2 := Lib.hid her2
  have HF := Lib.hid hfe
  have HH := Lib.hid h
  have HOS := Lib.hid hos
  have HOL := Lib.hid hol
  clear her her2 hfe h h0 hos hol hr hA
  go_enter Tryd.func19, Tryd.ntmps19
  go_wp2_with fail
  refine (HE.out _ HH.out).mono ?_
  rintro e w1 ⟨rfl, rfl⟩
  go_wp2_with fail
  refine HF.out.mono ?_
  rintro e w2 ⟨Af, ss, rfl, hS, hcap, hcs, hsc, hB2⟩
  go_wp2_with fail
  refine (HE2.out _ hsc).mono ?_
  rintro e w3 ⟨rfl, rfl⟩
  go_wp2_with fail
  have hssl : ss.length = F.length := by rw [← hcs]; simp [conts]
  have HSSL := Lib.hid hssl
  have hss : ss.length ≤ 10000 := by omega
  have HCS := Lib.hid hcs
  clear hssl hcs
  go_loopw [9, 10, 11, 12, 13, 14, 15] (fun wv ov i _ _ _ _ wr => ∃ k : Nat, k ≤ ss.length ∧ i = .int .i64 k ∧ (∃ q : Nat, q = bads (os.take k) ∧ q ≤ k ∧ wv = .int .i64 q) ∧ (∃ us Ao co, ov = .slice Ao us.length co ∧ us.length ≤ k ∧ us.map (·.1) = goods (os.take k) ∧ UnitRow wr w2.heap.size Ao co us) ∧ Below w2.heap.size w2 wr)
    (fun _ _ i _ _ _ _ _ => ss.length - (intOf i).toNat)
  case atStart => exact ⟨0, by omega, rfl, ⟨0, rfl, by omega, rfl⟩, ⟨[], none, 0, rfl, by simp, rfl, UnitRow.nil _ _⟩, Below.refl _ _⟩
  case round =>
    obtain ⟨k, hk, rfl, ⟨q, hq, hqk, rfl⟩, ⟨us, Ao, co, rfl, husl, hus, hrow⟩, hB⟩ := hrel
    by_cases hlt : k < ss.length
    · have hko : k < os.length := by have := HOL.out; have := HSSL.out; omega
      obtain ⟨⟨ad, e, hc⟩, hrd⟩ := (hS.below hB) k _ (List.getElem?_eq_getElem hlt)
      subst e
      have hFk : F[k]? = some ss[k].2.2 := by rw [← HCS.out]; simp [conts, hlt]
      have hheld := HOS.out k os[k] ss[k].2.2 (List.getElem?_eq_getElem hko) hFk
      have hcx : ss[k].2.2.length ≤ ss[k].2.1 := hcap _ (List.getElem_mem hlt)
      have hdl : ss[k].2.2.length ≤ 280 := hd _ (List.mem_of_getElem? hFk)
      have hgs := goods_snoc os k hko
      have hbs := bads_snoc os k hko
      generalize os[k] = o at *
      generalize ss[k] = x at *
      obtain ⟨x1, x2, d⟩ := x
      simp only at hc hrd hheld hdl hcx
      cases o with
      | none =>
        have hck := hheld x1 x2 wr hrd hcx
        have HCK := Lib.hid hck
        have HGS := Lib.hid hgs
        have HBS := Lib.hid hbs
        have HUS := Lib.hid hus
        have HQ := Lib.hid hq
        clear hck hheld hgs hbs hus hq
        go_wp2_with (first
          | (go_at_call 54; (with_reducible refine HCK.out.mono ?_); rintro e w4 ⟨rfl, hB4⟩)
          | (go_at_call 83; (refine (decode_nil _).mono ?_); unfold unitZero; rintro e w5 ⟨rfl, hB5⟩)
          | fail)
        go_roundw
        case rel =>
          have hb5 := below_alloc (below_then hB4 hB5) (.cells #[.int .u8 0, .bool false, .int .u8 0, .bool false, .int .u8 0, .int .u8 0, .slice none 0 0] 45)
          exact ⟨k + 1, by omega, by go_num, ⟨q + 1, by rw [HBS.out, ← HQ.out], by omega, by go_num⟩, ⟨us, Ao, co, rfl, by omega, by rw [HGS.out, HUS.out]; simp, hrow.below hb5⟩, below_then hB hb5⟩
        case measure => simp [intOf]; omega
      | some v =>
        obtain ⟨hok, hdv⟩ := hheld
        have hol1 : v.octets.length ≤ 276 := by have := hok.rest_len; rw [v.octets_len]; omega
        have hck := check_ok x1 v.octets d hdv x2 wr hrd hcx (by omega)
        have hdec := fun A w h => decode_any v hok A v.octets.length w h (Nat.le_refl _) (by omega)
        generalize v.octets = O at *
        obtain ⟨back, bb, fore, fb, kind, st, load⟩ := v
        unfold Un.val at hdec
        simp only at hdec
        have HCK := Lib.hid hck
        have HDEC := Lib.hid hdec
        have HGS := Lib.hid hgs
        have HBS := Lib.hid hbs
        have HUS := Lib.hid hus
        have HQ := Lib.hid hq
        have HDV := Lib.hid hdv
        clear hck hdec hgs hbs hus hq hdv hok
        go_wp2_with (first
          | (go_at_call 54; (with_reducible refine HCK.out.mono ?_); rintro e w4 ⟨A4, rfl, hR4, hB4⟩)
          | (go_at_call 83; (with_reducible refine (HDEC.out _ _ hR4.rd).mono ?_); rintro e w5 ⟨A5, rfl, hR5, hB5⟩
             have hb5 := below_alloc (below_alloc (below_then hB4 hB5) (.cells #[.int .u8 (back : Int), .bool bb, .int .u8 (fore : Int), .bool fb, .int .u8 (kind : Int), .int .u8 (st : Int), .slice A5 load.length load.length] 45)) (.cells #[.int .u8 (back : Int), .bool bb, .int .u8 (fore : Int), .bool fb, .int .u8 (kind : Int), .int .u8 (st : Int), .slice A5 load.length load.length] 45)
             have hrow5 := hrow.below hb5
             have hwr := hB.size
             have h45 := hB4.size)
          | ((with_reducible refine at_dst 56 rfl ?_)
             refine wpList_append_row rfl (.tmp 53) (.tmp 55) 50 rfl w2.heap.size 45 _ 7 32 Tryd.underlying50 infoUnit7 rfl Ao us.length co _ rfl hrow5.1 (some ⟨w5.heap.size + 1, 0, none⟩) 1 1 [.int .u8 (back : Int), .bool bb, .int .u8 (fore : Int), .bool fb, .int .u8 (kind : Int), .int .u8 (st : Int), .slice A5 load.length load.length] rfl
               (fun j v hj => ⟨_, rfl, by rw [add_lit, cell_of_row _ _ _ _ _ _ (heap_alloc2_new _ _ _)]; simpa using hj⟩) rfl (by intro v hv; simp at hv; rcases hv with rfl | rfl | rfl | rfl | rfl | rfl | rfl <;> rfl) (by simp only [maxLen]; omega) (by omega) (by have := hb5.size; omega) ?_
             intro A6 c6 w6 h6 hg6 hA6)
          | fail)
        go_roundw
        case rel =>
          have hap : Apart A5 Ao := fun j hj e => by
            have h1 := (Row.lt hR5 j hj).1
            have h2 := (Row.lt hrow.1 j e).2
            omega
          have hm := hrow5.more ⟨back, bb, fore, fb, kind, st, load⟩ A5 hg6 hA6 h6 (Row.alloc (Row.alloc (Row.mono hR5 (by omega)) _) _) hap
          have hb6 := (below_then hB hb5).grown hg6 (by have := hb5.size; omega) (fun j hj => (Row.lt hrow5.1 j hj).1)
          exact ⟨k + 1, by omega, by go_num, ⟨q, by rw [HBS.out, ← HQ.out]; rfl, by omega, rfl⟩, ⟨_, A6, c6, by simp, by simp; omega, by rw [HGS.out, ← HUS.out]; simp, hm⟩, hb6⟩
        case measure => simp [intOf]; omega
    · obtain rfl : k = os.length := by have := HOL.out; have := HSSL.out; omega
      rw [List.take_length] at hq hus
      subst hq
      go_wp2
      go_ret2
      exact ⟨Ao, co, us, rfl, hus, hrow.mono hB2.size, hB2.trans (hB.mono (by have := hB2.size; omega))⟩
end Go.Proofs.YthbbmpelldglmaaDoor
