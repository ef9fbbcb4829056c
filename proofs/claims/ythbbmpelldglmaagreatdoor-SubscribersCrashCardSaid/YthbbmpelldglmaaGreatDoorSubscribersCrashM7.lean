/- Law 38: a store some of whose log is durable, a model of it, and the models behind each change, in memory. -/
import Derived.Test.YthbbmpelldglmaaGreatDoorSubscribersCrashM6
import Derived.Deep.QuietTactic
import Derived.BigQuiet
import Derived.ProofKit
import Derived.Test.YthbbmpelldglmaaGreatDoorProg
import Derived.Lib.SmallJoins
import Derived.SizedLaws
import Derived.OpenShut
import Derived.Deep.Slices
import Derived.Deep.RegionHeld3
import Derived.Deep.RegionHeldLaw
import Derived.Deep.CutBlock
namespace Go.Proofs.YthbbmpelldglmaaGreatDoor
set_option linter.unusedVariables false
set_option linter.unusedSimpArgs false
open Go.RowKit

/-- the store behind k acts, the first d bytes of its log durable -/
def Sd (l : List Ac) (k d : Nat) : St := { Sk l k with dur := d }
theorem after_withDur (o : Edit) (S : St) (d : Nat) : o.after { S with dur := d } = { o.after S with dur := d } ∧ o.er { S with dur := d } = o.er S := by
  have he : o.er { S with dur := d } = o.er S := by cases o <;> rfl
  refine ⟨?_, he⟩
  unfold Edit.after
  rw [he]
  split
  · cases o <;> rfl
  · rfl
theorem Sd_succ (l : List Ac) (k d : Nat) (h : k < l.length) : Sd l (k + 1) d = l[k].edit.after (Sd l k d) := by
  unfold Sd
  rw [(after_withDur _ _ _).1, Sk_succ l k h]
theorem Sd_er (l : List Ac) (k d : Nat) (o : Edit) : o.er (Sd l k d) = o.er (Sk l k) := (after_withDur o (Sk l k) d).2
theorem Sd_fit {l : List Ac} (h : ∀ a ∈ l, a.Go) (k d : Nat) : (Sd l k d).Fit := SameR.fit (S := Sk l k) ⟨rfl, rfl⟩ (Sk_fit h k)
theorem Sd_zero (l : List Ac) (k : Nat) : Sd l k 0 = Sk l k := by
  have := Sk_dur l k
  unfold Sd
  rw [← this]

/-- the store and its model behind k acts -/
structure TwoD (w0 W : World) (l : List Ac) (d k gs gm : Nat) (F FM : List Nat) : Prop where
  st : StAt W gs F (Sd l k d)
  md : ModAt W gm FM (Sk l k).homes (Sk l k).visits
  below : Below w0.heap.size w0 W
  hF : ∀ i ∈ F, w0.heap.size ≤ i
  hFM : ∀ i ∈ FM, w0.heap.size ≤ i
theorem TwoD.later {w0 W W' : World} {l : List Ac} {d k gs gm : Nat} {F FM : List Nat} (h : TwoD w0 W l d k gs gm F FM) (hb : Below W.heap.size W W') : TwoD w0 W' l d k gs gm F FM :=
  ⟨h.st.below hb, h.md.below hb, h.below.trans (hb.mono h.below.size), h.hF, h.hFM⟩
/-- the store has changed, the model not yet -/
theorem TwoD.half {w0 W W' : World} {l : List Ac} {d k gs gm : Nat} {F FM F' : List Nat} (h : TwoD w0 W l d k gs gm F FM) (hc : Chg F W W') (hn : NewIn W F F') :
    ModAt W' gm FM (Sk l k).homes (Sk l k).visits ∧ Below w0.heap.size w0 W' ∧ ∀ i ∈ F', w0.heap.size ≤ i :=
  ⟨h.md.chg hc (mod_st h.st h.md), h.below.trans (hc.below h.hF h.below.size), fun i hi => (hn i hi).elim (fun h2 => h.hF i h2) (fun h2 => by have := h.below.size; omega)⟩
theorem TwoD.step {w0 W1 W2 : World} {l : List Ac} {d k gs gm : Nat} {FM F' FM' : List Nat} {H : List HomeR} {V : List VisitR} (h2 : StAt W1 gs F' (Sd l (k + 1) d)) (hb : Below w0.heap.size w0 W1) (hF : ∀ i ∈ F', w0.heap.size ≤ i) (hM : ∀ i ∈ FM, w0.heap.size ≤ i) (hm : ModAt W1 gm FM H V)
    (hmd : ModAt W2 gm FM' (Sk l (k + 1)).homes (Sk l (k + 1)).visits) (hc : Chg FM W1 W2) (hn : NewIn W1 FM FM') : TwoD w0 W2 l d (k + 1) gs gm F' FM' :=
  ⟨h2.chg hc (st_mod h2 hm), hmd, hb.trans (hc.below hM hb.size), hF, fun i hi => (hn i hi).elim (fun h => hM i h) (fun h => by have := hb.size; omega)⟩

/-- the store, its model, the ends and the models behind k acts -/
structure FourD (w0 W : World) (l : List Ac) (d k gs gm : Nat) (F FM : List Nat) (A7 : Option Addr) (c7 : Nat) (A8 : Option Addr) (c8 : Nat) (gl : List Nat) : Prop where
  two : TwoD w0 W l d k gs gm F FM
  ends : Row W w0.heap.size 3 1 A7 k c7 (endsV l k)
  mods : Row W w0.heap.size 29 1 A8 k c8 (gl.map ptrV)
  models : Models W w0.heap.size FM l gl
  len : gl.length = k
theorem FourD.later {w0 W W' : World} {l : List Ac} {d k gs gm : Nat} {F FM : List Nat} {A7 : Option Addr} {c7 : Nat} {A8 : Option Addr} {c8 : Nat} {gl : List Nat} (h : FourD w0 W l d k gs gm F FM A7 c7 A8 c8 gl) (hb : Below W.heap.size W W') : FourD w0 W' l d k gs gm F FM A7 c7 A8 c8 gl :=
  ⟨h.two.later hb, h.ends.below hb, h.mods.below hb, h.models.below hb, h.len⟩
/-- an act done with the store and the model: the rows are still those behind k acts -/
structure MidD (w0 W : World) (l : List Ac) (d k gs gm : Nat) (F FM : List Nat) (A7 : Option Addr) (c7 : Nat) (A8 : Option Addr) (c8 : Nat) (gl : List Nat) : Prop where
  two : TwoD w0 W l d (k + 1) gs gm F FM
  ends : Row W w0.heap.size 3 1 A7 k c7 (endsV l k)
  mods : Row W w0.heap.size 29 1 A8 k c8 (gl.map ptrV)
  models : Models W w0.heap.size FM l gl
  len : gl.length = k
theorem MidD.later {w0 W W' : World} {l : List Ac} {d k gs gm : Nat} {F FM : List Nat} {A7 : Option Addr} {c7 : Nat} {A8 : Option Addr} {c8 : Nat} {gl : List Nat} (h : MidD w0 W l d k gs gm F FM A7 c7 A8 c8 gl) (hb : Below W.heap.size W W') : MidD w0 W' l d k gs gm F FM A7 c7 A8 c8 gl :=
  ⟨h.two.later hb, h.ends.below hb, h.mods.below hb, h.models.below hb, h.len⟩
theorem FourD.mid {w0 W W1 W2 : World} {l : List Ac} {d k gs gm : Nat} {F FM F' FM' : List Nat} {A7 : Option Addr} {c7 : Nat} {A8 : Option Addr} {c8 : Nat} {gl : List Nat} (h : FourD w0 W l d k gs gm F FM A7 c7 A8 c8 gl) (h2 : StAt W1 gs F' (Sd l (k + 1) d)) (hc1 : Chg F W W1) (hn1 : NewIn W F F')
    (hmd : ModAt W2 gm FM' (Sk l (k + 1)).homes (Sk l (k + 1)).visits) (hc : Chg FM W1 W2) (hn : NewIn W1 FM FM') : MidD w0 W2 l d k gs gm F' FM' A7 c7 A8 c8 gl := by
  obtain ⟨p1, p2, p3⟩ := h.two.half hc1 hn1
  have e1 := row_chg h.ends hc1 (st_row h.two.st h.ends (by decide))
  have e2 := row_chg h.mods hc1 (st_row h.two.st h.mods (by decide))
  have e3 := h.models.chg hc1 (fun g F2 H V hm _ => mod_st h.two.st hm)
  exact ⟨TwoD.step h2 p2 p3 h.two.hFM p1 hmd hc hn, row_chg e1 hc (mod_row p1 e1 (by decide)), row_chg e2 hc (mod_row p1 e2 (by decide)), e3.turn hc hn, h.len⟩
/-- the end of the log is noted -/
theorem MidD.ends2 {w0 W W' : World} {l : List Ac} {d k gs gm : Nat} {F FM : List Nat} {A7 A7' : Option Addr} {c7 c7' : Nat} {A8 : Option Addr} {c8 : Nat} {gl : List Nat} (h : MidD w0 W l d k gs gm F FM A7 c7 A8 c8 gl) (hg : W.grownBy W' (A7.map (·.block)))
    (hr : Row W' w0.heap.size 3 1 A7' (k + 1) c7' (endsV l (k + 1))) : TwoD w0 W' l d (k + 1) gs gm F FM ∧ Row W' w0.heap.size 3 1 A7' (k + 1) c7' (endsV l (k + 1)) ∧ Row W' w0.heap.size 29 1 A8 k c8 (gl.map ptrV) ∧ Models W' w0.heap.size FM l gl := by
  have hc := Chg.of_row hg
  refine ⟨⟨h.two.st.chg hc (st_row h.two.st h.ends (by decide)), h.two.md.chg hc (mod_row h.two.md h.ends (by decide)), h.two.below.trans (hc.below (fun i hi => (Row.blk_lt h.ends i hi).1) h.two.below.size), h.two.hF, h.two.hFM⟩, hr, row_chg h.mods hc (row_row h.ends h.mods (by decide)), h.models.chg hc (fun g F2 H V hm _ => mod_row hm h.ends (by decide))⟩
/-- the model is copied and noted -/
theorem four_nextD {w0 W W1 W' : World} {l : List Ac} {d k gs gm g : Nat} {F FM F2 : List Nat} {A7 A8 A8' : Option Addr} {c7 c8 c8' : Nat} {gl : List Nat} (h : TwoD w0 W l d (k + 1) gs gm F FM) (he : Row W w0.heap.size 3 1 A7 (k + 1) c7 (endsV l (k + 1))) (hm : Row W w0.heap.size 29 1 A8 k c8 (gl.map ptrV)) (hM : Models W w0.heap.size FM l gl) (hl : gl.length = k)
    (hb : Below W.heap.size W W1) (hcp : ModAt W1 g F2 (Sk l (k + 1)).homes (Sk l (k + 1)).visits) (hF2 : ∀ i ∈ F2, W.heap.size ≤ i) (hg : W1.grownBy W' (A8.map (·.block)))
    (hr : Row W' w0.heap.size 29 1 A8' (k + 1) c8' ((gl ++ [g]).map ptrV)) : FourD w0 W' l d (k + 1) gs gm F FM A7 c7 A8' c8' (gl ++ [g]) := by
  have h1 := h.later hb
  have he1 := he.below hb
  have hm1 := hm.below hb
  have hM1 := hM.below hb
  have hc := Chg.of_row hg
  have hM2 : Models W1 w0.heap.size FM l (gl ++ [g]) := hM1.snoc (F' := F2) (by rw [hl]; exact hcp) (fun j hj => ⟨by have := hF2 j hj; have := h.below.size; omega, fun hj2 => by have := hF2 j hj; have := h.md.lt j hj2; omega⟩)
  exact ⟨⟨h1.st.chg hc (st_row h1.st hm1 (by decide)), h1.md.chg hc (mod_row h1.md hm1 (by decide)), h1.below.trans (hc.below (fun i hi => (Row.blk_lt hm1 i hi).1) h1.below.size), h1.hF, h1.hFM⟩, row_chg he1 hc (row_row hm1 he1 (by decide)), hr, hM2.chg hc (fun g F2 H V hm _ => mod_row hm hm1 (by decide)), by simp [hl]⟩
/-- the store alone has changed, its records have not -/
theorem FourD.sync {w0 W W' : World} {l : List Ac} {d d' k gs gm : Nat} {F F' FM : List Nat} {A7 : Option Addr} {c7 : Nat} {A8 : Option Addr} {c8 : Nat} {gl : List Nat} (h : FourD w0 W l d k gs gm F FM A7 c7 A8 c8 gl) (h2 : StAt W' gs F' (Sd l k d')) (hc : Chg F W W') (hn : NewIn W F F') : FourD w0 W' l d' k gs gm F' FM A7 c7 A8 c8 gl := by
  obtain ⟨p1, p2, p3⟩ := h.two.half hc hn
  exact ⟨⟨h2, p1, p2, p3, h.two.hFM⟩, row_chg h.ends hc (st_row h.two.st h.ends (by decide)), row_chg h.mods hc (st_row h.two.st h.mods (by decide)), h.models.chg hc (fun g F2 H V hm _ => mod_st h.two.st hm), h.len⟩
end Go.Proofs.YthbbmpelldglmaaGreatDoor
/- Package subscribers: 'Replay'. -/
namespace Go.Proofs.YthbbmpelldglmaaGreatDoor
set_option linter.unusedVariables false
set_option linter.unusedSimpArgs false
open Go.RowKit

theorem or_i64 (a b : Nat) (ha : a < 65536) (hb : b < 65536) : bits .or .i64 a b = ((a ||| b : Nat) : Int) :=
  (bits_nat .i64 16 (by decide) (fun n h0 h1 => by rw [IntKind.wrap_i64]; omega) a b ha hb).2
/-- 'sums.Check' at the first entry -/
theorem front_check (W : World) (A : Option Addr) (D : List UInt8) (c m n : Nat) (hA : RdB W A D) (hc : D.length ≤ c) (hm : m = lenAt D) (h4 : m + 4 ≤ D.length) (hl : D.length ≤ 16000) (hn : n = m + 4) :
    Calls Tryz.prog 59 #[.slice A n c] W fun e w' => Below W.heap.size W w' ∧ ((∃ b ad, front D = some b ∧ b.length = m ∧ e = .returned (.tuple #[.slice (some ad) (m + 2) (m + 2), .int .i64 0]) ∧ RdB w' (some (ad.add 2)) b ∧ W.heap.size ≤ ad.block ∧ ad.block < w'.heap.size) ∨
      (front D = none ∧ e = .returned (.tuple #[.slice none 0 0, .int .i64 10]))) := by
  subst hn
  have hl2 : (D.take (m + 4)).length = (m + 2) + 2 := by rw [List.length_take]; omega
  have hk0 : (D.take (m + 4))[m + 2]? = some (D[m + 2]'(by omega)) := by rw [List.getElem?_take_of_lt (by omega), List.getElem?_eq_getElem (by omega)]
  have hk1 : (D.take (m + 4))[m + 2 + 1]? = some (D[m + 3]'(by omega)) := by rw [List.getElem?_take_of_lt (by omega), List.getElem?_eq_getElem (by omega)]
  have ht : (D.take (m + 4)).take (m + 2) = D.take (m + 2) := by rw [List.take_take, Nat.min_eq_left (by omega)]
  have h := check_core A (D.take (m + 4)) (m + 2) c W (hA.take _) hl2 (by omega) (by omega) _ _ hk0 hk1
  have hd : (D.drop (m + 2)).take 2 = [D[m + 2]'(by omega), D[m + 3]'(by omega)] := by
    apply List.ext_getElem?
    intro i
    rw [List.getElem?_take]
    by_cases hi : i < 2
    · rw [if_pos hi, List.getElem?_drop]
      match i, hi with
      | 0, _ => rw [List.getElem?_eq_getElem (by omega)]; rfl
      | 1, _ => rw [List.getElem?_eq_getElem (by omega)]; rfl
    · rw [if_neg hi, List.getElem?_eq_none (by simp; omega)]
  refine h.mono ?_
  rintro e w' ⟨h1, h2⟩
  refine ⟨h2, ?_⟩
  rw [ht, ← hd] at h1
  by_cases hf : (D.drop (m + 2)).take 2 = fcs (D.take (m + 2))
  · rw [if_pos hf] at h1
    obtain ⟨A', rfl, hR⟩ := h1
    have hfr : front D = some ((D.take (m + 2)).drop 2) := by
      unfold front
      rw [← hm, if_pos ⟨by omega, h4, hf⟩]
    have hbl : (D.take (m + 2)).length = m + 2 := by rw [List.length_take]; omega
    unfold RowB at hR
    rw [hbl] at hR
    obtain ⟨g', rfl, hg1, hg2, _⟩ := Row.form hR (by omega)
    exact .inl ⟨_, _, hfr, by rw [List.length_drop, hbl]; omega, rfl, RdB.drop (Row.rd hR) 2, hg1, hg2⟩
  · rw [if_neg hf] at h1
    refine .inr ⟨?_, h1⟩
    unfold front
    rw [← hm, if_neg]
    rintro ⟨_, _, h5⟩
    exact hf h5

theorem addr2 (ad : Addr) : ad.add 2 = ⟨ad.block, ad.off + 2, none⟩ := by unfold Addr.add; split <;> simp_all
/-- how the walk ends -/
def Replayed (w : World) (log : List UInt8) (e : Ending) (w' : World) : Prop :=
  ∃ (g : Nat) (F : List Nat) (T : St) (n : Nat), e = .returned (.tuple #[.pointer (some ⟨g, 0, none⟩), .int .i64 (n : Int)]) ∧ Plays ⟨[], [], [], 0, 0⟩ log T n ∧ T.Fit ∧ 4 * T.puts ≤ n ∧
      StAt w' g F { T with log := log.take n, dur := n } ∧ Below w.heap.size w w' ∧ ∀ i ∈ F, w.heap.size ≤ i
theorem replay_end {w wz wy : World} {A : Option Addr} {log : List UInt8} {k : Nat} {S : St} {Fz : List Nat} {m1 m2 m3 m4 : Value} {Az Ay : Option Addr} {cz : Nat} (he : Eat ⟨[], [], [], 0, 0⟩ log S k) (hw : Way S k) (hp : ∀ b, front (log.drop k) = some b → (applied S b).1 = false)
    (hS : StAt wz w.heap.size Fz S) (hF : ∀ i ∈ Fz, w.heap.size ≤ i) (hB : Below w.heap.size w wz) (hBy : Below wz.heap.size wz wy) (hglt : w.heap.size < wz.heap.size)
    (hoy : wy.heap[w.heap.size]? = some (stObj m1 m2 m3 m4 Az S.log.length cz S.dur))
    (hset : ∀ (w' : World) (A' : Option Addr) (c' d : Nat) (l : List UInt8), w'.heap[w.heap.size]? = some (stObj m1 m2 m3 m4 A' l.length c' d) → RowB w' 0 A' c' l → Chg [w.heap.size] wz w' → ∃ F', StAt w' w.heap.size F' { S with log := l, dur := d } ∧ ∀ i ∈ F', i ∈ Fz ∨ i ∈ blk A')
    (hR : Row wy wz.heap.size 5 1 Ay (log.take k).length (log.take k).length ((log.take k).map byteV)) (hkl : (log.take k).length = k) :
    Replayed w log (.returned (.tuple #[.pointer (some ⟨w.heap.size, 0, none⟩), .int .i64 (k : Int)])) ((wy.setCell ⟨w.heap.size, 4, none⟩ (.slice Ay k k)).setCell ⟨w.heap.size, 5, none⟩ (.int .i64 (k : Int))) := by
  have hpl : Plays ⟨[], [], [], 0, 0⟩ log S k := he.plays (Plays.stop hp)
  have hgA : w.heap.size ∉ blk Ay := fun hi => by have := (Row.blk_lt hR _ hi).1; omega
  have o4 : (wy.setCell ⟨w.heap.size, 4, none⟩ (.slice Ay k k)).heap[w.heap.size]? = some (stObj m1 m2 m3 m4 Ay k k S.dur) := stObj_set4 hoy
  have o5 : ((wy.setCell ⟨w.heap.size, 4, none⟩ (.slice Ay k k)).setCell ⟨w.heap.size, 5, none⟩ (.int .i64 (k : Int))).heap[w.heap.size]? = some (stObj m1 m2 m3 m4 Ay k k k) := Go.Joins.block_setCell (i := 5) o4 _
  have c1 : Chg [w.heap.size] wy ((wy.setCell ⟨w.heap.size, 4, none⟩ (.slice Ay k k)).setCell ⟨w.heap.size, 5, none⟩ (.int .i64 (k : Int))) := ((Chg.refl _ _).setCell (by simp) _).setCell (by simp) _
  have c2 := (Chg.of_below [w.heap.size] hBy).then_ c1
  have hR2 : RowB ((wy.setCell ⟨w.heap.size, 4, none⟩ (.slice Ay k k)).setCell ⟨w.heap.size, 5, none⟩ (.int .i64 (k : Int))) 0 Ay (log.take k).length (log.take k) := Row.mono (Row.chg hR c1 (fun j e hi => hgA (by simp at hi; subst hi; exact mem_blk.2 e))) (Nat.zero_le _)
  rw [← hkl] at o5
  obtain ⟨F', h2, hF'⟩ := hset _ Ay (log.take k).length (log.take k).length (log.take k) (by simpa only [hkl] using o5) (by simpa only [hkl] using hR2) (by simpa only [hkl] using c2)
  rw [hkl] at h2
  refine ⟨w.heap.size, F', S, k, rfl, hpl, hw.fit, hw.puts, h2, hB.trans (c2.below (by simp) hB.size), fun i hi => ?_⟩
  rcases hF' i hi with h3 | h3
  · exact hF i h3
  · have := (Row.blk_lt hR _ h3).1; omega

set_option maxHeartbeats 8000000 in
set_option maxRecDepth 100000 in
theorem replay_any (w : World) (A : Option Addr) (c : Nat) (log : List UInt8) (hA : RdB w A log) (hc : log.length ≤ c) (hcm : c ≤ 9223372036854775807) (hl : log.length ≤ 16000) :
    Calls Tryz.prog 34 #[.slice A log.length c] w (Replayed w log) := by
  have hnew := storeNew_any w
  have HN := Lib.hid hnew
  clear hnew
  go_enter Tryz.func34, Tryz.ntmps34
  go_wp2_with (first
    | (go_at_call 9; (with_reducible refine HN.out.mono ?_); rintro e w1 ⟨rfl, h1, hB1⟩)
    | fail)
  have H1 := Lib.hid h1
  clear h1
  go_loopw [5] (fun v wr => ∃ (k : Nat) (S : St) (F : List Nat), v = .int .i64 k ∧ k ≤ log.length ∧ Hid (Eat ⟨[], [], [], 0, 0⟩ log S k ∧ Way S k) ∧ StAt wr w.heap.size F S ∧ Below w.heap.size w wr ∧ ∀ i ∈ F, w.heap.size ≤ i)
    (fun v _ => log.length - (intOf v).toNat)
  case atStart => exact ⟨0, _, _, rfl, Nat.zero_le _, Lib.hid ⟨Eat.start, Way.start [] 0 0⟩, H1.out, hB1, by simp⟩
  case round =>
    obtain ⟨k, S, F, rfl, hk, HE, hSt, hBz, hF⟩ := hrel
    have HSZ := Lib.hid hSt
    have HFZ := Lib.hid hF
    have HFZA := Lib.hid hF
    clear hSt hF
    have hkc : k ≤ c := by omega
    by_cases h2 : k + 2 ≤ log.length
    · obtain ⟨ad, rfl, hc0⟩ := (hA.below hBz).get (k := k) (by omega)
      obtain ⟨ad', e, hc1⟩ := (hA.below hBz).get (k := k + 1) (by omega)
      cases e
      rw [add_succ] at hc1
      have q1 : ((k : Int) + 2 ≤ (log.length : Int)) := by omega
      obtain ⟨x, hx⟩ : ∃ x, x = log[k].toNat := ⟨_, rfl⟩
      obtain ⟨y, hy⟩ : ∃ y, y = (log[k + 1]).toNat := ⟨_, rfl⟩
      rw [← hx] at hc0
      rw [← hy] at hc1
      have hxl : x < 256 := by rw [hx]; exact log[k].toNat_lt
      have hyl : y < 256 := by rw [hy]; exact (log[k + 1]).toNat_lt
      have HX := Lib.hid hx
      have HY := Lib.hid hy
      clear hx hy
      obtain ⟨m, hm⟩ : ∃ m, m = x + 256 * y := ⟨_, rfl⟩
      have e1 : bits .or .i64 (x : Int) ((y : Int) * 256) = (m : Int) := by
        have := or_i64 x (y * 256) (by omega) (by omega)
        rw [or_lift x y 8 (by omega)] at this
        rw [hm, ← this]
        simp
      have hm2 : m = lenAt (log.drop k) := by
        unfold lenAt
        rw [hm, HX.out, HY.out, List.getD_eq_getElem?_getD, List.getD_eq_getElem?_getD, List.getElem?_drop, List.getElem?_drop, List.getElem?_eq_getElem (by omega), List.getElem?_eq_getElem (by omega)]
        rfl
      have hml : m < 65536 := by omega
      have HM := Lib.hid hm2
      clear hm hm2
      go_upto_region 4 with fail
      have q2 : (0 : Int) ≤ (k : Int) := by omega
      have q3 : (k : Int) < (log.length : Int) := by omega
      have q4 : (0 : Int) ≤ (k : Int) + 1 := by omega
      have q5 : (k : Int) + 1 < (log.length : Int) := by omega
      go_quiet (fail)
      clear e1 hc0 hc1
      have hBn : Below w.heap.size w (wr.drewN nq) := below_drewN hBz _
      have HSN := Lib.hid (HSZ.out.below (below_drewN (Below.refl _ _) nq))
      have hsn : wr.heap.size = (wr.drewN nq).heap.size := rfl
      generalize ewn : wr.drewN nq = wn at *
      clear ewn
      have hBz := hBn
      have HSZ := HSN
      clear HSN hBn hsn
      by_cases h4 : k + m + 4 ≤ log.length
      · have q6 : ¬ (log.length : Int) < (k : Int) + (m : Int) + 4 := by omega
        have hck := front_check wn (some (ad.add k)) (log.drop k) (c - k) m (k + m + 4 - k) (RdB.drop (hA.below hBz) k) (by rw [List.length_drop]; omega) HM.out (by rw [List.length_drop]; omega) (by rw [List.length_drop]; omega) (by omega)
        have HCK := Lib.hid hck
        clear hck
        go_wp2_with fail
        refine HCK.out.mono ?_
        rintro e w5 ⟨hB5, hcase⟩
        have hBz := below_then hBz hB5
        have HSZ := Lib.hid (HSZ.out.below hB5)
        rcases hcase with ⟨b, ad2, hfr, hbl, rfl, hrb, hlo, hhi⟩ | ⟨hfr, rfl⟩
        · have hap := apply_any w5 w.heap.size F S HSZ.out HE.out.2.fit (by have := HE.out.2.puts; omega) (by have := HE.out.2.log; omega) (some (if m + 2 = 2 then ad2 else ad2.add 2)) b m (by
            split
            · have : b = [] := List.eq_nil_of_length_eq_zero (by omega)
              rw [this]; exact RdB.nil _ _
            · exact hrb) (fun a e => by cases e; split <;> (try rw [add_block]) <;> exact hhi) (by omega) (by omega)
          rw [hbl] at hap
          have hfr2 := hfr
          obtain ⟨res, S2, hX⟩ : ∃ r s, applied S b = (r, s) := ⟨_, _, rfl⟩
          rw [hX] at hap
          unfold Applied at hap
          simp only at hap
          by_cases hm0 : m = 0
          · have hb0 : b = [] := List.eq_nil_of_length_eq_zero (by omega)
            have hn : applied S b = (false, S) := by rw [hb0]; rfl
            rw [hn] at hX
            injection hX with hX1 hX2
            subst hX1
            subst hX2
            subst hm0
            rw [if_pos rfl] at hap
            have HPL := Lib.hid (show ∀ b, front (log.drop k) = some b → (applied S b).1 = false from fun b' hb => by rw [hfr] at hb; cases hb; rw [hn])
            have HAP := Lib.hid hap
            clear hfr hfr2 hap hbl hrb hn
            go_wp2_with fail
            refine HAP.out.mono ?_
            rintro e w6 ⟨F6, rfl, h6, hc6, hn6⟩
            have HFZ := Lib.hid (show ∀ i ∈ F6, w.heap.size ≤ i from fun i hi => (hn6 i hi).elim (fun h => HFZ.out i h) (fun h => by have := hBz.size; omega))
            have hBz := hBz.trans (hc6.below (fun i hi => HFZA.out i hi) hBz.size)
            have HSZ := Lib.hid h6
            clear h6 hc6 hn6
            obtain ⟨m1, m2, m3, m4, Az, cz, hoz, hrz, hgA, hAF, hgF, hset⟩ := HSZ.out.obj
            have hkl : (log.take k).length = k := by rw [List.length_take]; omega
            have hcl := fun W (hb : Below w.heap.size w W) => clone_any (some ad) c (log.take k) W ((hA.below hb).take k) (by omega)
            rw [hkl] at hcl
            have HCL := Lib.hid hcl
            have HSET := Lib.hid hset
            have HOZ := Lib.hid hoz
            have hglt : w.heap.size < w6.heap.size := (Array.getElem?_eq_some_iff.1 hoz).1
            have HKL := Lib.hid hkl
            clear hcl hset hoz hrz hAF hgA hkl
            go_wp2_with (first
              | (go_at_call 42; (with_reducible refine (HCL.out _ hBz).mono ?_); rintro e wy ⟨Ay, cy, rfl, hRy, hBy⟩; have hle := Row.le hRy; have hcap := Row.cap_le hRy; simp only [HKL.out] at hle
                 have hoy := (hBy.block _ hglt).trans HOZ.out
                 have k4 := stObj_cell hoy 4
                 have k5 := stObj_cell hoy 5
                 have f4 := stObj_free hoy 4
                 have f5 := stObj_free hoy 5
                 have HOY := Lib.hid hoy
                 clear hoy
                 simp only [show (#[m1, m2, m3, m4, Value.slice Az S.log.length cz, Value.int IntKind.i64 (S.dur : Int)] : Array Value)[4]? = some (Value.slice Az S.log.length cz) from rfl] at k4
                 simp only [show (#[m1, m2, m3, m4, Value.slice Az S.log.length cz, Value.int IntKind.i64 (S.dur : Int)] : Array Value)[5]? = some (Value.int IntKind.i64 (S.dur : Int)) from rfl] at k5)
              | (go_at_call 41; go_must (refine (clip_any _ _ _ _ hle hcap).mono ?_); rintro e wx ⟨rfl, rfl⟩)
              | fail)
            go_ret2
            exact replay_end (A := some ad) HE.out.1 HE.out.2 HPL.out HSZ.out HFZ.out hBz hBy hglt HOY.out HSET.out (Row.clip hRy) HKL.out
          · have hm1 : ¬ m + 2 = 2 := by omega
            rw [if_neg hm1, addr2] at hap
            cases res with
            | false =>
              have hS2 : S2 = S := by have := applied_false (S := S) (b := b) (by rw [hX]); rw [hX] at this; exact this
              subst hS2
              have HPL := Lib.hid (show ∀ b, front (log.drop k) = some b → (applied S2 b).1 = false from fun b' hb => by rw [hfr] at hb; cases hb; rw [hX])
              have HAP := Lib.hid hap
              clear hfr hfr2 hap hbl hrb hX
              go_wp2_with fail
              refine HAP.out.mono ?_
              rintro e w6 ⟨F6, rfl, h6, hc6, hn6⟩
              have HFZ := Lib.hid (show ∀ i ∈ F6, w.heap.size ≤ i from fun i hi => (hn6 i hi).elim (fun h => HFZ.out i h) (fun h => by have := hBz.size; omega))
              have hBz := hBz.trans (hc6.below (fun i hi => HFZA.out i hi) hBz.size)
              have HSZ := Lib.hid h6
              clear h6 hc6 hn6
              obtain ⟨m1, m2, m3, m4, Az, cz, hoz, hrz, hgA, hAF, hgF, hset⟩ := HSZ.out.obj
              have hkl : (log.take k).length = k := by rw [List.length_take]; omega
              have hcl := fun W (hb : Below w.heap.size w W) => clone_any (some ad) c (log.take k) W ((hA.below hb).take k) (by omega)
              rw [hkl] at hcl
              have HCL := Lib.hid hcl
              have HSET := Lib.hid hset
              have HOZ := Lib.hid hoz
              have hglt : w.heap.size < w6.heap.size := (Array.getElem?_eq_some_iff.1 hoz).1
              have HKL := Lib.hid hkl
              clear hcl hset hoz hrz hAF hgA hkl
              go_wp2_with (first
                | (go_at_call 42; (with_reducible refine (HCL.out _ hBz).mono ?_); rintro e wy ⟨Ay, cy, rfl, hRy, hBy⟩; have hle := Row.le hRy; have hcap := Row.cap_le hRy; simp only [HKL.out] at hle
                   have hoy := (hBy.block _ hglt).trans HOZ.out
                   have k4 := stObj_cell hoy 4
                   have k5 := stObj_cell hoy 5
                   have f4 := stObj_free hoy 4
                   have f5 := stObj_free hoy 5
                   have HOY := Lib.hid hoy
                   clear hoy
                   simp only [show (#[m1, m2, m3, m4, Value.slice Az S2.log.length cz, Value.int IntKind.i64 (S2.dur : Int)] : Array Value)[4]? = some (Value.slice Az S2.log.length cz) from rfl] at k4
                   simp only [show (#[m1, m2, m3, m4, Value.slice Az S2.log.length cz, Value.int IntKind.i64 (S2.dur : Int)] : Array Value)[5]? = some (Value.int IntKind.i64 (S2.dur : Int)) from rfl] at k5)
                | (go_at_call 41; go_must (refine (clip_any _ _ _ _ hle hcap).mono ?_); rintro e wx ⟨rfl, rfl⟩)
                | fail)
              go_ret2
              exact replay_end (A := some ad) HE.out.1 HE.out.2 HPL.out HSZ.out HFZ.out hBz hBy hglt HOY.out HSET.out (Row.clip hRy) HKL.out
            | true =>
              have HE2 := Lib.hid (And.intro (Eat.step HE.out.1 hfr hX) (Way.step HE.out.2 hX))
              rw [hbl] at HE2
              have HAP := Lib.hid hap
              clear hfr hfr2 hap hbl hrb hX
              go_wp2_with fail
              refine HAP.out.mono ?_
              rintro e w6 ⟨F6, rfl, h6, hc6, hn6⟩
              have hFn : ∀ i ∈ F6, w.heap.size ≤ i := fun i hi => (hn6 i hi).elim (fun h => HFZ.out i h) (fun h => by have := hBz.size; omega)
              have hBn := hBz.trans (hc6.below (fun i hi => HFZA.out i hi) hBz.size)
              have HSN := Lib.hid h6
              have HFN := Lib.hid hFn
              clear h6 hc6 hn6 hFn
              go_wp2_with fail
              go_roundw
              case rel => exact ⟨k + (m + 4), S2, F6, by go_num, by omega, HE2, HSN.out, hBn, HFN.out⟩
              case measure => simp [intOf]; omega
        · have HPL := Lib.hid (show ∀ b, front (log.drop k) = some b → (applied S b).1 = false from fun b hb => by rw [hfr] at hb; cases hb)
          clear hfr
          obtain ⟨m1, m2, m3, m4, Az, cz, hoz, hrz, hgA, hAF, hgF, hset⟩ := HSZ.out.obj
          have hkl : (log.take k).length = k := by rw [List.length_take]; omega
          have hcl := fun W (hb : Below w.heap.size w W) => clone_any (some ad) c (log.take k) W ((hA.below hb).take k) (by omega)
          rw [hkl] at hcl
          have HCL := Lib.hid hcl
          have HSET := Lib.hid hset
          have HOZ := Lib.hid hoz
          have hglt : w.heap.size < w5.heap.size := (Array.getElem?_eq_some_iff.1 hoz).1
          have HKL := Lib.hid hkl
          clear hcl hset hoz hrz hAF hgA hkl
          go_wp2_with (first
            | (go_at_call 42; (with_reducible refine (HCL.out _ hBz).mono ?_); rintro e wy ⟨Ay, cy, rfl, hRy, hBy⟩; have hle := Row.le hRy; have hcap := Row.cap_le hRy; simp only [HKL.out] at hle
               have hoy := (hBy.block _ hglt).trans HOZ.out
               have k4 := stObj_cell hoy 4
               have k5 := stObj_cell hoy 5
               have f4 := stObj_free hoy 4
               have f5 := stObj_free hoy 5
               have HOY := Lib.hid hoy
               clear hoy
               simp only [show (#[m1, m2, m3, m4, Value.slice Az S.log.length cz, Value.int IntKind.i64 (S.dur : Int)] : Array Value)[4]? = some (Value.slice Az S.log.length cz) from rfl] at k4
               simp only [show (#[m1, m2, m3, m4, Value.slice Az S.log.length cz, Value.int IntKind.i64 (S.dur : Int)] : Array Value)[5]? = some (Value.int IntKind.i64 (S.dur : Int)) from rfl] at k5)
            | (go_at_call 41; go_must (refine (clip_any _ _ _ _ hle hcap).mono ?_); rintro e wx ⟨rfl, rfl⟩)
            | fail)
          go_ret2
          exact replay_end (A := some ad) HE.out.1 HE.out.2 HPL.out HSZ.out HFZ.out hBz hBy hglt HOY.out HSET.out (Row.clip hRy) HKL.out
      · have q6 : (log.length : Int) < (k : Int) + (m : Int) + 4 := by omega
        have HPL := Lib.hid (show ∀ b, front (log.drop k) = some b → (applied S b).1 = false from fun b hb => by
          have := (front_len hb)
          rw [← HM.out, List.length_drop] at this
          omega)
        clear h4
        obtain ⟨m1, m2, m3, m4, Az, cz, hoz, hrz, hgA, hAF, hgF, hset⟩ := HSZ.out.obj
        have hkl : (log.take k).length = k := by rw [List.length_take]; omega
        have hcl := fun W (hb : Below w.heap.size w W) => clone_any (some ad) c (log.take k) W ((hA.below hb).take k) (by omega)
        rw [hkl] at hcl
        have HCL := Lib.hid hcl
        have HSET := Lib.hid hset
        have HOZ := Lib.hid hoz
        have hglt : w.heap.size < wn.heap.size := (Array.getElem?_eq_some_iff.1 hoz).1
        have HKL := Lib.hid hkl
        clear hcl hset hoz hrz hAF hgA hkl
        go_wp2_with (first
          | (go_at_call 42; (with_reducible refine (HCL.out _ hBz).mono ?_); rintro e wy ⟨Ay, cy, rfl, hRy, hBy⟩; have hle := Row.le hRy; have hcap := Row.cap_le hRy; simp only [HKL.out] at hle
             have hoy := (hBy.block _ hglt).trans HOZ.out
             have k4 := stObj_cell hoy 4
             have k5 := stObj_cell hoy 5
             have f4 := stObj_free hoy 4
             have f5 := stObj_free hoy 5
             have HOY := Lib.hid hoy
             clear hoy
             simp only [show (#[m1, m2, m3, m4, Value.slice Az S.log.length cz, Value.int IntKind.i64 (S.dur : Int)] : Array Value)[4]? = some (Value.slice Az S.log.length cz) from rfl] at k4
             simp only [show (#[m1, m2, m3, m4, Value.slice Az S.log.length cz, Value.int IntKind.i64 (S.dur : Int)] : Array Value)[5]? = some (Value.int IntKind.i64 (S.dur : Int)) from rfl] at k5)
          | (go_at_call 41; go_must (refine (clip_any _ _ _ _ hle hcap).mono ?_); rintro e wx ⟨rfl, rfl⟩)
          | fail)
        go_ret2
        exact replay_end (A := some ad) HE.out.1 HE.out.2 HPL.out HSZ.out HFZ.out hBz hBy hglt HOY.out HSET.out (Row.clip hRy) HKL.out
    · have q1 : ¬ ((k : Int) + 2 ≤ (log.length : Int)) := by omega
      have HPL := Lib.hid (show ∀ b, front (log.drop k) = some b → (applied S b).1 = false from fun b hb => by
        have := (front_some hb).1
        rw [List.length_drop] at this
        omega)
      obtain ⟨m1, m2, m3, m4, Az, cz, hoz, hrz, hgA, hAF, hgF, hset⟩ := HSZ.out.obj
      have hkl : (log.take k).length = k := by rw [List.length_take]; omega
      have hcl := fun W (hb : Below w.heap.size w W) => clone_any A c (log.take k) W ((hA.below hb).take k) (by omega)
      rw [hkl] at hcl
      have HCL := Lib.hid hcl
      have HSET := Lib.hid hset
      have HOZ := Lib.hid hoz
      have hglt : w.heap.size < wr.heap.size := (Array.getElem?_eq_some_iff.1 hoz).1
      have HKL := Lib.hid hkl
      clear hcl hset hoz hrz hAF hgA hkl
      go_wp2_with (first
        | (go_at_call 42; (with_reducible refine (HCL.out _ hBz).mono ?_); rintro e wy ⟨Ay, cy, rfl, hRy, hBy⟩; have hle := Row.le hRy; have hcap := Row.cap_le hRy; simp only [HKL.out] at hle
           have hoy := (hBy.block _ hglt).trans HOZ.out
           have k4 := stObj_cell hoy 4
           have k5 := stObj_cell hoy 5
           have f4 := stObj_free hoy 4
           have f5 := stObj_free hoy 5
           have HOY := Lib.hid hoy
           clear hoy
           simp only [show (#[m1, m2, m3, m4, Value.slice Az S.log.length cz, Value.int IntKind.i64 (S.dur : Int)] : Array Value)[4]? = some (Value.slice Az S.log.length cz) from rfl] at k4
           simp only [show (#[m1, m2, m3, m4, Value.slice Az S.log.length cz, Value.int IntKind.i64 (S.dur : Int)] : Array Value)[5]? = some (Value.int IntKind.i64 (S.dur : Int)) from rfl] at k5)
        | (go_at_call 41; go_must (refine (clip_any _ _ _ _ hle hcap).mono ?_); rintro e wx ⟨rfl, rfl⟩)
        | fail)
      go_ret2
      exact replay_end (A := A) HE.out.1 HE.out.2 HPL.out HSZ.out HFZ.out hBz hBy hglt HOY.out HSET.out (Row.clip hRy) HKL.out
end Go.Proofs.YthbbmpelldglmaaGreatDoor
/- Law 38: the chapter's example. -/
namespace Go.Proofs.YthbbmpelldglmaaGreatDoor
set_option linter.unusedVariables false
set_option linter.unusedSimpArgs false
open Go.RowKit

def livCells : Array Value := #[.string ⟨#[50, 54]⟩, .string ⟨#[52, 57, 49]⟩, .int .u16 5, .int .u32 258, .bool false, .bool true]
set_option maxHeartbeats 4000000 in
set_option maxRecDepth 100000 in
theorem lives38_any (w : World) :
    Calls Tryz.prog 8 #[] w fun e w' => e = .returned (.bool true) ∧ Below w.heap.size w w' := by
  have hput : ∀ W F, StAt W w.heap.size F S00 → Calls Tryz.prog 24 #[.pointer (some ⟨w.heap.size, 0, none⟩), .agg #[.string ⟨#[50, 54]⟩, .string ⟨#[52, 57, 49]⟩, .int .u16 5, .int .u32 258, .bool false, .bool true]] W fun e w' => ∃ F', e = .returned (.int .i64 0) ∧ StAt w' w.heap.size F' ⟨[livH], [], livL, 0, 1⟩ ∧ Chg F W w' ∧ NewIn W F F' := fun W F h => by
    refine (putHome_any W w.heap.size F S00 h S00_fit (by decide) (by decide) [50, 54] [52, 57, 49] 5 258 false true liv_go.1 liv_go.2.1 liv_go.2.2).mono ?_
    rintro e w' ⟨F', er, S', rfl, h1, h2, h3, h4⟩
    obtain ⟨rfl, rfl⟩ := out_putH h4
    rw [show Edit.after (.putH ⟨[50, 54], [52, 57, 49], 5, 258, false, true⟩) S00 = _ from liv_after] at h1
    exact ⟨F', by rw [show Edit.er S00 (.putH ⟨[50, 54], [52, 57, 49], 5, 258, false, true⟩) = _ from liv_er], h1, h2, h3⟩
  have hlog : ∀ W F, StAt W w.heap.size F ⟨[livH], [], livL, 0, 1⟩ → Calls Tryz.prog 12 #[.pointer (some ⟨w.heap.size, 0, none⟩)] W fun e w' => ∃ g', e = .returned (.slice (some ⟨g', 0, none⟩) 19 19) ∧ RowB w' W.heap.size (some ⟨g', 0, none⟩) 19 livL ∧ Below W.heap.size W w' := fun W F h => by
    refine (storeLog_any W w.heap.size F _ h (by show livL.length ≤ _; rw [livL_len]; decide)).mono ?_
    rintro e w' ⟨A, rfl, h1, h2⟩
    simp only [livL_len] at h1 ⊢
    obtain ⟨g', rfl, -⟩ := Row.form h1 (by rw [livL_len]; decide)
    exact ⟨g', rfl, h1, h2⟩
  have hrep : ∀ W g', RdB W (some ⟨g', 0, none⟩) livL → Calls Tryz.prog 34 #[.slice (some ⟨g', 0, none⟩) 19 19] W fun e w' => ∃ g F T, e = .returned (.tuple #[.pointer (some ⟨g, 0, none⟩), .int .i64 19]) ∧ StAt w' g F T ∧ T.homes = [livH] ∧ Below W.heap.size W w' := fun W g' h => by
    have := replay_any W (some ⟨g', 0, none⟩) 19 livL h (by rw [livL_len]; decide) (by decide) (by rw [livL_len]; decide)
    rw [livL_len] at this
    refine this.mono ?_
    rintro e w' ⟨g, F, T, n, rfl, h1, h2, h3, h4, h5, h6⟩
    obtain ⟨e1, e2, rfl⟩ := liv_all h1
    exact ⟨g, F, _, rfl, h4, e1, h5⟩
  have hrep2 : ∀ W g', RdB W (some ⟨g', 0, none⟩) livL → Calls Tryz.prog 34 #[.slice (some ⟨g', 0, none⟩) 18 19] W fun e w' => ∃ g F T, e = .returned (.tuple #[.pointer (some ⟨g, 0, none⟩), .int .i64 0]) ∧ StAt w' g F T ∧ T.homes = [] ∧ T.Fit ∧ T.puts ≤ 100000 ∧ Below W.heap.size W w' := fun W g' h => by
    have hl : (livL.take 18).length = 18 := by rw [List.length_take, livL_len]; rfl
    have := replay_any W (some ⟨g', 0, none⟩) 19 (livL.take 18) (h.take 18) (by rw [hl]; decide) (by decide) (by rw [hl]; decide)
    rw [hl] at this
    refine this.mono ?_
    rintro e w' ⟨g, F, T, n, rfl, h1, h2, h3, h4, h5, h6⟩
    obtain ⟨e1, e2, rfl⟩ := liv_part h1
    exact ⟨g, F, _, rfl, h4, e1, SameR.fit (S := T) ⟨rfl, rfl⟩ h2, by show T.puts ≤ 100000; omega, h5⟩
  have hget : ∀ W g F T, StAt W g F T → T.homes = [livH] → Calls Tryz.prog 19 #[.pointer (some ⟨g, 0, none⟩), .string ⟨#[50, 54]⟩] W fun e w' => e = .returned (.tuple #[.agg #[.string ⟨#[50, 54]⟩, .string ⟨#[52, 57, 49]⟩, .int .u16 5, .int .u32 258, .bool false, .bool true], .int .i64 0]) ∧ Below W.heap.size W w' := fun W g F T h e1 => by
    have := storeHome_any W g F T h [50, 54] (by decide)
    have e2 : homeOf T [50, 54] = some livH := by unfold homeOf; rw [e1]; rfl
    rw [e2] at this
    exact this
  have hhomes : ∀ W g F T, StAt W g F T → T.homes = [] → T.Fit → T.puts ≤ 100000 → Calls Tryz.prog 37 #[.pointer (some ⟨g, 0, none⟩)] W fun e w' => (∃ A, e = .returned (.slice A 0 0)) ∧ Below W.heap.size W w' := fun W g F T h e1 hf hp => by
    have := storeHomes_any W g F T h hf hp
    rw [e1] at this
    refine this.mono ?_
    rintro e w' ⟨A, rfl, _, h2⟩
    exact ⟨⟨A, rfl⟩, h2⟩
  have hnew := storeNew_any w
  have HNEW := Lib.hid hnew
  have HPUT := Lib.hid hput
  have HLOG := Lib.hid hlog
  have HREP := Lib.hid hrep
  have HREP2 := Lib.hid hrep2
  have HGET := Lib.hid hget
  have HHOMES := Lib.hid hhomes
  clear hput hlog hrep hrep2 hget hhomes hnew
  go_enter Tryz.func8, Tryz.ntmps8
  go_wp2_with (first
    | (go_at_call 9; (with_reducible refine HNEW.out.mono ?_); rintro e w1 ⟨rfl, h1, hB1⟩
       have HS1 := Lib.hid (h1.below ((Below.refl w1.heap.size w1).alloc (Nat.le_refl _) (.cells #[.string ⟨#[50, 54]⟩, .string ⟨#[52, 57, 49]⟩, .int .u16 5, .int .u32 258, .bool false, .bool true] 52)))
       have hB2 := below_alloc hB1 (.cells #[.string ⟨#[50, 54]⟩, .string ⟨#[52, 57, 49]⟩, .int .u16 5, .int .u32 258, .bool false, .bool true] 52)
       have HX := Lib.hid (heap_alloc_new w1 (.cells #[.string ⟨#[50, 54]⟩, .string ⟨#[52, 57, 49]⟩, .int .u16 5, .int .u32 258, .bool false, .bool true] 52))
       have HGW := Lib.hid (show w.heap.size < w1.heap.size from h1.lt _ (by simp))
       clear h1)
    | (go_at_call 24; (with_reducible refine (HPUT.out _ _ HS1.out).mono ?_); rintro e w3 ⟨F3, rfl, h3, hc3, hn3⟩
       have HS3 := Lib.hid h3
       have HX3 := Lib.hid (hc3.heap HX.out (by have := HGW.out; simp; omega))
       have hB3 := hB2.trans (hc3.below (by simp) hB2.size)
       clear h3 hc3 hn3)
    | (go_at_call 12; (with_reducible refine (HLOG.out _ _ HS3.out).mono ?_); rintro e w4 ⟨g4, rfl, h4, hB4⟩
       have HR4 := Lib.hid h4
       have HX4 := Lib.hid ((hB4.block _ (Array.getElem?_eq_some_iff.1 HX3.out).1).trans HX3.out)
       have hB5 := hB3.trans (hB4.mono hB3.size)
       clear h4)
    | fail)
  obtain ⟨w5, hw5⟩ : ∃ v, v = w4.alloc (.cells #[.int .u8 15, .int .u8 0, .int .u8 1, .int .u8 2, .int .u8 50, .int .u8 54, .int .u8 3, .int .u8 52, .int .u8 57, .int .u8 49, .int .u8 5, .int .u8 0, .int .u8 2, .int .u8 1, .int .u8 0, .int .u8 0, .int .u8 2] 5) := ⟨_, rfl⟩
  have hB5' : Below w.heap.size w w5 := by rw [hw5]; exact below_alloc hB5 _
  have hB45 : Below w4.heap.size w4 w5 := by rw [hw5]; exact (Below.refl _ _).alloc (Nat.le_refl _) _
  have hwant : RdB w5 (some ⟨w4.heap.size, 0, none⟩) [15, 0, 1, 2, 50, 54, 3, 52, 57, 49, 5, 0, 2, 1, 0, 0, 2] := by rw [hw5]; exact rd_lit w4 [15, 0, 1, 2, 50, 54, 3, 52, 57, 49, 5, 0, 2, 1, 0, 0, 2]
  have hlog5 : RowB w5 w3.heap.size (some ⟨g4, 0, none⟩) 19 livL := RowB.below HR4.out hB45
  have hcells : ∀ k, k < 17 → ∃ v : Nat, w5.cell? ⟨g4, k, none⟩ = some (.int .u8 (v : Int)) ∧ w5.cell? ⟨w4.heap.size, k, none⟩ = some (.int .u8 (v : Int)) := fun k hk => by
    have hlk : k < livL.length := by rw [livL_len]; omega
    obtain ⟨ad, e1, c1⟩ := (RowB.rd hlog5).get hlk
    obtain ⟨ad2, e2, c2⟩ := hwant.get (k := k) (by simpa using hk)
    cases e1
    cases e2
    rw [add_lit] at c1 c2
    refine ⟨_, c1, ?_⟩
    rw [c2]
    congr 3
    have h1 : (livL.take 17)[k]? = some livL[k] := by rw [List.getElem?_take_of_lt hk, List.getElem?_eq_getElem hlk]
    rw [livL_take] at h1
    have h2 := (List.getElem?_eq_some_iff.1 h1).2
    rw [h2]
  have hS5 := Lib.hid (HS3.out.chg (Chg.of_below [] hB4) (by simp))
  have HX5 : Hid (w5.heap[w1.heap.size]? = some (.cells #[.string ⟨#[50, 54]⟩, .string ⟨#[52, 57, 49]⟩, .int .u16 5, .int .u32 258, .bool false, .bool true] 52)) := Lib.hid ((hB45.block _ (Array.getElem?_eq_some_iff.1 HX4.out).1).trans HX4.out)
  have HL5 := Lib.hid (RowB.rd hlog5)
  have HCE := Lib.hid hcells
  rw [← hw5]
  generalize w4.heap.size = g5 at *
  clear hw5 hwant hlog5 hcells HX4 HX3 HX HS1 HR4 hB45
  go_loopw [6] (fun iv wr => ∃ k n : Nat, k ≤ 17 ∧ iv = .int .i64 k ∧ wr = w5.drewN n) (fun iv _ => 17 - (intOf iv).toNat)
  case atStart => exact ⟨0, 0, by omega, rfl, rfl⟩
  case round =>
    obtain ⟨k, n, hk, rfl, rfl⟩ := hrel
    by_cases hlt : k < 17
    · obtain ⟨v, c1, c2⟩ := HCE.out k hlt
      have q1 : (0 : Int) ≤ (k : Int) := by omega
      have q2 : (k : Int) < 17 := by omega
      have q3 : (k : Int) < 19 := by omega
      go_upto_region 11 with fail
      go_quiet (fail)
      go_wp2_with fail
      go_roundw
      case rel => exact ⟨k + 1, n + nq, by omega, by go_num, rfl⟩
      case measure => simp [intOf]; omega
    · obtain rfl : k = 17 := by omega
      have hB6 : Below w.heap.size w (w5.drewN n) := below_drewN hB5' n
      have HX6 : Hid ((w5.drewN n).heap[w1.heap.size]? = some (.cells #[.string ⟨#[50, 54]⟩, .string ⟨#[52, 57, 49]⟩, .int .u16 5, .int .u32 258, .bool false, .bool true] 52)) := HX5
      have HL6 : Hid (RdB (w5.drewN n) (some ⟨g4, 0, none⟩) livL) := Lib.hid (HL5.out.drewN n)
      generalize w5.drewN n = w6 at *
      clear hB5' HCE
      go_wp2_with (first
        | (go_at_call 34; (with_reducible refine (HREP.out _ _ HL6.out).mono ?_); rintro e w7 ⟨g7, F7, T7, rfl, h7, e7, hB7⟩
           have HS7 := Lib.hid (And.intro h7 e7)
           have HL7 := Lib.hid (HL6.out.below hB7)
           have hB8 := hB6.trans (hB7.mono hB6.size)
           have HX7 := Lib.hid ((hB7.block _ (Array.getElem?_eq_some_iff.1 HX6.out).1).trans HX6.out)
           clear h7 e7)
        | (go_at_call 34; (with_reducible refine (HREP2.out _ _ HL7.out).mono ?_); rintro e w8 ⟨g8, F8, T8, rfl, h8, e8, hf8, hp8, hB9⟩
           have HS8 := Lib.hid (And.intro h8 (And.intro e8 (And.intro hf8 hp8)))
           have HS7' := Lib.hid (And.intro (HS7.out.1.below hB9) HS7.out.2)
           have hB10 := hB8.trans (hB9.mono hB8.size)
           have HX8 := Lib.hid ((hB9.block _ (Array.getElem?_eq_some_iff.1 HX7.out).1).trans HX7.out)
           clear h8 e8 hf8 hp8)
        | (go_at_call 19; (with_reducible refine (HGET.out _ _ _ _ HS7'.out.1 HS7'.out.2).mono ?_); rintro e w9 ⟨rfl, hB11⟩
           have hB12 := below_alloc (hB10.trans (hB11.mono hB10.size)) (.cells #[.string ⟨#[50, 54]⟩, .string ⟨#[52, 57, 49]⟩, .int .u16 5, .int .u32 258, .bool false, .bool true] 52)
           have HS9 := Lib.hid (And.intro ((HS8.out.1.below hB11).below ((Below.refl w9.heap.size w9).alloc (Nat.le_refl _) (.cells #[.string ⟨#[50, 54]⟩, .string ⟨#[52, 57, 49]⟩, .int .u16 5, .int .u32 258, .bool false, .bool true] 52))) HS8.out.2)
           have x9 := (hB11.block _ (Array.getElem?_eq_some_iff.1 HX8.out).1).trans HX8.out
           have hlt9 := (Array.getElem?_eq_some_iff.1 x9).1
           have x10 := ((Below.refl w9.heap.size w9).alloc (Nat.le_refl _) (.cells #[.string ⟨#[50, 54]⟩, .string ⟨#[52, 57, 49]⟩, .int .u16 5, .int .u32 258, .bool false, .bool true] 52)).block _ hlt9 |>.trans x9
           have a0 := cell_of_row _ _ 0 _ _ _ x10
           have a1 := cell_of_row _ _ 1 _ _ _ x10
           have a2 := cell_of_row _ _ 2 _ _ _ x10
           have a3 := cell_of_row _ _ 3 _ _ _ x10
           have a4 := cell_of_row _ _ 4 _ _ _ x10
           have a5 := cell_of_row _ _ 5 _ _ _ x10)
        | (go_at_call 37; (with_reducible refine (HHOMES.out _ _ _ _ HS9.out.1 HS9.out.2.1 HS9.out.2.2.1 HS9.out.2.2.2).mono ?_); rintro e w11 ⟨⟨A11, rfl⟩, hB13⟩)
        | fail)
      go_ret
      exact ⟨rfl, hB12.trans (hB13.mono hB12.size)⟩
end Go.Proofs.YthbbmpelldglmaaGreatDoor
/- Arguments opened: numbers, slices of numbers, as natural numbers and octets. -/
namespace Go.Proofs.YthbbmpelldglmaaGreatDoor
set_option linter.unusedVariables false
set_option linter.unusedSimpArgs false
open Go.RowKit Go.ChangeShapes

theorem nat_of_u16 {a : Int} (h : (Lit.int .u16 a).wf = true) : ∃ x : Nat, x < 65536 ∧ a = x := by
  have h1 : 0 ≤ a ∧ a ≤ 65535 := by simpa [Lit.wf, IntKind.min, IntKind.max, IntKind.bits, IntKind.signed] using h
  exact ⟨a.toNat, by omega, by omega⟩
theorem nat_of_u8 {a : Int} (h : (Lit.int .u8 a).wf = true) : ∃ x : Nat, x < 256 ∧ a = x := by
  have h1 : 0 ≤ a ∧ a ≤ 255 := by simpa [Lit.wf, IntKind.min, IntKind.max, IntKind.bits, IntKind.signed] using h
  exact ⟨a.toNat, by omega, by omega⟩

theorem rdB_of_ints {W : World} {x : Addr} {zs : List Int} (hcell : ∀ i, i < zs.length → W.cell? (x.add i) = some (.int .u8 (zs.getD i 0))) (hwz : ∀ n ∈ zs, (Lit.int .u8 n).wf = true) {n : Nat} (hn : n ≤ zs.length) :
    ∃ l : List UInt8, l.length = n ∧ RdB W (some x) l := by
  refine ⟨(zs.take n).map fun z => UInt8.ofNat z.toNat, by simp; omega, fun k v hv => ⟨x, rfl, ?_⟩⟩
  rw [List.getElem?_map, List.getElem?_map, List.getElem?_take] at hv
  by_cases hk : k < n
  · rw [if_pos hk, List.getElem?_eq_getElem (by omega)] at hv
    simp at hv
    subst hv
    rw [hcell k (by omega)]
    obtain ⟨b, hb, e⟩ := nat_of_u8 (hwz zs[k] (List.getElem_mem _))
    simp only [List.getD, List.getElem?_eq_getElem (show k < zs.length by omega), Option.getD_some, byteV]
    rw [e]
    simp [UInt8.toNat_ofNat', Nat.mod_eq_of_lt hb]
  · rw [if_neg hk] at hv; simp at hv

/-- numbers of a kind as cells -/
def RdN (k : IntKind) (w : World) (A : Option Addr) (l : List Nat) : Prop := Rd w A (l.map fun n : Nat => .int k (n : Int))
theorem rdN_of_ints {k : IntKind} {W : World} {x : Addr} {zs : List Int} (hcell : ∀ i, i < zs.length → W.cell? (x.add i) = some (.int k (zs.getD i 0))) (hwz : ∀ n ∈ zs, (Lit.int k n).wf = true) (h0 : ∀ a, (Lit.int k a).wf = true → 0 ≤ a) {n : Nat} (hn : n ≤ zs.length) :
    ∃ l : List Nat, l.length = n ∧ RdN k W (some x) l ∧ ∀ m ∈ l, (Lit.int k m).wf = true := by
  refine ⟨(zs.take n).map Int.toNat, by simp; omega, fun i v hv => ⟨x, rfl, ?_⟩, ?_⟩
  · rw [List.getElem?_map, List.getElem?_map, List.getElem?_take] at hv
    by_cases hk : i < n
    · rw [if_pos hk, List.getElem?_eq_getElem (by omega)] at hv
      simp at hv
      subst hv
      rw [hcell i (by omega)]
      have := h0 _ (hwz zs[i] (List.getElem_mem _))
      simp only [List.getD, List.getElem?_eq_getElem (show i < zs.length by omega), Option.getD_some]
      congr 2
      omega
    · rw [if_neg hk] at hv; simp at hv
  · intro m hm
    simp only [List.mem_map] at hm
    obtain ⟨z, hz, rfl⟩ := hm
    have hw := hwz z (List.mem_of_mem_take hz)
    have := h0 _ hw
    rw [show ((z.toNat : Nat) : Int) = z by omega]
    exact hw
theorem rdN_of_u16 {W : World} {x : Addr} {zs : List Int} (hcell : ∀ i, i < zs.length → W.cell? (x.add i) = some (.int .u16 (zs.getD i 0))) (hwz : ∀ n ∈ zs, (Lit.int .u16 n).wf = true) {n : Nat} (hn : n ≤ zs.length) :
    ∃ l : List Nat, l.length = n ∧ RdN .u16 W (some x) l ∧ ∀ m ∈ l, m < 65536 := by
  obtain ⟨l, h1, h2, h3⟩ := rdN_of_ints hcell hwz (fun a h => by obtain ⟨y, _, rfl⟩ := nat_of_u16 h; omega) hn
  exact ⟨l, h1, h2, fun m hm => by obtain ⟨y, hy, e⟩ := nat_of_u16 (h3 m hm); omega⟩
theorem RdN.get {k : IntKind} {w : World} {A : Option Addr} {l : List Nat} (h : RdN k w A l) {i : Nat} (hi : i < l.length) : ∃ ad, A = some ad ∧ w.cell? (ad.add i) = some (.int k (l[i] : Int)) := by
  obtain ⟨ad, e, hc⟩ := Rd.get h (k := i) (by simpa using hi)
  exact ⟨ad, e, by rw [hc]; simp⟩
theorem RdN.below {k : IntKind} {w w' : World} {A : Option Addr} {l : List Nat} (h : RdN k w A l) (hb : Below w.heap.size w w') : RdN k w' A l := Rd.below h hb
end Go.Proofs.YthbbmpelldglmaaGreatDoor
/- Structs and arrays of one-cell parts, by value, opened; octets in a field. -/
namespace Go.Proofs.YthbbmpelldglmaaGreatDoor
set_option linter.unusedVariables false
set_option linter.unusedSimpArgs false
open Go.RowKit Go.ChangeShapes Go.WideShapes

theorem list3 {α : Type} {l : List α} (h : l.length = 3) : ∃ a b c, l = [a, b, c] := by
  match l, h with
  | [a, b, c], _ => exact ⟨a, b, c, rfl⟩
theorem list2 {α : Type} {l : List α} (h : l.length = 2) : ∃ a b, l = [a, b] := by
  match l, h with
  | [a, b], _ => exact ⟨a, b, rfl⟩
theorem list4 {α : Type} {l : List α} (h : l.length = 4) : ∃ a b c d, l = [a, b, c, d] := by
  match l, h with
  | [a, b, c, d], _ => exact ⟨a, b, c, d, rfl⟩
theorem list5 {α : Type} {l : List α} (h : l.length = 5) : ∃ a b c d e, l = [a, b, c, d, e] := by
  match l, h with
  | [a, b, c, d, e], _ => exact ⟨a, b, c, d, e, rfl⟩
theorem list6 {α : Type} {l : List α} (h : l.length = 6) : ∃ a b c d e f, l = [a, b, c, d, e, f] := by
  match l, h with
  | [a, b, c, d, e, f], _ => exact ⟨a, b, c, d, e, f, rfl⟩
section
variable {H : Type} {enc : TypeId × Value → H} {P : Program} {w : World} {base : Nat} {spare : Nat → Bool} {held : Bool}

theorem take_one {α : Type} (l : List α) (i : Nat) (c : α) (h : l[i]? = some c) : (l.drop i).take 1 = [c] := by
  have hi : i < l.length := (List.getElem?_eq_some_iff.1 h).1
  rw [List.drop_eq_getElem_cons hi]
  simp [(List.getElem?_eq_some_iff.1 h).2]
/-- a struct of one-cell fields, by value -/
theorem open_aggN {r : Reach} {b0 : Nat} {t : TypeId} {fs : Array Field} {v : Value} {d : DataW H} {p : List MemPlace} (hs : P.underlying t = some (.struct fs)) (hone : Go.Deep.oneCellFields P fs = true) (hC : P.cellsOf t = fs.size)
    (hv : Value.okWide P w r b0 t v) (h : DataW.Trod enc P w base spare held t v d p) :
    ∃ (l : List Value) (ys : List (DataW H × List MemPlace)) (n : Nat), v = .agg l.toArray ∧ l.length = fs.size ∧ ys.length = fs.size ∧ d = .agg (ys.map (·.1)) ∧
      ∀ (i : Nat) (f : Field) (c : Value) (y : DataW H × List MemPlace), fs[i]? = some f → l[i]? = some c → ys[i]? = some y → DataW.trod enc P w base spare held n f.type [c] = some y := by
  obtain ⟨cs, rfl, hsz⟩ := okWide_struct hs hv
  obtain ⟨l⟩ := cs
  obtain ⟨fuel, hf⟩ := h
  obtain ⟨ys, n, _, hx, _, hlen, hfs⟩ := DataW.trod_struct hs hf
  refine ⟨l, ys, n, rfl, by simpa [hC] using hsz, hlen, congrArg Prod.fst hx, fun i f c y h1 h2 h3 => ?_⟩
  obtain ⟨o, k⟩ := Go.Deep.hone_of hone i f h1
  have := hfs i f h1
  rw [o, k, h3, take_one _ i c (by simpa [Value.cells] using h2)] at this
  exact this
/-- an array of one-cell elements, by value -/
theorem open_arrN {b0 : Nat} {t e : TypeId} {m : Nat} {v : Value} {d : DataW H} {p : List MemPlace} (hs : P.underlying t = some (.array m e)) (hone : P.cellsOf e = 1) (cs : Array Value) (hv : v = .agg cs)
    (h : DataW.Trod enc P w base spare held t v d p) :
    ∃ (ys : List (DataW H × List MemPlace)) (n : Nat), cs.toList.length = P.cellsOf t ∧ ys.length = m ∧ d = .agg (ys.map (·.1)) ∧
      ∀ (i : Nat) (c : Value) (y : DataW H × List MemPlace), i < m → cs.toList[i]? = some c → ys[i]? = some y → DataW.trod enc P w base spare held n e [c] = some y := by
  subst hv
  obtain ⟨fuel, hf⟩ := h
  obtain ⟨ys, n, _, hx, hl, hlen, hfs⟩ := DataW.trod_array hs hf
  refine ⟨ys, n, by simpa [Value.cells] using hl, hlen, congrArg Prod.fst hx, fun i c y h1 h2 h3 => ?_⟩
  have := hfs i h1
  rw [hone, Nat.mul_one, h3, take_one _ i c (by simpa [Value.cells] using h2)] at this
  exact this
theorem sized_field {ts : List TypeId} {ds : List (DataW H)} (h : (DataW.weightsEach P ts ds).all (· ≤ reachBytes) = true) {j : Nat} {t : TypeId} {fs : Array Field} {parts : List (DataW H)} (ht : ts[j]? = some t) (hd : ds[j]? = some (.agg parts))
    (hu : P.underlying t = some (.struct fs)) {i : Nat} {f : Field} {d : DataW H} (hf : fs[i]? = some f) (hp : parts[i]? = some d) {n : Nat} (hn : n ∈ d.weights P f.type) : n ≤ reachBytes := by
  have h1 : n ∈ (DataW.agg parts).weights P t := by
    unfold DataW.weights
    rw [hu]
    exact DataW.weights_mem_each (j := i) (t := f.type) (by rw [List.getElem?_map, Array.getElem?_toList, hf]; rfl) hp n hn
  have := List.all_eq_true.1 h _ (DataW.weights_mem_each ht hd n h1)
  simpa using this
theorem num_of {k : IntKind} {t : TypeId} {n : Nat} {c : Value} {y : DataW H × List MemPlace} (hu : P.underlying t = some (.int k)) (h : DataW.trod enc P w base spare held n t [c] = some y) : ∃ a, c = .int k a ∧ (Lit.int k a).wf = true := by
  obtain ⟨a, e1, _, hw⟩ := DataW.trod_int hu h
  simp at e1
  exact ⟨a, e1, hw⟩
end

/-- octets in a field -/
theorem open_bytes {H : Type} {enc : TypeId × Value → H} {W : World} {n : Nat} {v : Value} {y : DataW H × List MemPlace} (h : DataW.trod enc Tryz.prog W 0 (fun _ => true) true n 39 [v] = some y) :
    ∃ (A : Option Addr) (l : List UInt8) (c : Nat), v = .slice A l.length c ∧ RdB W A l ∧ l.length ≤ c ∧ (c = 0 ∨ c ∈ y.1.weights Tryz.prog 39) := by
  rcases open_ints Tryz.underlying39 Tryz.underlying5 (by kernel_rfl) h with ⟨hcs, _⟩ | ⟨x, len, c, zs, hcs, _, hl, hm, hz, hx, hcell, hwz⟩
  · simp at hcs
    exact ⟨none, [], 0, hcs, by intro k v hv; simp at hv, by simp, .inl rfl⟩
  · simp at hcs
    simp only [if_true] at hz
    obtain ⟨l, hl2, hr⟩ := rdB_of_ints hcell hwz (n := len) (by omega)
    refine ⟨some x, l, c, by rw [hl2]; exact hcs, hr, by omega, .inr ?_⟩
    rw [hx]
    unfold DataW.weights
    rw [Tryz.underlying39]
    simp only [show Tryz.prog.bytesOf 5 = 1 from by kernel_rfl, lits, List.length_map, List.length_take, List.length_drop]
    exact List.mem_cons.2 (.inl (by omega))
end Go.Proofs.YthbbmpelldglmaaGreatDoor
/- Arguments opened: a slice of acts. -/
namespace Go.Proofs.YthbbmpelldglmaaGreatDoor
set_option linter.unusedVariables false
set_option linter.unusedSimpArgs false
open Go.RowKit Go.ChangeShapes Go.WideShapes

/-- the acts at A -/
def ActRd (w : World) (A : Option Addr) (l : List Ac) : Prop := ∀ k (hk : k < l.length), ∃ b off, A = some ⟨b, off, none⟩ ∧ ∀ j (hj : j < 5), w.cell? ⟨b, off + k * 5 + j, none⟩ = some (l[k].cells[j]'hj)
theorem ActRd.below {w w' : World} {A : Option Addr} {l : List Ac} (h : ActRd w A l) (hb : Below w.heap.size w w') : ActRd w' A l := fun k hk => by
  obtain ⟨b, off, e, hc⟩ := h k hk
  exact ⟨b, off, e, fun j hj => cell_later hb (hc j hj)⟩

/-- a struct of one-cell fields, by its cells -/
theorem trod_fields {H : Type} {enc : TypeId × Value → H} {P : Program} {w : World} {base fuel : Nat} {spare : Nat → Bool} {held : Bool} {t : TypeId} {fs : Array Field} {cs : List Value} {x : DataW H × List MemPlace} (hs : P.underlying t = some (.struct fs)) (hone : Go.Deep.oneCellFields P fs = true) (hC : P.cellsOf t = fs.size)
    (h : DataW.trod enc P w base spare held fuel t cs = some x) :
    ∃ (ys : List (DataW H × List MemPlace)) (n : Nat), cs.length = fs.size ∧ ys.length = fs.size ∧ x.1 = .agg (ys.map (·.1)) ∧
      ∀ (i : Nat) (f : Field) (c : Value) (y : DataW H × List MemPlace), fs[i]? = some f → cs[i]? = some c → ys[i]? = some y → DataW.trod enc P w base spare held n f.type [c] = some y := by
  obtain ⟨ys, n, _, hx, hl, hlen, hfs⟩ := DataW.trod_struct hs h
  refine ⟨ys, n, by rw [hl, hC], hlen, congrArg Prod.fst hx, fun i f c y h1 h2 h3 => ?_⟩
  obtain ⟨o, k⟩ := Go.Deep.hone_of hone i f h1
  have := hfs i f h1
  rw [o, k, h3, take_one _ i c h2] at this
  exact this
set_option maxRecDepth 100000 in
/-- a slice of acts -/
theorem open_acts {H : Type} {enc : TypeId × Value → H} {W : World} {r : Reach} {b0 : Nat} {v : Value} {d : DataW H} {p : List MemPlace} (hv : Value.okWide Tryz.prog W r b0 22 v)
    (h : DataW.Trod enc Tryz.prog W 0 (fun _ => true) true 22 v d p) :
    ∃ (A : Option Addr) (l : List Ac) (c : Nat), v = .slice A l.length c ∧ ActRd W A l ∧ (∀ a ∈ l, a.Go) ∧ l.length ≤ c ∧ c ≤ maxLen := by
  obtain ⟨a0, len, cap, rfl⟩ := okWide_slice Tryz.underlying22 hv
  obtain ⟨fuel, hf⟩ := h
  rcases Go.Deep.open_slice Tryz.underlying22 hf with ⟨hcs, _⟩ | ⟨a, len', cap', m, n, D, Pl, hcs, _, hl, hm, hmm, _, hx⟩
  · simp [Value.cells] at hcs
    obtain ⟨rfl, rfl, rfl⟩ := hcs
    exact ⟨none, [], 0, rfl, fun k hk => by simp at hk, by simp, Nat.le_refl _, by simp [maxLen]⟩
  · simp [Value.cells] at hcs
    obtain ⟨rfl, rfl, rfl⟩ := hcs
    simp only [if_true] at hmm
    have hC : Tryz.prog.cellsOf 37 = 5 := by kernel_rfl
    have hact : ∀ i, i < len → ∃ x : Ac, x.Go ∧ ∀ j (hj : j < 5), W.cell? ((a.add (i * 5)).add j) = some (x.cells[j]'hj) := fun i hi => by
      obtain ⟨cs, h1, h2⟩ := hx i (by omega)
      rw [hC] at h1
      obtain ⟨ys, n', hlen, hlen2, _, hfs⟩ := trod_fields Tryz.underlying37 (by kernel_rfl) (by kernel_rfl) h2
      simp at hlen hlen2
      obtain ⟨c0, c1, c2, c3, c4, rfl⟩ := list5 hlen
      obtain ⟨y0, y1, y2, y3, y4, rfl⟩ := list5 hlen2
      obtain ⟨_, _, hcell⟩ := World.cells?_some h1
      obtain ⟨a0, rfl, w0⟩ := num_of Tryz.underlying5 (hfs 0 _ _ _ rfl rfl rfl)
      obtain ⟨a1, rfl, w1⟩ := num_of Tryz.underlying5 (hfs 1 _ _ _ rfl rfl rfl)
      obtain ⟨a2, rfl, w2⟩ := num_of Tryz.underlying5 (hfs 2 _ _ _ rfl rfl rfl)
      obtain ⟨a3, rfl, w3⟩ := num_of Tryz.underlying23 (hfs 3 _ _ _ rfl rfl rfl)
      obtain ⟨a4, rfl, w4⟩ := num_of Tryz.underlying5 (hfs 4 _ _ _ rfl rfl rfl)
      obtain ⟨b0, q0, rfl⟩ := nat_of_u8 w0
      obtain ⟨b1, q1, rfl⟩ := nat_of_u8 w1
      obtain ⟨b2, q2, rfl⟩ := nat_of_u8 w2
      obtain ⟨b3, q3, rfl⟩ := nat_of_u16 w3
      obtain ⟨b4, q4, rfl⟩ := nat_of_u8 w4
      refine ⟨⟨b0, b1, b2, b3, b4⟩, ⟨q0, q1, q2, q3, q4⟩, fun j hj => ?_⟩
      rw [hcell j hj]
      match j, hj with
      | 0, _ => rfl
      | 1, _ => rfl
      | 2, _ => rfl
      | 3, _ => rfl
      | 4, _ => rfl
    have hind : ∀ n, n ≤ len → ∃ l : List Ac, l.length = n ∧ (∀ a ∈ l, a.Go) ∧ ∀ (i : Nat) (x : Ac), l[i]? = some x → ∀ j (hj : j < 5), W.cell? ((a.add (i * 5)).add j) = some (x.cells[j]'hj) := by
      intro n
      induction n with
      | zero => exact fun _ => ⟨[], rfl, by simp, fun i x hi => by simp at hi⟩
      | succ n ih =>
        intro hn
        obtain ⟨l, h1, h2, h3⟩ := ih (by omega)
        obtain ⟨x, h4, h5⟩ := hact n (by omega)
        refine ⟨l ++ [x], by simp [h1], fun y hy => by simp at hy; rcases hy with hy | rfl; exact h2 y hy; exact h4, fun i y hi j hj => ?_⟩
        by_cases hi2 : i < l.length
        · rw [List.getElem?_append_left hi2] at hi
          exact h3 i y hi j hj
        · rw [List.getElem?_append_right (by omega)] at hi
          obtain rfl : i = n := by have := (List.getElem?_eq_some_iff.1 hi).1; simp at this; omega
          simp [h1] at hi
          subst hi
          exact h5 j hj
    obtain ⟨l, h1, h2, h3⟩ := hind len (Nat.le_refl _)
    subst h1
    refine ⟨some a, l, cap, rfl, fun k hk => ?_, h2, hl, hm⟩
    have h4 := h3 k l[k] (List.getElem?_eq_getElem hk)
    simp only [add_add] at h4
    obtain ⟨b, off, spot⟩ := a
    have hspot : spot = none := by
      have := World.cell?_spot (h3 0 l[0] (List.getElem?_eq_getElem (by omega)) 0 (by decide))
      simpa [Addr.add] using this
    subst hspot
    refine ⟨b, off, rfl, fun j hj => ?_⟩
    rw [← h4 j hj]
    congr 1
    unfold Addr.add
    split <;> simp_all
    omega
end Go.Proofs.YthbbmpelldglmaaGreatDoor
/- Package subscribers: 'Crash'. -/
namespace Go.Proofs.YthbbmpelldglmaaGreatDoor
set_option linter.unusedVariables false
set_option linter.unusedSimpArgs false
open Go.RowKit

/-- how the crash ends -/
def Crashed (w : World) (l : List UInt8) (e : Ending) (w' : World) : Prop :=
  ∃ (g : Nat) (F : List Nat) (T : St) (n : Nat), e = .returned (.tuple #[.pointer (some ⟨g, 0, none⟩), .int .i64 0]) ∧ Plays ⟨[], [], [], 0, 0⟩ l T n ∧ T.Fit ∧ 4 * T.puts ≤ n ∧
      StAt w' g F { T with log := l.take n, dur := n } ∧ Below w.heap.size w w' ∧ ∀ i ∈ F, w.heap.size ≤ i

set_option maxHeartbeats 4000000 in
set_option maxRecDepth 100000 in
theorem storeCrash_any (w : World) (g : Nat) (F : List Nat) (S : St) (h : StAt w g F S) (keep : Int) (p : Nat) (hp : (p : Int) = min (max keep (S.dur : Int)) (S.log.length : Int)) (hl : S.log.length ≤ 16000) :
    Calls Tryz.prog 15 #[.pointer (some ⟨g, 0, none⟩), .int .i64 keep] w (Crashed w (S.log.take p)) := by
  obtain ⟨m1, m2, m3, m4, A, c, ho, hr, hgA, hAF, hgF, hset⟩ := h.obj
  have hpl : p ≤ S.log.length := by omega
  have hcl := Row.le hr
  have hcm := Row.cap_le hr
  simp only [maxLen] at hcm
  have hgl : g < w.heap.size := (Array.getElem?_eq_some_iff.1 ho).1
  have htl : (S.log.take p).length = p := by rw [List.length_take]; omega
  have hra := fun W (hb : Below w.heap.size w W) => replay_any W A c (S.log.take p) (((RowB.rd hr).below hb).take p) (by omega) (by omega) (by omega)
  rw [htl] at hra
  have HRA := Lib.hid hra
  have HO : Hid (∀ W, Below w.heap.size w W → W.heap[g]? = some (stObj m1 m2 m3 m4 A S.log.length c S.dur)) := Lib.hid fun W hb => (hb.block g hgl).trans ho
  generalize S.log.take p = LP at *
  generalize S.log.length = n at *
  generalize S.dur = d at *
  have k4 : ∀ w' : World, w'.heap[g]? = some (stObj m1 m2 m3 m4 A n c d) → w'.cell? ⟨g, 4, none⟩ = some (.slice A n c) := fun w' e => stObj_cell e 4
  have k5 : ∀ w' : World, w'.heap[g]? = some (stObj m1 m2 m3 m4 A n c d) → w'.cell? ⟨g, 5, none⟩ = some (.int .i64 (d : Int)) := fun w' e => stObj_cell e 5
  have hB0 : Below w.heap.size w w.drew := (Below.refl _ _).drew
  have q1 : (p : Int) ≤ (n : Int) := by omega
  have q2 : (n : Int) ≤ (c : Int) := by omega
  have q3 : (0 : Int) ≤ (p : Int) := by omega
  have q5 : (p : Int) ≤ (c : Int) := by omega
  have hp2 : min (max keep (d : Int)) (n : Int) = (p : Int) := hp.symm
  clear hp
  clear h ho hr hset hra hpl hcl htl hgA hAF hgF
  go_enter Tryz.func15, Tryz.ntmps15
  go_upto_region 3 with fail
  go_region_held3 (fun w' => w'.heap[g]? = some (stObj m1 m2 m3 m4 A n c d))
    (first | exact HO.out _ hB0 | exact HO.out _ hB6 | fail)
    (first
      | (go_at_call 34; (with_reducible refine (HRA.out _ hB0).mono ?_); rintro e w6 ⟨g6, F6, T6, n6, rfl, h1, h2, h3, h4, h5, h6⟩
         have hB6 := below_then hB0 h5))
  go_wp2_with fail
  go_ret2
  exact ⟨g6, F6, T6, n6, rfl, h1, h2, h3, h4, hB6, h6⟩
end Go.Proofs.YthbbmpelldglmaaGreatDoor
/- Law 38: two stores have the same records. -/
namespace Go.Proofs.YthbbmpelldglmaaGreatDoor
set_option linter.unusedVariables false
set_option linter.unusedSimpArgs false
open Go.RowKit

set_option maxHeartbeats 2000000 in
set_option maxRecDepth 100000 in
theorem same38_any (w : World) (g gt : Nat) (F FT : List Nat) (S T : St) (h : StAt w g F S) (ht : StAt w gt FT T) (hf : S.Fit) (hft : T.Fit) (hp : S.puts ≤ 100000) (hpt : T.puts ≤ 100000) (eh : T.homes = S.homes) (ev : T.visits = S.visits) (hl1 : S.homes.length ≤ 100000) (hl2 : S.visits.length ≤ 100000) :
    Calls Tryz.prog 16 #[.pointer (some ⟨g, 0, none⟩), .pointer (some ⟨gt, 0, none⟩)] w fun e w' => e = .returned (.bool true) ∧ Below w.heap.size w w' := by
  have hh := storeHomes_any w gt FT T ht hft hpt
  have hv := fun w1 (hb : Below w.heap.size w w1) => storeVisits_any w1 gt FT T (ht.below hb) hft hpt
  rw [eh] at hh
  rw [ev] at hv
  have ha := fun w1 (hb : Below w.heap.size w w1) gm FM hm => agrees_any w1 g gm F FM S (h.below hb) hf hp hm hl1 hl2
  generalize S.homes = H at *
  generalize S.visits = V at *
  have HH := Lib.hid hh
  have HV := Lib.hid hv
  have HA := Lib.hid ha
  clear hh hv ha h ht hf hft
  go_enter Tryz.func16, Tryz.ntmps16
  go_wp2_with (first
    | (go_at_call 37; (with_reducible refine HH.out.mono ?_); rintro e w1 ⟨A3, rfl, h3, hB1⟩)
    | (go_at_call 38; (with_reducible refine (HV.out _ hB1).mono ?_); rintro e w2 ⟨A4, rfl, h4, hB2⟩
       have hB := below_then hB1 hB2
       have hm : ModAt (w2.alloc (.cells #[.slice A3 H.length H.length, .slice A4 V.length V.length] 33)) w2.heap.size _ H V :=
         ⟨A3, H.length, A4, V.length, rfl, heap_alloc_new w2 _, Row.alloc (Row.mono (Row.below h3 hB2) (Nat.zero_le _)) _, Row.alloc (Row.mono h4 (Nat.zero_le _)) _⟩
       have hB4 := below_alloc hB (.cells #[.slice A3 H.length H.length, .slice A4 V.length V.length] 33)
       have HM := Lib.hid hm
       clear hm h3 h4)
    | (go_at_call 17; (with_reducible refine (HA.out _ hB4 _ _ HM.out).mono ?_); rintro e w5 ⟨rfl, hB5⟩)
    | fail)
  go_ret
  exact ⟨rfl, below_then hB4 hB5⟩
end Go.Proofs.YthbbmpelldglmaaGreatDoor
/- Law 38: 'SubscribersCrash'. -/
namespace Go.Proofs.YthbbmpelldglmaaGreatDoor
set_option linter.unusedVariables false
set_option linter.unusedSimpArgs false
open Go.RowKit

/-- the greatest i whose end lies at most at q -/
theorem endAt_ents (l : List Ac) (i : Nat) : endAt l i = (entsE S00 ((eds l).take i)).length := by unfold endAt; rw [Sk_log]
theorem eds_len (l : List Ac) : (eds l).length = l.length := by unfold eds; simp

/-- how much of the log is durable behind k acts -/
def durK (l : List Ac) (sy k : Nat) : Nat := if sy < k then endAt l (sy + 1) else 0
theorem endAt_mono (l : List Ac) {i j : Nat} (h : i ≤ j) : endAt l i ≤ endAt l j := by
  rw [endAt_ents, endAt_ents]
  have : (eds l).take j = (eds l).take i ++ ((eds l).take j).drop i := by
    conv => lhs; rw [← List.take_append_drop i ((eds l).take j)]
    rw [List.take_take, Nat.min_eq_left h]
  rw [this, entsE_append, List.length_append]
  omega
theorem durK_le (l : List Ac) (sy k : Nat) : durK l sy k ≤ endAt l k := by
  unfold durK
  split
  · exact endAt_mono l (by omega)
  · omega

theorem lastE_full (S : St) (l : List Edit) (p i : Nat) (h : (entsE S (l.take i)).length ≤ p) : lastE S l p i = i := by
  cases i with
  | zero => rfl
  | succ i => unfold lastE; rw [if_pos h]

set_option maxHeartbeats 1600000 in
set_option maxRecDepth 100000 in
theorem walk_SubscribersCrash (w : World) (A : Option Addr) (l : List Ac) (c : Nat) (hA : ActRd w A l) (hgo : ∀ a ∈ l, a.Go) (hlc : l.length ≤ maxLen) (sy : Nat) (hsy : sy < 256) (kp : Nat) (hkp : kp < 65536) :
    Calls Tryz.prog 3 #[.slice A l.length c, .int .u8 (sy : Int), .int .u16 (kp : Int)] w fun e w' => e = .returned (.bool true) ∧ Below w.heap.size w w' := by
  have hliv := fun W => lives38_any W
  have hnew := storeNew_any w
  have HLIV := Lib.hid hliv
  have HNEW := Lib.hid hnew
  have HGO := Lib.hid hgo
  clear hliv hnew hgo
  simp only [maxLen] at hlc
  go_enter Tryz.func3, Tryz.ntmps3
  by_cases h60 : 40 < l.length
  · have q1 : (40 : Int) < (l.length : Int) := by omega
    go_wp2_with (first
      | (go_at_call 8; (with_reducible refine (HLIV.out _).mono ?_); rintro e w1 ⟨rfl, hB1⟩)
      | fail)
    go_ret
    exact ⟨rfl, hB1⟩
  have q1 : ¬ (40 : Int) < (l.length : Int) := by omega
  go_upto_block 0 with (first
    | (go_at_call 9; (with_reducible refine HNEW.out.mono ?_); rintro e w1 ⟨rfl, h1, hB1⟩)
    | fail)
  obtain ⟨w2, hw2⟩ : ∃ v, v = w1.alloc (.cells #[.slice none 0 0, .slice none 0 0] 33) := ⟨_, rfl⟩
  obtain ⟨gm, hgm⟩ : ∃ v, v = w1.heap.size := ⟨_, rfl⟩
  have hb2 : Below w1.heap.size w1 w2 := by rw [hw2]; exact (Below.refl _ _).alloc (Nat.le_refl _) _
  have hfour : FourD w w2 l 0 0 w.heap.size gm [w.heap.size] [gm] none 0 none 0 [] := by
    refine ⟨⟨by rw [Sd_zero]; exact h1.below hb2, ⟨none, 0, none, 0, by simp [blk], by rw [hw2, hgm]; exact heap_alloc_new w1 _, Row.nil _ _ _ _, Row.nil _ _ _ _⟩, hB1.trans (hb2.mono hB1.size), by simp, by rw [hgm]; simpa using hB1.size⟩, Row.nil _ _ _ _, Row.nil _ _ _ _, fun i g hg => by simp at hg, rfl⟩
  rw [← hw2, ← hgm]
  have HFOUR := Lib.hid hfour
  clear hw2 hgm hb2 hfour h1 hB1
  go_wp2_with fail
  go_loopw [8, 9, 11, 12] (fun ev mv dv iv wr => ∃ (k : Nat) (F FM : List Nat) (A7 A8 : Option Addr) (c7 c8 : Nat) (gl : List Nat), k ≤ l.length ∧ iv = .int .i64 k ∧ ev = .slice A7 k c7 ∧ mv = .slice A8 k c8 ∧ dv = .int .i64 (durK l sy k : Int) ∧ Hid (FourD w wr l (durK l sy k) k w.heap.size gm F FM A7 c7 A8 c8 gl))
    (fun _ _ _ iv _ => l.length - (intOf iv).toNat)
  case atStart => exact ⟨0, _, _, _, _, _, _, _, Nat.zero_le _, rfl, rfl, rfl, rfl, HFOUR⟩
  case round =>
    obtain ⟨k, F, FM, A7, A8, c7, c8, gl, hk, rfl, rfl, rfl, rfl, H4⟩ := hrel
    by_cases hlt : k < l.length
    · obtain ⟨b0, off, rfl, -⟩ := hA k hlt
      generalize hdd : durK l sy k = d at *
      have HDD := Lib.hid hdd
      clear hdd
      have hac : ∀ W, Below w.heap.size w W → ∀ j (hj : j < 5), W.cell? ⟨b0, off + k * 5 + j, none⟩ = some (l[k].cells[j]'hj) := fun W hb j hj => by
        obtain ⟨b1, off1, e, hc⟩ := hA.below hb k hlt
        cases e
        exact hc j hj
      have hdo := fun W F (h : StAt W w.heap.size F (Sd l k d)) => do_any l[k] (HGO.out _ (List.getElem_mem hlt)) W w.heap.size F (Sd l k d) h (Sd_fit HGO.out k d) (by show (Sk l k).puts < 4096; have := Sk_puts l k; omega) (by show (Sk l k).log.length ≤ _; have := Sk_len HGO.out k; omega)
      have hmo := fun W FM (h : ModAt W gm FM (Sk l k).homes (Sk l k).visits) => modDo_any l[k] (HGO.out _ (List.getElem_mem hlt)) W gm FM (Sk l k) (Sk_fit HGO.out k) h (by have := Sk_lens l k; omega) (by have := Sk_lens l k; omega)
      unfold Done at hdo
      unfold ModDone at hmo
      rw [← Sd_succ l k d hlt, Sd_er] at hdo
      rw [← Sk_succ l k hlt] at hmo
      generalize l[k] = x at *
      generalize x.edit.er (Sk l k) = er at *
      obtain ⟨xk, xi, xn, xp, xf⟩ := x
      have HAC : Hid (∀ W, Below w.heap.size w W → W.cell? ⟨b0, off + k * 5, none⟩ = some (.int .u8 (xk : Int)) ∧ W.cell? ⟨b0, off + k * 5 + 1, none⟩ = some (.int .u8 (xi : Int)) ∧ W.cell? ⟨b0, off + k * 5 + 2, none⟩ = some (.int .u8 (xn : Int)) ∧ W.cell? ⟨b0, off + k * 5 + 3, none⟩ = some (.int .u16 (xp : Int)) ∧ W.cell? ⟨b0, off + k * 5 + 4, none⟩ = some (.int .u8 (xf : Int))) :=
        Lib.hid fun W hb => ⟨hac W hb 0 (by decide), hac W hb 1 (by decide), hac W hb 2 (by decide), hac W hb 3 (by decide), hac W hb 4 (by decide)⟩
      unfold Ac.val Ac.cells at hdo hmo
      simp only at hdo hmo
      have HDO := Lib.hid hdo
      have HMO := Lib.hid hmo
      have HLT := Lib.hid hlt
      have q3 : (0 : Int) ≤ (k : Int) := by omega
      have q4 : (k : Int) < (l.length : Int) := by omega
      have q5 : k ≤ 40 := by omega
      have HD : Hid (FourD w wr.drew l d k w.heap.size gm F FM A7 c7 A8 c8 gl) := Lib.hid (H4.out.later (Below.refl _ _).drew)
      have hlen := fun k' (h : k' ≤ 41) => show (Sk l k').log.length ≤ 100000000 by have := Sk_len HGO.out k'; omega
      have HLEN := Lib.hid hlen
      clear hdo hmo hac H4 hlen
      go_upto_region 11 with fail
      go_region_held3 (fun w' => w'.cell? ⟨b0, off + k * 5, none⟩ = some (.int .u8 (xk : Int)) ∧ w'.cell? ⟨b0, off + k * 5 + 1, none⟩ = some (.int .u8 (xi : Int)) ∧ w'.cell? ⟨b0, off + k * 5 + 2, none⟩ = some (.int .u8 (xn : Int)) ∧ w'.cell? ⟨b0, off + k * 5 + 3, none⟩ = some (.int .u16 (xp : Int)) ∧ w'.cell? ⟨b0, off + k * 5 + 4, none⟩ = some (.int .u8 (xf : Int)))
        (first | exact HAC.out _ HD.out.two.below | exact HAC.out _ HH2.out.2.1 | exact HAC.out _ HM3.out.two.below | fail)
        (first
          | (go_at_call 10; (with_reducible refine (HDO.out _ _ HD.out.two.st).mono ?_); rintro e w3 ⟨F3, rfl, h3, hc3, hn3⟩
             have HH2 := Lib.hid (HD.out.two.half hc3 hn3)
             have HS3 := Lib.hid (And.intro h3 (And.intro hc3 hn3))
             clear h3 hc3 hn3)
          | (go_at_call 11; (with_reducible refine (HMO.out _ _ HH2.out.1).mono ?_); rintro e w4 ⟨FM4, rfl, h4, hc4, hn4⟩
             have HM3 := Lib.hid (HD.out.mid HS3.out.1 HS3.out.2.1 HS3.out.2.2 h4 hc4 hn4)
             clear h4 hc4 hn4))
      clear HD HH2 HS3 HDO HMO HAC
      have hlg := fun W F (h : StAt W w.heap.size F (Sd l (k + 1) d)) => storeLog_any W w.heap.size F (Sd l (k + 1) d) h (HLEN.out (k + 1) (by omega))
      have hcp := fun W FM (h : ModAt W gm FM (Sk l (k + 1)).homes (Sk l (k + 1)).visits) => copied_any W gm FM _ _ h (by have := Sk_lens l (k + 1); omega) (by have := Sk_lens l (k + 1); omega)
      rw [show (Sd l (k + 1) d).log.length = endAt l (k + 1) from rfl] at hlg
      have HLG := Lib.hid hlg
      have HCP := Lib.hid hcp
      clear hlg hcp
      go_upto_region 15 with (first
        | (go_at_call 12; (with_reducible refine (HLG.out _ _ HM3.out.two.st).mono ?_); rintro e w5 ⟨A5, rfl, h5, hB5⟩
           have HM5 := Lib.hid ((HM3.out.later hB5).later ((Below.refl w5.heap.size w5).alloc (Nat.le_refl _) (.cells #[.int .i64 (endAt l (k + 1) : Int)] 3)))
           have hsz5 : w.heap.size ≤ (w5.alloc (.cells #[.int .i64 (endAt l (k + 1) : Int)] 3)).heap.size := HM5.out.two.below.size
           clear h5)
        | ((with_reducible refine at_dst 55 rfl ?_)
           refine wpList_append_row rfl (.tmp 50) (.tmp 54) 27 rfl w.heap.size 3 _ 1 8 Tryz.underlying27 infoInt rfl A7 k c7 _ rfl HM5.out.ends (some ⟨w5.heap.size, 0, none⟩) 1 1 [.int .i64 (endAt l (k + 1) : Int)] rfl
             (rd_cells _ _ _ _ (heap_alloc_new _ _)) rfl (by intro v hv; simp at hv; subst hv; rfl) (by simp only [maxLen]; omega) (by omega) hsz5 ?_
           intro A9 c9 w6 h6 hg6 _
           rw [← endsV_succ] at h6
           have HE6 := Lib.hid (HM5.out.ends2 hg6 h6)
           clear h6 hg6)
        | (go_at_call 13; (with_reducible refine (HCP.out _ _ HE6.out.1.md).mono ?_); rintro e w7 ⟨g7, F7, rfl, h7, hB7, hF7⟩
           have hB8 : Below w6.heap.size w6 (w7.alloc (.cells #[.pointer (some ⟨g7, 0, none⟩)] 29)) := below_alloc hB7 _
           have HC7 := Lib.hid (And.intro (h7.below ((Below.refl w7.heap.size w7).alloc (Nat.le_refl _) (.cells #[.pointer (some ⟨g7, 0, none⟩)] 29))) hF7)
           have HR7 := Lib.hid (HE6.out.2.2.1.below hB8)
           have hsz7 : w.heap.size ≤ (w7.alloc (.cells #[.pointer (some ⟨g7, 0, none⟩)] 29)).heap.size := Nat.le_trans HE6.out.1.below.size hB8.size
           clear h7 hF7)
        | ((with_reducible refine at_dst 60 rfl ?_)
           refine wpList_append_row rfl (.tmp 56) (.tmp 59) 28 rfl w.heap.size 29 _ 1 8 Tryz.underlying28 infoPM rfl A8 k c8 _ rfl HR7.out (some ⟨w7.heap.size, 0, none⟩) 1 1 [.pointer (some ⟨g7, 0, none⟩)] rfl
             (rd_cells _ _ _ _ (heap_alloc_new _ _)) rfl (by intro v hv; simp at hv; subst hv; rfl) (by simp only [maxLen]; omega) (by omega) hsz7 ?_
           intro A10 c10 w8 h8 hg8 _
           have HN := Lib.hid (four_nextD (A8' := A10) (c8' := c10) HE6.out.1 HE6.out.2.1 HE6.out.2.2.1 HE6.out.2.2.2 HM3.out.len hB8 HC7.out.1 HC7.out.2 hg8 (by rw [List.map_append]; exact h8))
           clear h8 hg8)
        | fail)
      have hsy2 := fun W F (h : StAt W w.heap.size F (Sd l (k + 1) d)) => storeSync_any W w.heap.size F (Sd l (k + 1) d) h
      rw [show (Sd l (k + 1) d).log.length = endAt l (k + 1) from rfl] at hsy2
      have HSY := Lib.hid hsy2
      clear hsy2
      by_cases hks : k = sy
      · obtain rfl := hks
        have hd2 : durK l k (k + 1) = endAt l (k + 1) := by unfold durK; rw [if_pos (by omega)]
        have HD2 := Lib.hid hd2
        clear hd2
        go_wp2_with (first
          | (go_at_call 14; (with_reducible refine (HSY.out _ _ HN.out.two.st).mono ?_); rintro e w20 ⟨F20, rfl, h20, hc20, hn20⟩
             have HN2 := Lib.hid (HN.out.sync (d' := endAt l (k + 1)) h20 hc20 hn20)
             clear h20 hc20 hn20)
          | fail)
        go_roundw
        case rel => exact ⟨k + 1, _, _, A9, A10, c9, c10, _, by have := HLT.out; omega, by go_num, rfl, rfl, by rw [HD2.out], by rw [HD2.out]; exact HN2⟩
        case measure => have := HLT.out; simp [intOf]; omega
      · have q6 : ¬ (k : Int) = (sy : Int) := by omega
        have hd2 : durK l sy (k + 1) = d := by rw [← HDD.out]; unfold durK; by_cases h : sy < k
                                               · rw [if_pos h, if_pos (by omega)]
                                               · rw [if_neg h, if_neg (by omega)]
        have HD2 := Lib.hid hd2
        clear hd2 hks
        go_wp2_with fail
        go_roundw
        case rel => exact ⟨k + 1, _, _, A9, A10, c9, c10, _, by have := HLT.out; omega, by go_num, rfl, rfl, by rw [HD2.out], by rw [HD2.out]; exact HN⟩
        case measure => have := HLT.out; simp [intOf]; omega
    · obtain rfl : k = l.length := by omega
      have hDle := durK_le l sy l.length
      generalize durK l sy l.length = D at *
      have hLe := log_all l
      have hEn : (Sk l l.length).log.length = endAt l l.length := rfl
      have hlen : endAt l l.length ≤ 2440 := by have := Sk_len HGO.out l.length; unfold endAt; omega
      have hlg := fun W F (h : StAt W w.heap.size F (Sd l l.length D)) => storeLog_any W w.heap.size F (Sd l l.length D) h (by show (Sk l l.length).log.length ≤ _; omega)
      simp only [show (Sd l l.length D).log = (Sk l l.length).log from rfl] at hlg
      have hcr : ∀ W F (keep : Int) (p : Nat), StAt W w.heap.size F (Sd l l.length D) → (p : Int) = min (max keep (D : Int)) ((Sk l l.length).log.length : Int) → Calls Tryz.prog 15 #[.pointer (some ⟨w.heap.size, 0, none⟩), .int .i64 keep] W fun e w' =>
          ∃ g' F' T, e = .returned (.tuple #[.pointer (some ⟨g', 0, none⟩), .int .i64 0]) ∧ (T.homes = (Sk l (lastE S00 (eds l) p l.length)).homes ∧ T.visits = (Sk l (lastE S00 (eds l) p l.length)).visits ∧ T.Fit ∧ T.puts ≤ 4096) ∧ StAt w' g' F' T ∧ Below W.heap.size W w' := fun W F keep p h hp => by
        refine (storeCrash_any W w.heap.size F _ h keep p hp (by show (Sk l l.length).log.length ≤ _; omega)).mono ?_
        rintro e w' ⟨g, F', T, n, rfl, h1, h2, h3, h4, h5, h6⟩
        have h1' : Plays S00 ((Sk l l.length).log.take p) T n := h1
        obtain ⟨T2, p1, p2⟩ := play_part (S' := S00) (eds l) S00_fit (eds_go HGO.out) (SameR.refl _) p
        rw [hLe] at h1'
        obtain ⟨rfl, rfl⟩ := p1.one h1'
        rw [eds_len] at p2
        have hle := p1.le
        rw [← hLe, List.length_take] at hle
        exact ⟨g, F', { T2 with log := ((Sd l l.length D).log.take p).take _, dur := _ }, rfl, ⟨p2.1.symm, p2.2.symm, SameR.fit (S := T2) ⟨rfl, rfl⟩ h2, by show T2.puts ≤ 4096; omega⟩, h4, h5⟩
      obtain ⟨L, hL⟩ : ∃ L, L = (Sk l l.length).log := ⟨_, rfl⟩
      rw [← hL] at hlg hcr hEn
      have hLn : L.length = endAt l l.length := hEn
      rw [← hLn] at hDle hlen
      obtain ⟨left, hleft⟩ : ∃ v, v = kp % (L.length + 1) := ⟨_, rfl⟩
      have hll : left ≤ L.length := by rw [hleft]; have := Nat.mod_lt kp (show 0 < L.length + 1 by omega); omega
      have t1 : Int.tmod (kp : Int) ((L.length : Int) + 1) = (left : Int) := by rw [Int.tmod_eq_emod_of_nonneg (by omega), hleft]; simp
      have t2 : ¬ (L.length : Int) + 1 = 0 := by omega
      obtain ⟨p1, hp1⟩ : ∃ v, v = max left D := ⟨_, rfl⟩
      have t3 : max (left : Int) (D : Int) = (p1 : Int) := by omega
      have hc1 := fun W F h => hcr W F (left : Int) p1 h (by omega)
      have hc2 := fun W F h => hcr W F 4611686018427387904 L.length h (by omega)
      have hc3 := fun W F h => hcr W F (-1) D h (by omega)
      rw [lastE_full S00 (eds l) L.length l.length (by rw [← endAt_ents]; omega)] at hc2
      have hsm : ∀ W g2 F2 T F, StAt W w.heap.size F (Sd l l.length D) → StAt W g2 F2 T → T.homes = (Sk l l.length).homes → T.visits = (Sk l l.length).visits → T.Fit → T.puts ≤ 4096 → Calls Tryz.prog 16 #[.pointer (some ⟨g2, 0, none⟩), .pointer (some ⟨w.heap.size, 0, none⟩)] W fun e w' => e = .returned (.bool true) ∧ Below W.heap.size W w' := fun W g2 F2 T F h1 h2 h3 h4 h5 h6 =>
        same38_any W g2 w.heap.size F2 F T (Sd l l.length D) h2 h1 h5 (Sd_fit HGO.out _ _) (by omega) (by show (Sk l l.length).puts ≤ _; have := Sk_puts l l.length; omega) h3.symm h4.symm (by rw [h3]; have := Sk_lens l l.length; omega) (by rw [h4]; have := Sk_lens l l.length; omega)
      have HLG := Lib.hid hlg
      have HC1 := Lib.hid hc1
      have HC2 := Lib.hid hc2
      have HC3 := Lib.hid hc3
      have HSM := Lib.hid hsm
      have HDLE := Lib.hid hDle
      have HLL := Lib.hid hll
      have hp1l : p1 ≤ L.length := by omega
      have HP1 := Lib.hid hp1l
      clear hlg hcr hc1 hc2 hc3 hsm hLe hL hEn hLn hleft hp1 hDle hll hp1l
      go_upto_region 22 with (first
        | (go_at_call 12; (with_reducible refine (HLG.out _ _ H4.out.two.st).mono ?_); rintro e w5 ⟨A10, rfl, h5, hB5⟩
           have H5 := Lib.hid (H4.out.later hB5)
           have HR5 := Lib.hid (RowB.rd h5)
           clear h5)
        | (go_at_call 15; (with_reducible refine (HC1.out _ _ H5.out.two.st).mono ?_); rintro e w6 ⟨g6, F6, T6, rfl, hT6, h6, hB6⟩
           have H6 := Lib.hid (H5.out.later hB6)
           have HR6 := Lib.hid (HR5.out.below hB6)
           have HT6 := Lib.hid hT6
           have HS6 := Lib.hid h6
           clear hT6 h6)
        | (go_at_call 15; (with_reducible refine (HC2.out _ _ H6.out.two.st).mono ?_); rintro e w7 ⟨g7, F7, T7, rfl, hT7, h7, hB7⟩
           have H7 := Lib.hid (H6.out.later hB7)
           have HR7 := Lib.hid (HR6.out.below hB7)
           have HS67 := Lib.hid (HS6.out.below hB7)
           have HT7 := Lib.hid hT7
           have HS7 := Lib.hid h7
           clear hT7 h7)
        | (go_at_call 15; (with_reducible refine (HC3.out _ _ H7.out.two.st).mono ?_); rintro e w8 ⟨g8, F8, T8, rfl, hT8, h8, hB8⟩
           have H8 := Lib.hid (H7.out.later hB8)
           have HR8 := Lib.hid (HR7.out.below hB8)
           have HS68 := Lib.hid (HS67.out.below hB8)
           have HS78 := Lib.hid (HS7.out.below hB8)
           have HT8 := Lib.hid hT8
           have HS8 := Lib.hid h8
           clear hT8 h8)
        | fail)
      have hcvL : ∀ w', RdB w' A10 L → (convert 39 9 (.slice A10 L.length L.length)).run Tryz.prog w' = .ok (encStr L) w' := fun w' h => conv_text h rfl
      have hBd : Below w8.heap.size w8 w8.drew := (Below.refl _ _).drew
      have hst8 := (H8.out.later hBd).two.st
      have hst7 := HS78.out.below hBd
      have HST8 := Lib.hid hst8
      have HST7 := Lib.hid hst7
      clear hst8 hst7
      go_cut [114] from 24 (fun cv wx => cv = .bool false ∧ Hid (Below w8.heap.size w8 wx))
      case first =>
        go_region_held_law (fun w' => RdB w' A10 L)
          (first | exact HR8.out | exact HL9.out | exact HL10.out | fail)
          (first
            | (go_at_call 16; (with_reducible refine (HSM.out _ _ _ _ _ HST8.out HST7.out HT7.out.1 HT7.out.2.1 HT7.out.2.2.1 HT7.out.2.2.2).mono ?_); rintro e w9 ⟨rfl, hB9d⟩
               have hB9 := below_then ((Below.refl w8.heap.size w8).drew) hB9d
               have HL9 := Lib.hid (HR8.out.below hB9)
               have H9 := Lib.hid (H8.out.later hB9))
            | (go_at_call 12; (with_reducible refine (HLG.out _ _ H9.out.two.st).mono ?_); rintro e w10 ⟨A11, rfl, h10, hB10d⟩
               have hB10 := below_then hB9 hB10d
               have HL10 := Lib.hid (HR8.out.below hB10)
               have hcv9 := conv_text (c := L.length) (RowB.rd h10) rfl)
            | fail)
        all_goals go_wp2_with fail
        all_goals go_meet
        all_goals exact ⟨rfl, Lib.hid hB10⟩
      case rest =>
        obtain ⟨rfl, HBX⟩ := hcut
        go_upto_region 27 with fail
        obtain ⟨w15, hw15⟩ : ∃ v, v = (wc.alloc (.cells #[.slice none 0 0, .slice none 0 0] 33)).alloc (.cells #[.slice none 0 0, .slice none 0 0] 33) := ⟨_, rfl⟩
        have hb15 : Below wc.heap.size wc w15 := by rw [hw15]; exact below_alloc ((Below.refl _ _).alloc (Nat.le_refl _) _) _
        have hb8 := below_then HBX.out hb15
        have H15 := Lib.hid (H8.out.later hb8)
        have HS6 := Lib.hid (HS68.out.below hb8)
        have HS8 := Lib.hid (HS8.out.below hb8)
        have HZ1 : Hid (∃ F', ModAt w15 wc.heap.size F' (Sk l 0).homes (Sk l 0).visits) := Lib.hid ⟨_, none, 0, none, 0, rfl, by rw [hw15]; exact heap_alloc2_old _ _ _, Row.nil _ _ _ _, Row.nil _ _ _ _⟩
        have HZ2 : Hid (∃ F', ModAt w15 (wc.heap.size + 1) F' (Sk l 0).homes (Sk l 0).visits) := Lib.hid ⟨_, none, 0, none, 0, rfl, by rw [hw15, show wc.heap.size + 1 = (wc.alloc (.cells #[.slice none 0 0, .slice none 0 0] 33)).heap.size by simp]; exact heap_alloc_new _ _, Row.nil _ _ _ _, Row.nil _ _ _ _⟩
        rw [← hw15]
        generalize wc.heap.size = gz at *
        clear hw15 hb15 hb8
        go_wp2_with fail
        go_loopw [21, 22, 23] (fun wv lv iv wr2 => ∃ (i gw gl2 : Nat), i ≤ l.length ∧ iv = .int .i64 i ∧ wv = .pointer (some ⟨gw, 0, none⟩) ∧ lv = .pointer (some ⟨gl2, 0, none⟩) ∧ Hid (∃ F', ModAt w15 gw F' (Sk l (lastE S00 (eds l) p1 i)).homes (Sk l (lastE S00 (eds l) p1 i)).visits) ∧ Hid (∃ F', ModAt w15 gl2 F' (Sk l (lastE S00 (eds l) D i)).homes (Sk l (lastE S00 (eds l) D i)).visits) ∧ wr2 = w15)
          (fun _ _ iv _ => l.length - (intOf iv).toNat)
        case atStart => exact ⟨0, gz, gz + 1, Nat.zero_le _, rfl, rfl, rfl, HZ1, HZ2, rfl⟩
        case round =>
          obtain ⟨i, gw, gl2, hi, rfl, rfl, rfl, HW, HL2, rfl⟩ := hrel
          by_cases hilt : i < l.length
          · obtain ⟨gE, rfl, -⟩ := Row.form H15.out.ends (by omega)
            obtain ⟨gM, rfl, -⟩ := Row.form H15.out.mods (by omega)
            have ce : wr.cell? ⟨gE, i, none⟩ = some (.int .i64 (endAt l (i + 1) : Int)) := Row.cell H15.out.ends (endsV_get l _ i hilt)
            obtain ⟨gi, hgi⟩ : ∃ g, gl[i]? = some g := ⟨_, List.getElem?_eq_getElem (by rw [H15.out.len]; exact hilt)⟩
            have cm : wr.cell? ⟨gM, i, none⟩ = some (.pointer (some ⟨gi, 0, none⟩)) := Row.cell H15.out.mods (by rw [List.getElem?_map, hgi]; rfl)
            obtain ⟨Fi, hFi, -⟩ := H15.out.models i gi hgi
            have hls : ∀ q, lastE S00 (eds l) q (i + 1) = if endAt l (i + 1) ≤ q then i + 1 else lastE S00 (eds l) q i := fun q => by
              rw [endAt_ents]; rfl
            have hls1 := hls p1
            have hls2 := hls D
            have HFI := Lib.hid hFi
            have HILT := Lib.hid hilt
            have r1 : (0 : Int) ≤ (i : Int) := by omega
            have r2 : (i : Int) < (l.length : Int) := by omega
            have r3 : i ≤ 40 := by omega
            clear hFi hls
            generalize endAt l (i + 1) = E at *
            have HLS1 := Lib.hid hls1
            have HLS2 := Lib.hid hls2
            clear hls1 hls2
            by_cases h1 : E ≤ p1
            · have r4 : (E : Int) ≤ (p1 : Int) := by omega
              have HA1 := Lib.hid h1
              clear h1
              by_cases h2 : E ≤ D
              · have r5 : (E : Int) ≤ (D : Int) := by omega
                have HA2 := Lib.hid h2
                clear h2
                go_wp2_with fail
                go_roundw
                case rel =>
                  have e1 := HLS1.out
                  have e2 := HLS2.out
                  rw [if_pos HA1.out] at e1
                  rw [if_pos HA2.out] at e2
                  exact ⟨i + 1, gi, gi, by have := HILT.out; omega, by go_num, rfl, rfl, by rw [e1]; exact Lib.hid ⟨_, HFI.out⟩, by rw [e2]; exact Lib.hid ⟨_, HFI.out⟩, by trivial⟩
                case measure => have := HILT.out; simp [intOf]; omega
              · have r5 : ¬ (E : Int) ≤ (D : Int) := by omega
                have HA2 := Lib.hid h2
                clear h2
                go_wp2_with fail
                go_roundw
                case rel =>
                  have e1 := HLS1.out
                  have e2 := HLS2.out
                  rw [if_pos HA1.out] at e1
                  rw [if_neg HA2.out] at e2
                  exact ⟨i + 1, gi, gl2, by have := HILT.out; omega, by go_num, rfl, rfl, by rw [e1]; exact Lib.hid ⟨_, HFI.out⟩, by rw [e2]; exact HL2, by trivial⟩
                case measure => have := HILT.out; simp [intOf]; omega
            · have r4 : ¬ (E : Int) ≤ (p1 : Int) := by omega
              have HA1 := Lib.hid h1
              clear h1
              by_cases h2 : E ≤ D
              · have r5 : (E : Int) ≤ (D : Int) := by omega
                have HA2 := Lib.hid h2
                clear h2
                go_wp2_with fail
                go_roundw
                case rel =>
                  have e1 := HLS1.out
                  have e2 := HLS2.out
                  rw [if_neg HA1.out] at e1
                  rw [if_pos HA2.out] at e2
                  exact ⟨i + 1, gw, gi, by have := HILT.out; omega, by go_num, rfl, rfl, by rw [e1]; exact HW, by rw [e2]; exact Lib.hid ⟨_, HFI.out⟩, by trivial⟩
                case measure => have := HILT.out; simp [intOf]; omega
              · have r5 : ¬ (E : Int) ≤ (D : Int) := by omega
                have HA2 := Lib.hid h2
                clear h2
                go_wp2_with fail
                go_roundw
                case rel =>
                  have e1 := HLS1.out
                  have e2 := HLS2.out
                  rw [if_neg HA1.out] at e1
                  rw [if_neg HA2.out] at e2
                  exact ⟨i + 1, gw, gl2, by have := HILT.out; omega, by go_num, rfl, rfl, by rw [e1]; exact HW, by rw [e2]; exact HL2, by trivial⟩
                case measure => have := HILT.out; simp [intOf]; omega
          · obtain rfl : i = l.length := by omega
            obtain ⟨F1, hm1⟩ := HW.out
            obtain ⟨F2, hm2⟩ := HL2.out
            have hk1 := Sk_lens l (lastE S00 (eds l) p1 l.length)
            have hk2 := Sk_lens l (lastE S00 (eds l) D l.length)
            obtain ⟨hj1, -⟩ := lastE_le S00 (eds l) p1 l.length
            obtain ⟨hj2, -⟩ := lastE_le S00 (eds l) D l.length
            have hag1 := fun W (hb : Below wr.heap.size wr W) => agrees_any W g6 gw F6 F1 T6 (HS6.out.below hb) HT6.out.2.2.1 (by have := HT6.out.2.2.2; omega) (by rw [HT6.out.1, HT6.out.2.1]; exact hm1.below hb) (by rw [HT6.out.1]; omega) (by rw [HT6.out.2.1]; omega)
            have hag2 := fun W (hb : Below wr.heap.size wr W) => agrees_any W g8 gl2 F8 F2 T8 (HS8.out.below hb) HT8.out.2.2.1 (by have := HT8.out.2.2.2; omega) (by rw [HT8.out.1, HT8.out.2.1]; exact hm2.below hb) (by rw [HT8.out.1]; omega) (by rw [HT8.out.2.1]; omega)
            have HB15 := Lib.hid H15.out.two.below
            have HAG1 := Lib.hid hag1
            have HAG2 := Lib.hid hag2
            clear hag1 hag2 hk1 hk2 hj1 hj2 hm1 hm2 HW HL2
            go_wp2_with (first
              | (go_at_call 17; (with_reducible refine (HAG1.out _ (Below.refl _ _)).mono ?_); rintro e w16 ⟨rfl, hB16⟩)
              | (go_at_call 17; (with_reducible refine (HAG2.out _ hB16).mono ?_); rintro e w17 ⟨rfl, hB17d⟩
                 have hB17 := below_then hB16 hB17d)
              | (go_at_call 8; (with_reducible refine (HLIV.out _).mono ?_); rintro e w18 ⟨rfl, hB18d⟩
                 have hB18 := below_then hB17 hB18d)
              | fail)
            go_ret
            exact ⟨rfl, HB15.out.trans (hB18.mono HB15.out.size)⟩
end Go.Proofs.YthbbmpelldglmaaGreatDoor
