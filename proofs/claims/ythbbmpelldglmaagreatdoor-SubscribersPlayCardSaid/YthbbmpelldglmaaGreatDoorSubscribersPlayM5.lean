/- Package subscribers: the replay of a log, plain. -/
import Derived.Test.YthbbmpelldglmaaGreatDoorSubscribersPlayM4
import Derived.Deep.RegionHeld3
import Derived.RegionTactic
import Derived.BigRegion
import Derived.StillTailTactics
import Derived.Deep.CutBlock
import Derived.Deep.QuietTactic
import Derived.BigQuiet
namespace Go.Proofs.YthbbmpelldglmaaGreatDoor
set_option linter.unusedVariables false
set_option linter.unusedSimpArgs false
open Go.RowKit

/-- the number in the first two bytes -/
def lenAt (l : List UInt8) : Nat := (l.getD 0 0).toNat + 256 * (l.getD 1 0).toNat
/-- the body of the first entry, if it is whole and its check sequence is right -/
def front (l : List UInt8) : Option (List UInt8) :=
  if 2 ≤ l.length ∧ lenAt l + 4 ≤ l.length ∧ (l.drop (lenAt l + 2)).take 2 = fcs (l.take (lenAt l + 2)) then some ((l.take (lenAt l + 2)).drop 2) else none
theorem front_some {l b : List UInt8} (h : front l = some b) : 2 ≤ l.length ∧ lenAt l + 4 ≤ l.length ∧ (l.drop (lenAt l + 2)).take 2 = fcs (l.take (lenAt l + 2)) ∧ b = (l.take (lenAt l + 2)).drop 2 := by
  unfold front at h
  split at h
  · rename_i h1
    cases h
    exact ⟨h1.1, h1.2.1, h1.2.2, rfl⟩
  · cases h
theorem front_len {l b : List UInt8} (h : front l = some b) : b.length = lenAt l ∧ b.length + 4 ≤ l.length := by
  obtain ⟨h1, h2, h3, rfl⟩ := front_some h
  have : ((l.take (lenAt l + 2)).drop 2).length = lenAt l := by rw [List.length_drop, List.length_take]; omega
  omega
/-- from the store S on the bytes l: the store behind the replay, and how many bytes were replayed -/
inductive Plays : St → List UInt8 → St → Nat → Prop where
  | stop {S l} (h : ∀ b, front l = some b → (applied S b).1 = false) : Plays S l S 0
  | step {S l b S' T n} (h1 : front l = some b) (h2 : applied S b = (true, S')) (h3 : Plays S' (l.drop (b.length + 4)) T n) : Plays S l T (b.length + 4 + n)
theorem Plays.one {S l T n} (h : Plays S l T n) : ∀ {T' n'}, Plays S l T' n' → T = T' ∧ n = n' := by
  induction h with
  | stop h =>
    intro T' n' h'
    cases h' with
    | stop _ => exact ⟨rfl, rfl⟩
    | step h1 h2 _ => have := h _ h1; rw [h2] at this; cases this
  | step h1 h2 h3 ih =>
    intro T' n' h'
    cases h' with
    | stop h => have := h _ h1; rw [h2] at this; cases this
    | step g1 g2 g3 =>
      rw [h1] at g1
      cases g1
      rw [h2] at g2
      cases g2
      obtain ⟨e1, e2⟩ := ih g3
      exact ⟨e1, by rw [e2]⟩
theorem Plays.le {S l T n} (h : Plays S l T n) : n ≤ l.length := by
  induction h with
  | stop h => omega
  | step h1 h2 h3 ih =>
    have := (front_len h1).2
    rw [List.length_drop] at ih
    omega
/-- the way into the bytes -/
inductive Eat (S0 : St) (log : List UInt8) : St → Nat → Prop where
  | start : Eat S0 log S0 0
  | step {S b S' k} (h : Eat S0 log S k) (h1 : front (log.drop k) = some b) (h2 : applied S b = (true, S')) : Eat S0 log S' (k + (b.length + 4))
theorem Eat.plays {S0 log S k} (h : Eat S0 log S k) : ∀ {T n}, Plays S (log.drop k) T n → Plays S0 log T (k + n) := by
  induction h with
  | start => intro T n h; simpa using h
  | step h h1 h2 ih =>
    intro T n h3
    have h4 : Plays _ _ T _ := Plays.step h1 h2 (by rw [List.drop_drop]; exact h3)
    have := ih h4
    rw [Nat.add_assoc]
    exact this
theorem textLen (r : Rdr) : (textB r.text).length ≤ 256 := by rw [textB_len]; have := r.text_len; omega
theorem parsed_go {b : List UInt8} {o : Edit} (h : parsed b = some o) : o.Go ∧ o.ent.length ≤ 1000 := by
  have el : ∀ (k : UInt8) (f : List UInt8), f.length ≤ 900 → (entryB k f).length ≤ 1000 := fun k f hf => by
    unfold entryB bodyB
    simp only [List.length_append, pairB_len, fcs_len, List.length_cons, List.length_nil]
    omega
  have tl : ∀ r : Rdr, r.text.length ≤ maxLen := fun r => by have := r.text_len; simp only [maxLen]; omega
  unfold parsed at h
  extract_lets r0 r1 r2 r3 r4 r5 r6 v6 v7 at h
  clear_value v7 v6 r6 r5 r4 r3 r2 r1 r0
  split at h
  · split at h
    · injection h with h
      subst h
      refine ⟨⟨⟨Rdr.pair_lt _, Rdr.long_lt _⟩, tl _, tl _⟩, el _ _ ?_⟩
      unfold Edit.fields HomeR.fields
      simp only [List.length_append, pairB_len, longB_len, List.length_cons, List.length_nil]
      have h1 := textLen r1
      have h2 := textLen r2
      omega
    · cases h
  · split at h
    · split at h
      · injection h with h
        subst h
        refine ⟨⟨⟨Rdr.pair_lt _, Rdr.long_lt _, Rdr.pair_lt _⟩, tl _, tl _, tl _⟩, el _ _ ?_⟩
        unfold Edit.fields VisitR.fields
        simp only [List.length_append, pairB_len, longB_len, List.length_cons, List.length_nil]
        have h1 := textLen r1
        have h2 := textLen r2
        have h3 := textLen v6
        omega
      · cases h
    · split at h
      · split at h
        · injection h with h
          subst h
          refine ⟨tl _, el _ _ ?_⟩
          have h1 := textLen r1
          exact Nat.le_trans h1 (by omega)
        · cases h
      · split at h
        · split at h
          · injection h with h
            subst h
            refine ⟨tl _, el _ _ ?_⟩
            have h1 := textLen r1
            exact Nat.le_trans h1 (by omega)
          · cases h
        · cases h
/-- what holds of the store under way -/
structure Way (S : St) (k : Nat) : Prop where
  fit : S.Fit
  puts : 4 * S.puts ≤ k
  log : S.log.length ≤ 250 * k
theorem applied_true {S S' : St} {b : List UInt8} (h : applied S b = (true, S')) : ∃ o, parsed b = some o ∧ o.er S = 0 ∧ S' = o.after S := by
  unfold applied at h
  split at h
  · rename_i o ho
    injection h with h1 h2
    exact ⟨o, ho, by simpa using h1, h2.symm⟩
  · cases h
theorem applied_false {S : St} {b : List UInt8} (h : (applied S b).1 = false) : (applied S b).2 = S := by
  unfold applied at h ⊢
  split at h
  · rename_i o ho
    exact Edit.bad (by simpa using h)
  · rfl
theorem Way.step {S S' : St} {k : Nat} {b : List UInt8} (h : Way S k) (ha : applied S b = (true, S')) : Way S' (k + (b.length + 4)) := by
  obtain ⟨o, ho, he, rfl⟩ := applied_true ha
  obtain ⟨hg, hl⟩ := parsed_go ho
  have h1 := o.after_puts S
  have h2 := o.after_log S
  rw [if_pos he] at h2
  refine ⟨o.fit h.fit hg, by have := h.puts; omega, ?_⟩
  rw [h2, List.length_append]
  have := h.log
  omega
theorem Way.start (l : List UInt8) (d p : Nat) : Way ⟨[], [], [], d, 0⟩ 0 where
  fit := ⟨by simp, by simp, by simp, by simp, by simp [roamers], by simp⟩
  puts := by simp
  log := by simp
end Go.Proofs.YthbbmpelldglmaaGreatDoor
/- Package subscribers: the log of a store: Log, Sync. -/
namespace Go.Proofs.YthbbmpelldglmaaGreatDoor
set_option linter.unusedVariables false
set_option linter.unusedSimpArgs false
open Go.RowKit

/-- the store's own block, and what another log in it makes of the store -/
theorem StAt.obj {w : World} {g : Nat} {F : List Nat} {S : St} (h : StAt w g F S) : ∃ m1 m2 m3 m4 A c, w.heap[g]? = some (stObj m1 m2 m3 m4 A S.log.length c S.dur) ∧ RowB w 0 A c S.log ∧ g ∉ blk A ∧ (∀ i ∈ blk A, i ∈ F) ∧ g ∈ F ∧
    ∀ (w' : World) (A' : Option Addr) (c' d : Nat) (l : List UInt8), w'.heap[g]? = some (stObj m1 m2 m3 m4 A' l.length c' d) → RowB w' 0 A' c' l → Chg [g] w w' → ∃ F', StAt w' g F' { S with log := l, dur := d } ∧ ∀ i ∈ F', i ∈ F ∨ i ∈ blk A' := by
  rcases h with ⟨b1, b2, b3, b4, A, c, rfl, h⟩ | ⟨A, c, rfl, h⟩
  · have hap := h.apart
    refine ⟨_, _, _, _, A, c, h.obj, h.log, hap.2.1, fun i hi => by simp [hi], by simp, fun w' A' c' d l ho hr hc => ⟨g :: b1 :: b2 :: b3 :: b4 :: blk A', .inl ⟨b1, b2, b3, b4, A', c', rfl, ho, hr, ?_⟩, fun i hi => by simp at hi ⊢; rcases hi with h | h | h | h | h | h <;> simp [h]⟩⟩
    have hm := h.maps.chg hc (by simp; exact fun e => hap.1.1 e.symm) (by simp; exact fun e => hap.1.2.1 e.symm) (by simp; exact fun e => hap.1.2.2.1 e.symm) (by simp; exact fun e => hap.1.2.2.2 e.symm)
    exact ⟨hm.nodup, hm.homes, hm.visits, hm.numbers, hm.roams⟩
  · exact ⟨_, _, _, _, A, c, h.obj, h.log, stObj_apart h.obj h.log, fun i hi => by simp [hi], by simp, fun w' A' c' d l ho hr hc => ⟨g :: blk A', .inr ⟨A', c', rfl, ho, hr, h.homes, h.visits⟩, fun i hi => by simp at hi ⊢; rcases hi with h | h <;> simp [h]⟩⟩

set_option maxHeartbeats 1000000 in
set_option maxRecDepth 100000 in
/-- 'Log' -/
theorem storeLog_any (w : World) (g : Nat) (F : List Nat) (S : St) (h : StAt w g F S) (hl : S.log.length ≤ 100000000) :
    Calls Tryz.prog 12 #[.pointer (some ⟨g, 0, none⟩)] w fun e w' => ∃ A', e = .returned (.slice A' S.log.length S.log.length) ∧ RowB w' w.heap.size A' S.log.length S.log ∧ Below w.heap.size w w' := by
  obtain ⟨m1, m2, m3, m4, A, c, ho, hr, _⟩ := h.obj
  have k4 : w.cell? ⟨g, 4, none⟩ = some (.slice A S.log.length c) := stObj_cell ho 4
  have hcl := clone_any A c S.log w hr.rd (by omega)
  have HCL := Lib.hid hcl
  clear hcl h ho hr
  generalize S.log = L at *
  go_enter Tryz.func12, Tryz.ntmps12
  go_wp2_with (first
    | (go_at_call 42; (with_reducible refine HCL.out.mono ?_); rintro e w2 ⟨A2, c2, rfl, hR, hB2⟩; have hle := Row.le hR; have hcap := Row.cap_le hR)
    | (go_at_call 41; go_must (refine (clip_any _ _ _ _ hle hcap).mono ?_); rintro e w3 ⟨rfl, rfl⟩)
    | fail)
  go_ret
  exact ⟨A2, rfl, Row.clip hR, hB2⟩

set_option maxHeartbeats 1000000 in
set_option maxRecDepth 100000 in
/-- 'Sync' -/
theorem storeSync_any (w : World) (g : Nat) (F : List Nat) (S : St) (h : StAt w g F S) :
    Calls Tryz.prog 14 #[.pointer (some ⟨g, 0, none⟩)] w fun e w' => ∃ F', e = .returned (.int .i64 (S.log.length : Int)) ∧ StAt w' g F' { S with dur := S.log.length } ∧ Chg F w w' ∧ NewIn w F F' := by
  obtain ⟨m1, m2, m3, m4, A, c, ho, hr, hgA, hAF, hgF, hset⟩ := h.obj
  have k4 : w.cell? ⟨g, 4, none⟩ = some (.slice A S.log.length c) := stObj_cell ho 4
  have k5 : w.cell? ⟨g, 5, none⟩ = some (.int .i64 (S.dur : Int)) := stObj_cell ho 5
  have f5 := stObj_free ho 5
  have ho2 : (w.setCell ⟨g, 5, none⟩ (.int .i64 (S.log.length : Int))).heap[g]? = some (stObj m1 m2 m3 m4 A S.log.length c S.log.length) := Go.Joins.block_setCell (i := 5) ho _
  have hc2 : Chg [g] w (w.setCell ⟨g, 5, none⟩ (.int .i64 (S.log.length : Int))) := (Chg.refl _ _).setCell (by simp) _
  obtain ⟨F', h2, hF'⟩ := hset _ A c S.log.length S.log ho2 (Row.chg hr hc2 (fun k e hi => hgA (by simp at hi; subst hi; exact mem_blk.2 e))) hc2
  have hc3 := hc2.mono (F1 := F) (fun i hi => by simp at hi; subst hi; exact hgF)
  have hn3 : NewIn w F F' := fun i hi => (hF' i hi).elim .inl (fun h3 => .inl (hAF i h3))
  have H2 := Lib.hid (And.intro h2 (And.intro hc3 hn3))
  clear h ho hr hset ho2 hc2 h2 hF' hc3 hn3
  generalize S.log.length = L at *
  go_enter Tryz.func14, Tryz.ntmps14
  go_wp2
  go_ret
  exact ⟨F', rfl, H2.out.1, H2.out.2.1, H2.out.2.2⟩
end Go.Proofs.YthbbmpelldglmaaGreatDoor
/- Package subscribers: the replay of what a store has written. Plain. -/
namespace Go.Proofs.YthbbmpelldglmaaGreatDoor
set_option linter.unusedVariables false
set_option linter.unusedSimpArgs false
open Go.RowKit

theorem rd_byte (x : UInt8) (r : List UInt8) (bad : Bool) : (Rdr.mk (x :: r) bad).byte = x ∧ (Rdr.mk (x :: r) bad).after 1 = ⟨r, bad⟩ := by
  unfold Rdr.byte Rdr.take Rdr.after
  simp
theorem rd_after (a r : List UInt8) (n : Nat) (h : a.length = n) (bad : Bool) : (Rdr.mk (a ++ r) bad).take n = a ∧ (Rdr.mk (a ++ r) bad).after n = ⟨r, bad⟩ := by
  subst h
  unfold Rdr.take Rdr.after
  have h1 : ¬ (a ++ r).length < a.length := by rw [List.length_append]; omega
  simp only [if_neg h1]
  simp
theorem rd_text (s r : List UInt8) (h : s.length ≤ 255) (bad : Bool) : (Rdr.mk (textB s ++ r) bad).text = s ∧ (Rdr.mk (textB s ++ r) bad).afterText = ⟨r, bad⟩ := by
  unfold Rdr.text Rdr.afterText textB
  rw [List.cons_append]
  obtain ⟨h1, h2⟩ := rd_byte (UInt8.ofNat s.length) (s ++ r) bad
  rw [h1, h2]
  have h3 : (UInt8.ofNat s.length).toNat = s.length := by simp; omega
  rw [h3]
  exact rd_after s r s.length rfl bad
theorem rd_pair (n : Nat) (r : List UInt8) (h : n < 65536) (bad : Bool) : (Rdr.mk (pairB n ++ r) bad).pair = n ∧ (Rdr.mk (pairB n ++ r) bad).afterPair = ⟨r, bad⟩ := by
  unfold Rdr.pair Rdr.afterPair
  obtain ⟨h1, h2⟩ := rd_after (pairB n) r 2 rfl bad
  rw [h1, h2]
  refine ⟨?_, rfl⟩
  unfold pairB
  simp
  omega
theorem rd_long (n : Nat) (r : List UInt8) (h : n < 4294967296) (bad : Bool) : (Rdr.mk (longB n ++ r) bad).long = n ∧ (Rdr.mk (longB n ++ r) bad).afterLong = ⟨r, bad⟩ := by
  unfold longB Rdr.long Rdr.afterLong
  rw [List.append_assoc]
  obtain ⟨h1, h2⟩ := rd_pair (n % 65536) (pairB (n / 65536) ++ r) (by omega) bad
  rw [h1, h2]
  obtain ⟨h3, h4⟩ := rd_pair (n / 65536) r (by omega) bad
  rw [h3, h4]
  exact ⟨by omega, rfl⟩
theorem flagsB_val (a b : Bool) : (flagsB a b).toNat ≤ 3 ∧ decide ((flagsB a b).toNat % 2 = 1) = a ∧ decide ((flagsB a b).toNat / 2 % 2 = 1) = b := by
  cases a <;> cases b <;> decide
/-- an edit that an entry can tell -/
def Edit.Short : Edit → Prop
  | .putH h => h.Go ∧ h.id.length ≤ 255 ∧ h.number.length ≤ 255
  | .putV v => v.Go ∧ v.id.length ≤ 255 ∧ v.number.length ≤ 255 ∧ v.roam.length ≤ 255
  | .dropH id => id.length ≤ 255
  | .dropV id => id.length ≤ 255
theorem parsed_ent (o : Edit) (h : o.Short) : parsed (o.kind :: o.fields) = some o := by
  unfold parsed
  obtain ⟨b1, b2⟩ := rd_byte o.kind o.fields false
  simp only [b1, b2]
  cases o with
  | putH x =>
    obtain ⟨id, number, at_, move, barred, waiting⟩ := x
    obtain ⟨⟨g1, g2⟩, g3, g4⟩ := h
    simp only at g1 g2 g3 g4
    simp only [Edit.kind, Edit.fields, HomeR.fields, List.append_assoc]
    obtain ⟨t1, t2⟩ := rd_text id (textB number ++ (pairB at_ ++ (longB move ++ [flagsB barred waiting]))) g3 false
    obtain ⟨t3, t4⟩ := rd_text number (pairB at_ ++ (longB move ++ [flagsB barred waiting])) g4 false
    obtain ⟨t5, t6⟩ := rd_pair at_ (longB move ++ [flagsB barred waiting]) g1 false
    obtain ⟨t7, t8⟩ := rd_long move [flagsB barred waiting] g2 false
    obtain ⟨t9, t10⟩ := rd_byte (flagsB barred waiting) [] false
    obtain ⟨f1, f2, f3⟩ := flagsB_val barred waiting
    simp only [t1, t2, t3, t4, t5, t6, t7, t8, t9, t10, f1, f2, f3]
    simp
  | putV x =>
    obtain ⟨id, number, home, move, area, roam⟩ := x
    obtain ⟨⟨g1, g2, g3⟩, g4, g5, g6⟩ := h
    simp only at g1 g2 g3 g4 g5 g6
    simp only [Edit.kind, Edit.fields, VisitR.fields, List.append_assoc]
    obtain ⟨t1, t2⟩ := rd_text id (textB number ++ (pairB home ++ (longB move ++ (pairB area ++ textB roam)))) g4 false
    obtain ⟨t3, t4⟩ := rd_text number (pairB home ++ (longB move ++ (pairB area ++ textB roam))) g5 false
    obtain ⟨t5, t6⟩ := rd_pair home (longB move ++ (pairB area ++ textB roam)) g1 false
    obtain ⟨t7, t8⟩ := rd_long move (pairB area ++ textB roam) g2 false
    obtain ⟨t9, t10⟩ := rd_pair area (textB roam) g3 false
    obtain ⟨t11, t12⟩ := rd_text roam [] g6 false
    rw [List.append_nil] at t11 t12
    simp only [t1, t2, t3, t4, t5, t6, t7, t8, t9, t10, t11, t12]
    simp
  | dropH id =>
    simp only [Edit.kind, Edit.fields]
    obtain ⟨t1, t2⟩ := rd_text id [] h false
    rw [List.append_nil] at t1 t2
    simp only [t1, t2]
    simp
  | dropV id =>
    simp only [Edit.kind, Edit.fields]
    obtain ⟨t1, t2⟩ := rd_text id [] h false
    rw [List.append_nil] at t1 t2
    simp only [t1, t2]
    simp
theorem num_pos {l : List UInt8} (h : isNum l = true) : 1 ≤ l.length ∧ l.length ≤ 15 := isNum_len h
theorem homeOf_some {S : St} {id : List UInt8} (h : (homeOf S id).isSome = true) : ∃ x ∈ S.homes, x.id = id ∧ homeOf S id = some x := by
  unfold homeOf at *
  obtain ⟨x, hx⟩ := Option.isSome_iff_exists.1 h
  exact ⟨x, List.mem_of_find?_eq_some hx, by simpa using List.find?_some hx, hx⟩
theorem visitOf_some {S : St} {id : List UInt8} (h : (visitOf S id).isSome = true) : ∃ x ∈ S.visits, x.id = id ∧ visitOf S id = some x := by
  unfold visitOf at *
  obtain ⟨x, hx⟩ := Option.isSome_iff_exists.1 h
  exact ⟨x, List.mem_of_find?_eq_some hx, by simpa using List.find?_some hx, hx⟩
/-- what was accepted is short -/
theorem Edit.short {S : St} {o : Edit} (hf : S.Fit) (hg : o.Go) (he : o.er S = 0) : o.Short ∧ 2 ≤ o.fields.length ∧ o.fields.length ≤ 56 := by
  cases o with
  | putH h =>
    have hok : h.ok = true := by
      have he' : (if h.ok = false then (1 : Int) else if clash S h then 8 else 0) = 0 := he
      cases hx : h.ok with
      | true => rfl
      | false => rw [if_pos hx] at he'; omega
    have hl := HomeR.ok_len hok
    refine ⟨⟨hg.1, by omega, by omega⟩, ?_, ?_⟩
    · simp only [Edit.fields, HomeR.fields, List.length_append, textB_len]; omega
    · have := HomeR.fields_len hok
      simp only [Edit.fields]; omega
  | putV v =>
    have hok : v.ok = true := by
      have he' : (if v.ok = false then (1 : Int) else if clashV S v then 8 else 0) = 0 := he
      cases hx : v.ok with
      | true => rfl
      | false => rw [if_pos hx] at he'; omega
    have hl := VisitR.ok_len hok
    refine ⟨⟨hg.1, by omega, by omega, by omega⟩, ?_, ?_⟩
    · simp only [Edit.fields, VisitR.fields, List.length_append, textB_len]; omega
    · have := VisitR.fields_len hok
      simp only [Edit.fields]; omega
  | dropH id =>
    have he' : (if (homeOf S id).isSome then (0 : Int) else 7) = 0 := he
    have hs : (homeOf S id).isSome = true := by
      cases hx : (homeOf S id).isSome with
      | true => rfl
      | false => rw [hx] at he'; simp at he'
    obtain ⟨x, hx, rfl, _⟩ := homeOf_some hs
    have hl := HomeR.ok_len (hf.hok x hx).1
    refine ⟨show x.id.length ≤ 255 by omega, ?_, ?_⟩ <;> simp only [Edit.fields, textB_len] <;> omega
  | dropV id =>
    have he' : (if (visitOf S id).isSome then (0 : Int) else 7) = 0 := he
    have hs : (visitOf S id).isSome = true := by
      cases hx : (visitOf S id).isSome with
      | true => rfl
      | false => rw [hx] at he'; simp at he'
    obtain ⟨x, hx, rfl, _⟩ := visitOf_some hs
    have hl := VisitR.ok_len (hf.vok x hx).1
    refine ⟨show x.id.length ≤ 255 by omega, ?_, ?_⟩ <;> simp only [Edit.fields, textB_len] <;> omega
theorem bodyB_len (k : UInt8) (f : List UInt8) : (bodyB k f).length = f.length + 3 := by
  unfold bodyB; simp only [List.length_append, pairB_len, List.length_cons, List.length_nil]; omega
theorem entryB_len (k : UInt8) (f : List UInt8) : (entryB k f).length = f.length + 5 := by
  unfold entryB; rw [List.length_append, bodyB_len, fcs_len]
theorem Edit.ent_len (o : Edit) : o.ent.length = o.fields.length + 5 := entryB_len _ _
theorem lenAt_pair (n : Nat) (r : List UInt8) (h : n < 65536) : lenAt (pairB n ++ r) = n := by
  unfold lenAt pairB
  simp
  omega
theorem entryB_form (k : UInt8) (f : List UInt8) : entryB k f = pairB (1 + f.length) ++ (k :: f ++ fcs (bodyB k f)) := by
  unfold entryB bodyB
  simp
theorem entryB_lenAt (k : UInt8) (f r : List UInt8) (h : f.length < 65535) : lenAt (entryB k f ++ r) = 1 + f.length := by
  rw [entryB_form, List.append_assoc]
  exact lenAt_pair _ _ (by omega)
theorem front_entry (k : UInt8) (f r : List UInt8) (h : f.length < 65535) : front (entryB k f ++ r) = some (k :: f) := by
  have hl := entryB_lenAt k f r h
  have h1 : (entryB k f ++ r).take (lenAt (entryB k f ++ r) + 2) = bodyB k f := by
    rw [hl]
    unfold entryB
    rw [List.append_assoc, List.take_append_of_le_length (by rw [bodyB_len]; omega), List.take_of_length_le (by rw [bodyB_len]; omega)]
  have h2 : (entryB k f ++ r).drop (lenAt (entryB k f ++ r) + 2) = fcs (bodyB k f) ++ r := by
    rw [hl]
    unfold entryB
    rw [List.append_assoc, List.drop_append_of_le_length (by rw [bodyB_len]; omega), List.drop_of_length_le (by rw [bodyB_len]; omega)]
    try rfl
  have h3 : (fcs (bodyB k f) ++ r).take 2 = fcs (bodyB k f) := by rw [List.take_append_of_le_length (by rw [fcs_len]; omega), List.take_of_length_le (by rw [fcs_len]; omega)]
  unfold front
  rw [h1, h2, if_pos ⟨by rw [List.length_append, entryB_len]; omega, by rw [hl, List.length_append, entryB_len]; omega, h3⟩]
  unfold bodyB
  simp [pairB]
theorem front_short {l : List UInt8} (h : l.length < 4) : front l = none := by
  unfold front
  rw [if_neg]
  rintro ⟨_, h2, _⟩
  omega
theorem front_cut (k : UInt8) (f r : List UInt8) (h : f.length < 65535) (j : Nat) (hj : j < f.length + 5) : front ((entryB k f ++ r).take j) = none := by
  have ht : (entryB k f ++ r).take j = (entryB k f).take j := List.take_append_of_le_length (by rw [entryB_len]; omega)
  rw [ht]
  by_cases h4 : j < 4
  · exact front_short (by rw [List.length_take]; omega)
  · unfold front
    rw [if_neg]
    rintro ⟨_, h2, _⟩
    have hl : lenAt ((entryB k f).take j) = 1 + f.length := by
      rw [entryB_form]
      obtain ⟨i, rfl⟩ : ∃ i, j = (pairB (1 + f.length)).length + i := ⟨j - 2, by rw [pairB_len]; omega⟩
      rw [List.take_length_add_append]
      exact lenAt_pair _ _ (by omega)
    rw [hl, List.length_take, entryB_len] at h2
    omega

/-- two stores have the same records -/
def SameR (S T : St) : Prop := S.homes = T.homes ∧ S.visits = T.visits
theorem SameR.refl (S : St) : SameR S S := ⟨rfl, rfl⟩
theorem SameR.symm {S T : St} (h : SameR S T) : SameR T S := ⟨h.1.symm, h.2.symm⟩
theorem SameR.trans {S T U : St} (h : SameR S T) (h2 : SameR T U) : SameR S U := ⟨h.1.trans h2.1, h.2.trans h2.2⟩
theorem SameR.er {S T : St} (h : SameR S T) (o : Edit) : o.er S = o.er T := by
  obtain ⟨h1, h2⟩ := h
  cases o with
  | putH h => exact ite_congr rfl (fun _ => rfl) (fun _ => ite_congr (by unfold clash; rw [h1]) (fun _ => rfl) (fun _ => rfl))
  | putV v => exact ite_congr rfl (fun _ => rfl) (fun _ => ite_congr (by unfold clashV; rw [h2]) (fun _ => rfl) (fun _ => rfl))
  | dropH id => unfold Edit.er homeOf; simp only [h1]
  | dropV id => unfold Edit.er visitOf; simp only [h2]
theorem SameR.after {S T : St} (h : SameR S T) (o : Edit) : SameR (o.after S) (o.after T) := by
  have he := h.er o
  unfold Edit.after
  rw [he]
  split
  · obtain ⟨h1, h2⟩ := h
    cases o <;> simp only [Edit.next, putHomeS, putVisitS, dropHomeS, dropVisitS, SameR, h1, h2, and_self]
  · exact h
theorem SameR.fit {S T : St} (h : SameR S T) (hf : S.Fit) : T.Fit := by
  obtain ⟨h1, h2⟩ := h
  exact ⟨h1 ▸ hf.hs, h1 ▸ hf.hn, h1 ▸ hf.hok, h2 ▸ hf.vs, h2 ▸ hf.vr, h2 ▸ hf.vok⟩
/-- the store behind a list of changes, and what they add to the log -/
def runE (S : St) (l : List Edit) : St := l.foldl (fun S o => o.after S) S
def entE (S : St) (o : Edit) : List UInt8 := if o.er S = 0 then o.ent else []
def entsE : St → List Edit → List UInt8
  | _, [] => []
  | S, o :: l => entE S o ++ entsE (o.after S) l
theorem runE_cons (S : St) (o : Edit) (l : List Edit) : runE S (o :: l) = runE (o.after S) l := rfl
theorem runE_append (S : St) (l m : List Edit) : runE S (l ++ m) = runE (runE S l) m := List.foldl_append
theorem entsE_append (S : St) (l m : List Edit) : entsE S (l ++ m) = entsE S l ++ entsE (runE S l) m := by
  induction l generalizing S with
  | nil => rfl
  | cons o l ih => rw [List.cons_append, entsE, entsE, ih, List.append_assoc, runE_cons]
theorem runE_log (S : St) (l : List Edit) : (runE S l).log = S.log ++ entsE S l := by
  induction l generalizing S with
  | nil => simp [runE, entsE]
  | cons o l ih => rw [runE_cons, ih, Edit.after_log, entsE, List.append_assoc]; rfl
theorem runE_snoc (S : St) (l : List Edit) (k : Nat) (h : k < l.length) : runE S (l.take (k + 1)) = l[k].after (runE S (l.take k)) := by
  rw [List.take_succ_eq_append_getElem h, runE_append]; rfl
theorem entsE_snoc (S : St) (l : List Edit) (k : Nat) (h : k < l.length) : entsE S (l.take (k + 1)) = entsE S (l.take k) ++ entE (runE S (l.take k)) l[k] := by
  rw [List.take_succ_eq_append_getElem h, entsE_append]
  congr 1
  unfold entsE entsE
  simp
theorem runE_fit {S : St} (l : List Edit) (hf : S.Fit) (hg : ∀ o ∈ l, o.Go) : (runE S l).Fit := by
  induction l generalizing S with
  | nil => exact hf
  | cons o l ih => rw [runE_cons]; exact ih (o.fit hf (hg o (by simp))) (fun x hx => hg x (by simp [hx]))
theorem runE_dur (S : St) (l : List Edit) : (runE S l).dur = S.dur := by
  induction l generalizing S with
  | nil => rfl
  | cons o l ih => rw [runE_cons, ih, Edit.after_dur]
theorem runE_puts (S : St) (l : List Edit) : (runE S l).puts ≤ S.puts + l.length := by
  induction l generalizing S with
  | nil => simp [runE]
  | cons o l ih =>
    rw [runE_cons]
    have := ih (o.after S)
    have := o.after_puts S
    rw [List.length_cons]; omega
theorem entE_len {S : St} {o : Edit} (hf : S.Fit) (hg : o.Go) : (entE S o).length ≤ 61 := by
  unfold entE
  split
  · rename_i he
    have := Edit.short hf hg he
    rw [Edit.ent_len]; omega
  · simp
theorem entsE_len {S : St} (l : List Edit) (hf : S.Fit) (hg : ∀ o ∈ l, o.Go) : (entsE S l).length ≤ 61 * l.length := by
  induction l generalizing S with
  | nil => simp [entsE]
  | cons o l ih =>
    rw [entsE, List.length_append, List.length_cons]
    have := entE_len hf (hg o (by simp))
    have := ih (o.fit hf (hg o (by simp))) (fun x hx => hg x (by simp [hx]))
    omega
/-- the replay of what the changes have written -/
theorem play_run {S : St} (l : List Edit) (hf : S.Fit) (hg : ∀ o ∈ l, o.Go) : ∀ {S' : St}, SameR S S' → ∃ T', SameR (runE S l) T' ∧ ∀ {tail T n}, Plays T' tail T n → Plays S' (entsE S l ++ tail) T ((entsE S l).length + n) := by
  induction l generalizing S with
  | nil => exact fun {S'} hs => ⟨S', hs, fun h => by simpa [entsE] using h⟩
  | cons o l ih =>
    intro S' hs
    have hf2 := o.fit hf (hg o (by simp))
    obtain ⟨T', h1, h2⟩ := ih hf2 (fun x hx => hg x (by simp [hx])) (hs.after o)
    rw [runE_cons]
    refine ⟨T', h1, fun {tail T n} hp => ?_⟩
    have h3 := h2 hp
    rw [entsE]
    unfold entE
    split
    · rename_i he
      obtain ⟨hsh, hlo, hhi⟩ := Edit.short hf (hg o (by simp)) he
      have he' : o.er S' = 0 := by rw [← hs.er]; exact he
      have hfr : front (o.ent ++ (entsE (o.after S) l ++ tail)) = some (o.kind :: o.fields) := front_entry _ _ _ (by omega)
      have hap : applied S' (o.kind :: o.fields) = (true, o.after S') := by
        unfold applied
        rw [parsed_ent o hsh]
        simp [he']
      have h4 : Plays S' (o.ent ++ (entsE (o.after S) l ++ tail)) T _ := Plays.step hfr hap (by
        have : (o.ent ++ (entsE (o.after S) l ++ tail)).drop ((o.kind :: o.fields).length + 4) = entsE (o.after S) l ++ tail := by
          rw [List.drop_append_of_le_length (by rw [Edit.ent_len, List.length_cons]; omega), List.drop_of_length_le (by rw [Edit.ent_len, List.length_cons]; omega)]
          rfl
        rw [this]
        exact h3)
      rw [List.append_assoc, List.length_append, Edit.ent_len]
      rw [List.length_cons] at h4
      have e : o.fields.length + 1 + 4 + ((entsE (o.after S) l).length + n) = o.fields.length + 5 + (entsE (o.after S) l).length + n := by omega
      rw [e] at h4
      exact h4
    · rename_i he
      have he' : ¬ o.er S' = 0 := by rw [← hs.er]; exact he
      rw [Edit.bad he'] at h3
      simpa using h3
theorem stop_none {S : St} {l : List UInt8} (h : front l = none) : Plays S l S 0 := Plays.stop fun b hb => by rw [h] at hb; cases hb
/-- the greatest number of changes, of the first i, whose entries lie in the first p bytes -/
def lastE (S : St) (l : List Edit) (p : Nat) : Nat → Nat
  | 0 => 0
  | i + 1 => if (entsE S (l.take (i + 1))).length ≤ p then i + 1 else lastE S l p i
theorem lastE_le (S : St) (l : List Edit) (p : Nat) : ∀ i, lastE S l p i ≤ i ∧ (entsE S (l.take (lastE S l p i))).length ≤ p ∧ ∀ k, lastE S l p i < k → k ≤ i → p < (entsE S (l.take k)).length
  | 0 => ⟨Nat.le_refl _, by simp [lastE, entsE], fun k h1 h2 => by omega⟩
  | i + 1 => by
    obtain ⟨h1, h2, h3⟩ := lastE_le S l p i
    unfold lastE
    split
    · rename_i h
      exact ⟨Nat.le_refl _, h, fun k h4 h5 => by omega⟩
    · rename_i h
      refine ⟨by omega, h2, fun k h4 h5 => ?_⟩
      by_cases hk : k = i + 1
      · subst hk; omega
      · exact h3 k h4 (by omega)
/-- the replay of a part of the log -/
theorem play_part {S S' : St} (l : List Edit) (hf : S.Fit) (hg : ∀ o ∈ l, o.Go) (hs : SameR S S') (p : Nat) :
    ∃ T, Plays S' ((entsE S l).take p) T (entsE S (l.take (lastE S l p l.length))).length ∧ SameR (runE S (l.take (lastE S l p l.length))) T := by
  obtain ⟨h1, h2, h3⟩ := lastE_le S l p l.length
  generalize lastE S l p l.length = K at *
  have hgK : ∀ o ∈ l.take K, o.Go := fun o ho => hg o (List.mem_of_mem_take ho)
  obtain ⟨T', h4, h5⟩ := play_run (l.take K) hf hgK hs
  refine ⟨T', ?_, h4⟩
  have hsplit : entsE S l = entsE S (l.take K) ++ entsE (runE S (l.take K)) (l.drop K) := by
    conv => lhs; rw [← List.take_append_drop K l]
    rw [entsE_append]
  obtain ⟨j, hj⟩ : ∃ j, p = (entsE S (l.take K)).length + j := ⟨p - (entsE S (l.take K)).length, by omega⟩
  have hpl := h5 (tail := (entsE (runE S (l.take K)) (l.drop K)).take j) (stop_none ?_)
  · rw [hsplit, hj, List.take_length_add_append]
    exact hpl
  · by_cases hK : K < l.length
    · have h6 := h3 (K + 1) (by omega) (by omega)
      rw [entsE_snoc S l K hK, List.length_append, hj] at h6
      rw [List.drop_eq_getElem_cons hK, entsE]
      have hfK := runE_fit (l.take K) hf hgK
      have hgo := hg l[K] (List.getElem_mem hK)
      unfold entE at h6 ⊢
      split at h6
      · rename_i he
        rw [if_pos he]
        obtain ⟨_, _, hhi⟩ := Edit.short hfK hgo he
        refine front_cut _ _ _ (by omega) j ?_
        rw [Edit.ent_len] at h6
        omega
      · exfalso; simp only [List.length_nil] at h6; omega
    · rw [List.drop_of_length_le (by omega)]
      exact front_short (by simp [entsE])
theorem play_all {S S' : St} (l : List Edit) (hf : S.Fit) (hg : ∀ o ∈ l, o.Go) (hs : SameR S S') : ∃ T, Plays S' (entsE S l) T (entsE S l).length ∧ SameR (runE S l) T := by
  obtain ⟨T', h4, h5⟩ := play_run l hf hg hs
  have := h5 (tail := []) (stop_none (front_short (by simp)))
  simp only [List.append_nil, Nat.add_zero] at this
  exact ⟨T', this, h4⟩
/-- what follows the log -/
theorem play_more {S S' : St} (l : List Edit) (hf : S.Fit) (hg : ∀ o ∈ l, o.Go) (hs : SameR S S') (b : List UInt8) {T : St} {m : Nat} (h : Plays S' (entsE S l ++ b) T m) :
    (entsE S l).length ≤ m ∧ m ≤ (entsE S l).length + b.length ∧ (b.length < 6 → m = (entsE S l).length) ∧ (m = (entsE S l).length → SameR (runE S l) T) := by
  obtain ⟨T', h4, h5⟩ := play_run l hf hg hs
  have ht : ∃ U k, Plays T' b U k := by
    have hx : ∀ (n : Nat) (b : List UInt8) (T : St), b.length ≤ n → ∃ U k, Plays T b U k := by
      intro n
      induction n with
      | zero => exact fun b T hb => ⟨T, 0, stop_none (front_short (by omega))⟩
      | succ n ih =>
        intro b T hb
        cases hfr : front b with
        | none => exact ⟨T, 0, stop_none hfr⟩
        | some x =>
          obtain ⟨res, S2, hX⟩ : ∃ r s, applied T x = (r, s) := ⟨_, _, rfl⟩
          cases res with
          | false => exact ⟨T, 0, Plays.stop fun y hy => by rw [hfr] at hy; cases hy; rw [hX]⟩
          | true =>
            have hl := (front_len hfr).2
            obtain ⟨U, k, hk⟩ := ih (b.drop (x.length + 4)) S2 (by rw [List.length_drop]; omega)
            exact ⟨U, _, Plays.step hfr hX hk⟩
    exact hx b.length b T' (Nat.le_refl _)
  obtain ⟨U, k, hk⟩ := ht
  obtain ⟨rfl, rfl⟩ := (h5 hk).one h
  have hle := hk.le
  refine ⟨by omega, by omega, fun hb => ?_, fun hm => ?_⟩
  · cases hk with
    | stop _ => rfl
    | step h1 h2 h3 =>
      rename_i x S2 n
      have hl := front_len h1
      have : x.length ≤ 1 := by omega
      exfalso
      have hp : parsed x = none := by
        match x, this with
        | [], _ => rfl
        | [y], _ =>
          unfold parsed
          obtain ⟨b1, b2⟩ := rd_byte y [] false
          simp only [b1, b2]
          have e1 : ((Rdr.mk [] false).afterText).bad = true := by decide
          have e2 : ∀ r : Rdr, r.bad = true → (r.after 1).bad = true ∧ (∀ n, (r.after n).bad = true) := fun r h => ⟨by unfold Rdr.after; split <;> simp [h], fun n => by unfold Rdr.after; split <;> simp [h]⟩
          have e3 : ∀ r : Rdr, r.bad = true → r.afterText.bad = true := fun r h => by unfold Rdr.afterText; exact (e2 _ ((e2 r h).2 _)).2 _
          have e4 : ∀ r : Rdr, r.bad = true → r.afterPair.bad = true := fun r h => (e2 r h).2 _
          have e5 : ∀ r : Rdr, r.bad = true → r.afterLong.bad = true := fun r h => e4 _ (e4 _ h)
          generalize (Rdr.mk [] false).afterText = r at *
          have g1 := e3 r e1
          have g2 := (e2 _ (e5 _ (e4 _ g1))).1
          have g3 := e3 _ (e4 _ (e5 _ (e4 _ g1)))
          simp only [e1, g2, g3]
          simp
      unfold applied at h2
      rw [hp] at h2
      cases h2
  · cases hk with
    | stop _ => exact h4
    | step h1 h2 h3 => exfalso; omega
end Go.Proofs.YthbbmpelldglmaaGreatDoor
/- Package subscribers: a store filled with records; what the definition gathers. Plain. -/
namespace Go.Proofs.YthbbmpelldglmaaGreatDoor
set_option linter.unusedVariables false
set_option linter.unusedSimpArgs false
open Go.RowKit

theorem putK_last {α : Type} {key : α → List UInt8} {x : α} : ∀ {l : List α}, (∀ y ∈ l, key y < key x) → putK key x l = l ++ [x]
  | [], _ => rfl
  | z :: r, h => by
    unfold putK
    rw [if_pos (h z (by simp)), putK_last (fun y hy => h y (by simp [hy]))]
    rfl
theorem putH_go {h : HomeR} (hg : h.Go) (ho : h.ok = true) : (Edit.putH h).Go := by
  have := HomeR.ok_len ho
  exact ⟨hg, by simp only [maxLen]; omega, by simp only [maxLen]; omega⟩
theorem putV_go {v : VisitR} (hg : v.Go) (ho : v.ok = true) : (Edit.putV v).Go := by
  have := VisitR.ok_len ho
  exact ⟨hg, by simp only [maxLen]; omega, by simp only [maxLen]; omega, by simp only [maxLen]; omega⟩
theorem er_putH {S : St} {h : HomeR} (ho : h.ok = true) (hc : ¬ clash S h) : (Edit.putH h).er S = 0 := by
  show (if h.ok = false then (1 : Int) else if clash S h then 8 else 0) = 0
  rw [if_neg (by rw [ho]; simp), if_neg hc]
theorem er_putV {S : St} {v : VisitR} (ho : v.ok = true) (hc : ¬ clashV S v) : (Edit.putV v).er S = 0 := by
  show (if v.ok = false then (1 : Int) else if clashV S v then 8 else 0) = 0
  rw [if_neg (by rw [ho]; simp), if_neg hc]
theorem fill_homes : ∀ (b a : List HomeR) (S : St), S.homes = a → (a ++ b).Pairwise (fun x y => x.id < y.id) → (a ++ b).Pairwise (fun x y => x.number ≠ y.number) → (∀ h ∈ b, h.ok = true) →
    (runE S (b.map Edit.putH)).homes = a ++ b ∧ (runE S (b.map Edit.putH)).visits = S.visits ∧ entsE S (b.map Edit.putH) = b.flatMap fun h => entryB 1 h.fields
  | [], a, S, e, _, _, _ => by simp [runE, entsE, e]
  | h :: b, a, S, e, h1, h2, h3 => by
    have hl : ∀ y ∈ a, y.id < h.id := fun y hy => (List.pairwise_append.1 h1).2.2 y hy h (by simp)
    have hn : ∀ y ∈ a, y.number ≠ h.number := fun y hy => (List.pairwise_append.1 h2).2.2 y hy h (by simp)
    have he : (Edit.putH h).er S = 0 := er_putH (h3 h (by simp)) (by rintro ⟨x, hx, e1, _⟩; rw [e] at hx; exact hn x hx e1)
    have ha : (Edit.putH h).after S = putHomeS S h := by rw [Edit.good he]; rfl
    obtain ⟨g1, g2, g3⟩ := fill_homes b (a ++ [h]) (putHomeS S h) (by show putK HomeR.id h S.homes = _; rw [e, putK_last hl]) (by simpa using h1) (by simpa using h2) (fun x hx => h3 x (by simp [hx]))
    rw [List.map_cons, runE_cons, ha, entsE, ha]
    refine ⟨by rw [g1]; simp, g2, ?_⟩
    unfold entE
    rw [if_pos he, g3]
    rfl
theorem fill_visits : ∀ (b a : List VisitR) (S : St), S.visits = a → (a ++ b).Pairwise (fun x y => x.id < y.id) → (roamers (a ++ b)).Pairwise (fun x y => x.roam ≠ y.roam) → (∀ h ∈ b, h.ok = true) →
    (runE S (b.map Edit.putV)).visits = a ++ b ∧ (runE S (b.map Edit.putV)).homes = S.homes ∧ entsE S (b.map Edit.putV) = b.flatMap fun h => entryB 2 h.fields
  | [], a, S, e, _, _, _ => by simp [runE, entsE, e]
  | h :: b, a, S, e, h1, h2, h3 => by
    have hl : ∀ y ∈ a, y.id < h.id := fun y hy => (List.pairwise_append.1 h1).2.2 y hy h (by simp)
    have hr : roamers (a ++ h :: b) = roamers a ++ roamers (h :: b) := by unfold roamers; rw [List.filter_append]
    have hc : ¬ clashV S h := by
      rintro ⟨x, hx, e1, _⟩
      rw [e] at hx
      have hne := (mem_roamers.1 hx).2
      have hm : h ∈ roamers (h :: b) := mem_roamers.2 ⟨by simp, by rw [← e1]; exact hne⟩
      rw [hr] at h2
      exact (List.pairwise_append.1 h2).2.2 x hx h hm e1
    have he : (Edit.putV h).er S = 0 := er_putV (h3 h (by simp)) hc
    have ha : (Edit.putV h).after S = putVisitS S h := by rw [Edit.good he]; rfl
    obtain ⟨g1, g2, g3⟩ := fill_visits b (a ++ [h]) (putVisitS S h) (by show putK VisitR.id h S.visits = _; rw [e, putK_last hl]) (by simpa using h1) (by simpa using h2) (fun x hx => h3 x (by simp [hx]))
    rw [List.map_cons, runE_cons, ha, entsE, ha]
    refine ⟨by rw [g1]; simp, g2, ?_⟩
    unfold entE
    rw [if_pos he, g3]
    rfl
/-- the changes that fill a store with the records of S -/
def fillE (S : St) : List Edit := S.homes.map Edit.putH ++ S.visits.map Edit.putV
def fillLog (S : St) : List UInt8 := (S.homes.flatMap fun h => entryB 1 h.fields) ++ S.visits.flatMap fun v => entryB 2 v.fields
theorem fillE_go {S : St} (h : S.Fit) : ∀ o ∈ fillE S, o.Go := by
  intro o ho
  unfold fillE at ho
  rcases List.mem_append.1 ho with ho | ho
  · obtain ⟨x, hx, rfl⟩ := List.mem_map.1 ho
    exact putH_go (h.hok x hx).2 (h.hok x hx).1
  · obtain ⟨x, hx, rfl⟩ := List.mem_map.1 ho
    exact putV_go (h.vok x hx).2 (h.vok x hx).1
theorem fill_run {S S0 : St} (h : S.Fit) (h1 : S0.homes = []) (h2 : S0.visits = []) : SameR (runE S0 (fillE S)) S ∧ entsE S0 (fillE S) = fillLog S := by
  obtain ⟨a1, a2, a3⟩ := fill_homes S.homes [] S0 h1 (by simpa using h.hs) (by simpa using h.hn) (fun x hx => (h.hok x hx).1)
  obtain ⟨b1, b2, b3⟩ := fill_visits S.visits [] (runE S0 (S.homes.map Edit.putH)) (by rw [a2, h2]) (by simpa using h.vs) (by simpa using h.vr) (fun x hx => (h.vok x hx).1)
  unfold fillE fillLog
  rw [runE_append, entsE_append, a3, b3]
  exact ⟨⟨by rw [b2, a1]; simp, by rw [b1]; simp⟩, rfl⟩

/-- what the definition's loop has gathered -/
def outD {α : Type} (key : α → List UInt8) (x : α) (l : List α) : List α := if (l.any fun m => decide (¬ key m < key x)) = true then putK key x l else l
theorem putK_snoc {α : Type} {key : α → List UInt8} {x m : α} : ∀ {l : List α}, (l ++ [m]).Pairwise (fun a b => key a < key b) → (l.any fun m => decide (¬ key m < key x)) = true → putK key x (l ++ [m]) = putK key x l ++ [m]
  | [], _, h => by simp at h
  | z :: r, hs, h => by
    rw [List.cons_append] at hs
    obtain ⟨h1, h2⟩ := List.pairwise_cons.1 hs
    rw [List.cons_append]
    unfold putK
    by_cases hz : key z < key x
    · rw [if_pos hz, if_pos hz, putK_snoc h2 (by rw [List.any_cons, decide_eq_false (fun h => h hz), Bool.false_or] at h; exact h)]
      rfl
    · rw [if_neg hz, if_neg hz]
      split <;> rfl
theorem outD_snoc {α : Type} {key : α → List UInt8} {x m : α} {l : List α} (hs : (l ++ [m]).Pairwise (fun a b => key a < key b)) :
    outD key x (l ++ [m]) = (if (l.any fun m => decide (¬ key m < key x)) = false ∧ ¬ key m < key x then outD key x l ++ [x] else outD key x l) ++ (if key m = key x then [] else [m]) := by
  have hlm : ∀ y ∈ l, key y < key m := fun y hy => (List.pairwise_append.1 hs).2.2 y hy m (by simp)
  unfold outD
  rw [List.any_append]
  cases hd : (l.any fun m => decide (¬ key m < key x)) with
  | true =>
    obtain ⟨y, hy, hy2⟩ := List.any_eq_true.1 hd
    have hne : ¬ key m = key x := by
      intro e
      have := hlm y hy
      rw [e] at this
      simp [this] at hy2
    rw [if_pos (by simp), if_pos rfl, if_neg (by simp), if_neg hne, putK_snoc hs hd]
  | false =>
    have hall : ∀ y ∈ l, key y < key x := fun y hy => by
      apply Classical.byContradiction
      intro hn
      have : (l.any fun m => decide (¬ key m < key x)) = true := List.any_eq_true.2 ⟨y, hy, by simp [hn]⟩
      rw [hd] at this; cases this
    by_cases hm : key m < key x
    · have hne : ¬ key m = key x := fun e => List.lt_irrefl _ (e ▸ hm)
      have e1 : ([m].any fun m => decide (¬ key m < key x)) = false := by rw [List.any_cons, decide_eq_false (fun h => h hm)]; rfl
      refine (if_neg (by rw [e1]; simp)).trans ?_
      rw [if_neg hne]
      exact congrArg (· ++ [m]) ((if_neg (fun h => h.2 hm)).trans (if_neg (by simp))).symm
    · have e1 : ([m].any fun m => decide (¬ key m < key x)) = true := by rw [List.any_cons, decide_eq_true hm]; rfl
      refine (if_pos (by rw [e1]; simp)).trans ?_
      rw [show (if (false = false ∧ ¬ key m < key x) then (if false = true then putK key x l else l) ++ [x] else (if false = true then putK key x l else l)) = l ++ [x] from (if_pos ⟨rfl, hm⟩).trans (congrArg (· ++ [x]) (if_neg (by simp)))]
      clear hs hlm hd e1
      induction l with
      | nil =>
        simp only [List.nil_append]
        unfold putK
        rw [if_neg hm]
        split <;> rfl
      | cons z r ih =>
        rw [List.cons_append]
        unfold putK
        rw [if_pos (hall z (by simp)), ih (fun y hy => hall y (by simp [hy]))]
        rfl
theorem outD_end {α : Type} {key : α → List UInt8} {x : α} {l : List α} (hd : (l.any fun m => decide (¬ key m < key x)) = false) : outD key x l ++ [x] = putK key x l := by
  unfold outD
  rw [if_neg (by rw [hd]; simp), putK_last]
  intro y hy
  apply Classical.byContradiction
  intro hn
  have : (l.any fun m => decide (¬ key m < key x)) = true := List.any_eq_true.2 ⟨y, hy, by simp [hn]⟩
  rw [hd] at this; cases this
theorem outD_done {α : Type} {key : α → List UInt8} {x : α} {l : List α} (hd : (l.any fun m => decide (¬ key m < key x)) = true) : outD key x l = putK key x l := by
  unfold outD
  rw [if_pos hd]
end Go.Proofs.YthbbmpelldglmaaGreatDoor
/- Law 38: the chapter's example. Plain. -/
namespace Go.Proofs.YthbbmpelldglmaaGreatDoor
set_option linter.unusedVariables false
set_option linter.unusedSimpArgs false
open Go.RowKit

/-- the chapter's example -/
def livH : HomeR := ⟨[50, 54], [52, 57, 49], 5, 258, false, true⟩
def S00 : St := ⟨[], [], [], 0, 0⟩
theorem S00_fit : S00.Fit := ⟨by simp [S00], by simp [S00], by simp [S00], by simp [S00], by simp [S00, roamers], by simp [S00]⟩
theorem liv_ok : livH.ok = true := by decide
theorem liv_go : (Edit.putH livH).Go := putH_go ⟨by decide, by decide⟩ liv_ok
theorem liv_er : (Edit.putH livH).er S00 = 0 := er_putH liv_ok (by rintro ⟨x, hx, _⟩; cases hx)
def livL : List UInt8 := entryB 1 livH.fields
theorem livL_len : livL.length = 19 := by unfold livL; rw [entryB_len]; rfl
theorem livL_take : livL.take 17 = [15, 0, 1, 2, 50, 54, 3, 52, 57, 49, 5, 0, 2, 1, 0, 0, 2] := by
  unfold livL entryB
  rw [List.take_append_of_le_length (by rw [bodyB_len]; decide)]
  decide
theorem liv_after : (Edit.putH livH).after S00 = ⟨[livH], [], livL, 0, 1⟩ := by rw [Edit.good liv_er]; rfl
theorem liv_ents : entsE S00 [Edit.putH livH] = livL := by
  unfold entsE entE entsE
  rw [if_pos liv_er]
  simp only [List.append_nil]
  rfl
theorem liv_all {T : St} {n : Nat} (h : Plays S00 livL T n) : T.homes = [livH] ∧ T.visits = [] ∧ n = 19 := by
  obtain ⟨T', h1, h2⟩ := play_all (S' := S00) [Edit.putH livH] S00_fit (by intro o ho; simp at ho; subst ho; exact liv_go) (SameR.refl _)
  rw [liv_ents] at h1
  obtain ⟨rfl, rfl⟩ := h1.one h
  have h3 : SameR (⟨[livH], [], livL, 0, 1⟩ : St) T' := by rw [← liv_after]; exact h2
  exact ⟨h3.1.symm, h3.2.symm, livL_len⟩
theorem liv_part {T : St} {n : Nat} (h : Plays S00 (livL.take 18) T n) : T.homes = [] ∧ T.visits = [] ∧ n = 0 := by
  have hf : front (livL.take 18) = none := by
    have := front_cut 1 livH.fields [] (by decide) 18 (by decide)
    rwa [List.append_nil] at this
  obtain ⟨rfl, rfl⟩ := (stop_none (S := S00) hf).one h
  exact ⟨rfl, rfl, rfl⟩
end Go.Proofs.YthbbmpelldglmaaGreatDoor
/- Law 38: digits, acts. -/
namespace Go.Proofs.YthbbmpelldglmaaGreatDoor
set_option linter.unusedVariables false
set_option linter.unusedSimpArgs false
open Go.RowKit

/-- the digits of a number that is not 0 -/
def digN : Nat → Nat → List UInt8
  | 0, _ => []
  | f + 1, n => if n = 0 then [] else digN f (n / 10) ++ [UInt8.ofNat (48 + n % 10)]
def digitsB (n : Nat) : List UInt8 := if n = 0 then [48] else digN 3 n

def strLen : Value → Nat
  | .string b => b.size
  | _ => 0
theorem digit_cut : ∀ k : Nat, k < 10 → (⟨#[48, 49, 50, 51, 52, 53, 54, 55, 56, 57]⟩ : ByteArray).extract k (k + 1) = ⟨#[UInt8.ofNat (48 + k)]⟩
  | 0, _ => rfl
  | 1, _ => rfl
  | 2, _ => rfl
  | 3, _ => rfl
  | 4, _ => rfl
  | 5, _ => rfl
  | 6, _ => rfl
  | 7, _ => rfl
  | 8, _ => rfl
  | 9, _ => rfl
theorem digit_put (k : Nat) (h : k < 10) (s : List UInt8) : Value.string ((⟨#[48, 49, 50, 51, 52, 53, 54, 55, 56, 57]⟩ : ByteArray).extract k (k + 1) ++ ⟨s.toArray⟩) = encStr (UInt8.ofNat (48 + k) :: s) := by
  rw [digit_cut k h]
  show Value.string _ = Value.string _
  congr 1
theorem digN_lt : ∀ (f n : Nat), n < 10 ^ f → ∀ k, digN (f + k) n = digN f n
  | 0, n, h, k => by
    obtain rfl : n = 0 := by simpa using h
    cases k <;> simp [digN]
  | f + 1, n, h, k => by
    rw [show f + 1 + k = (f + k) + 1 by omega]
    simp only [digN]
    rw [digN_lt f (n / 10) (by rw [Nat.pow_succ] at h; omega) k]

set_option maxHeartbeats 4000000 in
set_option maxRecDepth 100000 in
theorem digits38_any (N : Nat) (w : World) (hN : N < 256) :
    Calls Tryz.prog 18 #[.int .u8 (N : Int)] w fun e w' => e = .returned (encStr (digitsB N)) ∧ w = w' := by
  go_enter Tryz.func18, Tryz.ntmps18
  go_wp2
  go_loopw [0, 3] (fun nv sv wr => ∃ (n : Nat) (s : List UInt8) (f : Nat), nv = .int .u8 n ∧ n < 256 ∧ sv = encStr s ∧ wr = w ∧ s.length + f ≤ 3 ∧ ((s = [] ∧ n = N ∧ f = 3) ∨ (s ≠ [] ∧ digN f n ++ s = digitsB N ∧ n < 10 ^ f)))
    (fun nv sv _ => 2 * (intOf nv).toNat + (1 - strLen sv))
  case atStart => exact ⟨N, [], 3, rfl, hN, rfl, rfl, Nat.le_refl _, .inl ⟨rfl, rfl, rfl⟩⟩
  case round =>
    obtain ⟨n, s, f, rfl, hn, rfl, rfl, hsl, hr⟩ := hrel
    have HR := Lib.hid hr
    have q2 : ¬ 9223372036854775807 < min (n % 10 + 1) 10 - n % 10 + s.length := by omega
    clear hr
    by_cases h0 : n = 0
    · subst h0
      cases s with
      | nil =>
        go_wp2
        rcases HR.out with ⟨_, rfl, rfl⟩ | ⟨h, _⟩
        · exact ⟨⟨0, [48], 0, rfl, by omega, rfl, trivial, by simp, .inr ⟨by simp, rfl, by simp⟩⟩, by simp [intOf, strLen, encStr]; decide⟩
        · exact absurd rfl h
      | cons x y =>
        go_wp2
        go_ret
        rcases HR.out with ⟨h, _⟩ | ⟨_, h, _⟩
        · cases h
        · have e0 : digN f 0 = [] := by cases f <;> simp [digN]
          rw [e0] at h
          exact ⟨by rw [← h]; rfl, rfl⟩
    · have q1 : (0 : Int) < (n : Int) := by omega
      have H0 := Lib.hid h0
      clear h0
      go_wp2
      rw [digit_put (n % 10) (Nat.mod_lt _ (by decide)) s]
      rcases HR.out with ⟨rfl, rfl, rfl⟩ | ⟨h1, h2, h3⟩
      · refine ⟨⟨n / 10, _, 2, by simp, by omega, rfl, trivial, by simp, .inr ⟨by simp, ?_, by omega⟩⟩, ?_⟩
        · unfold digitsB
          rw [if_neg H0.out]
          have := H0.out
          simp [digN, this]
        · simp [intOf, strLen, encStr]; omega
      · obtain ⟨f', rfl⟩ : ∃ f', f = f' + 1 := ⟨f - 1, by cases f with
          | zero => simp at h3; exact absurd h3 H0.out
          | succ f => simp⟩
        refine ⟨⟨n / 10, _, f', by simp, by omega, rfl, trivial, by simp; omega, .inr ⟨by simp, ?_, by rw [Nat.pow_succ] at h3; omega⟩⟩, ?_⟩
        · rw [← h2]
          have := H0.out
          simp [digN, this]
        · simp [intOf, strLen, encStr]; omega

theorem digits38' (N : Nat) (w : World) (v : Int) (hv : v = (N : Int)) (hN : N < 256) :
    Calls Tryz.prog 18 #[.int .u8 v] w fun e w' => e = .returned (encStr (digitsB N)) ∧ w' = w := by
  subst hv
  exact (digits38_any N w hN).mono fun e w' ⟨h1, h2⟩ => ⟨h1, h2.symm⟩
/-- an act as plain data -/
structure Ac where
  kind : Nat
  id : Nat
  number : Nat
  point : Nat
  flags : Nat
structure Ac.Go (a : Ac) : Prop where
  kind : a.kind < 256
  id : a.id < 256
  number : a.number < 256
  point : a.point < 65536
  flags : a.flags < 256
def Ac.cells (a : Ac) : Array Value := #[.int .u8 a.kind, .int .u8 a.id, .int .u8 a.number, .int .u16 a.point, .int .u8 a.flags]
def Ac.val (a : Ac) : Value := .agg a.cells
def Ac.home (a : Ac) : HomeR := ⟨digitsB (a.id % 8), digitsB (100 + a.number % 8), a.point, a.point * 70000 % 4294967296, decide (a.flags % 2 = 1), decide (a.flags / 2 % 2 = 1)⟩
def Ac.visit (a : Ac) : VisitR := ⟨digitsB (a.id % 8), digitsB (100 + a.number % 8), a.point, a.flags * 16777259, a.flags * 257, if 0 < a.flags % 3 then digitsB (200 + a.number / 8 % 6) else []⟩

set_option maxHeartbeats 4000000 in
set_option maxRecDepth 100000 in
theorem actHome_any (a : Ac) (ha : a.Go) (w : World) :
    Calls Tryz.prog 39 #[a.val] w fun e w' => e = .returned a.home.val ∧ Below w.heap.size w w' := by
  obtain ⟨kind, id, number, point, flags⟩ := a
  obtain ⟨g1, g2, g3, g4, g5⟩ := ha
  unfold Ac.val Ac.cells Ac.home HomeR.val HomeR.cells
  simp only at g1 g2 g3 g4 g5 ⊢
  obtain ⟨mv, hmv⟩ : ∃ m, m = point * 70000 % 4294967296 := ⟨_, rfl⟩
  obtain ⟨ba, hba⟩ : ∃ b, b = decide (flags % 2 = 1) := ⟨_, rfl⟩
  obtain ⟨bw, hbw⟩ : ∃ b, b = decide (flags / 2 % 2 = 1) := ⟨_, rfl⟩
  rw [← hmv, ← hba, ← hbw]
  have w1 : IntKind.u32.wrap (point : Int) = (point : Int) := by simp [IntKind.wrap, IntKind.bits, IntKind.signed]; omega
  have w2 : IntKind.u32.wrap ((point : Int) * 70000) = (mv : Int) := by rw [hmv]; simp [IntKind.wrap, IntKind.bits, IntKind.signed]
  have w3 : IntKind.u8.wrap ((flags : Int) / 2) = (flags : Int) / 2 := by rw [IntKind.wrap_u8]; omega
  have w4 : ((flags : Int) % 2 == 1) = ba := by
    rw [hba, Bool.eq_iff_iff]; simp; omega
  have w5 : ((flags : Int) / 2 % 2 == 1) = bw := by
    rw [hbw, Bool.eq_iff_iff]; simp; omega
  clear hmv hba hbw
  go_enter Tryz.func39, Tryz.ntmps39
  go_wp2
  have oX : ((w.alloc (.cells #[.int .u8 (kind : Int), .int .u8 (id : Int), .int .u8 (number : Int), .int .u16 (point : Int), .int .u8 (flags : Int)] 37)).alloc (.cells #[encStr [], encStr [], .int .u16 0, .int .u32 0, .bool false, .bool false] 52)).heap[w.heap.size]? = some (.cells #[.int .u8 (kind : Int), .int .u8 (id : Int), .int .u8 (number : Int), .int .u16 (point : Int), .int .u8 (flags : Int)] 37) := (Below.heap_alloc _ _ _ (by simp)).trans (heap_alloc_new w _)
  have oY : ((w.alloc (.cells #[.int .u8 (kind : Int), .int .u8 (id : Int), .int .u8 (number : Int), .int .u16 (point : Int), .int .u8 (flags : Int)] 37)).alloc (.cells #[encStr [], encStr [], .int .u16 0, .int .u32 0, .bool false, .bool false] 52)).heap[w.heap.size + 1]? = some (.cells #[encStr [], encStr [], .int .u16 0, .int .u32 0, .bool false, .bool false] 52) := by
    have := heap_alloc_new (w.alloc (.cells #[.int .u8 (kind : Int), .int .u8 (id : Int), .int .u8 (number : Int), .int .u16 (point : Int), .int .u8 (flags : Int)] 37)) (.cells #[encStr [], encStr [], .int .u16 0, .int .u32 0, .bool false, .bool false] 52)
    simpa using this
  have hB : Below w.heap.size w ((w.alloc (.cells #[.int .u8 (kind : Int), .int .u8 (id : Int), .int .u8 (number : Int), .int .u16 (point : Int), .int .u8 (flags : Int)] 37)).alloc (.cells #[encStr [], encStr [], .int .u16 0, .int .u32 0, .bool false, .bool false] 52)) := below_alloc ((Below.refl _ _).alloc (Nat.le_refl _) _) _
  generalize (w.alloc _).alloc _ = W at *
  have k1 : W.cell? ⟨w.heap.size, 1, none⟩ = some (.int .u8 (id : Int)) := cell_of_row _ _ 1 _ _ _ oX
  have k2 : W.cell? ⟨w.heap.size, 2, none⟩ = some (.int .u8 (number : Int)) := cell_of_row _ _ 2 _ _ _ oX
  have k3 : W.cell? ⟨w.heap.size, 3, none⟩ = some (.int .u16 (point : Int)) := cell_of_row _ _ 3 _ _ _ oX
  have k4 : W.cell? ⟨w.heap.size, 4, none⟩ = some (.int .u8 (flags : Int)) := cell_of_row _ _ 4 _ _ _ oX
  have d1 := digits38' (id % 8) W.drew ((id : Int) % 8) (by omega) (by omega)
  have d2 := digits38' (100 + number % 8) W.drew (100 + (number : Int) % 8) (by omega) (by omega)
  refine wp_region_still_tail 25 ?_ ?_ ?_
  · kernel_rfl
  · kernel_rfl
  simp only [List.take_succ_cons, List.take_zero, List.drop_succ_cons, List.drop_zero]
  have t1 : Int.tmod (id : Int) 8 = (id : Int) % 8 := rfl
  have t2 : Int.tmod (number : Int) 8 = (number : Int) % 8 := rfl
  have t3 : IntKind.u8.wrap (100 + (number : Int) % 8) = 100 + (number : Int) % 8 := by rw [IntKind.wrap_u8]; omega
  have t4 : Int.tmod (flags : Int) 2 = (flags : Int) % 2 := rfl
  have t5 : Int.tdiv (flags : Int) 2 = (flags : Int) / 2 := rfl
  have t6 : Int.tmod ((flags : Int) / 2) 2 = (flags : Int) / 2 % 2 := by rw [Int.tmod_eq_emod_of_nonneg (by omega)]
  repeat still_step
  still_call d1
  repeat still_step
  still_call d2
  repeat still_step
  refine wpStill_nil ?_
  change wpList _ _ _ _ _ W.drew
  have HOY := Lib.hid (show W.drew.heap[w.heap.size + 1]? = some (.cells #[encStr [], encStr [], .int .u16 0, .int .u32 0, .bool false, .bool false] 52) from oY)
  have HB := Lib.hid (Below.drew hB)
  clear oX oY k1 k2 k3 k4 d1 d2 hB
  generalize W.drew = W2 at *
  go_wp2_with (first
    | ((with_reducible refine at_store 52 2 rfl ?_)
       refine wpList_store_rowN rfl 52 (.tmp 2) (.tmp 27) rfl (w.heap.size + 1) #[encStr (digitsB (id % 8)), encStr (digitsB (100 + number % 8)), .int .u16 (point : Int), .int .u32 (mv : Int), .bool ba, .bool bw] rfl rfl 52 #[encStr [], encStr [], .int .u16 0, .int .u32 0, .bool false, .bool false] HOY.out infoHome rfl (by simp [Value.oneCell']) ?_
       intro w3 o3 hs3 hg3
       have hB3 := HB.out.grown hg3 HB.out.size (fun j hj => by cases hj; omega)
       have HO3 := Lib.hid o3
       clear o3)
    | fail)
  exact bodyPost_ret (results_cell_row (p := 2) rfl _ _ (w.heap.size + 1) 52 #[encStr (digitsB (id % 8)), encStr (digitsB (100 + number % 8)), .int .u16 (point : Int), .int .u32 (mv : Int), .bool ba, .bool bw] (0, 0) _ rfl HO3.out Tryz.underlying52 rfl infoHome) rfl ⟨rfl, hB3⟩

set_option maxHeartbeats 4000000 in
set_option maxRecDepth 100000 in
theorem actVisit_any (a : Ac) (ha : a.Go) (w : World) :
    Calls Tryz.prog 40 #[a.val] w fun e w' => e = .returned a.visit.val ∧ Below w.heap.size w w' := by
  obtain ⟨kind, id, number, point, flags⟩ := a
  obtain ⟨g1, g2, g3, g4, g5⟩ := ha
  unfold Ac.val Ac.cells Ac.visit VisitR.val VisitR.cells
  simp only at g1 g2 g3 g4 g5 ⊢
  obtain ⟨mv, hmv⟩ : ∃ m, m = flags * 16777259 := ⟨_, rfl⟩
  obtain ⟨ar, har⟩ : ∃ m, m = flags * 257 := ⟨_, rfl⟩
  obtain ⟨roam, hroam⟩ : ∃ r, r = (if 0 < flags % 3 then digitsB (200 + number / 8 % 6) else []) := ⟨_, rfl⟩
  rw [← hmv, ← har, ← hroam]
  have w1 : IntKind.u32.wrap (flags : Int) = (flags : Int) := by simp [IntKind.wrap, IntKind.bits, IntKind.signed]; omega
  have w2 : IntKind.u32.wrap ((flags : Int) * 16777259) = (mv : Int) := by rw [hmv]; simp [IntKind.wrap, IntKind.bits, IntKind.signed]; omega
  have w3 : IntKind.u16.wrap (flags : Int) = (flags : Int) := by rw [wrap_u16]; omega
  have w4 : IntKind.u16.wrap ((flags : Int) * 257) = (ar : Int) := by rw [har, wrap_u16]; omega
  have w5 : IntKind.u8.wrap ((number : Int) / 8) = (number : Int) / 8 := by rw [IntKind.wrap_u8]; omega
  have w6 : IntKind.u8.wrap (200 + (number : Int) / 8 % 6) = 200 + (number : Int) / 8 % 6 := by rw [IntKind.wrap_u8]; omega
  clear hmv har
  go_enter Tryz.func40, Tryz.ntmps40
  go_wp2
  have oX : ((w.alloc (.cells #[.int .u8 (kind : Int), .int .u8 (id : Int), .int .u8 (number : Int), .int .u16 (point : Int), .int .u8 (flags : Int)] 37)).alloc (.cells #[encStr [], encStr [], .int .u16 0, .int .u32 0, .int .u16 0, encStr []] 54)).heap[w.heap.size]? = some (.cells #[.int .u8 (kind : Int), .int .u8 (id : Int), .int .u8 (number : Int), .int .u16 (point : Int), .int .u8 (flags : Int)] 37) := (Below.heap_alloc _ _ _ (by simp)).trans (heap_alloc_new w _)
  have oY : ((w.alloc (.cells #[.int .u8 (kind : Int), .int .u8 (id : Int), .int .u8 (number : Int), .int .u16 (point : Int), .int .u8 (flags : Int)] 37)).alloc (.cells #[encStr [], encStr [], .int .u16 0, .int .u32 0, .int .u16 0, encStr []] 54)).heap[w.heap.size + 1]? = some (.cells #[encStr [], encStr [], .int .u16 0, .int .u32 0, .int .u16 0, encStr []] 54) := heap_alloc2_new _ _ _
  have hB : Below w.heap.size w ((w.alloc (.cells #[.int .u8 (kind : Int), .int .u8 (id : Int), .int .u8 (number : Int), .int .u16 (point : Int), .int .u8 (flags : Int)] 37)).alloc (.cells #[encStr [], encStr [], .int .u16 0, .int .u32 0, .int .u16 0, encStr []] 54)) := below_alloc ((Below.refl _ _).alloc (Nat.le_refl _) _) _
  have hsz : ((w.alloc (.cells #[.int .u8 (kind : Int), .int .u8 (id : Int), .int .u8 (number : Int), .int .u16 (point : Int), .int .u8 (flags : Int)] 37)).alloc (.cells #[encStr [], encStr [], .int .u16 0, .int .u32 0, .int .u16 0, encStr []] 54)).heap.size = w.heap.size + 2 := by simp
  generalize (w.alloc _).alloc _ = W at *
  have hwl : w.heap.size < W.heap.size := by omega
  have hwl1 : w.heap.size + 1 < W.heap.size := by omega
  have k1 : ∀ w' : World, w'.heap[w.heap.size]? = some (.cells #[.int .u8 (kind : Int), .int .u8 (id : Int), .int .u8 (number : Int), .int .u16 (point : Int), .int .u8 (flags : Int)] 37) → w'.cell? ⟨w.heap.size, 1, none⟩ = some (.int .u8 (id : Int)) := fun w' h => cell_of_row _ _ 1 _ _ _ h
  have k2 : ∀ w' : World, w'.heap[w.heap.size]? = some (.cells #[.int .u8 (kind : Int), .int .u8 (id : Int), .int .u8 (number : Int), .int .u16 (point : Int), .int .u8 (flags : Int)] 37) → w'.cell? ⟨w.heap.size, 2, none⟩ = some (.int .u8 (number : Int)) := fun w' h => cell_of_row _ _ 2 _ _ _ h
  have k3 : ∀ w' : World, w'.heap[w.heap.size]? = some (.cells #[.int .u8 (kind : Int), .int .u8 (id : Int), .int .u8 (number : Int), .int .u16 (point : Int), .int .u8 (flags : Int)] 37) → w'.cell? ⟨w.heap.size, 3, none⟩ = some (.int .u16 (point : Int)) := fun w' h => cell_of_row _ _ 3 _ _ _ h
  have k4 : ∀ w' : World, w'.heap[w.heap.size]? = some (.cells #[.int .u8 (kind : Int), .int .u8 (id : Int), .int .u8 (number : Int), .int .u16 (point : Int), .int .u8 (flags : Int)] 37) → w'.cell? ⟨w.heap.size, 4, none⟩ = some (.int .u8 (flags : Int)) := fun w' h => cell_of_row _ _ 4 _ _ _ h
  have d1 := fun w' => digits38' (id % 8) w' ((id : Int) % 8) (by omega) (by omega)
  have d2 := fun w' => digits38' (100 + number % 8) w' (100 + (number : Int) % 8) (by omega) (by omega)
  have t1 : Int.tmod (id : Int) 8 = (id : Int) % 8 := rfl
  have t2 : Int.tmod (number : Int) 8 = (number : Int) % 8 := rfl
  have t3 : IntKind.u8.wrap (100 + (number : Int) % 8) = 100 + (number : Int) % 8 := by rw [IntKind.wrap_u8]; omega
  have D1 := Lib.hid d1
  have D2 := Lib.hid d2
  have HB0 := Lib.hid hB
  have HSZ := Lib.hid hsz
  have HROAM := Lib.hid hroam
  clear d1 d2 hB hsz hroam
  go_cut [3] from 24 (fun s3 wd => s3 = .pointer (some ⟨W.heap.size, 0, none⟩) ∧ Below W.heap.size W wd ∧ wd.heap[W.heap.size]? = some (.cells #[encStr (digitsB (id % 8)), encStr (digitsB (100 + number % 8)), .int .u16 (point : Int), .int .u32 (mv : Int), .int .u16 (ar : Int), encStr []] 54 (0, 0)))
  case first =>
    go_region_held3 (fun w' => w'.heap[w.heap.size]? = some (.cells #[.int .u8 (kind : Int), .int .u8 (id : Int), .int .u8 (number : Int), .int .u16 (point : Int), .int .u8 (flags : Int)] 37))
      (first | exact oX | exact (Below.heap_alloc _ _ _ hwl).trans oX | fail)
      (first
        | (go_at_call 18; (with_reducible refine (D1.out _).mono ?_); rintro e w5 ⟨rfl, rfl⟩)
        | (go_at_call 18; (with_reducible refine (D2.out _).mono ?_); rintro e w5 ⟨rfl, rfl⟩)
        | fail)
    all_goals go_wp2_with fail
    all_goals go_meet
    all_goals exact ⟨rfl, ((Below.refl _ _).alloc (Nat.le_refl _) _).drew, heap_alloc_new W _⟩
  case rest =>
    obtain ⟨rfl, hB2, oV⟩ := hcut
    have oX2 := (hB2.block w.heap.size hwl).trans oX
    have oY2 := (hB2.block (w.heap.size + 1) hwl1).trans oY
    have HB := Lib.hid (HB0.out.trans (hB2.mono HB0.out.size))
    have c4 := k4 wc oX2
    have c2 := k2 wc oX2
    have HOY := Lib.hid oY2
    have d3 := digits38' (200 + number / 8 % 6) wc (200 + (number : Int) / 8 % 6) (by omega) (by omega)
    have t4 : Int.tmod (flags : Int) 3 = (flags : Int) % 3 := rfl
    have t5 : Int.tdiv (number : Int) 8 = (number : Int) / 8 := rfl
    have t6 : Int.tmod ((number : Int) / 8) 6 = (number : Int) / 8 % 6 := by rw [Int.tmod_eq_emod_of_nonneg (by omega)]
    have D3 := Lib.hid d3
    clear k1 k2 k3 k4 oX oY oX2 oY2 hB2 d3
    by_cases hf : 0 < flags % 3
    · have er : roam = digitsB (200 + number / 8 % 6) := by rw [HROAM.out, if_pos hf]
      subst er
      have q1 : (0 : Int) < (flags : Int) % 3 := by omega
      have f5 : wc.frozen? ⟨W.heap.size, 5, none⟩ = false := Go.Joins.unfrozen_of_block oV 5
      have v5o : wc.cell? ⟨W.heap.size, 5, none⟩ = some (encStr []) := cell_of_row _ _ 5 _ _ _ oV
      have oV2 : (wc.setCell ⟨W.heap.size, 5, none⟩ (encStr (digitsB (200 + number / 8 % 6)))).heap[W.heap.size]? = some (.cells #[encStr (digitsB (id % 8)), encStr (digitsB (100 + number % 8)), .int .u16 (point : Int), .int .u32 (mv : Int), .int .u16 (ar : Int), encStr (digitsB (200 + number / 8 % 6))] 54 (0, 0)) := Go.Joins.block_setCell (i := 5) oV _
      have cc : Chg [W.heap.size] wc (wc.setCell ⟨W.heap.size, 5, none⟩ (encStr (digitsB (200 + number / 8 % 6)))) := (Chg.refl _ _).setCell (by simp) _
      have HOY := Lib.hid (cc.heap HOY.out (by simp; omega))
      have HB := Lib.hid (HB.out.trans (cc.below (fun i hi => by simp at hi; omega) HB.out.size))
      have HOV2 := Lib.hid oV2
      clear oV oV2 cc hf
      go_upto_region 4 with (first
        | (go_at_call 18; (with_reducible refine D3.out.mono ?_); rintro e w5 ⟨rfl, h5⟩; obtain rfl := h5.symm)
        | fail)
      clear v5o f5
      have v0 : (wc.setCell ⟨W.heap.size, 5, none⟩ (encStr (digitsB (200 + number / 8 % 6)))).cell? ⟨W.heap.size, 0, none⟩ = some (encStr (digitsB (id % 8))) := cell_of_row _ _ 0 _ _ _ HOV2.out
      have v1 : (wc.setCell ⟨W.heap.size, 5, none⟩ (encStr (digitsB (200 + number / 8 % 6)))).cell? ⟨W.heap.size, 1, none⟩ = some (encStr (digitsB (100 + number % 8))) := cell_of_row _ _ 1 _ _ _ HOV2.out
      have v2 : (wc.setCell ⟨W.heap.size, 5, none⟩ (encStr (digitsB (200 + number / 8 % 6)))).cell? ⟨W.heap.size, 2, none⟩ = some (.int .u16 (point : Int)) := cell_of_row _ _ 2 _ _ _ HOV2.out
      have v3 : (wc.setCell ⟨W.heap.size, 5, none⟩ (encStr (digitsB (200 + number / 8 % 6)))).cell? ⟨W.heap.size, 3, none⟩ = some (.int .u32 (mv : Int)) := cell_of_row _ _ 3 _ _ _ HOV2.out
      have v4 : (wc.setCell ⟨W.heap.size, 5, none⟩ (encStr (digitsB (200 + number / 8 % 6)))).cell? ⟨W.heap.size, 4, none⟩ = some (.int .u16 (ar : Int)) := cell_of_row _ _ 4 _ _ _ HOV2.out
      have v5 : (wc.setCell ⟨W.heap.size, 5, none⟩ (encStr (digitsB (200 + number / 8 % 6)))).cell? ⟨W.heap.size, 5, none⟩ = some (encStr (digitsB (200 + number / 8 % 6))) := cell_of_row _ _ 5 _ _ _ HOV2.out
      generalize wc.setCell ⟨W.heap.size, 5, none⟩ (encStr (digitsB (200 + number / 8 % 6))) = wz at *
      go_wp2_with (first
        | ((with_reducible refine at_store 54 2 rfl ?_)
           refine wpList_store_rowN rfl 54 (.tmp 2) (.tmp 35) rfl (w.heap.size + 1) #[encStr (digitsB (id % 8)), encStr (digitsB (100 + number % 8)), .int .u16 (point : Int), .int .u32 (mv : Int), .int .u16 (ar : Int), encStr (digitsB (200 + number / 8 % 6))] rfl rfl 54 #[encStr [], encStr [], .int .u16 0, .int .u32 0, .int .u16 0, encStr []] HOY.out infoVisit rfl (by simp [Value.oneCell']) ?_
           intro w3 o3 hs3 hg3
           have hB3 := HB.out.grown hg3 HB.out.size (fun j hj => by cases hj; omega)
           have HO3 := Lib.hid o3
           clear o3)
        | fail)
      exact bodyPost_ret (results_cell_row (p := 2) rfl _ _ (w.heap.size + 1) 54 #[encStr (digitsB (id % 8)), encStr (digitsB (100 + number % 8)), .int .u16 (point : Int), .int .u32 (mv : Int), .int .u16 (ar : Int), encStr (digitsB (200 + number / 8 % 6))] (0, 0) _ rfl HO3.out Tryz.underlying54 rfl infoVisit) rfl ⟨rfl, hB3⟩
    · have er : roam = [] := by rw [HROAM.out, if_neg hf]
      subst er
      have q1 : ¬ (0 : Int) < (flags : Int) % 3 := by omega
      have v0 : wc.cell? ⟨W.heap.size, 0, none⟩ = some (encStr (digitsB (id % 8))) := cell_of_row _ _ 0 _ _ _ oV
      have v1 : wc.cell? ⟨W.heap.size, 1, none⟩ = some (encStr (digitsB (100 + number % 8))) := cell_of_row _ _ 1 _ _ _ oV
      have v2 : wc.cell? ⟨W.heap.size, 2, none⟩ = some (.int .u16 (point : Int)) := cell_of_row _ _ 2 _ _ _ oV
      have v3 : wc.cell? ⟨W.heap.size, 3, none⟩ = some (.int .u32 (mv : Int)) := cell_of_row _ _ 3 _ _ _ oV
      have v4 : wc.cell? ⟨W.heap.size, 4, none⟩ = some (.int .u16 (ar : Int)) := cell_of_row _ _ 4 _ _ _ oV
      have v5 : wc.cell? ⟨W.heap.size, 5, none⟩ = some (encStr []) := cell_of_row _ _ 5 _ _ _ oV
      clear oV hf
      go_wp2_with (first
        | ((with_reducible refine at_store 54 2 rfl ?_)
           refine wpList_store_rowN rfl 54 (.tmp 2) (.tmp 35) rfl (w.heap.size + 1) #[encStr (digitsB (id % 8)), encStr (digitsB (100 + number % 8)), .int .u16 (point : Int), .int .u32 (mv : Int), .int .u16 (ar : Int), encStr []] rfl rfl 54 #[encStr [], encStr [], .int .u16 0, .int .u32 0, .int .u16 0, encStr []] HOY.out infoVisit rfl (by simp [Value.oneCell']) ?_
           intro w3 o3 hs3 hg3
           have hB3 := HB.out.grown hg3 HB.out.size (fun j hj => by cases hj; omega)
           have HO3 := Lib.hid o3
           clear o3)
        | fail)
      exact bodyPost_ret (results_cell_row (p := 2) rfl _ _ (w.heap.size + 1) 54 #[encStr (digitsB (id % 8)), encStr (digitsB (100 + number % 8)), .int .u16 (point : Int), .int .u32 (mv : Int), .int .u16 (ar : Int), encStr []] (0, 0) _ rfl HO3.out Tryz.underlying54 rfl infoVisit) rfl ⟨rfl, hB3⟩
end Go.Proofs.YthbbmpelldglmaaGreatDoor
/- Law 38: an act done with a store. -/
namespace Go.Proofs.YthbbmpelldglmaaGreatDoor
set_option linter.unusedVariables false
set_option linter.unusedSimpArgs false
open Go.RowKit

def Ac.edit (a : Ac) : Edit := if a.kind % 4 = 0 then .putH a.home else if a.kind % 4 = 1 then .putV a.visit else if a.kind % 4 = 2 then .dropH (digitsB (a.id % 8)) else .dropV (digitsB (a.id % 8))
theorem digN_len : ∀ f n, (digN f n).length ≤ f
  | 0, n => by simp [digN]
  | f + 1, n => by
    unfold digN
    split
    · simp
    · rw [List.length_append]
      have := digN_len f (n / 10)
      simp
      omega
theorem digitsB_len (n : Nat) : (digitsB n).length ≤ 3 := by
  unfold digitsB
  split
  · simp
  · exact digN_len 3 n
theorem Ac.home_go {a : Ac} (h : a.Go) : (Edit.putH a.home).Go := by
  have h1 := digitsB_len (a.id % 8)
  have h2 := digitsB_len (100 + a.number % 8)
  refine ⟨⟨h.point, Nat.mod_lt _ (by decide)⟩, ?_, ?_⟩ <;> simp only [Ac.home, maxLen] <;> omega
theorem Ac.visit_go {a : Ac} (h : a.Go) : (Edit.putV a.visit).Go := by
  have h1 := digitsB_len (a.id % 8)
  have h2 := digitsB_len (100 + a.number % 8)
  have h3 := digitsB_len (200 + a.number / 8 % 6)
  have h4 := h.flags
  refine ⟨⟨h.point, by simp only [Ac.visit]; omega, by simp only [Ac.visit]; omega⟩, ?_, ?_, ?_⟩
  · simp only [Ac.visit, maxLen]; omega
  · simp only [Ac.visit, maxLen]; omega
  · simp only [Ac.visit, maxLen]; split <;> simp <;> omega
theorem Ac.edit_go {a : Ac} (h : a.Go) : a.edit.Go := by
  have h1 := digitsB_len (a.id % 8)
  have hd : (digitsB (a.id % 8)).length ≤ maxLen := by simp only [maxLen]; omega
  unfold Ac.edit
  split
  · exact a.home_go h
  · split
    · exact a.visit_go h
    · split
      · exact hd
      · exact hd

set_option maxHeartbeats 2000000 in
set_option maxRecDepth 100000 in
theorem do_k0 (a : Ac) (ha : a.Go) (w : World) (g : Nat) (F : List Nat) (S : St) (h : StAt w g F S) (hfit : S.Fit) (hp : S.puts < 4096) (hll : S.log.length ≤ 100000000) (hk : a.kind % 4 = 0) :
    Calls Tryz.prog 10 #[.pointer (some ⟨g, 0, none⟩), a.val] w (Done w g F S a.edit) := by
  have he : a.edit = .putH a.home := by unfold Ac.edit; simp only [hk]; rfl
  have hg := a.home_go ha
  have hh := fun w => actHome_any a ha w
  rw [he]
  generalize a.home = x at *
  obtain ⟨hid, hnum, hat, hmv, hba, hwa⟩ := x
  obtain ⟨hg1, hg2, hg3⟩ := hg
  obtain ⟨kind, id, num, point, flags⟩ := a
  unfold Ac.val Ac.cells at *
  unfold HomeR.val HomeR.cells at hh
  simp only at hh hk ⊢
  have t1 : Int.tmod (kind : Int) 4 = (kind : Int) % 4 := rfl
  have t2 : (kind : Int) % 4 = 0 := by omega
  have b0 := (Below.refl w.heap.size w).alloc (Nat.le_refl _) (.cells #[.int .u8 (kind : Int), .int .u8 (id : Int), .int .u8 (num : Int), .int .u16 (point : Int), .int .u8 (flags : Int)] 37)
  have hput := fun w1 (hb : Below w.heap.size w w1) => putHome_any w1 g F S (h.below hb) hfit hp hll hid hnum hat hmv hba hwa hg1 hg2 hg3
  have HH := Lib.hid hh
  have HP := Lib.hid hput
  have HB0 := Lib.hid b0
  clear hh hput b0 h hfit hk he
  go_enter Tryz.func10, Tryz.ntmps10
  go_wp2_with (first
    | (go_at_call 39; (with_reducible refine (HH.out _).mono ?_); rintro e w1 ⟨rfl, hB1⟩; have hB := below_then HB0.out hB1)
    | (go_at_call 24; (with_reducible refine (HP.out _ hB).mono ?_); rintro e w2 ⟨F2, er, S2, rfl, h2, hc2, hn2, ho2⟩)
    | fail)
  go_ret
  obtain ⟨rfl, rfl⟩ := out_putH ho2
  exact ⟨F2, rfl, h2, (Chg.of_below F hB).then_ hc2, hn2.later hB.size⟩

set_option maxHeartbeats 2000000 in
set_option maxRecDepth 100000 in
theorem do_k1 (a : Ac) (ha : a.Go) (w : World) (g : Nat) (F : List Nat) (S : St) (h : StAt w g F S) (hfit : S.Fit) (hp : S.puts < 4096) (hll : S.log.length ≤ 100000000) (hk : a.kind % 4 = 1) :
    Calls Tryz.prog 10 #[.pointer (some ⟨g, 0, none⟩), a.val] w (Done w g F S a.edit) := by
  have he : a.edit = .putV a.visit := by unfold Ac.edit; simp only [hk]; rfl
  have hg := a.visit_go ha
  have hh := fun w => actVisit_any a ha w
  rw [he]
  generalize a.visit = x at *
  obtain ⟨hid, hnum, hho, hmv, har, hro⟩ := x
  obtain ⟨hg1, hg2, hg3, hg4⟩ := hg
  obtain ⟨kind, id, num, point, flags⟩ := a
  unfold Ac.val Ac.cells at *
  unfold VisitR.val VisitR.cells at hh
  simp only at hh hk ⊢
  have t1 : Int.tmod (kind : Int) 4 = (kind : Int) % 4 := rfl
  have t2 : (kind : Int) % 4 = 1 := by omega
  have b0 := (Below.refl w.heap.size w).alloc (Nat.le_refl _) (.cells #[.int .u8 (kind : Int), .int .u8 (id : Int), .int .u8 (num : Int), .int .u16 (point : Int), .int .u8 (flags : Int)] 37)
  have hput := fun w1 (hb : Below w.heap.size w w1) => putVisit_any w1 g F S (h.below hb) hfit hp hll hid hnum hho hmv har hro hg1 hg2 hg3 hg4
  have HH := Lib.hid hh
  have HP := Lib.hid hput
  have HB0 := Lib.hid b0
  clear hh hput b0 h hfit hk he
  go_enter Tryz.func10, Tryz.ntmps10
  go_wp2_with (first
    | (go_at_call 40; (with_reducible refine (HH.out _).mono ?_); rintro e w1 ⟨rfl, hB1⟩; have hB := below_then HB0.out hB1)
    | (go_at_call 25; (with_reducible refine (HP.out _ hB).mono ?_); rintro e w2 ⟨F2, er, S2, rfl, h2, hc2, hn2, ho2⟩)
    | fail)
  go_ret
  obtain ⟨rfl, rfl⟩ := out_putV ho2
  exact ⟨F2, rfl, h2, (Chg.of_below F hB).then_ hc2, hn2.later hB.size⟩

set_option maxHeartbeats 2000000 in
set_option maxRecDepth 100000 in
theorem do_k2 (a : Ac) (ha : a.Go) (w : World) (g : Nat) (F : List Nat) (S : St) (h : StAt w g F S) (hfit : S.Fit) (hp : S.puts < 4096) (hll : S.log.length ≤ 100000000) (hk : a.kind % 4 = 2) :
    Calls Tryz.prog 10 #[.pointer (some ⟨g, 0, none⟩), a.val] w (Done w g F S a.edit) := by
  have he : a.edit = .dropH (digitsB (a.id % 8)) := by unfold Ac.edit; simp only [hk]; rfl
  rw [he]
  have hid := ha.id
  obtain ⟨kind, id, number, point, flags⟩ := a
  unfold Ac.val Ac.cells at *
  simp only at hk hid ⊢
  have t1 : Int.tmod (kind : Int) 4 = (kind : Int) % 4 := rfl
  have t2 : (kind : Int) % 4 = 2 := by omega
  have t3 : Int.tmod (id : Int) 8 = (id : Int) % 8 := rfl
  have b0 := (Below.refl w.heap.size w).alloc (Nat.le_refl _) (.cells #[.int .u8 (kind : Int), .int .u8 (id : Int), .int .u8 (number : Int), .int .u16 (point : Int), .int .u8 (flags : Int)] 37)
  have d1 := fun w' => digits38' (id % 8) w' ((id : Int) % 8) (by omega) (by omega)
  have hl1 : (digitsB (id % 8)).length ≤ maxLen := by have := digitsB_len (id % 8); simp only [maxLen]; omega
  have hput := fun w1 (hb : Below w.heap.size w w1) => dropHome_any w1 g F S (h.below hb) hfit hll (digitsB (id % 8)) hl1
  generalize digitsB (id % 8) = D at *
  have HD := Lib.hid d1
  have HP := Lib.hid hput
  have HB0 := Lib.hid b0
  clear d1 hput b0 h hfit hk he
  go_enter Tryz.func10, Tryz.ntmps10
  go_wp2_with (first
    | (go_at_call 18; (with_reducible refine (HD.out _).mono ?_); rintro e w1 ⟨rfl, h1⟩; obtain rfl := h1.symm)
    | (go_at_call 35; (with_reducible refine (HP.out _ HB0.out).mono ?_); rintro e w2 ⟨F2, er, S2, rfl, h2, hc2, hn2, ho2⟩)
    | fail)
  go_ret
  obtain ⟨rfl, rfl⟩ := out_dropH ho2
  exact ⟨F2, rfl, h2, (Chg.of_below F HB0.out).then_ hc2, hn2.later HB0.out.size⟩

set_option maxHeartbeats 2000000 in
set_option maxRecDepth 100000 in
theorem do_k3 (a : Ac) (ha : a.Go) (w : World) (g : Nat) (F : List Nat) (S : St) (h : StAt w g F S) (hfit : S.Fit) (hp : S.puts < 4096) (hll : S.log.length ≤ 100000000) (hk : a.kind % 4 = 3) :
    Calls Tryz.prog 10 #[.pointer (some ⟨g, 0, none⟩), a.val] w (Done w g F S a.edit) := by
  have he : a.edit = .dropV (digitsB (a.id % 8)) := by unfold Ac.edit; simp only [hk]; rfl
  rw [he]
  have hid := ha.id
  obtain ⟨kind, id, number, point, flags⟩ := a
  unfold Ac.val Ac.cells at *
  simp only at hk hid ⊢
  have t1 : Int.tmod (kind : Int) 4 = (kind : Int) % 4 := rfl
  have t2 : (kind : Int) % 4 = 3 := by omega
  have t3 : Int.tmod (id : Int) 8 = (id : Int) % 8 := rfl
  have b0 := (Below.refl w.heap.size w).alloc (Nat.le_refl _) (.cells #[.int .u8 (kind : Int), .int .u8 (id : Int), .int .u8 (number : Int), .int .u16 (point : Int), .int .u8 (flags : Int)] 37)
  have d1 := fun w' => digits38' (id % 8) w' ((id : Int) % 8) (by omega) (by omega)
  have hl1 : (digitsB (id % 8)).length ≤ maxLen := by have := digitsB_len (id % 8); simp only [maxLen]; omega
  have hput := fun w1 (hb : Below w.heap.size w w1) => dropVisit_any w1 g F S (h.below hb) hfit hll (digitsB (id % 8)) hl1
  generalize digitsB (id % 8) = D at *
  have HD := Lib.hid d1
  have HP := Lib.hid hput
  have HB0 := Lib.hid b0
  clear d1 hput b0 h hfit hk he
  go_enter Tryz.func10, Tryz.ntmps10
  go_wp2_with (first
    | (go_at_call 18; (with_reducible refine (HD.out _).mono ?_); rintro e w1 ⟨rfl, h1⟩; obtain rfl := h1.symm)
    | (go_at_call 36; (with_reducible refine (HP.out _ HB0.out).mono ?_); rintro e w2 ⟨F2, er, S2, rfl, h2, hc2, hn2, ho2⟩)
    | fail)
  go_ret
  obtain ⟨rfl, rfl⟩ := out_dropV ho2
  exact ⟨F2, rfl, h2, (Chg.of_below F HB0.out).then_ hc2, hn2.later HB0.out.size⟩

/-- 'Do' -/
theorem do_any (a : Ac) (ha : a.Go) (w : World) (g : Nat) (F : List Nat) (S : St) (h : StAt w g F S) (hfit : S.Fit) (hp : S.puts < 4096) (hll : S.log.length ≤ 100000000) :
    Calls Tryz.prog 10 #[.pointer (some ⟨g, 0, none⟩), a.val] w (Done w g F S a.edit) := by
  have h4 : a.kind % 4 = 0 ∨ a.kind % 4 = 1 ∨ a.kind % 4 = 2 ∨ a.kind % 4 = 3 := by omega
  rcases h4 with h4 | h4 | h4 | h4
  · exact do_k0 a ha w g F S h hfit hp hll h4
  · exact do_k1 a ha w g F S h hfit hp hll h4
  · exact do_k2 a ha w g F S h hfit hp hll h4
  · exact do_k3 a ha w g F S h hfit hp hll h4
end Go.Proofs.YthbbmpelldglmaaGreatDoor
/- Law 38: the store behind some acts. Plain. -/
namespace Go.Proofs.YthbbmpelldglmaaGreatDoor
set_option linter.unusedVariables false
set_option linter.unusedSimpArgs false
open Go.RowKit

def eds (l : List Ac) : List Edit := l.map Ac.edit
/-- the store behind the first k acts -/
def Sk (l : List Ac) (k : Nat) : St := runE S00 ((eds l).take k)
theorem eds_go {l : List Ac} (h : ∀ a ∈ l, a.Go) : ∀ o ∈ eds l, o.Go := by
  intro o ho
  obtain ⟨a, ha, rfl⟩ := List.mem_map.1 ho
  exact a.edit_go (h a ha)
theorem eds_take_go {l : List Ac} (h : ∀ a ∈ l, a.Go) (k : Nat) : ∀ o ∈ (eds l).take k, o.Go := fun o ho => eds_go h o (List.mem_of_mem_take ho)
theorem Sk_zero (l : List Ac) : Sk l 0 = S00 := rfl
theorem Sk_succ (l : List Ac) (k : Nat) (h : k < l.length) : Sk l (k + 1) = l[k].edit.after (Sk l k) := by
  unfold Sk
  rw [runE_snoc _ _ _ (by unfold eds; simpa using h)]
  unfold eds
  simp
theorem Sk_fit {l : List Ac} (h : ∀ a ∈ l, a.Go) (k : Nat) : (Sk l k).Fit := runE_fit _ S00_fit (eds_take_go h k)
theorem Sk_puts (l : List Ac) (k : Nat) : (Sk l k).puts ≤ k := by
  have := runE_puts S00 ((eds l).take k)
  have h2 : ((eds l).take k).length ≤ k := by rw [List.length_take]; omega
  have : (Sk l k).puts ≤ 0 + ((eds l).take k).length := this
  omega
theorem Sk_log (l : List Ac) (k : Nat) : (Sk l k).log = entsE S00 ((eds l).take k) := by
  have := runE_log S00 ((eds l).take k)
  rw [show S00.log = [] from rfl, List.nil_append] at this
  exact this
theorem Sk_len {l : List Ac} (h : ∀ a ∈ l, a.Go) (k : Nat) : (Sk l k).log.length ≤ 61 * k := by
  rw [Sk_log]
  have := entsE_len ((eds l).take k) S00_fit (eds_take_go h k)
  have h2 : ((eds l).take k).length ≤ k := by rw [List.length_take]; omega
  omega
theorem Sk_dur (l : List Ac) (k : Nat) : (Sk l k).dur = 0 := runE_dur S00 _
theorem Sk_all (l : List Ac) : Sk l l.length = runE S00 (eds l) := by
  unfold Sk
  rw [List.take_of_length_le (by unfold eds; simp)]
theorem log_all (l : List Ac) : (Sk l l.length).log = entsE S00 (eds l) := by
  rw [Sk_log, List.take_of_length_le (by unfold eds; simp)]
/-- the number of records -/
theorem putK_len {α : Type} (key : α → List UInt8) (x : α) (l : List α) : (putK key x l).length ≤ l.length + 1 := by
  induction l with
  | nil => simp [putK]
  | cons z r ih =>
    unfold putK
    split
    · simp; omega
    · split <;> simp
theorem after_len (o : Edit) (S : St) : (o.after S).homes.length ≤ S.homes.length + 1 ∧ (o.after S).visits.length ≤ S.visits.length + 1 := by
  unfold Edit.after
  split
  · cases o with
    | putH h => exact ⟨putK_len _ _ _, by show S.visits.length ≤ _; omega⟩
    | putV h => exact ⟨by show S.homes.length ≤ _; omega, putK_len _ _ _⟩
    | dropH id => exact ⟨by have := List.length_filter_le (fun h : HomeR => !(h.id == id)) S.homes; show (S.homes.filter _).length ≤ _; omega, by show S.visits.length ≤ _; omega⟩
    | dropV id => exact ⟨by show S.homes.length ≤ _; omega, by have := List.length_filter_le (fun h : VisitR => !(h.id == id)) S.visits; show (S.visits.filter _).length ≤ _; omega⟩
  · omega
theorem runE_lens (S : St) (l : List Edit) : (runE S l).homes.length ≤ S.homes.length + l.length ∧ (runE S l).visits.length ≤ S.visits.length + l.length := by
  induction l generalizing S with
  | nil => simp [runE]
  | cons o l ih =>
    rw [runE_cons]
    have := ih (o.after S)
    have := after_len o S
    rw [List.length_cons]
    omega
theorem Sk_lens (l : List Ac) (k : Nat) : (Sk l k).homes.length ≤ k ∧ (Sk l k).visits.length ≤ k := by
  have := runE_lens S00 ((eds l).take k)
  have h2 : ((eds l).take k).length ≤ k := by rw [List.length_take]; omega
  have e1 : S00.homes.length = 0 := rfl
  have e2 : S00.visits.length = 0 := rfl
  unfold Sk
  omega
end Go.Proofs.YthbbmpelldglmaaGreatDoor
/- Law 38: a store agrees with a model. -/
namespace Go.Proofs.YthbbmpelldglmaaGreatDoor
set_option linter.unusedVariables false
set_option linter.unusedSimpArgs false
open Go.RowKit

def modObj (A1 : Option Addr) (n1 c1 : Nat) (A2 : Option Addr) (n2 c2 : Nat) : Obj := .cells #[.slice A1 n1 c1, .slice A2 n2 c2] 33 (0, 0)
/-- the model at block g: its records, and the blocks they lie in -/
def ModAt (w : World) (g : Nat) (F : List Nat) (H : List HomeR) (V : List VisitR) : Prop :=
  ∃ A1 c1 A2 c2, F = g :: (blk A1 ++ blk A2) ∧ w.heap[g]? = some (modObj A1 H.length c1 A2 V.length c2) ∧ HomeRow w 0 A1 c1 H ∧ VisitRow w 0 A2 c2 V
theorem ModAt.chg {w w' : World} {g : Nat} {F F2 : List Nat} {H : List HomeR} {V : List VisitR} (h : ModAt w g F H V) (hc : Chg F2 w w') (hF : ∀ i ∈ F, i ∉ F2) : ModAt w' g F H V := by
  obtain ⟨A1, c1, A2, c2, rfl, h1, h2, h3⟩ := h
  exact ⟨A1, c1, A2, c2, rfl, hc.heap h1 (hF g (by simp)), Row.chg h2 hc (fun k e => hF k (by simp [mem_blk.2 e])), Row.chg h3 hc (fun k e => hF k (by simp [mem_blk.2 e]))⟩
theorem ModAt.below {w w' : World} {g : Nat} {F : List Nat} {H : List HomeR} {V : List VisitR} (h : ModAt w g F H V) (hb : Below w.heap.size w w') : ModAt w' g F H V := h.chg (Chg.of_below [] hb) (by simp)
theorem ModAt.lt {w : World} {g : Nat} {F : List Nat} {H : List HomeR} {V : List VisitR} (h : ModAt w g F H V) : ∀ i ∈ F, i < w.heap.size := by
  obtain ⟨A1, c1, A2, c2, rfl, h1, h2, h3⟩ := h
  intro i hi
  simp only [List.mem_cons, List.mem_append] at hi
  rcases hi with rfl | hi | hi
  · exact (Array.getElem?_eq_some_iff.1 h1).1
  · exact (Row.blk_lt h2 i hi).2
  · exact (Row.blk_lt h3 i hi).2
/-- the cells of a record in a row -/
theorem flat_get {α : Type} (cs : α → List Value) (n : Nat) (hn : ∀ x, (cs x).length = n) : ∀ (l : List α) (k j : Nat) (hk : k < l.length) (hj : j < n), (l.flatMap cs)[k * n + j]? = (cs l[k])[j]?
  | x :: l, 0, j, hk, hj => by
    rw [List.flatMap_cons, Nat.zero_mul, Nat.zero_add, List.getElem?_append_left (by rw [hn]; exact hj)]
    rfl
  | x :: l, k + 1, j, hk, hj => by
    rw [List.flatMap_cons, List.getElem?_append_right (by rw [hn, Nat.add_mul]; omega), hn]
    rw [show (k + 1) * n + j - n = k * n + j by rw [Nat.add_mul]; omega]
    exact flat_get cs n hn l k j (by simpa using hk) hj
theorem HomeRow.at {w : World} {B g c : Nat} {l : List HomeR} (h : HomeRow w B (some ⟨g, 0, none⟩) c l) {k : Nat} (hk : k < l.length) (j : Nat) (hj : j < 6) : w.cell? ⟨g, k * 6 + j, none⟩ = some (l[k].cells[j]'hj) := by
  refine Row.cell h ?_
  rw [flat_get (fun x : HomeR => x.cells.toList) 6 (fun _ => rfl) l k j hk hj]
  rw [Array.getElem?_toList]
  exact Array.getElem?_eq_getElem hj
theorem VisitRow.at {w : World} {B g c : Nat} {l : List VisitR} (h : VisitRow w B (some ⟨g, 0, none⟩) c l) {k : Nat} (hk : k < l.length) (j : Nat) (hj : j < 6) : w.cell? ⟨g, k * 6 + j, none⟩ = some (l[k].cells[j]'hj) := by
  refine Row.cell h ?_
  rw [flat_get (fun x : VisitR => x.cells.toList) 6 (fun _ => rfl) l k j hk hj]
  rw [Array.getElem?_toList]
  exact Array.getElem?_eq_getElem hj

set_option maxHeartbeats 4000000 in
set_option maxRecDepth 100000 in
theorem agrees_any (w : World) (g gm : Nat) (F FM : List Nat) (S : St) (h : StAt w g F S) (hf : S.Fit) (hp : S.puts ≤ 100000) (hm : ModAt w gm FM S.homes S.visits) (hl1 : S.homes.length ≤ 100000) (hl2 : S.visits.length ≤ 100000) :
    Calls Tryz.prog 17 #[.pointer (some ⟨g, 0, none⟩), .pointer (some ⟨gm, 0, none⟩)] w fun e w' => e = .returned (.bool true) ∧ Below w.heap.size w w' := by
  have hh := storeHomes_any w g F S h hf hp
  have hv := fun w1 (hb : Below w.heap.size w w1) => storeVisits_any w1 g F S (h.below hb) hf hp
  generalize S.homes = H at *
  generalize S.visits = V at *
  obtain ⟨A1, c1, A2, c2, rfl, hmo, hm1, hm2⟩ := hm
  have hgm : gm < w.heap.size := (Array.getElem?_eq_some_iff.1 hmo).1
  have HH := Lib.hid hh
  have HV := Lib.hid hv
  have HMO := Lib.hid hmo
  clear hh hv h hf hmo
  go_enter Tryz.func17, Tryz.ntmps17
  go_wp2_with (first
    | (go_at_call 37; (with_reducible refine HH.out.mono ?_); rintro e w1 ⟨A3, rfl, h3, hB1⟩)
    | (go_at_call 38; (with_reducible refine (HV.out _ hB1).mono ?_); rintro e w2 ⟨A4, rfl, h4, hB2⟩
       have hB := below_then hB1 hB2
       have ho2 := (hB.block gm hgm).trans HMO.out
       have k0 : w2.cell? ⟨gm, 0, none⟩ = some (.slice A1 H.length c1) := Go.Joins.cell_of_block ho2 0
       have k1 : w2.cell? ⟨gm, 1, none⟩ = some (.slice A2 V.length c2) := Go.Joins.cell_of_block ho2 1
       have HO2 := Lib.hid ho2
       clear ho2)
    | fail)
  go_loopw [7] (fun iv wr => ∃ k n : Nat, k ≤ H.length ∧ iv = .int .i64 k ∧ wr = w2.drewN n) (fun iv _ => H.length - (intOf iv).toNat)
  case atStart => exact ⟨0, 0, Nat.zero_le _, rfl, rfl⟩
  case round =>
    obtain ⟨k, n, hk, rfl, rfl⟩ := hrel
    by_cases hlt : k < H.length
    · obtain ⟨g3, rfl, -⟩ := Row.form h3 (by omega)
      obtain ⟨g1, rfl, -⟩ := Row.form hm1 (by omega)
      have x3 := HomeRow.at (show HomeRow w2 _ _ _ _ from Row.below h3 hB2) hlt
      have x1 := HomeRow.at (show HomeRow w2 _ _ _ _ from Row.below hm1 hB) hlt
      generalize H[k] = x at *
      obtain ⟨id, number, at_, move, barred, waiting⟩ := x
      have y0 : w2.cell? ⟨g3, k * 6 + 0, none⟩ = some (encStr id) := x3 0 (by decide)
      have y1 : w2.cell? ⟨g3, k * 6 + 1, none⟩ = some (encStr number) := x3 1 (by decide)
      have y2 : w2.cell? ⟨g3, k * 6 + 2, none⟩ = some (.int .u16 (at_ : Int)) := x3 2 (by decide)
      have y3 : w2.cell? ⟨g3, k * 6 + 3, none⟩ = some (.int .u32 (move : Int)) := x3 3 (by decide)
      have y4 : w2.cell? ⟨g3, k * 6 + 4, none⟩ = some (.bool barred) := x3 4 (by decide)
      have y5 : w2.cell? ⟨g3, k * 6 + 5, none⟩ = some (.bool waiting) := x3 5 (by decide)
      have z0 : w2.cell? ⟨g1, k * 6 + 0, none⟩ = some (encStr id) := x1 0 (by decide)
      have z1 : w2.cell? ⟨g1, k * 6 + 1, none⟩ = some (encStr number) := x1 1 (by decide)
      have z2 : w2.cell? ⟨g1, k * 6 + 2, none⟩ = some (.int .u16 (at_ : Int)) := x1 2 (by decide)
      have z3 : w2.cell? ⟨g1, k * 6 + 3, none⟩ = some (.int .u32 (move : Int)) := x1 3 (by decide)
      have z4 : w2.cell? ⟨g1, k * 6 + 4, none⟩ = some (.bool barred) := x1 4 (by decide)
      have z5 : w2.cell? ⟨g1, k * 6 + 5, none⟩ = some (.bool waiting) := x1 5 (by decide)
      have q1 : (0 : Int) ≤ (k : Int) := by omega
      have q2 : (k : Int) < (H.length : Int) := by omega
      clear x3 x1
      rw [Nat.add_zero] at y0 z0
      go_upto_region 8 with fail
      go_quiet (fail)
      go_wp2_with fail
      go_roundw
      case rel => exact ⟨k + 1, n + nq, by omega, by go_num, rfl⟩
      case measure => simp [intOf]; omega
    · obtain rfl : k = H.length := by omega
      go_wp2_with fail
      go_loopw [8] (fun iv wr => ∃ k n : Nat, k ≤ V.length ∧ iv = .int .i64 k ∧ wr = w2.drewN n) (fun iv _ => V.length - (intOf iv).toNat)
      case atStart => exact ⟨0, n, Nat.zero_le _, rfl, rfl⟩
      case round =>
        obtain ⟨k, n, hk, rfl, rfl⟩ := hrel
        by_cases hlt : k < V.length
        · obtain ⟨g3, rfl, -⟩ := Row.form h4 (by omega)
          obtain ⟨g1, rfl, -⟩ := Row.form hm2 (by omega)
          have x3 := VisitRow.at (show VisitRow w2 _ _ _ _ from h4) hlt
          have x1 := VisitRow.at (show VisitRow w2 _ _ _ _ from Row.below hm2 hB) hlt
          generalize V[k] = x at *
          obtain ⟨id, number, home, move, area, roam⟩ := x
          have y0 : w2.cell? ⟨g3, k * 6 + 0, none⟩ = some (encStr id) := x3 0 (by decide)
          have y1 : w2.cell? ⟨g3, k * 6 + 1, none⟩ = some (encStr number) := x3 1 (by decide)
          have y2 : w2.cell? ⟨g3, k * 6 + 2, none⟩ = some (.int .u16 (home : Int)) := x3 2 (by decide)
          have y3 : w2.cell? ⟨g3, k * 6 + 3, none⟩ = some (.int .u32 (move : Int)) := x3 3 (by decide)
          have y4 : w2.cell? ⟨g3, k * 6 + 4, none⟩ = some (.int .u16 (area : Int)) := x3 4 (by decide)
          have y5 : w2.cell? ⟨g3, k * 6 + 5, none⟩ = some (encStr roam) := x3 5 (by decide)
          have z0 : w2.cell? ⟨g1, k * 6 + 0, none⟩ = some (encStr id) := x1 0 (by decide)
          have z1 : w2.cell? ⟨g1, k * 6 + 1, none⟩ = some (encStr number) := x1 1 (by decide)
          have z2 : w2.cell? ⟨g1, k * 6 + 2, none⟩ = some (.int .u16 (home : Int)) := x1 2 (by decide)
          have z3 : w2.cell? ⟨g1, k * 6 + 3, none⟩ = some (.int .u32 (move : Int)) := x1 3 (by decide)
          have z4 : w2.cell? ⟨g1, k * 6 + 4, none⟩ = some (.int .u16 (area : Int)) := x1 4 (by decide)
          have z5 : w2.cell? ⟨g1, k * 6 + 5, none⟩ = some (encStr roam) := x1 5 (by decide)
          have q1 : (0 : Int) ≤ (k : Int) := by omega
          have q2 : (k : Int) < (V.length : Int) := by omega
          clear x3 x1
          rw [Nat.add_zero] at y0 z0
          go_upto_region 13 with fail
          go_quiet (fail)
          go_wp2_with fail
          go_roundw
          case rel => exact ⟨k + 1, n + nq, by omega, by go_num, rfl⟩
          case measure => simp [intOf]; omega
        · obtain rfl : k = V.length := by omega
          go_wp2_with fail
          go_ret
          exact ⟨rfl, hB.trans ((below_drewN (Below.refl w2.heap.size w2) n).mono hB.size)⟩
end Go.Proofs.YthbbmpelldglmaaGreatDoor
