/- Contents between flags: stuffing, and the scanner as a machine on bits. No program. -/
import Derived.Test.YthbbmpelldglmaaDoorBitsP
namespace Go.Proofs.YthbbmpelldglmaaDoor
set_option linter.unusedVariables false
set_option linter.unusedSimpArgs false
open Go.RowKit

/-- one step of stuffing: the ones so far, and what has been written -/
def stStep (p : Nat × List UInt8) (b : UInt8) : Nat × List UInt8 :=
  let o := if b = 0 then 0 else p.1 + 1
  if o = 5 then (0, p.2 ++ [b] ++ [0]) else (o, p.2 ++ [b])
def stRun (l : List UInt8) : Nat × List UInt8 := l.foldl stStep (0, [])
def stuff (l : List UInt8) : List UInt8 := (stRun l).2
theorem stRun_snoc (l : List UInt8) (k : Nat) (h : k < l.length) : stRun (l.take (k + 1)) = stStep (stRun (l.take k)) l[k] := by
  unfold stRun; rw [List.take_succ_eq_append_getElem h, List.foldl_append]; rfl
theorem stStep_len (p : Nat × List UInt8) (b : UInt8) (h : p.1 < 5) : (stStep p b).1 < 5 ∧ (stStep p b).2.length ≤ p.2.length + 2 := by
  unfold stStep
  simp only
  by_cases hb : b = 0
  · rw [if_pos hb, if_neg (by decide)]; simp
  · rw [if_neg hb]
    by_cases h5 : p.1 + 1 = 5
    · rw [if_pos h5]; simp
    · rw [if_neg h5]; simp; omega
theorem stRun_inv (l : List UInt8) (k : Nat) : (stRun (l.take k)).1 < 5 ∧ (stRun (l.take k)).2.length ≤ 2 * k := by
  induction k with
  | zero => simp [stRun]
  | succ k ih =>
    by_cases h : k < l.length
    · rw [stRun_snoc l k h]
      have := stStep_len (stRun (l.take k)) l[k] ih.1
      omega
    · rw [List.take_of_length_le (by omega)]
      rw [List.take_of_length_le (by omega)] at ih
      omega
theorem stuff_len (l : List UInt8) : (stuff l).length ≤ 2 * l.length := by
  have := (stRun_inv l l.length).2
  rw [List.take_length] at this
  exact this

/-- the scanner: hunting, ones, bits since the flag, those that are kept, contents -/
structure Sc where
  h : Bool
  ones : Nat
  many : Nat
  kept : List UInt8
  found : List (List UInt8)
def longest : Nat := 2247
def Sc.keep (s : Sc) (b : UInt8) : Sc := { s with many := s.many + 1, kept := if s.kept.length < longest then s.kept ++ [b] else s.kept }
def Sc.done (s : Sc) (f : List (List UInt8)) : Sc := { h := false, ones := 0, many := 0, kept := [], found := f }
/-- what the end of a flag finds -/
def Sc.ends (s : Sc) (f : List (List UInt8)) : Prop :=
  ((s.h = true ∨ s.many ≤ 7) ∧ f = s.found) ∨ (s.h = false ∧ ∃ d, s.many = 8 * d.length + 7 ∧ 5 ≤ d.length ∧ d.length ≤ 280 ∧ s.kept.take (8 * d.length) = bitsL d ∧ f = s.found ++ [d])
/-- one bit, where no error is found -/
inductive Step : Sc → UInt8 → Sc → Prop
  | one (s : Sc) (h : s.ones + 1 ≠ 7) : Step s 1 (Sc.keep { s with ones := s.ones + 1 } 1)
  | zero (s : Sc) (h5 : s.ones ≠ 5) (h6 : s.ones ≠ 6) : Step s 0 (Sc.keep { s with ones := 0 } 0)
  | gone (s : Sc) (h5 : s.ones = 5) : Step s 0 { s with ones := 0 }
  | fin (s : Sc) (f : List (List UInt8)) (h6 : s.ones = 6) (h : s.ends f) : Step s 0 (s.done f)
inductive Run : Sc → List UInt8 → Sc → Prop
  | nil (s : Sc) : Run s [] s
  | cons {s t u : Sc} {b : UInt8} {l : List UInt8} (h : Step s b t) (hr : Run t l u) : Run s (b :: l) u
theorem Run.append {s t u : Sc} {a b : List UInt8} (h : Run s a t) (h2 : Run t b u) : Run s (a ++ b) u := by
  induction h with
  | nil => exact h2
  | cons h _ ih => exact Run.cons h (ih h2)
theorem Step.bit {s t : Sc} {b : UInt8} (h : Step s b t) : b.toNat ≤ 1 := by cases h <;> decide
theorem Run.bits {s t : Sc} {l : List UInt8} (h : Run s l t) : ∀ b ∈ l, b.toNat ≤ 1 := by
  induction h with
  | nil => simp
  | cons h _ ih =>
    intro b hb
    rcases List.mem_cons.1 hb with rfl | hb
    · exact h.bit
    · exact ih b hb
theorem Run.part {s u : Sc} {l : List UInt8} (h : Run s l u) : ∀ k, ∃ t, Run s (l.take k) t ∧ Run t (l.drop k) u := by
  induction h with
  | nil s => exact fun k => ⟨s, by simpa using Run.nil s, by simpa using Run.nil s⟩
  | @cons s t u b l h hr ih =>
    intro k
    cases k with
    | zero => exact ⟨s, Run.nil s, Run.cons h hr⟩
    | succ k =>
      obtain ⟨t', h1, h2⟩ := ih k
      exact ⟨t', Run.cons h h1, h2⟩
/-- sizes stay small -/
theorem Step.many {s t : Sc} {b : UInt8} (h : Step s b t) : t.many ≤ s.many + 1 ∧ t.found.length ≤ s.found.length + 1 ∧ t.ones ≤ s.ones + 1 := by
  cases h with
  | one => simp [Sc.keep]
  | zero => simp [Sc.keep]
  | gone => simp
  | fin f h6 h =>
    simp only [Sc.done]
    rcases h with ⟨_, rfl⟩ | ⟨_, d, _, _, _, _, rfl⟩ <;> simp

/-- the flag -/
def flagL : List UInt8 := [0, 1, 1, 1, 1, 1, 1, 0]
def ones6 : List UInt8 := [1, 1, 1, 1, 1, 1]

/-- 'kept' holds the first bits that came since the flag -/
def Holds (s : Sc) (t : List UInt8) : Prop := s.many = t.length ∧ s.kept = t.take longest
theorem Holds.keep {s : Sc} {t : List UInt8} (h : Holds s t) (b : UInt8) : Holds (s.keep b) (t ++ [b]) := by
  obtain ⟨h1, h2⟩ := h
  refine ⟨by simp [Sc.keep, h1], ?_⟩
  simp only [Sc.keep]
  rw [h2, List.length_take]
  by_cases hl : t.length < longest
  · rw [if_pos (by omega), List.take_of_length_le (by omega), List.take_of_length_le (by rw [List.length_append]; simp; omega)]
  · rw [if_neg (by omega), List.take_append_of_le_length (by omega)]

/-- stuffed bits behind a flag: what is kept is the bits themselves -/
theorem run_stuff : ∀ (l : List UInt8) (hb : ∀ b ∈ l, b = 0 ∨ b = 1) (s : Sc) (o : Nat) (t out : List UInt8) (ho : s.ones = o) (ho5 : o < 5) (hh : Holds s t),
    ∃ r, (l.foldl stStep (o, out)).2 = out ++ r ∧ ∃ s', Run s r s' ∧ Holds s' (t ++ l) ∧ s'.ones = (l.foldl stStep (o, out)).1 ∧ s'.ones < 5 ∧ s'.h = s.h ∧ s'.found = s.found := by
  intro l
  induction l with
  | nil => intro hb s o t out ho ho5 hh; exact ⟨[], by simp, s, Run.nil s, by simpa using hh, ho, by omega, rfl, rfl⟩
  | cons b l ih =>
    intro hb s o t out ho ho5 hh
    have hb' : ∀ b ∈ l, b = 0 ∨ b = 1 := fun x hx => hb x (List.mem_cons_of_mem _ hx)
    rcases hb b (List.mem_cons_self ..) with rfl | rfl
    · have h1 := Step.zero s (by omega) (by omega)
      obtain ⟨r, hr, s', hrun, hH, ho', ho5', hh', hf'⟩ := ih hb' _ 0 (t ++ [0]) (out ++ [0]) (show (Sc.keep { s with ones := 0 } 0).ones = 0 from rfl) (by omega) (Holds.keep (s := { s with ones := 0 }) hh 0)
      have e : stStep (o, out) 0 = (0, out ++ [0]) := by simp [stStep]
      refine ⟨0 :: r, by rw [List.foldl_cons, e, hr]; simp, s', Run.cons h1 hrun, by simpa using hH, by rw [List.foldl_cons, e]; exact ho', ho5', hh', hf'⟩
    · have h1 := Step.one s (by omega)
      by_cases h5 : o + 1 = 5
      · have h2 := Step.gone (Sc.keep { s with ones := s.ones + 1 } 1) (show s.ones + 1 = 5 by omega)
        obtain ⟨r, hr, s', hrun, hH, ho', ho5', hh', hf'⟩ := ih hb' _ 0 (t ++ [1]) (out ++ [1] ++ [0]) (show ({ Sc.keep { s with ones := s.ones + 1 } 1 with ones := 0 } : Sc).ones = 0 from rfl) (by omega) (Holds.keep (s := { s with ones := s.ones + 1 }) hh 1)
        have e : stStep (o, out) 1 = (0, out ++ [1] ++ [0]) := by simp [stStep, h5]
        refine ⟨1 :: 0 :: r, by rw [List.foldl_cons, e, hr]; simp, s', Run.cons h1 (Run.cons h2 hrun), by simpa using hH, by rw [List.foldl_cons, e]; exact ho', ho5', hh', hf'⟩
      · obtain ⟨r, hr, s', hrun, hH, ho', ho5', hh', hf'⟩ := ih hb' _ (o + 1) (t ++ [1]) (out ++ [1]) (show (Sc.keep { s with ones := s.ones + 1 } 1).ones = o + 1 by simp [Sc.keep, ho]) (by omega) (Holds.keep (s := { s with ones := s.ones + 1 }) hh 1)
        have e : stStep (o, out) 1 = (o + 1, out ++ [1]) := by simp [stStep, h5]
        refine ⟨1 :: r, by rw [List.foldl_cons, e, hr]; simp, s', Run.cons h1 hrun, by simpa using hH, by rw [List.foldl_cons, e]; exact ho', ho5', hh', hf'⟩

/-- a flag, up to its last bit -/
theorem run_ones (s : Sc) (t : List UInt8) (h : s.ones = 0) (hh : Holds s t) : ∃ s', Run s ones6 s' ∧ Holds s' (t ++ ones6) ∧ s'.ones = 6 ∧ s'.h = s.h ∧ s'.found = s.found := by
  have h1 := Step.one s (by omega)
  have k1 := Holds.keep (s := { s with ones := s.ones + 1 }) hh 1
  generalize hs1 : Sc.keep { s with ones := s.ones + 1 } 1 = s1 at *
  have o1 : s1.ones = 1 := by rw [← hs1]; simp [Sc.keep, h]
  have g1 : s1.h = s.h ∧ s1.found = s.found := by rw [← hs1]; exact ⟨rfl, rfl⟩
  have h2 := Step.one s1 (by omega)
  have k2 := Holds.keep (s := { s1 with ones := s1.ones + 1 }) k1 1
  generalize hs2 : Sc.keep { s1 with ones := s1.ones + 1 } 1 = s2 at *
  have o2 : s2.ones = 2 := by rw [← hs2]; simp [Sc.keep, o1]
  have g2 : s2.h = s1.h ∧ s2.found = s1.found := by rw [← hs2]; exact ⟨rfl, rfl⟩
  have h3 := Step.one s2 (by omega)
  have k3 := Holds.keep (s := { s2 with ones := s2.ones + 1 }) k2 1
  generalize hs3 : Sc.keep { s2 with ones := s2.ones + 1 } 1 = s3 at *
  have o3 : s3.ones = 3 := by rw [← hs3]; simp [Sc.keep, o2]
  have g3 : s3.h = s2.h ∧ s3.found = s2.found := by rw [← hs3]; exact ⟨rfl, rfl⟩
  have h4 := Step.one s3 (by omega)
  have k4 := Holds.keep (s := { s3 with ones := s3.ones + 1 }) k3 1
  generalize hs4 : Sc.keep { s3 with ones := s3.ones + 1 } 1 = s4 at *
  have o4 : s4.ones = 4 := by rw [← hs4]; simp [Sc.keep, o3]
  have g4 : s4.h = s3.h ∧ s4.found = s3.found := by rw [← hs4]; exact ⟨rfl, rfl⟩
  have h5 := Step.one s4 (by omega)
  have k5 := Holds.keep (s := { s4 with ones := s4.ones + 1 }) k4 1
  generalize hs5 : Sc.keep { s4 with ones := s4.ones + 1 } 1 = s5 at *
  have o5 : s5.ones = 5 := by rw [← hs5]; simp [Sc.keep, o4]
  have g5 : s5.h = s4.h ∧ s5.found = s4.found := by rw [← hs5]; exact ⟨rfl, rfl⟩
  have h6 := Step.one s5 (by omega)
  have k6 := Holds.keep (s := { s5 with ones := s5.ones + 1 }) k5 1
  generalize hs6 : Sc.keep { s5 with ones := s5.ones + 1 } 1 = s6 at *
  have o6 : s6.ones = 6 := by rw [← hs6]; simp [Sc.keep, o5]
  have g6 : s6.h = s5.h ∧ s6.found = s5.found := by rw [← hs6]; exact ⟨rfl, rfl⟩
  refine ⟨s6, Run.cons h1 (Run.cons h2 (Run.cons h3 (Run.cons h4 (Run.cons h5 (Run.cons h6 (Run.nil _)))))), by simpa [ones6] using k6, o6, ?_, ?_⟩
  · rw [g6.1, g5.1, g4.1, g3.1, g2.1, g1.1]
  · rw [g6.2, g5.2, g4.2, g3.2, g2.2, g1.2]
theorem flagL_eq : flagL = 0 :: (ones6 ++ [0]) := rfl

theorem bitsL_bit (l : List UInt8) : ∀ b ∈ bitsL l, b = 0 ∨ b = 1 := by
  intro b hb
  unfold bitsL at hb
  obtain ⟨x, _, rfl⟩ := List.mem_map.1 hb
  cases x <;> simp [b2u]

/-- the scanner behind a flag, when 'found' has been found -/
def start (f : List (List UInt8)) : Sc := { h := false, ones := 0, many := 0, kept := [], found := f }
theorem holds_start (f : List (List UInt8)) : Holds (start f) [] := ⟨rfl, rfl⟩

/-- a content and a flag: the content is found -/
theorem run_content (d : List UInt8) (f : List (List UInt8)) (h5 : 5 ≤ d.length) (h280 : d.length ≤ 280) : Run (start f) (stuff (bitsL d) ++ flagL) (start (f ++ [d])) := by
  obtain ⟨r, hr, s1, hrun, hH, ho, ho5, hh, hf⟩ := run_stuff (bitsL d) (bitsL_bit d) (start f) 0 [] [] rfl (by omega) (holds_start f)
  have hr' : stuff (bitsL d) = r := by unfold stuff stRun; rw [hr]; rfl
  rw [hr', flagL_eq]
  refine hrun.append ?_
  have hz := Step.zero s1 (by omega) (by omega)
  have hk := Holds.keep (s := { s1 with ones := 0 }) hH 0
  obtain ⟨s2, hrun2, hH2, ho2, hh2, hf2⟩ := run_ones (Sc.keep { s1 with ones := 0 } 0) _ rfl hk
  refine Run.cons hz (hrun2.append (Run.cons ?_ (Run.nil _)))
  have hlen := bitsL_len d
  refine Step.fin s2 (f ++ [d]) ho2 (.inr ⟨?_, d, ?_, h5, h280, ?_, ?_⟩)
  · rw [hh2]; exact hh
  · rw [hH2.1]; simp [hlen, ones6]
  · rw [hH2.2, List.take_take, Nat.min_eq_left (by unfold longest; omega)]
    simp only [List.nil_append]
    rw [List.append_assoc, List.take_append_of_le_length (by omega), List.take_of_length_le (by omega)]
  · rw [hf2]; exact congrArg (· ++ [d]) hf.symm

/-- the scanner that has read nothing -/
def fresh0 : Sc := { h := true, ones := 0, many := 0, kept := [], found := [] }
/-- the first flag -/
theorem run_first : Run fresh0 flagL (start []) := by
  rw [flagL_eq]
  have hz := Step.zero fresh0 (by decide) (by decide)
  obtain ⟨s2, hrun2, hH2, ho2, hh2, hf2⟩ := run_ones (Sc.keep { fresh0 with ones := 0 } 0) [0] rfl (Holds.keep (s := { fresh0 with ones := 0 }) (t := []) ⟨rfl, rfl⟩ 0)
  refine Run.cons hz (hrun2.append (Run.cons ?_ (Run.nil _)))
  exact Step.fin s2 [] ho2 (.inl ⟨.inl hh2, hf2.symm⟩)
/-- a flag behind a flag -/
theorem run_again (f : List (List UInt8)) : Run (start f) flagL (start f) := by
  rw [flagL_eq]
  have hz := Step.zero (start f) (show (0 : Nat) ≠ 5 by decide) (show (0 : Nat) ≠ 6 by decide)
  obtain ⟨s2, hrun2, hH2, ho2, hh2, hf2⟩ := run_ones (Sc.keep { start f with ones := 0 } 0) [0] rfl (Holds.keep (s := { start f with ones := 0 }) (t := []) (holds_start f) 0)
  refine Run.cons hz (hrun2.append (Run.cons ?_ (Run.nil _)))
  exact Step.fin s2 f ho2 (.inl ⟨.inr (by rw [hH2.1]; decide), hf2.symm⟩)

/-- contents that single flags part -/
def joined (ds : List (List UInt8)) : List UInt8 := ds.foldl (fun a d => a ++ stuff (bitsL d) ++ flagL) flagL
theorem joined_snoc (ds : List (List UInt8)) (k : Nat) (h : k < ds.length) : joined (ds.take (k + 1)) = joined (ds.take k) ++ stuff (bitsL ds[k]) ++ flagL := by
  unfold joined; rw [List.take_succ_eq_append_getElem h, List.foldl_append]; rfl
theorem run_joined (ds : List (List UInt8)) (s : Sc) (f : List (List UInt8)) (h : Run s flagL (start f)) (hd : ∀ d ∈ ds, 5 ≤ d.length ∧ d.length ≤ 280) : ∀ k, k ≤ ds.length → Run s (joined (ds.take k)) (start (f ++ ds.take k)) := by
  intro k
  induction k with
  | zero => intro _; simpa [joined] using h
  | succ k ih =>
    intro hk
    have hlt : k < ds.length := by omega
    rw [joined_snoc ds k hlt, List.take_succ_eq_append_getElem hlt, ← List.append_assoc, List.append_assoc (joined _)]
    have h1 := hd _ (List.getElem_mem hlt)
    exact (ih (by omega)).append (run_content _ _ h1.1 h1.2)
theorem joined_len (ds : List (List UInt8)) (hd : ∀ d ∈ ds, d.length ≤ 280) : ∀ k, k ≤ ds.length → (joined (ds.take k)).length ≤ 8 + 4500 * k := by
  intro k
  induction k with
  | zero => intro _; simp [joined, flagL]
  | succ k ih =>
    intro hk
    have hlt : k < ds.length := by omega
    have h1 := hd _ (List.getElem_mem hlt)
    have h2 := stuff_len (bitsL ds[k])
    have h3 := bitsL_len ds[k]
    have h4 := ih (by omega)
    rw [joined_snoc ds k hlt, List.length_append, List.length_append]
    have : flagL.length = 8 := rfl
    omega
end Go.Proofs.YthbbmpelldglmaaDoor
