/- The plain law of QueryJoins: statements of which each is told whole by the splitting, joined by semicolons, are split into what they were. -/
import Derived.Test.YtogglamgopmpoaaGreatDoorPlain
namespace Go.Vm

/-- One letter further: the statement that is open, whether an apostrophe is, the statements. -/
def lstep (p : List UInt8 × Bool × List (List UInt8)) (b : UInt8) : List UInt8 × Bool × List (List UInt8) :=
  if b = 39 then (p.1 ++ [b], !p.2.1, p.2.2)
  else if b = 59 ∧ p.2.1 = false then ([], p.2.1, if trimB p.1 = [] then p.2.2 else p.2.2 ++ [trimB p.1])
  else (p.1 ++ [b], p.2.1, p.2.2)

theorem drop_next (l : List UInt8) (i : Nat) (h : i < l.length) : l.drop i = l.getD i 0 :: l.drop (i + 1) := by
  rw [List.getD, List.getElem?_eq_getElem h, Option.getD_some]
  exact List.drop_eq_getElem_cons h

theorem take_next (l : List UInt8) (i st : Nat) (h : i < l.length) (hs : st ≤ i) : (l.take (i + 1)).drop st = (l.take i).drop st ++ [l.getD i 0] := by
  have e : l.take (i + 1) = l.take i ++ [l.getD i 0] := by
    rw [List.getD, List.getElem?_eq_getElem h, Option.getD_some]
    exact (List.take_append_getElem h).symm
  rw [e, List.drop_append_of_le_length (by rw [List.length_take]; omega)]

theorem splitGo_steps (l : List UInt8) : ∀ (rem i st : Nat) (ins : Bool) (out : List (List UInt8)), i + rem = l.length → st ≤ i →
    (splitGo l rem i st ins out).1 = ((l.drop i).foldl lstep ((l.take i).drop st, ins, out)).2.2 ∧
    l.drop (splitGo l rem i st ins out).2 = ((l.drop i).foldl lstep ((l.take i).drop st, ins, out)).1
  | 0, i, st, ins, out, h1, h2 => by
    have e : l.drop i = [] := List.drop_eq_nil_of_le (by omega)
    rw [e, List.take_of_length_le (by omega)]
    exact ⟨rfl, rfl⟩
  | rem + 1, i, st, ins, out, h1, h2 => by
    have hi : i < l.length := by omega
    rw [drop_next l i hi, List.foldl_cons]
    simp only [splitGo]
    by_cases h39 : l.getD i 0 = 39
    · rw [if_pos h39]
      have := splitGo_steps l rem (i + 1) st (!ins) out (by omega) (by omega)
      rw [take_next l i st hi h2] at this
      rw [show lstep ((l.take i).drop st, ins, out) (l.getD i 0) = ((l.take i).drop st ++ [l.getD i 0], !ins, out) from if_pos h39]
      exact this
    · rw [if_neg h39]
      by_cases h59 : l.getD i 0 = 59 ∧ ins = false
      · rw [if_pos h59]
        have := splitGo_steps l rem (i + 1) (i + 1) ins (if trimB ((l.take i).drop st) = [] then out else out ++ [trimB ((l.take i).drop st)]) (by omega) (by omega)
        rw [show (l.take (i + 1)).drop (i + 1) = [] from List.drop_eq_nil_of_le (by rw [List.length_take]; omega)] at this
        rw [show lstep ((l.take i).drop st, ins, out) (l.getD i 0) = ([], ins, if trimB ((l.take i).drop st) = [] then out else out ++ [trimB ((l.take i).drop st)]) from (if_neg h39).trans (if_pos h59)]
        exact this
      · rw [if_neg h59]
        have := splitGo_steps l rem (i + 1) st ins out (by omega) (by omega)
        rw [take_next l i st hi h2] at this
        rw [show lstep ((l.take i).drop st, ins, out) (l.getD i 0) = ((l.take i).drop st ++ [l.getD i 0], ins, out) from (if_neg h39).trans (if_neg h59)]
        exact this

theorem splitM_steps (l : List UInt8) : splitM l = ((l.foldl lstep ([], false, [])).2.2, trimB (l.foldl lstep ([], false, [])).1) := by
  have := splitGo_steps l l.length 0 0 false [] (by omega) (Nat.le_refl _)
  simp only [List.drop_zero, List.take_zero] at this
  rw [splitM, this.1, this.2]

/-- Whether an apostrophe is open tells the number of apostrophes. -/
theorem steps_ins : ∀ (x : List UInt8) (p : List UInt8 × Bool × List (List UInt8)), (x.foldl lstep p).2.1 = (p.2.1 ^^ decide (x.count 39 % 2 = 1))
  | [], p => by simp
  | b :: x, p => by
    rw [List.foldl_cons, steps_ins x]
    by_cases h : b = 39
    · subst h
      rw [show (lstep p 39).2.1 = !p.2.1 from by simp [lstep], List.count_cons_self]
      rcases Nat.mod_two_eq_zero_or_one (x.count 39) with h0 | h1
      · rw [show decide (x.count 39 % 2 = 1) = false from by simp [h0], show decide ((x.count 39 + 1) % 2 = 1) = true from by rw [decide_eq_true_eq]; omega]
        cases p.2.1 <;> rfl
      · rw [show decide (x.count 39 % 2 = 1) = true from by simp [h1], show decide ((x.count 39 + 1) % 2 = 1) = false from by rw [decide_eq_false_iff_not]; omega]
        cases p.2.1 <;> rfl
    · rw [List.count_cons_of_ne h]
      congr 1
      simp only [lstep, if_neg h]
      split <;> rfl

/-- Statements that were there already stay ahead. -/
theorem steps_ahead (a : List (List UInt8)) : ∀ (x : List UInt8) (c : List UInt8) (i : Bool) (o : List (List UInt8)),
    x.foldl lstep (c, i, a ++ o) = ((x.foldl lstep (c, i, o)).1, (x.foldl lstep (c, i, o)).2.1, a ++ (x.foldl lstep (c, i, o)).2.2)
  | [], c, i, o => rfl
  | b :: x, c, i, o => by
    rw [List.foldl_cons, List.foldl_cons]
    by_cases h39 : b = 39
    · rw [show lstep (c, i, a ++ o) b = (c ++ [b], !i, a ++ o) from if_pos h39, show lstep (c, i, o) b = (c ++ [b], !i, o) from if_pos h39]
      exact steps_ahead a x _ _ _
    · by_cases h59 : b = 59 ∧ i = false
      · rw [show lstep (c, i, a ++ o) b = ([], i, if trimB c = [] then a ++ o else a ++ o ++ [trimB c]) from (if_neg h39).trans (if_pos h59),
          show lstep (c, i, o) b = ([], i, if trimB c = [] then o else o ++ [trimB c]) from (if_neg h39).trans (if_pos h59)]
        rw [show (if trimB c = [] then a ++ o else a ++ o ++ [trimB c]) = a ++ (if trimB c = [] then o else o ++ [trimB c]) from by split <;> simp]
        exact steps_ahead a x _ _ _
      · rw [show lstep (c, i, a ++ o) b = (c ++ [b], i, a ++ o) from (if_neg h39).trans (if_neg h59), show lstep (c, i, o) b = (c ++ [b], i, o) from (if_neg h39).trans (if_neg h59)]
        exact steps_ahead a x _ _ _

/-- A statement that is told whole. -/
def good (x : List UInt8) : Prop := x.count 39 % 2 = 0 ∧ splitM (x ++ [59]) = ([x], [])

theorem good_step (x : List UInt8) (h : good x) (a : List (List UInt8)) : (x ++ [59]).foldl lstep ([], false, a) = ([], false, a ++ [x]) := by
  obtain ⟨h1, h2⟩ := h
  have e := steps_ahead a (x ++ [59]) [] false []
  rw [List.append_nil] at e
  rw [e]
  rw [splitM_steps] at h2
  have hi := steps_ins x ([], false, [])
  rw [show decide (x.count 39 % 2 = 1) = false from by rw [decide_eq_false_iff_not]; omega] at hi
  simp only [Bool.xor_false] at hi
  rw [List.foldl_append, List.foldl_cons, List.foldl_nil] at h2 ⊢
  generalize x.foldl lstep ([], false, []) = r at hi h2 ⊢
  obtain ⟨c, i, o⟩ := r
  simp only at hi
  subst hi
  have es : lstep (c, false, o) 59 = ([], false, if trimB c = [] then o else o ++ [trimB c]) := by simp [lstep]
  rw [es] at h2 ⊢
  simp only [Prod.mk.injEq] at h2
  rw [h2.1]

def joinB (l : List (List UInt8)) : List UInt8 := l.foldl (fun s x => s ++ x ++ [59]) []

theorem joinB_from : ∀ (l : List (List UInt8)) (s : List UInt8), l.foldl (fun s x => s ++ x ++ [59]) s = s ++ joinB l
  | [], s => by simp [joinB]
  | x :: l, s => by
    rw [joinB, List.foldl_cons, List.foldl_cons, joinB_from l, joinB_from l]
    simp

theorem joinB_cons (x : List UInt8) (l : List (List UInt8)) : joinB (x :: l) = (x ++ [59]) ++ joinB l := by
  rw [joinB, List.foldl_cons, joinB_from]; simp

theorem joined_steps : ∀ (xs a : List (List UInt8)), (∀ x ∈ xs, good x) → (joinB xs).foldl lstep ([], false, a) = ([], false, a ++ xs)
  | [], a, _ => by simp [joinB]
  | x :: xs, a, h => by
    rw [joinB_cons, List.foldl_append, good_step x (h x (by simp)), joined_steps xs (a ++ [x]) (fun y hy => h y (by simp [hy]))]
    simp

theorem trim_none : trimB [] = [] := by decide

/-- The plain law. -/
theorem joined_split (xs : List (List UInt8)) (h : ∀ x ∈ xs, good x) : splitM (joinB xs) = (xs, []) := by
  rw [splitM_steps, joined_steps xs [] h, trim_none]
  rfl

/-- How long what is joined is. -/
def bulk : List (List UInt8) → Nat
  | [] => 0
  | x :: l => x.length + 1 + bulk l
theorem joinB_length : ∀ l, (joinB l).length = bulk l
  | [] => rfl
  | x :: l => by rw [joinB_cons, List.length_append, joinB_length l, bulk]; simp

end Go.Vm
