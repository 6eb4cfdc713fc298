/- What the two Splits compute, in plain Lean; what the trimming computes. -/
import Derived.Test.YtogglamgopmpoaaGreatDoorEnv
import Derived.Test.YtogglamgopmpoaaGreatDoorVmWp
namespace Go.Vm
open Go.Proofs

def cutset : List UInt8 := [32, 9, 10, 13]
def trimB (l : List UInt8) : List UInt8 := Lib.trimS l cutset

/-- Where the letters from i on have been split: the statements, and where the last begins. -/
def splitGo (l : List UInt8) : Nat → Nat → Nat → Bool → List (List UInt8) → List (List UInt8) × Nat
  | 0, _, st, _, out => (out, st)
  | rem + 1, i, st, ins, out =>
    if l.getD i 0 = 39 then splitGo l rem (i + 1) st (!ins) out
    else if l.getD i 0 = 59 ∧ ins = false then
      splitGo l rem (i + 1) (i + 1) ins (if trimB ((l.take i).drop st) = [] then out else out ++ [trimB ((l.take i).drop st)])
    else splitGo l rem (i + 1) st ins out

def splitM (l : List UInt8) : List (List UInt8) × List UInt8 :=
  ((splitGo l l.length 0 0 false []).1, trimB (l.drop (splitGo l l.length 0 0 false []).2))

theorem splitGo_bounds (l : List UInt8) : ∀ (rem i st : Nat) (ins : Bool) (out : List (List UInt8)), st ≤ i → out.length ≤ i →
    (splitGo l rem i st ins out).2 ≤ i + rem ∧ (splitGo l rem i st ins out).1.length ≤ i + rem
  | 0, i, st, ins, out, h1, h2 => by simp only [splitGo]; omega
  | rem + 1, i, st, ins, out, h1, h2 => by
    simp only [splitGo]
    split
    · have := splitGo_bounds l rem (i + 1) st (!ins) out (by omega) (by omega); omega
    · split
      · have := splitGo_bounds l rem (i + 1) (i + 1) ins (if trimB ((l.take i).drop st) = [] then out else out ++ [trimB ((l.take i).drop st)]) (by omega) (by split <;> (try simp only [List.length_append, List.length_singleton]) <;> omega); omega
      · have := splitGo_bounds l rem (i + 1) st ins out (by omega) (by omega); omega

/-- What stands in the slot of the statements. -/
def OutOK (d : D) (σ : St) (out : List (List UInt8)) : Prop :=
  (out = [] ∧ d = .c (.sl true [])) ∨ (∃ t, d = .own t (strRows out) ∧ σ.tok.get t = some ((strRows out).length, 1))

theorem extract_data (s : ByteArray) (a b : Nat) : s.extract a b = ⟨((s.data.toList.take b).drop a).toArray⟩ := by
  have : (s.extract a b).data.toList = (s.data.toList.take b).drop a := by
    simp [ByteArray.data_extract, List.drop_take]
  cases h : s.extract a b with
  | mk d =>
    rw [h] at this
    congr 1
    exact Array.ext' (by simpa using this)

theorem get_data (s : ByteArray) (i : Nat) (h : i < s.size) : s[i]? = some (s.data.toList.getD i 0) := by
  have h2 : i < s.data.toList.length := by rw [Array.length_toList]; exact h
  rw [List.getD, List.getElem?_eq_getElem h2, Option.getD_some]
  rw [getElem?_pos s i h]
  rfl

theorem nil_bytes (w : List UInt8) : (!(ByteArray.toList ⟨w.toArray⟩ == ByteArray.toList ⟨#[]⟩)) = (!w.isEmpty) := by
  rw [ByteArray.toList_mk, show (⟨#[]⟩ : ByteArray) = ⟨([] : List UInt8).toArray⟩ from rfl, ByteArray.toList_mk]
  cases w <;> rfl

def cl (c : Code) : Code :=
  match c with
  | .seq x _ => x
  | .cond _ x _ => x
  | .block _ b => b
  | .loop b => b
  | c => c
def cr (c : Code) : Code :=
  match c with
  | .seq _ y => y
  | .cond _ _ y => y
  | c => c
def bodyOf (fn : Func) : Code := match fn.body with | some c => c | none => .skip

/-- A contract's program and numbers. -/
structure Told (E : Env) : Prop where
  P : E.P = Tryz.prog
  trim : E.sum 10 = some trimH

theorem t9 {E : Env} (h : E.P = Tryz.prog) : E.P.underlying 9 = some .string := by rw [h]; exact Tryz.underlying9
theorem t22 {E : Env} (h : E.P = Tryz.prog) : E.P.underlying 22 = some (.slice 9) := by rw [h]; exact Tryz.underlying22
theorem i9 : (Tryz.prog.info? 9).map (fun i => (i.zero, i.size, i.bytes)) = some (some (.string ⟨#[]⟩), 1, 16) := by kernel_rfl

theorem info9 {E : Env} (h : E.P = Tryz.prog) : ∃ it, E.P.info? 9 = some it ∧ it.size = 1 ∧ it.bytes = 16 ∧ zero E 9 = .ok [.c (.str ⟨#[]⟩)] := by
  have h9 := i9
  rw [← h] at h9
  cases hi : E.P.info? 9 with
  | none => rw [hi] at h9; cases h9
  | some it =>
    rw [hi] at h9
    simp only [Option.map_some, Option.some.injEq, Prod.mk.injEq] at h9
    refine ⟨it, rfl, h9.2.1, h9.2.2, ?_⟩
    simp only [zero, hi, ofO, R.bind, h9.1]
    rfl

theorem app_ok {E : Env} (h : E.P = Tryz.prog) (n : Nat) (c : C) (hn : n ≤ 1048576) : AppOK E 22 22 n [[c]] 1 := by
  obtain ⟨it, h1, h2, h3, h4⟩ := info9 h
  refine ⟨9, 9, it, _, t22 h, t22 h, h1, h2, h4, rfl, by decide, ?_, ?_, ?_⟩
  · intro y hy
    rw [List.mem_singleton] at hy
    subst hy; rfl
  · simp only [List.length_singleton]; omega
  · rw [h3]; simp only [List.length_singleton]; omega

theorem heads (out : List (List UInt8)) : headFits (strRows out) 1 = true := by
  cases out <;> rfl

theorem rows_app (out : List (List UInt8)) (w : List UInt8) : strRows out ++ [[.str ⟨w.toArray⟩]] = strRows (out ++ [w]) := by
  simp [strRows]

theorem trim_ok (x : ByteArray) (h : x.size ≤ 1048576) : trimH [.c (.str x), .c (.str ⟨#[32, 9, 10, 13]⟩)] = .ok (.c (.str ⟨(trimB x.data.toList).toArray⟩)) := by
  simp only [trimH]
  rw [if_pos ⟨by omega, by decide, by decide⟩]
  rfl

end Go.Vm
