/- Slices: made, appended to. -/
import Derived.Test.YtogglamgopmpoaaGreatDoorVmSym2
namespace Go.Vm

section
variable {E : Env} {r : Evs} {e : Operand → Option D} {id : Nat} {σ : St}

theorem op_build0 {t el : TypeId} {it : TypeInfo} {z : List D} (ht : E.P.underlying t = some (.slice el)) (hit : E.P.info? el = some it) (hs : Nat.beq it.size 0 = false) (hz : zero E el = .ok z) (hzl : Nat.beq z.length it.size = true) :
    evOp E r e id σ (.buildSlice t 0 #[]) = .ok (0, .c (.sl true []), σ) := by
  refine pure_ok ?_
  have e1 : Nat.blt 16777216 (0 * it.size) = false := by rw [Nat.zero_mul]; rfl
  simp only [opPure, und, ht, size, hit, Option.map_some, ofO, R.bind, hs, e1, Bool.or_self, cond_false, hz, hzl, Bool.not_true, parts, mapO, fill, repl, rowsFrom]

theorem op_build1 {t el : TypeId} {it : TypeInfo} {z0 : D} {x : Operand} {c : C} (hx : e x = some (.c c)) (ht : E.P.underlying t = some (.slice el)) (hit : E.P.info? el = some it) (hs : it.size = 1) (hz : zero E el = .ok [z0]) :
    evOp E r e id σ (.buildSlice t 1 #[(0, x)]) = .ok (0, .c (.sl true [[c]]), σ) := by
  refine pure_ok ?_
  simp only [opPure, und, ht, size, hit, Option.map_some, ofO, R.bind, hs, hz, parts, mapO, hx]
  rfl

/-- What an append asks for. -/
structure AppOK (E : Env) (st xt : TypeId) (n : Nat) (ys : List (List C)) (k : Nat) : Prop where
  is : ∃ el xel it z, E.P.underlying st = some (.slice el) ∧ E.P.underlying xt = some (.slice xel) ∧ E.P.info? el = some it ∧ it.size = k ∧ zero E el = .ok z ∧ z.length = k ∧ k ≠ 0 ∧
    (∀ y ∈ ys, y.length = k) ∧ n + ys.length < 4611686018427387904 ∧ (n + ys.length) * it.bytes ≤ 140737488355328

theorem op_append {s x : Operand} {st xt : TypeId} {ds dx : D} {xs ys : List (List C)} {k : Nat} {q : Nat × D × St} (hs : e s = some ds) (hx : e x = some dx) (hxs : rowsOf ds = some xs) (hys : rowsOf dx = some ys) (hne : ys ≠ [])
    (h : AppOK E st xt xs.length ys k) (hh : headFits xs k = true) (hq : appendTo σ ds ys k = .ok q) :
    evOp E r e id σ (.call { callee := .builtin .append, args := #[s, x], argTypes := #[st, xt] }) = .ok q := by
  obtain ⟨el, xel, it, z, h1, h2, h3, h4, h5, h6, h7, h8, h9, h10⟩ := h.is
  subst h4
  refine eff_ok rfl rfl ?_
  have hadd : added it.size (.slice xel) dx = .ok ys := by
    have h0 : added it.size (.slice xel) dx = ofO 122 (rowsOf dx) := by
      cases dx with
      | c c => cases c <;> rfl
      | _ => rfl
    rw [h0, hys]; rfl
  have e0 : ys.isEmpty = false := by cases ys with
    | nil => exact absurd rfl hne
    | cons _ _ => rfl
  have e1 : Nat.beq it.size 0 = false := by rw [← Bool.not_eq_true, Nat.beq_eq]; exact h7
  have e2 : Nat.beq z.length it.size = true := by rw [Nat.beq_eq]; exact h6
  have e3 : (ys.all fun r => Nat.beq r.length it.size) = true := by
    rw [List.all_eq_true]
    intro y hy
    rw [Nat.beq_eq]; exact h8 y hy
  have e4 : Nat.blt (xs.length + ys.length) 4611686018427387904 = true := by rw [Nat.blt_eq]; exact h9
  have e5 : Nat.ble ((xs.length + ys.length) * it.bytes) 140737488355328 = true := by rw [Nat.ble_eq]; exact h10
  simp only [opEff, hs, hx, und, h1, h2, size, h3, Option.map_some, ofO, R.bind, h5, hadd, hxs, e0, cond_false, e1, e2, e3, hh, e4, e5, Bool.not_true, Bool.or_self, hq]

theorem op_append_new {s x : Operand} {st xt : TypeId} {f : Bool} {xs ys : List (List C)} {k : Nat} (hs : e s = some (.c (.sl true xs))) (hx : e x = some (.c (.sl f ys))) (hne : ys ≠ [])
    (h : AppOK E st xt xs.length ys k) (hh : headFits xs k = true) :
    evOp E r e id σ (.call { callee := .builtin .append, args := #[s, x], argTypes := #[st, xt] }) = .ok (2, .own σ.tn (xs ++ ys), { σ with tn := σ.tn + 1, tok := σ.tok.set σ.tn (xs.length + ys.length, k) }) :=
  op_append hs hx rfl rfl hne h hh rfl

theorem op_append_own {s x : Operand} {st xt : TypeId} {f : Bool} {t : Nat} {xs ys : List (List C)} {k : Nat} (hs : e s = some (.own t xs)) (hx : e x = some (.c (.sl f ys))) (hne : ys ≠ [])
    (h : AppOK E st xt xs.length ys k) (hh : headFits xs k = true) (ht : σ.tok.get t = some (xs.length, k)) :
    evOp E r e id σ (.call { callee := .builtin .append, args := #[s, x], argTypes := #[st, xt] }) = .ok (2, .own t (xs ++ ys), { σ with tok := σ.tok.set t (xs.length + ys.length, k) }) := by
  refine op_append hs hx rfl rfl hne h hh ?_
  have e1 : tokFits (σ.tok.get t) xs k = true := by
    rw [ht]
    simp [tokFits]
  simp only [appendTo, e1, cond_true]

end

end Go.Vm
