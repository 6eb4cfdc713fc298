/- Regions: the text's order, and every order that the edges let. -/
import Derived.Test.YtogglamgopmpoaaGreatDoorVmCall
namespace Go.Vm
open Go.RowKit (Below)

/-! ## What every answer of an operation keeps -/

def Ends (p : Nat × D × St → Prop) (x : R (Nat × D × St)) : Prop := ∀ q, x = .ok q → p q

theorem Ends.er {p : Nat × D × St → Prop} (n : Nat) : Ends p (.er n) := fun q h => by cases h
theorem Ends.ok {p : Nat × D × St → Prop} {q : Nat × D × St} (h : p q) : Ends p (.ok q) := fun q' h' => by cases h'; exact h
theorem Ends.bind {α : Type} {p : Nat × D × St → Prop} {x : R α} {f : α → R (Nat × D × St)} (h : ∀ a, x = .ok a → Ends p (f a)) : Ends p (x.bind f) := by
  intro q hq
  obtain ⟨a, ha, hf⟩ := R.bind_ok hq
  exact h a ha q hf
theorem Ends.cond {p : Nat × D × St → Prop} {c : Bool} {x y : R (Nat × D × St)} (hx : Ends p x) (hy : Ends p y) : Ends p (bif c then x else y) := by
  cases c
  · exact hy
  · exact hx

section
variable {E : Env} {r : Evs} {e : Operand → Option D} {σ : St}

/-- A call without effect gives the same in every state. -/
def Quiet (f : St → Nat → R (Nat × D × St)) (σ : St) (q : Nat × D × St) : Prop :=
  q.1 = 2 ∨ (q.1 = 0 ∧ q.2.2 = σ ∧ ∀ τ id, f τ id = .ok (0, q.2.1, τ))

theorem evCall_quiet (f : Nat) (args : List D) : Ends (Quiet (fun τ _ => evCall E r f args τ) σ) (evCall E r f args σ) := by
  intro q hq
  unfold evCall at hq
  cases hs : E.sum f with
  | some g =>
    rw [hs] at hq
    obtain ⟨hp, h⟩ := cond_ok hq
    obtain ⟨d, hd, h⟩ := R.bind_ok h
    cases h
    exact .inr ⟨rfl, rfl, fun τ _ => by simp only [evCall, hs, hp, cond_true, hd, R.bind]⟩
  | none =>
    rw [hs] at hq
    cases hx : E.ext f with
    | some g =>
      rw [hx] at hq
      obtain ⟨hp, h⟩ := cond_ok hq
      obtain ⟨d, hd, h⟩ := R.bind_ok h
      cases h
      exact .inr ⟨rfl, rfl, fun τ _ => by simp only [evCall, hs, hx, hp, cond_true, hd, R.bind]⟩
    | none =>
      rw [hx] at hq
      simp only at hq
      cases hp : (args.all plain1 && !E.inl f) with
      | true =>
        rw [hp] at hq
        simp only [cond_true] at hq
        obtain ⟨d, hd, h⟩ := R.bind_ok hq
        obtain ⟨hpl, h⟩ := cond_ok h
        cases h
        exact .inr ⟨rfl, rfl, fun τ _ => by simp only [evCall, hs, hx, hp, cond_true, hd, R.bind, hpl]⟩
      | false =>
        rw [hp] at hq
        simp only [cond_false] at hq
        obtain ⟨d, hd, h⟩ := R.bind_ok hq
        cases h
        exact .inl rfl

theorem opEff_quiet (id : Nat) (o : Op) : Ends (Quiet (fun τ id => opEff E r e id τ o) σ) (opEff E r e id σ o) := by
  have two : ∀ d σ', Quiet (fun τ id => opEff E r e id τ o) σ (2, d, σ') := fun _ _ => .inl rfl
  by_cases hc : ∃ f args tys, o = .call { callee := .value f, args := args, argTypes := tys }
  · obtain ⟨f, args, tys, rfl⟩ := hc
    intro q hq
    simp only [opEff] at hq
    obtain ⟨df, hdf, h⟩ := R.bind_ok hq
    obtain ⟨das, hdas, h⟩ := R.bind_ok h
    cases df with
    | fn ff first cap =>
      simp only at h
      rcases evCall_quiet (E := E) (r := r) (σ := σ) ff (first ++ das ++ cap) q h with h9 | ⟨h1, h2, h3⟩
      · exact .inl h9
      · refine .inr ⟨h1, h2, fun τ id => ?_⟩
        simp only [opEff, hdf, hdas, R.bind]
        exact h3 τ id
    | _ => cases h
  · generalize Quiet (fun τ id => opEff E r e id τ o) σ = p at two ⊢
    unfold opEff
    split <;> try (first
      | exact Ends.er _
      | (exact absurd ⟨_, _, _, rfl⟩ hc))
    all_goals (repeat' (first
      | exact Ends.er _
      | exact Ends.ok (two _ _)
      | refine Ends.bind fun _ _ => ?_
      | refine Ends.cond ?_ ?_
      | (unfold appendTo)
      | split))

theorem evOp_cls {id cls : Nat} {o : Op} {d : D} {σ' : St} (h : evOp E r e id σ o = .ok (cls, d, σ')) :
    cls = 2 ∨ (cls = 0 ∧ σ' = σ ∧ ∀ τ id', evOp E r e id' τ o = .ok (0, d, τ)) ∨
      (cls = 1 ∧ σ' = σ ∧ ∀ τ id', opRead E e τ o = some (.ok d) → evOp E r e id' τ o = .ok (1, d, τ)) := by
  unfold evOp at h
  cases hp : opPure E e o with
  | some x =>
    rw [hp] at h
    obtain ⟨d', hd, h⟩ := R.bind_ok h
    cases h
    subst hd
    exact .inr (.inl ⟨rfl, rfl, fun τ id' => by simp only [evOp, hp, R.bind]⟩)
  | none =>
    rw [hp] at h
    cases hr : opRead E e σ o with
    | some x =>
      rw [hr] at h
      obtain ⟨d', hd, h⟩ := R.bind_ok h
      cases h
      exact .inr (.inr ⟨rfl, rfl, fun τ id' hτ => by simp only [evOp, hp, hτ, R.bind]⟩)
    | none =>
      rw [hr] at h
      simp only at h
      rcases opEff_quiet id o _ h with h9 | ⟨h1, h2, h3⟩
      · exact .inl h9
      · refine .inr (.inl ⟨h1, h2, fun τ id' => ?_⟩)
        have hrn : opRead E e τ o = none := by
          cases o <;> first | rfl | (simp only [opRead] at hr; cases hr)
        simp only [evOp, hp, hrn]
        exact h3 τ id'

theorem evCall_n (hr : CallOK E r) (f : Nat) (args : List D) : Ends (fun q => σ.n ≤ q.2.2.n) (evCall E r f args σ) := by
  unfold evCall
  repeat' (first
    | exact Ends.er _
    | exact Ends.ok (Nat.le_refl _)
    | (refine Ends.bind fun p hp => ?_)
    | refine Ends.cond ?_ ?_
    | split)
  · exact Ends.ok (hr _ _ _ _ _ (show r.call _ _ _ = .ok (_, _) from ‹r.call f args σ = R.ok _›)).2.1

theorem opEff_n (hr : CallOK E r) (id : Nat) (o : Op) : Ends (fun q => σ.n ≤ q.2.2.n) (opEff E r e id σ o) := by
  unfold opEff
  split <;> try exact Ends.er _
  all_goals (repeat' (first
      | exact Ends.er _
      | exact Ends.ok (Nat.le_refl _)
      | exact evCall_n hr _ _
      | refine Ends.bind fun _ _ => ?_
      | refine Ends.cond ?_ ?_
      | (unfold appendTo)
      | split))

theorem evOp_n (hr : CallOK E r) {id cls : Nat} {o : Op} {d : D} {σ' : St} (h : evOp E r e id σ o = .ok (cls, d, σ')) : σ.n ≤ σ'.n := by
  unfold evOp at h
  split at h
  · obtain ⟨d', hd, h⟩ := R.bind_ok h
    cases h; exact Nat.le_refl _
  · split at h
    · obtain ⟨d', hd, h⟩ := R.bind_ok h
      cases h; exact Nat.le_refl _
    · exact opEff_n hr id o _ h

end

/-! ## Guards and slots -/

section
variable {E : Env} {base : Nat} {w0 : World} {S0 : Nat → Nat → Prop} {g : Ghost} {δ : Nat → Option Nat} {σ : St} {w : World}

theorem getD_bool {a : Act} {d : Nat} {b : Bool} (h : a.tmps.getD d undef = .bool b) : a.tmps[d]? = some (.bool b) := by
  rw [Array.getD_eq_getD_getElem?] at h
  cases hd : a.tmps[d]? with
  | none => rw [hd] at h; cases h
  | some v => rw [hd] at h; simp only [Option.getD_some] at h; rw [h]

theorem want_sound {ops : Array Oper} {fa : A} {act : Act} {o : Oper} {b : Bool} (h : want ops fa o = .ok b)
    (hd : ∀ j bb, o.guard = some (j, bb) → ∀ d, (ops[j]?).bind (·.dst) = some d → DRep g w (fa.get d) (act.tmps.getD d undef)) : Region.wanted o (yielded ops act.tmps) = b := by
  unfold want at h
  unfold Region.wanted
  cases hg : o.guard with
  | none => rw [hg] at h; cases h; rfl
  | some p =>
    obtain ⟨j, bb⟩ := p
    rw [hg] at h
    simp only at h
    cases hj : (ops[j]?).bind (·.dst) with
    | none => rw [hj] at h; cases h
    | some d =>
      rw [hj] at h
      simp only at h
      have hdd := hd j bb hg d hj
      split at h
      · rename_i x hx
        cases h
        rw [hx] at hdd
        have := getD_bool (rep_bool hdd)
        simp only [yielded, hj, Option.bind_some, this]
        cases x <;> cases bb <;> rfl
      · rename_i hx
        cases h
        rw [hx] at hdd
        obtain ⟨vs, hv, hr⟩ := rep_tup hdd
        simp only [DReps] at hr
        subst hr
        have : yielded ops act.tmps j = none := by
          simp only [yielded, hj, Option.bind_some]
          cases hd2 : act.tmps[d]? with
          | none => rfl
          | some v =>
            rw [Array.getD_eq_getD_getElem?, hd2] at hv
            simp only [Option.getD_some] at hv
            subst hv; rfl
        simp only [this]
        rfl
      · cases h

theorem A.put_get {a a' : A} {dst : Option Nat} {v : D} (h : a.put dst v = .ok a') : a'.nt = a.nt ∧ (∀ d, dst = some d → d < a.nt ∧ a'.get d = v) ∧ (∀ t, dst ≠ some t → a'.get t = a.get t) := by
  unfold A.put at h
  cases dst with
  | none => cases h; exact ⟨rfl, fun d h => (nomatch h), fun t _ => rfl⟩
  | some d =>
    simp only at h
    obtain ⟨hlt, h⟩ := cond_ok h
    cases h
    rw [Nat.blt_eq] at hlt
    refine ⟨rfl, fun d' h => ?_, fun t ht => ?_⟩
    · cases h
      exact ⟨hlt, by simp only [A.get, Tr.get_set_same, Option.getD_some]⟩
    · simp only [A.get]
      rw [Tr.get_set_other _ _ _ _ (by rintro rfl; exact ht rfl)]

theorem Act.put_getD (act : Act) (dst : Option Nat) (v : Value) (hlt : ∀ d, dst = some d → d < act.tmps.size) :
    (∀ d, dst = some d → (act.put dst v).tmps.getD d undef = v) ∧ (∀ t, dst ≠ some t → (act.put dst v).tmps.getD t undef = act.tmps.getD t undef) ∧
      (act.put dst v).tmps.size = act.tmps.size ∧ (act.put dst v).defers = act.defers := by
  cases dst with
  | none => exact ⟨fun d h => (nomatch h), fun t _ => rfl, rfl, rfl⟩
  | some d =>
    have hd := hlt d rfl
    refine ⟨fun d' h => ?_, fun t ht => ?_, by simp [Act.put], rfl⟩
    · cases h
      simp [Act.put, Array.getD_eq_getD_getElem?, hd]
    · have : d ≠ t := by rintro rfl; exact ht rfl
      simp [Act.put, Array.getD_eq_getD_getElem?, Array.getElem?_setIfInBounds_ne this]

theorem ARel.put {fa fa' : A} {act : Act} {dst : Option Nat} {d : D} {v : Value} (ha : ARel g fa act w) (h : fa.put dst d = .ok fa') (hd : DRep g w d v) : ARel g fa' (act.put dst v) w := by
  obtain ⟨h1, h2, h3⟩ := A.put_get h
  obtain ⟨p1, p2, p3, p4⟩ := Act.put_getD act dst v (fun t ht => by rw [ha.nt]; exact (h2 t ht).1)
  refine ⟨by rw [p3, ha.nt, h1], fun t => ?_, by rw [p4]; exact ha.defers⟩
  by_cases ht : dst = some t
  · rw [p1 t ht, (h2 t ht).2]; exact hd
  · rw [p2 t ht, h3 t ht]; exact ha.tmps t

/-- A region whose order is the text's. -/
theorem seq_sound (hE : EnvOK E) {r : Evs} (hr : CallOK E r) {ops : Array Oper} {Q : Exit → Act → World → Prop} : ∀ (rest : List Oper) (k id : Nat) (fa : A) (σ : St) (tr : List Ent) (fa' : A) (σ' : St),
    evOps E r ops rest id fa σ = .ok (tr, fa', σ') → (∀ j, rest[j]? = ops[k + j]?) → k + rest.length = ops.size →
    ∀ {g δ act w}, SRel E base w0 S0 g δ σ w → ARel g fa act w → (∀ i, id ≤ i → g.β i = none ∨ id + rest.length ≤ i) → id + rest.length ≤ σ.n →
      (∀ g' δ' act' w', Le g g' w w' → SRel E base w0 S0 g' δ' σ' w' → ARel g' fa' act' w' → (∀ b, b < id → g'.β b = g.β b) → Q .normal act' w') →
      wpOps E.P ops Q (List.range' k rest.length) act w
  | [], k, id, fa, σ, tr, fa', σ', h, _, _, g, δ, act, w, hs, ha, _, _, hQ => by
    simp only [evOps] at h
    cases h
    exact hQ g δ act w (Le.refl _ _) hs ha (fun _ _ => rfl)
  | o :: rest, k, id, fa, σ, tr, fa', σ', h, hget, hlen, g, δ, act, w, hs, ha, hid, hn, hQ => by
    simp only [evOps] at h
    obtain ⟨b, hw, h⟩ := R.bind_ok h
    have ho : ops[k]? = some o := by have := hget 0; simpa using this.symm
    have hget' : ∀ j, rest[j]? = ops[k + 1 + j]? := fun j => by have := hget (j + 1); simpa [Nat.add_assoc, Nat.add_comm 1 j] using this
    have hwant := want_sound (g := g) (w := w) hw (fun j bb _ d _ => ha.tmps d)
    rw [List.length_cons, List.range'_succ]
    simp only [wpOps, ho, hwant]
    simp only [List.length_cons] at hn hlen hid
    cases b with
    | false =>
      simp only at h
      obtain ⟨fa1, hput, h⟩ := R.bind_ok h
      obtain ⟨⟨tr1, fa2, σ2⟩, hp, h⟩ := R.bind_ok h
      cases h
      simp only [Bool.false_eq_true, if_false]
      exact seq_sound hE hr rest (k + 1) (id + 1) fa1 σ tr1 _ _ hp hget' (by omega) hs (ha.put hput undef_rep) (fun i hi => (hid i (by omega)).imp (fun h => h) (by omega)) (by omega)
        (fun g' δ' act' w' q1 q2 q3 q4 => hQ g' δ' act' w' q1 q2 q3 (fun b hb => q4 b (by omega)))
    | true =>
      simp only at h
      obtain ⟨q, hq, h⟩ := R.bind_ok h
      obtain ⟨fa1, hput, h⟩ := R.bind_ok h
      obtain ⟨⟨tr1, fa2, σ2⟩, hp, h⟩ := R.bind_ok h
      cases h
      obtain ⟨cls, d, σ1⟩ := q
      simp only [if_true]
      left
      have hn1 := evOp_n hr hq
      refine op_sound hE hr hs hq (fun x _ d hd => hs.opnd ha x d hd) ((hid id (Nat.le_refl _)).resolve_right (by omega)) (by omega) ?_
      intro v g1 δ1 w1 hle hs1 hd1 hβ
      simp only at hp hput
      refine seq_sound hE hr rest (k + 1) (id + 1) fa1 σ1 tr1 _ _ hp hget' (by omega) hs1 ((ha.mono hle).put hput hd1) (fun i hi => ?_) (by omega)
        (fun g' δ' act' w' q1 q2 q3 q4 => hQ g' δ' act' w' (hle.trans q1) q2 q3 (fun b hb => (q4 b (by omega)).trans (hβ b (by omega) (by omega))))
      rcases hid i (by omega) with h9 | h9
      · by_cases h8 : i < σ.n
        · left; rw [hβ i h8 (by omega)]; exact h9
        · right; omega
      · right; omega

end

end Go.Vm
