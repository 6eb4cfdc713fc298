/- A region whose order is open comes to what the text's order comes to. -/
import Derived.Test.YtogglamgopmpoaaGreatDoorVmDraw
namespace Go.Vm
open Go.RowKit (Below)

mutual
theorem sameC_eq : ∀ (a b : C), sameC a b = true → a = b
  | .bool a, b, h => by cases b <;> simp_all [sameC]
  | .int k a, b, h => by cases b <;> simp_all [sameC]
  | .float k a, b, h => by cases b <;> simp_all [sameC]
  | .str a, b, h => by
    cases b <;> simp only [sameC, Bool.false_eq_true] at h
    rename_i b
    have : a.data.toList = b.data.toList := by simpa using h
    have h2 : a.data = b.data := Array.ext' this
    cases a; cases b; simp only at h2; subst h2; rfl
  | .sl f xs, b, h => by
    cases b <;> simp only [sameC, Bool.false_eq_true] at h
    simp only [Bool.and_eq_true, beq_iff_eq] at h
    rw [h.1, sameRows_eq _ _ h.2]
  | .rp xs i o, b, h => by
    cases b <;> simp only [sameC, Bool.false_eq_true] at h
    simp only [Bool.and_eq_true, Nat.beq_eq] at h
    rw [h.1.1, h.1.2, sameRows_eq _ _ h.2]
  | .nilp, b, h => by cases b <;> simp_all [sameC]
  | .nili, b, h => by cases b <;> simp_all [sameC]
  | .nilf, b, h => by cases b <;> simp_all [sameC]
  | .nilm, b, h => by cases b <;> simp_all [sameC]
theorem sameRow_eq : ∀ (a b : List C), sameRow a b = true → a = b
  | [], b, h => by cases b <;> simp_all [sameRow]
  | a :: as, b, h => by
    cases b with
    | nil => simp [sameRow] at h
    | cons b bs =>
      simp only [sameRow, Bool.and_eq_true] at h
      rw [sameC_eq a b h.1, sameRow_eq as bs h.2]
theorem sameRows_eq : ∀ (a b : List (List C)), sameRows a b = true → a = b
  | [], b, h => by cases b <;> simp_all [sameRows]
  | a :: as, b, h => by
    cases b with
    | nil => simp [sameRows] at h
    | cons b bs =>
      simp only [sameRows, Bool.and_eq_true] at h
      rw [sameRow_eq a b h.1, sameRows_eq as bs h.2]
end

mutual
theorem sameD_eq : ∀ (a b : D), sameD a b = true → a = b
  | .c a, b, h => by
    cases b <;> simp only [sameD, Bool.false_eq_true] at h
    rw [sameC_eq _ _ h]
  | .own t xs, b, h => by
    cases b <;> simp only [sameD, Bool.false_eq_true] at h
    simp only [Bool.and_eq_true, Nat.beq_eq] at h
    rw [h.1, sameRows_eq _ _ h.2]
  | .ptr b o, c, h => by
    cases c <;> simp only [sameD, Bool.false_eq_true] at h
    simp only [Bool.and_eq_true, Nat.beq_eq] at h
    rw [h.1, h.2]
  | .fn f as cs, b, h => by
    cases b <;> simp only [sameD, Bool.false_eq_true] at h
    simp only [Bool.and_eq_true, Nat.beq_eq] at h
    rw [h.1.1, sameL_eq _ _ h.1.2, sameL_eq _ _ h.2]
  | .map a, b, h => by
    cases b <;> simp only [sameD, Bool.false_eq_true] at h
    rw [Nat.beq_eq] at h
    rw [h]
  | .agg as, b, h => by
    cases b <;> simp only [sameD, Bool.false_eq_true] at h
    rw [sameL_eq _ _ h]
  | .tup as, b, h => by
    cases b <;> simp only [sameD, Bool.false_eq_true] at h
    rw [sameL_eq _ _ h]
theorem sameL_eq : ∀ (a b : List D), sameL a b = true → a = b
  | [], b, h => by cases b <;> simp_all [sameL]
  | a :: as, b, h => by
    cases b with
    | nil => simp [sameL] at h
    | cons b bs =>
      simp only [sameL, Bool.and_eq_true] at h
      rw [sameD_eq a b h.1, sameL_eq as bs h.2]
end

section
variable {E : Env} {base : Nat} {w0 : World} {S0 : Nat → Nat → Prop} {r : Evs} {ops : Array Oper}

theorem static_edge (h : drawStatic ops = true) {j : Nat} {y : Oper} (hy : ops[j]? = some y) : ∀ e ∈ y.after.toList, Region.binds .any e = true → e.on < j := by
  have hj : j < ops.size := (Array.getElem?_eq_some_iff.1 hy).1
  have := downTo_spec h j hj
  simp only [hy, Bool.and_eq_true] at this
  intro e he hb
  have := List.all_eq_true.1 this.1 e he
  rw [hb] at this
  simp only [Bool.not_true, Bool.false_or, Nat.blt_eq] at this
  exact this

theorem static_clash (h : drawStatic ops = true) {i j : Nat} {x y : Oper} (hx : ops[i]? = some x) (hy : ops[j]? = some y) (hij : i < j)
    (hc : (∃ d, x.dst = some d ∧ (d ∈ y.looksAt ops ∨ y.dst = some d)) ∨ (∃ d, y.dst = some d ∧ d ∈ x.looksAt ops)) : ((masks ops.toList []).getD j 0).testBit i = true := by
  have hj : j < ops.size := (Array.getElem?_eq_some_iff.1 hy).1
  have := downTo_spec h j hj
  simp only [hy, Bool.and_eq_true] at this
  have := downTo_spec this.2 i hij
  simp only [hx, Bool.or_eq_true, Bool.not_eq_true'] at this
  refine this.resolve_left (fun hn => ?_)
  have hcl : clash ops x y = true := by
    unfold clash
    rcases hc with ⟨d, hd, hd2⟩ | ⟨d, hd, hd2⟩
    · simp only [hd]
      rcases hd2 with hd2 | hd2
      · simp [hd2]
      · simp [hd2]
    · simp only [hd]
      simp [hd2]
  rw [hcl] at hn; cases hn

/-- How a slot stands, when those of 'L' have been carried out. -/
def Slot (ops : Array Oper) (tr : List Ent) (fa : A) (L : Nat → Prop) (g : Ghost) (w : World) (t : Nat) (v : Value) : Prop :=
  (∃ i o x, ops[i]? = some o ∧ tr[i]? = some x ∧ L i ∧ o.dst = some t ∧ (∀ j o', i < j → ops[j]? = some o' → L j → o'.dst ≠ some t) ∧ DRep g w x.d v) ∨
    ((∀ i o, ops[i]? = some o → L i → o.dst ≠ some t) ∧ DRep g w (fa.get t) v)

theorem Slot.mono {tr : List Ent} {fa : A} {L : Nat → Prop} {g g' : Ghost} {w w' : World} {t : Nat} {v : Value} (h : Slot ops tr fa L g w t v) (hle : Le g g' w w') : Slot ops tr fa L g' w' t v := by
  rcases h with ⟨i, o, x, h1, h2, h3, h4, h5, h6⟩ | ⟨h1, h2⟩
  · exact .inl ⟨i, o, x, h1, h2, h3, h4, h5, DRep.mono hle _ _ h6⟩
  · exact .inr ⟨h1, DRep.mono hle _ _ h2⟩

/-- The text's frame ahead of an operation. -/
theorem fr_slot {tr : List Ent} {fa fa' : A} (h0 : frAt fa' tr 0 = fa) (hlen : tr.length = ops.size)
    (hput : ∀ (j : Nat) (o : Oper) (x : Ent), ops[j]? = some o → tr[j]? = some x → (frAt fa' tr j).put o.dst x.d = .ok (frAt fa' tr (j + 1))) :
    ∀ (i : Nat), i ≤ ops.size → (frAt fa' tr i).nt = fa.nt ∧ ∀ t, (∃ j o x, ops[j]? = some o ∧ tr[j]? = some x ∧ j < i ∧ o.dst = some t ∧ (∀ j' o', j < j' → j' < i → ops[j']? = some o' → o'.dst ≠ some t) ∧ (frAt fa' tr i).get t = x.d) ∨
      ((∀ j o, ops[j]? = some o → j < i → o.dst ≠ some t) ∧ (frAt fa' tr i).get t = fa.get t)
  | 0, _ => ⟨by rw [h0], fun t => .inr ⟨fun j o _ h => by omega, by rw [h0]⟩⟩
  | i + 1, hi => by
    obtain ⟨ih1, ih2⟩ := fr_slot h0 hlen hput i (by omega)
    have ho : ops[i]? = some ops[i] := Array.getElem?_eq_getElem (by omega)
    have hx : tr[i]? = some tr[i] := List.getElem?_eq_getElem (by omega)
    obtain ⟨p1, p2, p3⟩ := A.put_get (hput i _ _ ho hx)
    refine ⟨by rw [p1, ih1], fun t => ?_⟩
    by_cases ht : ops[i].dst = some t
    · exact .inl ⟨i, _, _, ho, hx, by omega, ht, fun j' o' h1 h2 => by omega, (p2 t ht).2⟩
    · rw [p3 t ht]
      rcases ih2 t with ⟨j, o, x, q1, q2, q3, q4, q5, q6⟩ | ⟨q1, q2⟩
      · refine .inl ⟨j, o, x, q1, q2, by omega, q4, fun j' o' h1 h2 h3 => ?_, q6⟩
        by_cases hji : j' = i
        · subst hji; rw [ho] at h3; cases h3; exact ht
        · exact q5 j' o' h1 (by omega) h3
      · refine .inr ⟨fun j o h1 h2 => ?_, q2⟩
        by_cases hji : j = i
        · subst hji; rw [ho] at h1; cases h1; exact ht
        · exact q1 j o h1 (by omega)

theorem cnt_succ : ∀ (tr : List Ent) (i : Nat) (x : Ent), tr[i]? = some x → x.cls = 2 → cnt tr (i + 1) = cnt tr i + 1
  | [], i, x, h, _ => by simp at h
  | y :: ys, 0, x, h, hc => by
    simp only [List.getElem?_cons_zero, Option.some.injEq] at h
    subst h
    simp [cnt, hc]
  | y :: ys, i + 1, x, h, hc => by
    simp only [List.getElem?_cons_succ] at h
    have := cnt_succ ys i x h hc
    simp only [cnt] at this ⊢
    omega

theorem stAt_succ : ∀ (tr : List Ent) (σ : St) (i : Nat) (x : Ent), tr[i]? = some x → stAt σ tr (i + 1) = x.σ
  | [], σ, i, x, h => by simp at h
  | y :: ys, σ, 0, x, h => by
    simp only [List.getElem?_cons_zero, Option.some.injEq] at h
    subst h
    simp [stAt]
  | y :: ys, σ, i + 1, x, h => by
    simp only [List.getElem?_cons_succ] at h
    simp only [stAt]
    exact stAt_succ ys y.σ i x h

/-- What is known when some operations have been carried out. -/
structure Inv (E : Env) (base : Nat) (w0 : World) (S0 : Nat → Nat → Prop) (ops : Array Oper) (tr : List Ent) (fa : A) (n0 : Nat) (σ0 : St) (g0 : Ghost) (ws : World)
    (listed : Array Bool) (act : Act) (w : World) : Prop where
  size : listed.size = ops.size
  closed : ∀ (i : Nat), listed.getD i false = true → ∀ (j : Nat), ((masks ops.toList []).getD i 0).testBit j = true → listed.getD j false = true
  ex : ∃ (k : Nat) (g : Ghost) (δ : Nat → Option Nat) (τ : St), (epochs σ0 tr)[k]? = some τ ∧ (∀ (t f : Nat), (effs tr 0)[t]? = some f → (listed.getD f false = true ↔ t < k)) ∧ SRel E base w0 S0 g δ τ w ∧ Le g0 g ws w ∧
    (∀ (i : Nat), i < ops.size → listed.getD i false = false → g.β (n0 + i) = none) ∧ (∀ (b : Nat), b < n0 → g.β b = g0.β b) ∧ n0 + ops.size ≤ τ.n ∧
    act.tmps.size = fa.nt ∧ act.defers = [] ∧ ∀ t, Slot ops tr fa (fun i => listed.getD i false = true) g w t (act.tmps.getD t undef)

theorem getD_true_false {l : Array Bool} {i : Nat} (h : ¬ l.getD i false = true) : l.getD i false = false := by
  cases hh : l.getD i false with
  | true => exact absurd hh h
  | false => rfl

/-- One operation more. -/
theorem inv_step (hE : EnvOK E) (hr : CallOK E r) {tr : List Ent} {fa fa' : A} {n0 : Nat} {σ0 : St} {g0 : Ghost} {ws : World}
    (hst : drawStatic ops = true) (hord : ordered (masks ops.toList []) (effs tr 0) = true)
    (hlook : looksOK E (masks ops.toList []) (effs tr 0) (epochs σ0 tr) ops.toList tr 0 0 = true)
    (hlen : tr.length = ops.size) (hf0 : frAt fa' tr 0 = fa)
    (hfacts : ∀ (j : Nat) (o : Oper) (x : Ent), ops[j]? = some o → tr[j]? = some x → x.a = frAt fa' tr j ∧ Fact E r ops o x (n0 + j) (stAt σ0 tr j) (frAt fa' tr (j + 1)))
    (hsteady : Steady σ0 tr) {listed : Array Bool} {act : Act} {w : World} (hI : Inv E base w0 S0 ops tr fa n0 σ0 g0 ws listed act w)
    {i : Nat} (hi : i ∈ Region.ready .any ops listed) {K : Act → World → Prop} {Q : Exit → Act → World → Prop}
    (hK : ∀ act' w', Inv E base w0 S0 ops tr fa n0 σ0 g0 ws (listed.setIfInBounds i true) act' w' → K act' w') : wpOp E.P ops Q i K act w := by
  obtain ⟨hun, o, ho, hdeps⟩ := mem_ready.1 hi
  have hilt : i < ops.size := (Array.getElem?_eq_some_iff.1 ho).1
  obtain ⟨x, hx⟩ : ∃ x, tr[i]? = some x := ⟨_, List.getElem?_eq_getElem (show i < tr.length by omega)⟩
  have hunf : listed.getD i false = false := by
    have hls : i < listed.size := by rw [hI.size]; exact hilt
    rw [Array.getD_eq_getD_getElem?]
    have : listed[i]? = some listed[i] := Array.getElem?_eq_getElem hls
    simp only [Array.getD_eq_getD_getElem?] at hun
    rw [this] at hun ⊢; exact hun
  have hol : ops.toList[i]? = some o := by simpa using ho
  obtain ⟨hxa, hfact⟩ := hfacts i o x ho hx
  obtain ⟨k, g, δ, τ, hτ, hk, hs, hle0, hid, hβ0, hn, hnt, hdf, hslot⟩ := hI.ex
  -- what the mask of i holds is listed
  have hmask : ∀ j, ((masks ops.toList []).getD i 0).testBit j = true → listed.getD j false = true := by
    intro j hj
    obtain ⟨e, he, hb, h⟩ := mask_bit hol (static_edge hst ho) hj
    have hel := hdeps e (by simpa using he) hb
    rcases h with rfl | h
    · exact hel
    · exact hI.closed _ hel _ h
  have hnot : ∀ j, listed.getD j false = true → ¬ ((masks ops.toList []).getD j 0).testBit i = true := by
    intro j hj hb
    have := hI.closed j hj i hb
    rw [hunf] at this; cases this
  -- the slots that it looks at stand as in the text's order
  have hsl : ∀ t, t ∈ o.looksAt ops → DRep g w (x.a.get t) (act.tmps.getD t undef) := by
    intro t ht
    obtain ⟨_, hfr⟩ := fr_slot hf0 hlen (fun j o x h1 h2 => by obtain ⟨q1, q2⟩ := hfacts j o x h1 h2; rw [← q1]; exact q2.put) i (by omega)
    rw [hxa]
    have hback : ∀ j o', ops[j]? = some o' → o'.dst = some t → listed.getD j false = true → j < i := by
      intro j o' hj hd hl
      rcases Nat.lt_trichotomy j i with h | h | h
      · exact h
      · subst h; rw [hunf] at hl; cases hl
      · exact absurd (static_clash hst ho hj h (.inr ⟨t, hd, ht⟩)) (hnot j hl)
    have hfwd : ∀ j o', ops[j]? = some o' → o'.dst = some t → j < i → listed.getD j false = true := fun j o' hj hd hl =>
      hmask j (static_clash hst hj ho hl (.inl ⟨t, hd, .inl ht⟩))
    rcases hfr t with ⟨j, oj, xj, q1, q2, q3, q4, q5, q6⟩ | ⟨q1, q2⟩
    · rw [q6]
      rcases hslot t with ⟨j', oj', xj', p1, p2, p3, p4, p5, p6⟩ | ⟨p1, p2⟩
      · have hj' := hback j' oj' p1 p4 p3
        have : j = j' := by
          rcases Nat.lt_trichotomy j j' with h | h | h
          · exact absurd p4 (q5 j' oj' h hj' p1)
          · exact h
          · exact absurd q4 (p5 j oj h q1 (hfwd j oj q1 q4 q3))
        subst this
        rw [q2] at p2; cases p2
        exact p6
      · exact absurd q4 (p1 j oj q1 (hfwd j oj q1 q4 q3))
    · rw [q2]
      rcases hslot t with ⟨j', oj', xj', p1, p2, p3, p4, p5, p6⟩ | ⟨p1, p2⟩
      · exact absurd p4 (q1 j' oj' p1 (hback j' oj' p1 p4 p3))
      · exact p2
  have hopnd : ∀ y ∈ o.op.operands.toList, ∀ d, opnd E x.a y = some d → DRep g w d (act.eval y) := by
    intro y hy d hd
    cases y with
    | tmp t =>
      simp only [opnd, Option.some.injEq] at hd
      subst hd
      refine hsl t ?_
      unfold Oper.looksAt
      rw [List.mem_append]
      exact .inl (List.mem_filterMap.2 ⟨.tmp t, hy, rfl⟩)
    | const v => exact (toD_rep hd g w).1
    | global q =>
      simp only [opnd] at hd
      cases hq : E.G q with
      | none => rw [hq] at hd; cases hd
      | some c =>
        rw [hq] at hd
        simp only [Option.map_some, Option.some.injEq] at hd
        subst hd
        simp only [DRep]
        exact hs.glob q c hq
    | func f =>
      simp only [opnd, Option.some.injEq] at hd
      subst hd
      simp only [DRep, DReps]
      exact ⟨[], [], rfl, rfl, rfl⟩
  have hwant := want_sound (act := act) (g := g) (w := w) hfact.want (fun j bb hg d hd => hsl d (by
    unfold Oper.looksAt
    rw [List.mem_append, hg]
    exact .inr (by simp [hd])))
  obtain ⟨p1, p2, p3⟩ := A.put_get hfact.put
  have hxnt : x.a.nt = fa.nt := by
    rw [hxa]
    exact (fr_slot hf0 hlen (fun j o x h1 h2 => by obtain ⟨q1, q2⟩ := hfacts j o x h1 h2; rw [← q1]; exact q2.put) i (by omega)).1
  have hset_same : (listed.setIfInBounds i true).getD i false = true := by
    have : i < listed.size := by rw [hI.size]; exact hilt
    simp [Array.getD_eq_getD_getElem?, this]
  have hset_other : ∀ j, j ≠ i → (listed.setIfInBounds i true).getD j false = listed.getD j false := fun j hj => getD_set_ne false (fun h => hj h.symm)
  -- the new state of affairs
  have hnew : ∀ (v : Value) (g' : Ghost) (δ' : Nat → Option Nat) (w' : World) (k' : Nat) (τ' : St), (epochs σ0 tr)[k']? = some τ' →
      (∀ (t f : Nat), (effs tr 0)[t]? = some f → ((listed.setIfInBounds i true).getD f false = true ↔ t < k')) → SRel E base w0 S0 g' δ' τ' w' → Le g g' w w' → DRep g' w' x.d v →
      (∀ b, b < τ.n → b ≠ n0 + i → g'.β b = g.β b) → τ.n ≤ τ'.n → Inv E base w0 S0 ops tr fa n0 σ0 g0 ws (listed.setIfInBounds i true) (act.put o.dst v) w' := by
    intro v g' δ' w' k' τ' hτ' hk' hs' hle hd hβ hnn
    obtain ⟨r1, r2, r3, r4⟩ := Act.put_getD act o.dst v (fun t ht => by rw [hnt, ← hxnt]; exact (p2 t ht).1)
    refine ⟨by simp [hI.size], fun j hj b hb => ?_, k', g', δ', τ', hτ', hk', hs', hle0.trans hle, fun j hj hl => ?_, fun b hb => ?_, by omega, by rw [r3]; exact hnt, by rw [r4]; exact hdf, fun t => ?_⟩
    · by_cases hji : j = i
      · subst hji
        have hbj : b ≠ j := by rintro rfl; have := hmask _ hb; rw [hunf] at this; cases this
        rw [hset_other b hbj]; exact hmask b hb
      · rw [hset_other j hji] at hj
        have := hI.closed j hj b hb
        by_cases hbi : b = i
        · subst hbi; exact hset_same
        · rw [hset_other b hbi]; exact this
    · have hji : j ≠ i := by rintro rfl; rw [hset_same] at hl; cases hl
      rw [hset_other j hji] at hl
      rw [hβ (n0 + j) (by omega) (by omega)]
      exact hid j hj hl
    · rw [hβ b (by omega) (by omega)]; exact hβ0 b hb
    · by_cases ht : o.dst = some t
      · rw [r1 t ht]
        refine .inl ⟨i, o, x, ho, hx, hset_same, ht, fun j o' hij hj hl hd' => ?_, hd⟩
        have hl : listed.getD j false = true := by rw [← hset_other j (by omega)]; exact hl
        exact hnot j hl (static_clash hst ho hj hij (.inl ⟨t, ht, .inr hd'⟩))
      · rw [r2 t ht]
        rcases hslot t with ⟨j', oj', xj', q1, q2, q3, q4, q5, q6⟩ | ⟨q1, q2⟩
        · have hj'i : j' ≠ i := by rintro rfl; rw [ho] at q1; cases q1; exact ht q4
          refine .inl ⟨j', oj', xj', q1, q2, (hset_other j' hj'i).trans q3, q4, fun j o' h1 h2 h3 => ?_, DRep.mono hle _ _ q6⟩
          by_cases hji : j = i
          · subst hji; rw [ho] at h2; cases h2; exact ht
          · exact q5 j o' h1 h2 ((hset_other j hji).symm.trans h3)
        · refine .inr ⟨fun j o' h2 h3 => ?_, DRep.mono hle _ _ q2⟩
          by_cases hji : j = i
          · subst hji; rw [ho] at h2; cases h2; exact ht
          · exact q1 j o' h2 ((hset_other j hji).symm.trans h3)
  -- an operation that is no effect
  have hsamek : x.cls ≠ 2 → ∀ (t f : Nat), (effs tr 0)[t]? = some f → ((listed.setIfInBounds i true).getD f false = true ↔ t < k) := by
    intro hc t f hf
    obtain ⟨j, xj, h1, h2, h3, _⟩ := effs_is tr 0 t f hf
    have hfi : f ≠ i := by
      rintro rfl
      rw [Nat.zero_add] at h1; subst h1
      rw [hx] at h2; cases h2; exact hc h3
    rw [hset_other f hfi]; exact hk t f hf
  unfold wpOp
  rw [ho]
  simp only [hwant]
  cases hon : x.on with
  | false =>
    obtain ⟨c1, c2, c3⟩ := hfact.off hon
    simp only [Bool.false_eq_true, if_false]
    refine hK _ _ (hnew undef g δ w k τ hτ (hsamek (by rw [c1]; decide)) hs (Le.refl _ _) (by rw [c2]; exact undef_rep) (fun _ _ _ => rfl) (Nat.le_refl _))
  | true =>
    simp only [if_true]
    left
    have hev := hfact.on hon
    have run : ∀ (σ' : St), evOp E r (opnd E x.a) (n0 + i) τ o.op = .ok (x.cls, x.d, σ') → ∀ k', (epochs σ0 tr)[k']? = some σ' →
        (∀ (t f : Nat), (effs tr 0)[t]? = some f → ((listed.setIfInBounds i true).getD f false = true ↔ t < k')) → o.wp E.P act w K Q := by
      intro σ' hev' k' hk1 hk2
      refine op_sound hE hr hs hev' hopnd (hid i hilt hunf) (by omega) ?_
      intro v g' δ' w' hle hs' hd hβ
      exact hK _ _ (hnew v g' δ' w' k' σ' hk1 hk2 hs' hle hd hβ (evOp_n hr hev'))
    rcases evOp_cls hev with hc | ⟨hc, hσ, hany⟩ | ⟨hc, hσ, hany⟩
    · -- an effect: those ahead of it have been carried out, none behind it
      have hfi := effs_at tr 0 i x hx hc
      rw [Nat.zero_add] at hfi
      have hki : k = cnt tr i := by
        have h1 : ¬ cnt tr i < k := fun h => by
          have := (hk _ _ hfi).2 h
          rw [hunf] at this; cases this
        rcases Nat.lt_or_ge k (cnt tr i) with h | h
        · have hklt : k < (effs tr 0).length := by
            have := (List.getElem?_eq_some_iff.1 hfi).1; omega
          have hfk : (effs tr 0)[k]? = some (effs tr 0)[k] := List.getElem?_eq_getElem hklt
          have hb := ordered_spec hord k (cnt tr i) _ _ h hfk hfi
          have := (hk _ _ hfk).1 (hmask _ hb)
          omega
        · omega
      have hτi := epochs_at tr σ0 hsteady i (by omega)
      rw [← hki, hτ] at hτi
      cases hτi
      refine run x.σ hev (k + 1) ?_ ?_
      · have := epochs_at tr σ0 hsteady (i + 1) (by omega)
        have hc1 : cnt tr (i + 1) = cnt tr i + 1 := cnt_succ tr i x hx hc
        rw [hc1, ← hki] at this
        rw [this, stAt_succ tr σ0 i x hx]
      · intro t f hf
        by_cases hfi2 : f = i
        · subst hfi2
          rw [hset_same]
          have : t = cnt tr f := by
            obtain ⟨j, xj, h1, h2, h3, h4⟩ := effs_is tr 0 t f hf
            rw [Nat.zero_add] at h1; subst h1; exact h4.symm
          exact ⟨fun _ => by omega, fun _ => rfl⟩
        · rw [hset_other f hfi2, hk t f hf]
          constructor
          · intro h; omega
          · intro h
            rcases Nat.lt_or_ge t k with h' | h'
            · exact h'
            · have htk : t = cnt tr i := by omega
              subst htk
              rw [hfi] at hf; cases hf; exact absurd rfl hfi2
    · have := hany τ (n0 + i)
      rw [← hc] at this
      exact run τ this k hτ (hsamek (by rw [hc]; decide))
    · have hlk := looksOK_spec hlook i o x hol hx hc
      rw [Nat.zero_add, Nat.zero_add] at hlk
      have hread : opRead E (opnd E x.a) τ o.op = some (.ok x.d) := by
        rcases lookOK_spec hlk k τ hτ with h | ⟨j, hj, hb⟩ | ⟨j, hj, hb⟩ | h
        · rw [Nat.zero_add] at h
          have hτi := epochs_at tr σ0 hsteady i (by omega)
          rw [← h, hτ] at hτi
          cases hτi
          have h9 := hev
          unfold evOp at h9
          split at h9
          · obtain ⟨d', hd', h9⟩ := R.bind_ok h9
            simp only [R.ok.injEq, Prod.mk.injEq] at h9
            rw [hc] at h9; exact absurd h9.1 (by decide)
          · split at h9
            · rename_i y hy
              obtain ⟨d', hd', h9⟩ := R.bind_ok h9
              simp only [R.ok.injEq, Prod.mk.injEq] at h9
              rw [hy, hd', h9.2.1]
            · rcases opEff_quiet (n0 + i) o.op _ h9 with h8 | ⟨h8, _⟩
              · rw [hc] at h8; cases h8
              · rw [hc] at h8; cases h8
        · rw [Nat.zero_add] at hj
          obtain ⟨t, ht⟩ := List.mem_iff_getElem?.1 hj
          have htk : t < k := by
            rcases Nat.lt_or_ge t k with h' | h'
            · exact h'
            · rw [List.getElem?_eq_none (by simp; omega)] at ht; cases ht
          rw [List.getElem?_take_of_lt htk] at ht
          exact absurd hb (hnot j ((hk t j ht).2 htk))
        · rw [Nat.zero_add] at hj
          obtain ⟨t, ht⟩ := List.mem_iff_getElem?.1 hj
          rw [List.getElem?_drop] at ht
          have := (hk _ j ht).1 (hmask j hb)
          omega
        · unfold stable at h
          split at h
          · rename_i d hd
            rw [hd, sameD_eq _ _ h]
          · cases h
      have := hany τ (n0 + i) hread
      rw [← hc] at this
      exact run τ this k hτ (hsamek (by rw [hc]; decide))

end

end Go.Vm
