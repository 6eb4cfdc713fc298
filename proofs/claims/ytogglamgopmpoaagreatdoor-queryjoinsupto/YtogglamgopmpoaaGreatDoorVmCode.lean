/- Code, bodies, and the rounds of the interpreter. -/
import Derived.Test.YtogglamgopmpoaaGreatDoorVmDraw3
import Derived.LoopN
namespace Go.Vm
open Go.RowKit (Below)

def exitOf : Option (Option Nat) → Exit
  | none => .normal
  | some none => .ret
  | some (some id) => .exit id

/-- How a code runs: a loop in so many rounds. -/
def Runs (P : Program) (m : Nat) (c : Code) (Q : Exit → Act → World → Prop) (a : Act) (w : World) : Prop :=
  match c with
  | .loop b => Code.rounds P b Q m a w
  | c => c.wp P Q a w

theorem Runs.wp {P : Program} {m : Nat} {c : Code} {Q : Exit → Act → World → Prop} {a : Act} {w : World} (h : Runs P m c Q a w) : c.wp P Q a w := by
  cases c with
  | loop b => exact wp_loop_rounds m h
  | _ => exact h

def CodeOK (E : Env) (r : Evs) : Prop :=
  ∀ (c : Code) (fa : A) (σ : St) (out : Option (Option Nat)) (fa' : A) (σ' : St), r.code c fa σ = .ok (out, fa', σ') → σ.n ≤ σ'.n ∧ ∃ (m : Nat),
    ∀ (base : Nat) (w0 : World) (S0 : Nat → Nat → Prop) (g : Ghost) (δ : Nat → Option Nat) (act : Act) (w : World) (Q : Exit → Act → World → Prop),
      SRel E base w0 S0 g δ σ w → ARel g fa act w →
      (∀ (g' : Ghost) (δ' : Nat → Option Nat) (act' : Act) (w' : World), Le g g' w w' → SRel E base w0 S0 g' δ' σ' w' → ARel g' fa' act' w' → (∀ (b : Nat), b < σ.n → g'.β b = g.β b) → Q (exitOf out) act' w') →
      Runs E.P m c Q act w

section
variable {E : Env} {base : Nat} {w0 : World} {S0 : Nat → Nat → Prop} {g : Ghost} {δ : Nat → Option Nat} {σ : St} {w : World} {r : Evs}

theorem SRel.fresh (hs : SRel E base w0 S0 g δ σ w) {i : Nat} (hi : σ.n ≤ i) : g.β i = none := by
  cases h : g.β i with
  | none => rfl
  | some k => have := (hs.boxlt i k h).1; omega

theorem evOps_n (hr : CallOK E r) {ops : Array Oper} : ∀ (rest : List Oper) (id : Nat) (fa : A) (σ : St) (tr : List Ent) (fa' : A) (σ' : St), evOps E r ops rest id fa σ = .ok (tr, fa', σ') → σ.n ≤ σ'.n
  | [], id, fa, σ, tr, fa', σ', h => by simp only [evOps] at h; cases h; exact Nat.le_refl _
  | o :: rest, id, fa, σ, tr, fa', σ', h => by
    simp only [evOps] at h
    obtain ⟨b, hw, h⟩ := R.bind_ok h
    cases b with
    | false =>
      simp only at h
      obtain ⟨fa1, hput, h⟩ := R.bind_ok h
      obtain ⟨⟨tr1, fa2, σ2⟩, hp, h⟩ := R.bind_ok h
      cases h
      exact evOps_n hr rest _ _ _ _ _ _ hp
    | true =>
      simp only at h
      obtain ⟨⟨cls, d, σ1⟩, hq, h⟩ := R.bind_ok h
      obtain ⟨fa1, hput, h⟩ := R.bind_ok h
      obtain ⟨⟨tr1, fa2, σ2⟩, hp, h⟩ := R.bind_ok h
      cases h
      exact Nat.le_trans (evOp_n hr hq) (evOps_n hr rest _ _ _ _ _ _ hp)

theorem code_step (hE : EnvOK E) (hr : CallOK E r) (hc : CodeOK E r) : CodeOK E (stepEvs E r) := by
  intro c fa σ out fa' σ' h
  simp only [stepEvs] at h
  unfold evCode at h
  cases c with
  | skip => cases h; exact ⟨Nat.le_refl _, 0, fun base w0 S0 g δ act w Q hs ha hQ => wp_skip (hQ g δ act w (Le.refl _ _) hs ha fun _ _ => rfl)⟩
  | ret => cases h; exact ⟨Nat.le_refl _, 0, fun base w0 S0 g δ act w Q hs ha hQ => wp_ret (hQ g δ act w (Le.refl _ _) hs ha fun _ _ => rfl)⟩
  | exit id => cases h; exact ⟨Nat.le_refl _, 0, fun base w0 S0 g δ act w Q hs ha hQ => wp_exit (hQ g δ act w (Le.refl _ _) hs ha fun _ _ => rfl)⟩
  | seq x y =>
    obtain ⟨⟨o1, fa1, σ1⟩, hx, h⟩ := R.bind_ok h
    obtain ⟨hn1, m1, h1⟩ := hc _ _ _ _ _ _ hx
    cases o1 with
    | none =>
      simp only at h
      obtain ⟨hn2, m2, h2⟩ := hc _ _ _ _ _ _ h
      refine ⟨Nat.le_trans hn1 hn2, 0, fun base w0 S0 g δ act w Q hs ha hQ => ?_⟩
      refine wp_seq (Runs.wp (h1 _ _ _ _ _ _ _ _ hs ha ?_))
      intro g1 δ1 act1 w1 hl1 hs1 ha1 hb1
      refine Runs.wp (h2 _ _ _ _ _ _ _ _ hs1 ha1 ?_)
      intro g2 δ2 act2 w2 hl2 hs2 ha2 hb2
      exact hQ g2 δ2 act2 w2 (hl1.trans hl2) hs2 ha2 (fun b hb => (hb2 b (by omega)).trans (hb1 b hb))
    | some e =>
      simp only at h
      cases h
      refine ⟨hn1, 0, fun base w0 S0 g δ act w Q hs ha hQ => ?_⟩
      refine wp_seq (Runs.wp (h1 _ _ _ _ _ _ _ _ hs ha ?_))
      intro g1 δ1 act1 w1 hl1 hs1 ha1 hb1
      have := hQ g1 δ1 act1 w1 hl1 hs1 ha1 hb1
      cases e <;> exact this
  | cond cnd x y =>
    simp only at h
    have go : ∀ (b : Bool), opnd E fa cnd = some (.c (.bool b)) → r.code (if b then x else y) fa σ = .ok (out, fa', σ') → σ.n ≤ σ'.n ∧ ∃ (m : Nat),
        ∀ (base : Nat) (w0 : World) (S0 : Nat → Nat → Prop) (g : Ghost) (δ : Nat → Option Nat) (act : Act) (w : World) (Q : Exit → Act → World → Prop),
        SRel E base w0 S0 g δ σ w → ARel g fa act w →
        (∀ (g' : Ghost) (δ' : Nat → Option Nat) (act' : Act) (w' : World), Le g g' w w' → SRel E base w0 S0 g' δ' σ' w' → ARel g' fa' act' w' → (∀ (b : Nat), b < σ.n → g'.β b = g.β b) → Q (exitOf out) act' w') →
        Runs E.P m (.cond cnd x y) Q act w := by
      intro b hb hx
      obtain ⟨hn1, m1, h1⟩ := hc _ _ _ _ _ _ hx
      refine ⟨hn1, 0, fun base w0 S0 g δ act w Q hs ha hQ => ?_⟩
      exact wp_cond (rep_bool (hs.opnd ha cnd _ hb)) (Runs.wp (h1 _ _ _ _ _ _ _ _ hs ha hQ))
    split at h
    · rename_i hb; exact go true hb h
    · rename_i hb; exact go false hb h
    · cases h
  | block id b =>
    obtain ⟨⟨o1, fa1, σ1⟩, hx, h⟩ := R.bind_ok h
    obtain ⟨hn1, m1, h1⟩ := hc _ _ _ _ _ _ hx
    cases o1 with
    | none =>
      simp only at h
      cases h
      exact ⟨hn1, 0, fun base w0 S0 g δ act w Q hs ha hQ => wp_block (Runs.wp (h1 _ _ _ _ _ _ _ _ hs ha hQ))⟩
    | some e =>
      cases e with
      | none =>
        simp only at h
        cases h
        exact ⟨hn1, 0, fun base w0 S0 g δ act w Q hs ha hQ => wp_block (Runs.wp (h1 _ _ _ _ _ _ _ _ hs ha hQ))⟩
      | some j =>
        simp only at h
        refine ⟨?_, 0, fun base w0 S0 g δ act w Q hs ha hQ => wp_block (Runs.wp (h1 _ _ _ _ _ _ _ _ hs ha ?_))⟩
        · cases hj : Nat.beq j id <;> (rw [hj] at h; cases h; exact hn1)
        · intro g1 δ1 act1 w1 hl1 hs1 ha1 hb1
          show if j = id then Q .normal act1 w1 else Q (.exit j) act1 w1
          cases hj : Nat.beq j id with
          | true =>
            rw [hj] at h; cases h
            rw [if_pos (Nat.beq_eq ▸ hj : j = id)]
            exact hQ g1 δ1 act1 w1 hl1 hs1 ha1 hb1
          | false =>
            rw [hj] at h; cases h
            rw [if_neg (fun h9 => by rw [← Nat.beq_eq, hj] at h9; cases h9)]
            exact hQ g1 δ1 act1 w1 hl1 hs1 ha1 hb1
  | loop b =>
    obtain ⟨⟨o1, fa1, σ1⟩, hx, h⟩ := R.bind_ok h
    obtain ⟨hn1, m1, h1⟩ := hc _ _ _ _ _ _ hx
    cases o1 with
    | none =>
      simp only at h
      obtain ⟨hn2, m2, h2⟩ := hc _ _ _ _ _ _ h
      refine ⟨Nat.le_trans hn1 hn2, m2 + 1, fun base w0 S0 g δ act w Q hs ha hQ => ?_⟩
      refine Runs.wp (h1 _ _ _ _ _ _ _ _ hs ha ?_)
      intro g1 δ1 act1 w1 hl1 hs1 ha1 hb1
      refine h2 _ _ _ _ _ _ _ _ hs1 ha1 ?_
      intro g2 δ2 act2 w2 hl2 hs2 ha2 hb2
      exact hQ g2 δ2 act2 w2 (hl1.trans hl2) hs2 ha2 (fun b hb => (hb2 b (by omega)).trans (hb1 b hb))
    | some e =>
      simp only at h
      cases h
      refine ⟨hn1, 1, fun base w0 S0 g δ act w Q hs ha hQ => ?_⟩
      refine Runs.wp (h1 _ _ _ _ _ _ _ _ hs ha ?_)
      intro g1 δ1 act1 w1 hl1 hs1 ha1 hb1
      have := hQ g1 δ1 act1 w1 hl1 hs1 ha1 hb1
      cases e <;> exact this
  | region id ops draw =>
    obtain ⟨⟨tr, fa1, σ1⟩, hx, h⟩ := R.bind_ok h
    obtain ⟨hd, h⟩ := cond_ok h
    cases h
    have hn := evOps_n hr _ _ _ _ _ _ _ hx
    have hn : σ.n + ops.size ≤ σ'.n := hn
    refine ⟨by omega, 0, fun base w0 S0 g δ act w Q hs ha hQ => ?_⟩
    have hs1 := hs.more (σ.n + ops.size) (Nat.le_add_right _ _)
    have hQ' : ∀ g' δ' act' w', Le g g' w w' → SRel E base w0 S0 g' δ' σ' w' → ARel g' fa' act' w' → (∀ (b : Nat), b < σ.n → g'.β b = g.β b) → Q .normal act' w' := hQ
    cases draw with
    | false =>
      refine wp_region ?_
      have := seq_sound hE hr (ops := ops) (Q := Q) ops.toList 0 σ.n fa _ tr fa' σ' hx (fun j => by simp) (by simp) hs1 ha (fun i hi => .inl (hs.fresh hi)) (by simp) hQ'
      rw [List.range_eq_range']
      simpa using this
    | true =>
      simp only [Bool.not_true, Bool.false_or, Bool.and_eq_true] at hd
      exact draw_sound hE hr hx hd.1 hd.2 hs1 ha (fun i hi => hs.fresh hi) (Nat.le_refl _) hQ' id
  | _ => cases h

/-! ## Bodies -/

theorem init_get : ∀ (args : List D) (k : Nat) (t : Tr D) (i : Nat),
    ((args.foldl (fun (p : Nat × Tr D) d => (p.1 + 1, p.2.set p.1 d)) (k, t)).2.get i) = if k ≤ i ∧ i < k + args.length then args[i - k]? else t.get i
  | [], k, t, i => by
    rw [if_neg (by simp only [List.length_nil]; omega)]; rfl
  | d :: ds, k, t, i => by
    rw [List.foldl_cons, init_get ds (k + 1) (t.set k d) i]
    simp only [List.length_cons]
    by_cases h1 : k + 1 ≤ i ∧ i < k + 1 + ds.length
    · rw [if_pos h1, if_pos (by omega), show i - k = (i - (k + 1)) + 1 by omega, List.getElem?_cons_succ]
    · rw [if_neg h1]
      by_cases h2 : i = k
      · subst h2
        rw [Tr.get_set_same, if_pos (by omega), Nat.sub_self]; rfl
      · rw [Tr.get_set_other _ _ _ _ h2, if_neg (by omega)]

theorem init_rel {args : List D} {vs : List Value} (h : DReps g w args vs) (nt : Nat) :
    ARel g (initA nt args) { tmps := ⟨vs⟩ ++ Array.replicate (nt - (⟨vs⟩ : Array Value).size) undef, defers := [] } w := by
  have hl := h.length
  refine ⟨by simp [initA, hl], fun t => ?_, rfl⟩
  have hg := init_get args 0 .leaf t
  simp only [A.get, initA]
  rw [hg]
  simp only [Nat.zero_le, true_and, Nat.zero_add, Nat.sub_zero]
  by_cases ht : t < args.length
  · rw [if_pos ht]
    have ha : args[t]? = some args[t] := List.getElem?_eq_getElem ht
    obtain ⟨v, hv, hd⟩ := h.at t _ ha
    rw [ha, Option.getD_some]
    have : (({ toList := vs } : Array Value) ++ Array.replicate (nt - ({ toList := vs } : Array Value).size) undef).getD t undef = v := by
      rw [Array.getD_eq_getD_getElem?, Array.getElem?_append_left (by simp; omega)]
      simp [hv]
    rw [this]; exact hd
  · rw [if_neg ht]
    have : (({ toList := vs } : Array Value) ++ Array.replicate (nt - ({ toList := vs } : Array Value).size) undef).getD t undef = undef := by
      rw [Array.getD_eq_getD_getElem?, Array.getElem?_append_right (by simp; omega)]
      simp only [Array.getElem?_replicate]
      split <;> rfl
    rw [this]
    exact undef_rep

def resSem (tmps : Array Value) (x : ResultVar) : Sem Value :=
  match x with
  | .tmp t => pure (tmps.getD t undef)
  | .cell a t => do loadVar t (← asAddr (tmps.getD a undef))

theorem results_eq (fn : Func) (tmps : Array Value) : results fn tmps = (do let vs ← fn.results.mapM (resSem tmps); pure (if h : vs.size = 1 then vs[0] else .tuple vs)) := rfl

theorem result1_gives (hs : SRel E base w0 S0 g δ σ w) {fa : A} {act : Act} (ha : ARel g fa act w) {x : ResultVar} {d : D} (h : result1 E fa σ x = .ok d) :
    Gives E g w (resSem act.tmps x) d := by
  cases x with
  | tmp t =>
    simp only [result1] at h
    cases h
    exact ⟨_, rfl, ha.tmps t⟩
  | cell x t =>
    simp only [result1] at h
    have hx := ha.tmps x
    split at h
    · rename_i b off hb
      obtain ⟨cs, hcs, h⟩ := R.bind_ok h
      obtain ⟨u, hu, h⟩ := R.bind_ok h
      obtain ⟨n, hn, h⟩ := R.bind_ok h
      rw [hb] at hx
      simp only [DRep] at hx
      obtain ⟨k, hk, hv⟩ := hx
      have h' : (bif aggD u then (bif Nat.ble (off + n) cs.length then .ok (.agg ((cs.drop off).take n)) else .er 88) else ofO 89 cs[off]?) = R.ok d := by
        cases ha : aggD u with
        | true =>
          rw [ha] at h
          cases hb : (off + n).ble cs.length with
          | true => rw [hb] at h; exact h
          | false => rw [hb] at h; cases h
        | false =>
          rw [ha] at h
          show ofO 89 cs[off]? = _
          rw [ofO_ok h]; rfl
      obtain ⟨v, hrun, hd⟩ := loadBox_gives hs (ofO_ok hcs) hk hu hn h'
      refine ⟨v, ?_, hd⟩
      simp only [resSem, hv, asAddr, Sem.run_bind, Sem.run_pure, Result.andThen_ok]
      exact hrun
    · cases h

theorem resultsMap_gives (hs : SRel E base w0 S0 g δ σ w) {fa : A} {act : Act} (ha : ARel g fa act w) : ∀ {rs : List ResultVar} {ds : List D},
    mapO (fun x => match result1 E fa σ x with | .ok d => some d | .er _ => none) rs = some ds →
    ∃ vs, (rs.mapM (resSem act.tmps)).run E.P w = .ok vs w ∧ DReps g w ds vs
  | [], ds, h => by
    simp only [mapO] at h
    cases h
    exact ⟨[], rfl, by simp only [DReps]⟩
  | x :: rs, ds, h => by
    simp only [mapO] at h
    cases hx : result1 E fa σ x with
    | er n => rw [hx] at h; cases h
    | ok d =>
      rw [hx] at h
      simp only at h
      cases hr : mapO (fun x => match result1 E fa σ x with | .ok d => some d | .er _ => none) rs with
      | none => rw [hr] at h; cases h
      | some es =>
        rw [hr] at h
        cases h
        obtain ⟨v, hv, hd⟩ := result1_gives hs ha hx
        obtain ⟨vs, hvs, hds⟩ := resultsMap_gives hs ha hr
        refine ⟨v :: vs, ?_, by simp only [DReps]; exact ⟨v, vs, rfl, hd, hds⟩⟩
        rw [List.mapM_cons, Sem.run_bind, hv, Result.andThen_ok, Sem.run_bind, hvs, Result.andThen_ok]
        rfl

theorem result_gives (hs : SRel E base w0 S0 g δ σ w) {fa : A} {act : Act} (ha : ARel g fa act w) {fn : Func} {d : D} (h : result E fa σ fn.results.toList = .ok d) :
    ∃ v, (results fn act.tmps).run E.P w = .ok v w ∧ DRep g w d v := by
  have key : ∀ (rs : List ResultVar), fn.results = ⟨rs⟩ → ∀ vs, (rs.mapM (resSem act.tmps)).run E.P w = .ok vs w →
      (results fn act.tmps).run E.P w = .ok (if h : vs.toArray.size = 1 then vs.toArray[0] else .tuple vs.toArray) w := by
    intro rs hrs vs hvs
    simp only [results_eq, hrs, Array.mapM_eq_mapM_toList, Sem.run_bind, map_eq_pure_bind, hvs, Result.andThen_ok, Sem.run_pure]
  have many : ∀ (rs : List ResultVar) (ds : List D), fn.results = ⟨rs⟩ → rs.length ≠ 1 → mapO (fun x => match result1 E fa σ x with | .ok d => some d | .er _ => none) rs = some ds → d = .tup ds →
      ∃ v, (results fn act.tmps).run E.P w = .ok v w ∧ DRep g w d v := by
    intro rs ds hrs hl hds hd
    obtain ⟨vs, hvs, hr⟩ := resultsMap_gives hs ha hds
    have hlen : vs.length = rs.length := by rw [hr.length, (mapO_some hds).1]
    refine ⟨_, key rs hrs vs hvs, ?_⟩
    rw [dif_neg (by simp; omega), hd]
    simp only [DRep]
    exact ⟨vs, rfl, hr⟩
  obtain ⟨rs, hrs⟩ : ∃ rs, fn.results = ⟨rs⟩ := ⟨fn.results.toList, rfl⟩
  rw [hrs] at h
  match rs, hrs, h with
  | [x], hrs, h =>
    simp only [result] at h
    obtain ⟨v, hv, hd⟩ := result1_gives hs ha h
    refine ⟨v, ?_, hd⟩
    rw [key [x] hrs [v] (by
      rw [List.mapM_cons, Sem.run_bind, hv, Result.andThen_ok]
      rfl)]
    rfl
  | [], hrs, h =>
    simp only [result] at h
    obtain ⟨ds, hds, h⟩ := R.bind_ok h
    cases h
    exact many [] ds hrs (by simp) (ofO_ok hds) rfl
  | x :: y :: rest, hrs, h =>
    simp only [result] at h
    obtain ⟨ds, hds, h⟩ := R.bind_ok h
    cases h
    exact many (x :: y :: rest) ds hrs (by simp) (ofO_ok hds) rfl

theorem tag_ok {α : Type} {f : Nat} {x : R α} {a : α} (h : tagE f x = .ok a) : x = .ok a := by
  cases x with
  | ok b => simpa [tagE] using h
  | er e => cases h

theorem body_step (hc : CodeOK E r) : CallOK E (stepEvs E r) := by
  intro f args σ d σ' h
  simp only [stepEvs, evBody] at h
  cases hf : E.P.funcs[f]? with
  | none => rw [hf] at h; cases h
  | some fn =>
    rw [hf] at h
    simp only at h
    cases hb : fn.body with
    | none => rw [hb] at h; cases h
    | some c =>
      rw [hb] at h
      obtain ⟨⟨out, fa1, σ1⟩, hx, h⟩ := R.bind_ok (tag_ok h)
      obtain ⟨hn, m, hcode⟩ := hc _ _ _ _ _ _ hx
      have h : (result E fa1 σ1 fn.results.toList).bind (fun d => .ok (d, σ1)) = .ok (d, σ') ∧ (exitOf out = .normal ∨ exitOf out = .ret) := by
        cases out with
        | none => exact ⟨h, .inl rfl⟩
        | some e => cases e with
          | none => exact ⟨h, .inr rfl⟩
          | some id => cases h
      obtain ⟨h, hout⟩ := h
      obtain ⟨d1, hd1, h⟩ := R.bind_ok h
      cases h
      refine ⟨⟨fn, rfl, by rw [hb]; rfl⟩, hn, fun base w0 S0 g δ w vs hs hv => ?_⟩
      refine calls_of_wp hf hb (Runs.wp (hcode _ _ _ _ _ _ _ _ hs (init_rel hv fn.ntmps) ?_))
      intro g1 δ1 act1 w1 hl1 hs1 ha1 hb1
      obtain ⟨v, hrun, hd⟩ := result_gives hs1 ha1 hd1
      have : act1.defers = [] ∧ ∃ v, (results fn act1.tmps).run E.P w1 = .ok v w1 ∧ ∃ v' g' δ', Ending.returned v = .returned v' ∧ Le g g' w w1 ∧ SRel E base w0 S0 g' δ' σ' w1 ∧ DRep g' w1 d v' ∧ ∀ b, b < σ.n → g'.β b = g.β b :=
        ⟨ha1.defers, v, hrun, v, g1, δ1, rfl, hl1, hs1, hd, hb1⟩
      rcases hout with ho | ho <;> (rw [ho]; exact this)

/-- Every round of the interpreter says what the program does. -/
theorem evs_ok (hE : EnvOK E) : ∀ (n : Nat), CallOK E (evs E n) ∧ CodeOK E (evs E n)
  | 0 => by
    constructor
    · intro f args σ d σ' h; cases h
    · intro c fa σ out fa' σ' h; cases h
  | n + 1 => by
    obtain ⟨h1, h2⟩ := evs_ok hE n
    exact ⟨body_step h2, code_step hE h1 h2⟩

end

end Go.Vm
