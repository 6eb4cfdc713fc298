/- The interpreter with values, part 2: its rounds, what the machine does of them, its rules; no condition. -/
import Derived.Test.YtgcphfhmoabhnaaGreatDoorVmA
import Derived.LoopN
import Derived.SliceStrings
import Derived.Lib.LaidU8
import Derived.Lib.SlicesCompact
import Derived.Shelf.Slices.In.SortNone
import Derived.Shelf.Slices.In.SortAlone
import Derived.Shelf.Slices.CompactI
import Derived.Lib.SortBridge
import Derived.Sort.EveryDepth
import Derived.ChangeArms
import Derived.DataReads
set_option linter.unusedVariables false
namespace Go.Vm
open Go.RowKit (Below)
def exitOf : Option (Option Nat) → Exit
  | none => .normal
  | some none => .ret
  | some (some id) => .exit id
def Runs (P : Program) (m : Nat) (c : Code) (Q : Exit → Act → World → Prop) (a : Act) (w : World) : Prop :=
  match c with
  | .loop b => Code.rounds P b Q m a w
  | c => c.wp P Q a w
theorem Runs.wp {P : Program} {m : Nat} {c : Code} {Q : Exit → Act → World → Prop} {a : Act} {w : World} (h : Runs P m c Q a w) : c.wp P Q a w := by
  cases c with
  | loop b => exact wp_loop_rounds m h
  | _ => exact h
def CodeOK (E : Env) (r : Evs) : Prop :=
  ∀ (c : Code) (fa : A) (σ : St) (out : Option (Option Nat)) (fa' : A) (σ' : St), r.code c fa σ = .ok (out, fa', σ') → σ.n ≤ σ'.n ∧ ∃ (m : Nat),
    ∀ (base : Nat) (w0 : World) (S0 : Nat → Nat → Prop) (g : Ghost) (δ : Nat → Option Nat) (act : Act) (w : World) (Q : Exit → Act → World → Prop),
      SRel E base w0 S0 g δ σ w → ARel g fa act w →
      (∀ (g' : Ghost) (δ' : Nat → Option Nat) (act' : Act) (w' : World), Le g g' w w' → SRel E base w0 S0 g' δ' σ' w' → ARel g' fa' act' w' → (∀ (b : Nat), b < σ.n → g'.β b = g.β b) → Q (exitOf out) act' w') →
      Runs E.P m c Q act w
section
variable {E : Env} {base : Nat} {w0 : World} {S0 : Nat → Nat → Prop} {g : Ghost} {δ : Nat → Option Nat} {σ : St} {w : World} {r : Evs}
theorem SRel.fresh (hs : SRel E base w0 S0 g δ σ w) {i : Nat} (hi : σ.n ≤ i) : g.β i = none := by
  cases h : g.β i with
  | none => rfl
  | some k => have := (hs.boxlt i k h).1; omega
theorem evOps_n (hr : CallOK E r) {ops : Array Oper} : ∀ (rest : List Oper) (id : Nat) (fa : A) (σ : St) (tr : List Ent) (fa' : A) (σ' : St), evOps E r ops rest id fa σ = .ok (tr, fa', σ') → σ.n ≤ σ'.n
  | [], id, fa, σ, tr, fa', σ', h => by simp only [evOps] at h; cases h; exact Nat.le_refl _
  | o :: rest, id, fa, σ, tr, fa', σ', h => by
    simp only [evOps] at h
    obtain ⟨b, hw, h⟩ := R.bind_ok h
    cases b with
    | false =>
      simp only at h
      obtain ⟨fa1, hput, h⟩ := R.bind_ok h
      obtain ⟨⟨tr1, fa2, σ2⟩, hp, h⟩ := R.bind_ok h
      cases h
      exact evOps_n hr rest _ _ _ _ _ _ hp
    | true =>
      simp only at h
      obtain ⟨⟨cls, d, σ1⟩, hq, h⟩ := R.bind_ok h
      obtain ⟨fa1, hput, h⟩ := R.bind_ok h
      obtain ⟨⟨tr1, fa2, σ2⟩, hp, h⟩ := R.bind_ok h
      cases h
      exact Nat.le_trans (evOp_n hr hq) (evOps_n hr rest _ _ _ _ _ _ hp)
theorem code_step (hE : EnvOK E) (hr : CallOK E r) (hc : CodeOK E r) : CodeOK E (stepEvs E r) := by
  intro c fa σ out fa' σ' h
  simp only [stepEvs] at h
  unfold evCode at h
  cases c with
  | skip => cases h; exact ⟨Nat.le_refl _, 0, fun base w0 S0 g δ act w Q hs ha hQ => wp_skip (hQ g δ act w (Le.refl _ _) hs ha fun _ _ => rfl)⟩
  | ret => cases h; exact ⟨Nat.le_refl _, 0, fun base w0 S0 g δ act w Q hs ha hQ => wp_ret (hQ g δ act w (Le.refl _ _) hs ha fun _ _ => rfl)⟩
  | exit id => cases h; exact ⟨Nat.le_refl _, 0, fun base w0 S0 g δ act w Q hs ha hQ => wp_exit (hQ g δ act w (Le.refl _ _) hs ha fun _ _ => rfl)⟩
  | seq x y =>
    obtain ⟨⟨o1, fa1, σ1⟩, hx, h⟩ := R.bind_ok h
    obtain ⟨hn1, m1, h1⟩ := hc _ _ _ _ _ _ hx
    cases o1 with
    | none =>
      simp only at h
      obtain ⟨hn2, m2, h2⟩ := hc _ _ _ _ _ _ h
      refine ⟨Nat.le_trans hn1 hn2, 0, fun base w0 S0 g δ act w Q hs ha hQ => ?_⟩
      refine wp_seq (Runs.wp (h1 _ _ _ _ _ _ _ _ hs ha ?_))
      intro g1 δ1 act1 w1 hl1 hs1 ha1 hb1
      refine Runs.wp (h2 _ _ _ _ _ _ _ _ hs1 ha1 ?_)
      intro g2 δ2 act2 w2 hl2 hs2 ha2 hb2
      exact hQ g2 δ2 act2 w2 (hl1.trans hl2) hs2 ha2 (fun b hb => (hb2 b (by omega)).trans (hb1 b hb))
    | some e =>
      simp only at h
      cases h
      refine ⟨hn1, 0, fun base w0 S0 g δ act w Q hs ha hQ => ?_⟩
      refine wp_seq (Runs.wp (h1 _ _ _ _ _ _ _ _ hs ha ?_))
      intro g1 δ1 act1 w1 hl1 hs1 ha1 hb1
      have := hQ g1 δ1 act1 w1 hl1 hs1 ha1 hb1
      cases e <;> exact this
  | cond cnd x y =>
    simp only at h
    have go : ∀ (b : Bool), opnd E fa cnd = some (.c (.bool b)) → r.code (if b then x else y) fa σ = .ok (out, fa', σ') → σ.n ≤ σ'.n ∧ ∃ (m : Nat),
        ∀ (base : Nat) (w0 : World) (S0 : Nat → Nat → Prop) (g : Ghost) (δ : Nat → Option Nat) (act : Act) (w : World) (Q : Exit → Act → World → Prop),
        SRel E base w0 S0 g δ σ w → ARel g fa act w →
        (∀ (g' : Ghost) (δ' : Nat → Option Nat) (act' : Act) (w' : World), Le g g' w w' → SRel E base w0 S0 g' δ' σ' w' → ARel g' fa' act' w' → (∀ (b : Nat), b < σ.n → g'.β b = g.β b) → Q (exitOf out) act' w') →
        Runs E.P m (.cond cnd x y) Q act w := by
      intro b hb hx
      obtain ⟨hn1, m1, h1⟩ := hc _ _ _ _ _ _ hx
      refine ⟨hn1, 0, fun base w0 S0 g δ act w Q hs ha hQ => ?_⟩
      exact wp_cond (rep_bool (hs.opnd ha cnd _ hb)) (Runs.wp (h1 _ _ _ _ _ _ _ _ hs ha hQ))
    split at h
    · rename_i hb; exact go true hb h
    · rename_i hb; exact go false hb h
    · cases h
  | block id b =>
    obtain ⟨⟨o1, fa1, σ1⟩, hx, h⟩ := R.bind_ok h
    obtain ⟨hn1, m1, h1⟩ := hc _ _ _ _ _ _ hx
    cases o1 with
    | none =>
      simp only at h
      cases h
      exact ⟨hn1, 0, fun base w0 S0 g δ act w Q hs ha hQ => wp_block (Runs.wp (h1 _ _ _ _ _ _ _ _ hs ha hQ))⟩
    | some e =>
      cases e with
      | none =>
        simp only at h
        cases h
        exact ⟨hn1, 0, fun base w0 S0 g δ act w Q hs ha hQ => wp_block (Runs.wp (h1 _ _ _ _ _ _ _ _ hs ha hQ))⟩
      | some j =>
        simp only at h
        refine ⟨?_, 0, fun base w0 S0 g δ act w Q hs ha hQ => wp_block (Runs.wp (h1 _ _ _ _ _ _ _ _ hs ha ?_))⟩
        · cases hj : Nat.beq j id <;> (rw [hj] at h; cases h; exact hn1)
        · intro g1 δ1 act1 w1 hl1 hs1 ha1 hb1
          show if j = id then Q .normal act1 w1 else Q (.exit j) act1 w1
          cases hj : Nat.beq j id with
          | true =>
            rw [hj] at h; cases h
            rw [if_pos (Nat.beq_eq ▸ hj : j = id)]
            exact hQ g1 δ1 act1 w1 hl1 hs1 ha1 hb1
          | false =>
            rw [hj] at h; cases h
            rw [if_neg (fun h9 => by rw [← Nat.beq_eq, hj] at h9; cases h9)]
            exact hQ g1 δ1 act1 w1 hl1 hs1 ha1 hb1
  | loop b =>
    obtain ⟨⟨o1, fa1, σ1⟩, hx, h⟩ := R.bind_ok h
    obtain ⟨hn1, m1, h1⟩ := hc _ _ _ _ _ _ hx
    cases o1 with
    | none =>
      simp only at h
      obtain ⟨hn2, m2, h2⟩ := hc _ _ _ _ _ _ h
      refine ⟨Nat.le_trans hn1 hn2, m2 + 1, fun base w0 S0 g δ act w Q hs ha hQ => ?_⟩
      refine Runs.wp (h1 _ _ _ _ _ _ _ _ hs ha ?_)
      intro g1 δ1 act1 w1 hl1 hs1 ha1 hb1
      refine h2 _ _ _ _ _ _ _ _ hs1 ha1 ?_
      intro g2 δ2 act2 w2 hl2 hs2 ha2 hb2
      exact hQ g2 δ2 act2 w2 (hl1.trans hl2) hs2 ha2 (fun b hb => (hb2 b (by omega)).trans (hb1 b hb))
    | some e =>
      simp only at h
      cases h
      refine ⟨hn1, 1, fun base w0 S0 g δ act w Q hs ha hQ => ?_⟩
      refine Runs.wp (h1 _ _ _ _ _ _ _ _ hs ha ?_)
      intro g1 δ1 act1 w1 hl1 hs1 ha1 hb1
      have := hQ g1 δ1 act1 w1 hl1 hs1 ha1 hb1
      cases e <;> exact this
  | region id ops draw =>
    obtain ⟨⟨tr, fa1, σ1⟩, hx, h⟩ := R.bind_ok h
    obtain ⟨hd, h⟩ := cond_ok h
    cases h
    have hn := evOps_n hr _ _ _ _ _ _ _ hx
    have hn : σ.n + ops.size ≤ σ'.n := hn
    refine ⟨by omega, 0, fun base w0 S0 g δ act w Q hs ha hQ => ?_⟩
    have hs1 := hs.more (σ.n + ops.size) (Nat.le_add_right _ _)
    have hQ' : ∀ g' δ' act' w', Le g g' w w' → SRel E base w0 S0 g' δ' σ' w' → ARel g' fa' act' w' → (∀ (b : Nat), b < σ.n → g'.β b = g.β b) → Q .normal act' w' := hQ
    cases draw with
    | false =>
      refine wp_region ?_
      have := seq_sound hE hr (ops := ops) (Q := Q) ops.toList 0 σ.n fa _ tr fa' σ' hx (fun j => by simp) (by simp) hs1 ha (fun i hi => .inl (hs.fresh hi)) (by simp) hQ'
      rw [List.range_eq_range']
      simpa using this
    | true =>
      simp only [Bool.not_true, Bool.false_or, Bool.and_eq_true] at hd
      exact draw_sound hE hr hx hd.1 hd.2 hs1 ha (fun i hi => hs.fresh hi) (Nat.le_refl _) hQ' id
  | _ => cases h
theorem init_get : ∀ (args : List D) (k : Nat) (t : Tr D) (i : Nat),
    ((args.foldl (fun (p : Nat × Tr D) d => (p.1 + 1, p.2.set p.1 d)) (k, t)).2.get i) = if k ≤ i ∧ i < k + args.length then args[i - k]? else t.get i
  | [], k, t, i => by
    rw [if_neg (by simp only [List.length_nil]; omega)]; rfl
  | d :: ds, k, t, i => by
    rw [List.foldl_cons, init_get ds (k + 1) (t.set k d) i]
    simp only [List.length_cons]
    by_cases h1 : k + 1 ≤ i ∧ i < k + 1 + ds.length
    · rw [if_pos h1, if_pos (by omega), show i - k = (i - (k + 1)) + 1 by omega, List.getElem?_cons_succ]
    · rw [if_neg h1]
      by_cases h2 : i = k
      · subst h2
        rw [Tr.get_set_same, if_pos (by omega), Nat.sub_self]; rfl
      · rw [Tr.get_set_other _ _ _ _ h2, if_neg (by omega)]
theorem init_rel {args : List D} {vs : List Value} (h : DReps g w args vs) (nt : Nat) :
    ARel g (initA nt args) { tmps := ⟨vs⟩ ++ Array.replicate (nt - (⟨vs⟩ : Array Value).size) undef, defers := [] } w := by
  have hl := h.length
  refine ⟨by simp [initA, hl], fun t => ?_, rfl⟩
  have hg := init_get args 0 .leaf t
  simp only [A.get, initA]
  rw [hg]
  simp only [Nat.zero_le, true_and, Nat.zero_add, Nat.sub_zero]
  by_cases ht : t < args.length
  · rw [if_pos ht]
    have ha : args[t]? = some args[t] := List.getElem?_eq_getElem ht
    obtain ⟨v, hv, hd⟩ := h.at t _ ha
    rw [ha, Option.getD_some]
    have : (({ toList := vs } : Array Value) ++ Array.replicate (nt - ({ toList := vs } : Array Value).size) undef).getD t undef = v := by
      rw [Array.getD_eq_getD_getElem?, Array.getElem?_append_left (by simp; omega)]
      simp [hv]
    rw [this]; exact hd
  · rw [if_neg ht]
    have : (({ toList := vs } : Array Value) ++ Array.replicate (nt - ({ toList := vs } : Array Value).size) undef).getD t undef = undef := by
      rw [Array.getD_eq_getD_getElem?, Array.getElem?_append_right (by simp; omega)]
      simp only [Array.getElem?_replicate]
      split <;> rfl
    rw [this]
    exact undef_rep
def resSem (tmps : Array Value) (x : ResultVar) : Sem Value :=
  match x with
  | .tmp t => pure (tmps.getD t undef)
  | .cell a t => do loadVar t (← asAddr (tmps.getD a undef))
theorem results_eq (fn : Func) (tmps : Array Value) : results fn tmps = (do let vs ← fn.results.mapM (resSem tmps); pure (if h : vs.size = 1 then vs[0] else .tuple vs)) := rfl
theorem result1_gives (hs : SRel E base w0 S0 g δ σ w) {fa : A} {act : Act} (ha : ARel g fa act w) {x : ResultVar} {d : D} (h : result1 E fa σ x = .ok d) :
    Gives E g w (resSem act.tmps x) d := by
  cases x with
  | tmp t =>
    simp only [result1] at h
    cases h
    exact ⟨_, rfl, ha.tmps t⟩
  | cell x t =>
    simp only [result1] at h
    have hx := ha.tmps x
    split at h
    · rename_i b off hb
      obtain ⟨cs, hcs, h⟩ := R.bind_ok h
      obtain ⟨u, hu, h⟩ := R.bind_ok h
      obtain ⟨n, hn, h⟩ := R.bind_ok h
      rw [hb] at hx
      simp only [DRep] at hx
      obtain ⟨k, hk, hv⟩ := hx
      have h' : (bif aggD u then (bif Nat.ble (off + n) cs.length then .ok (.agg ((cs.drop off).take n)) else .er 88) else ofO 89 cs[off]?) = R.ok d := by
        cases ha : aggD u with
        | true =>
          rw [ha] at h
          cases hb : (off + n).ble cs.length with
          | true => rw [hb] at h; exact h
          | false => rw [hb] at h; cases h
        | false =>
          rw [ha] at h
          show ofO 89 cs[off]? = _
          rw [ofO_ok h]; rfl
      obtain ⟨v, hrun, hd⟩ := loadBox_gives hs (ofO_ok hcs) hk hu hn h'
      refine ⟨v, ?_, hd⟩
      simp only [resSem, hv, asAddr, Sem.run_bind, Sem.run_pure, Result.andThen_ok]
      exact hrun
    · cases h
theorem resultsMap_gives (hs : SRel E base w0 S0 g δ σ w) {fa : A} {act : Act} (ha : ARel g fa act w) : ∀ {rs : List ResultVar} {ds : List D},
    mapO (fun x => match result1 E fa σ x with | .ok d => some d | .er _ => none) rs = some ds →
    ∃ vs, (rs.mapM (resSem act.tmps)).run E.P w = .ok vs w ∧ DReps g w ds vs
  | [], ds, h => by
    simp only [mapO] at h
    cases h
    exact ⟨[], rfl, by simp only [DReps]⟩
  | x :: rs, ds, h => by
    simp only [mapO] at h
    cases hx : result1 E fa σ x with
    | er n => rw [hx] at h; cases h
    | ok d =>
      rw [hx] at h
      simp only at h
      cases hr : mapO (fun x => match result1 E fa σ x with | .ok d => some d | .er _ => none) rs with
      | none => rw [hr] at h; cases h
      | some es =>
        rw [hr] at h
        cases h
        obtain ⟨v, hv, hd⟩ := result1_gives hs ha hx
        obtain ⟨vs, hvs, hds⟩ := resultsMap_gives hs ha hr
        refine ⟨v :: vs, ?_, by simp only [DReps]; exact ⟨v, vs, rfl, hd, hds⟩⟩
        rw [List.mapM_cons, Sem.run_bind, hv, Result.andThen_ok, Sem.run_bind, hvs, Result.andThen_ok]
        rfl
theorem result_gives (hs : SRel E base w0 S0 g δ σ w) {fa : A} {act : Act} (ha : ARel g fa act w) {fn : Func} {d : D} (h : result E fa σ fn.results.toList = .ok d) :
    ∃ v, (results fn act.tmps).run E.P w = .ok v w ∧ DRep g w d v := by
  have key : ∀ (rs : List ResultVar), fn.results = ⟨rs⟩ → ∀ vs, (rs.mapM (resSem act.tmps)).run E.P w = .ok vs w →
      (results fn act.tmps).run E.P w = .ok (if h : vs.toArray.size = 1 then vs.toArray[0] else .tuple vs.toArray) w := by
    intro rs hrs vs hvs
    simp only [results_eq, hrs, Array.mapM_eq_mapM_toList, Sem.run_bind, map_eq_pure_bind, hvs, Result.andThen_ok, Sem.run_pure]
  have many : ∀ (rs : List ResultVar) (ds : List D), fn.results = ⟨rs⟩ → rs.length ≠ 1 → mapO (fun x => match result1 E fa σ x with | .ok d => some d | .er _ => none) rs = some ds → d = .tup ds →
      ∃ v, (results fn act.tmps).run E.P w = .ok v w ∧ DRep g w d v := by
    intro rs ds hrs hl hds hd
    obtain ⟨vs, hvs, hr⟩ := resultsMap_gives hs ha hds
    have hlen : vs.length = rs.length := by rw [hr.length, (mapO_some hds).1]
    refine ⟨_, key rs hrs vs hvs, ?_⟩
    rw [dif_neg (by simp; omega), hd]
    simp only [DRep]
    exact ⟨vs, rfl, hr⟩
  obtain ⟨rs, hrs⟩ : ∃ rs, fn.results = ⟨rs⟩ := ⟨fn.results.toList, rfl⟩
  rw [hrs] at h
  match rs, hrs, h with
  | [x], hrs, h =>
    simp only [result] at h
    obtain ⟨v, hv, hd⟩ := result1_gives hs ha h
    refine ⟨v, ?_, hd⟩
    rw [key [x] hrs [v] (by
      rw [List.mapM_cons, Sem.run_bind, hv, Result.andThen_ok]
      rfl)]
    rfl
  | [], hrs, h =>
    simp only [result] at h
    obtain ⟨ds, hds, h⟩ := R.bind_ok h
    cases h
    exact many [] ds hrs (by simp) (ofO_ok hds) rfl
  | x :: y :: rest, hrs, h =>
    simp only [result] at h
    obtain ⟨ds, hds, h⟩ := R.bind_ok h
    cases h
    exact many (x :: y :: rest) ds hrs (by simp) (ofO_ok hds) rfl
theorem tag_ok {α : Type} {f : Nat} {x : R α} {a : α} (h : tagE f x = .ok a) : x = .ok a := by
  cases x with
  | ok b => simpa [tagE] using h
  | er e => cases h
theorem body_step (hc : CodeOK E r) : CallOK E (stepEvs E r) := by
  intro f args σ d σ' h
  simp only [stepEvs, evBody] at h
  cases hf : E.P.funcs[f]? with
  | none => rw [hf] at h; cases h
  | some fn =>
    rw [hf] at h
    simp only at h
    cases hb : fn.body with
    | none => rw [hb] at h; cases h
    | some c =>
      rw [hb] at h
      obtain ⟨⟨out, fa1, σ1⟩, hx, h⟩ := R.bind_ok (tag_ok h)
      obtain ⟨hn, m, hcode⟩ := hc _ _ _ _ _ _ hx
      have h : (result E fa1 σ1 fn.results.toList).bind (fun d => .ok (d, σ1)) = .ok (d, σ') ∧ (exitOf out = .normal ∨ exitOf out = .ret) := by
        cases out with
        | none => exact ⟨h, .inl rfl⟩
        | some e => cases e with
          | none => exact ⟨h, .inr rfl⟩
          | some id => cases h
      obtain ⟨h, hout⟩ := h
      obtain ⟨d1, hd1, h⟩ := R.bind_ok h
      cases h
      refine ⟨⟨fn, rfl, by rw [hb]; rfl⟩, hn, fun base w0 S0 g δ w vs hs hv => ?_⟩
      refine calls_of_wp hf hb (Runs.wp (hcode _ _ _ _ _ _ _ _ hs (init_rel hv fn.ntmps) ?_))
      intro g1 δ1 act1 w1 hl1 hs1 ha1 hb1
      obtain ⟨v, hrun, hd⟩ := result_gives hs1 ha1 hd1
      have : act1.defers = [] ∧ ∃ v, (results fn act1.tmps).run E.P w1 = .ok v w1 ∧ ∃ v' g' δ', Ending.returned v = .returned v' ∧ Le g g' w w1 ∧ SRel E base w0 S0 g' δ' σ' w1 ∧ DRep g' w1 d v' ∧ ∀ b, b < σ.n → g'.β b = g.β b :=
        ⟨ha1.defers, v, hrun, v, g1, δ1, rfl, hl1, hs1, hd, hb1⟩
      rcases hout with ho | ho <;> (rw [ho]; exact this)
theorem evs_ok (hE : EnvOK E) : ∀ (n : Nat), CallOK E (evs E n) ∧ CodeOK E (evs E n)
  | 0 => by
    constructor
    · intro f args σ d σ' h; cases h
    · intro c fa σ out fa' σ' h; cases h
  | n + 1 => by
    obtain ⟨h1, h2⟩ := evs_ok hE n
    exact ⟨body_step h2, code_step hE h1 h2⟩
end
end Go.Vm
namespace Go.Vm
open Go.RowKit (Below)
section
variable {E : Env}
theorem sums_of_call (hE : EnvOK E) {n f : Nat} {args : List D} {d : D} {σ' : St} (h : (evs E n).call f (args.map strip1) St.empty = .ok (d, σ')) (ha : args.all plain1 = true) (hd : plain d = true) :
    Sums E f args (strip d) := by
  intro S g w vs hgS hlo hF hlive hglob hargs
  subst hgS
  obtain ⟨_, _, hC⟩ := (evs_ok hE n).1 _ _ _ _ _ h
  have hs : SRel E w.heap.size w g.S { S := g.S, β := fun _ => none, γ := fun _ _ => none, μ := fun _ => none } (fun _ => none) St.empty w := by
    constructor
    · exact Below.refl _ _
    · exact Nat.le_refl _
    · exact hlo
    · exact hF
    · exact fun _ _ h => h
    · exact fun _ _ h => .inl h
    · exact hlive
    · exact hglob
    · intro b k h; cases h
    · intro b b' k h; cases h
    · intro b k x h; cases h
    · intro b cs h; cases h
    · intro t n v h; cases h
    · intro t p h; cases h
    · intro t b h; cases h
    · intro t t' b h; cases h
    · intro m k h; cases h
    · intro m m' k h; cases h
    · intro m es h; cases h
  refine (hC _ _ _ _ _ _ vs hs (plains_rep ha hargs _ rfl)).mono ?_
  rintro en w' ⟨v, g', δ', rfl, hle', hs', hd', _⟩
  exact ⟨v, g'.S, rfl, hs'.below, hle'.S, hs'.s1, hs'.live, plain_rep hd hd' { g with S := g'.S } rfl⟩
def Env.more (E : Env) (f : Nat) (h : List D → R D) : Env := { E with sum := fun x => bif Nat.beq x f then some h else E.sum x }
theorem EnvOK.more (hE : EnvOK E) {f : Nat} {h : List D → R D} (hb : ∃ fn, E.P.funcs[f]? = some fn ∧ fn.body.isNone = false) (hs : ∀ args d, h args = .ok d → Sums E f args d) : EnvOK (E.more f h) where
  names := hE.names
  keep := hE.keep
  ext := hE.ext
  sum := by
    intro x k hx
    simp only [Env.more] at hx
    cases hxf : Nat.beq x f with
    | true =>
      rw [hxf] at hx
      simp only [cond_true, Option.some.injEq] at hx
      have : x = f := Nat.beq_eq ▸ hxf
      subst this; subst hx
      exact ⟨hb, fun args d hd => hs args d hd⟩
    | false =>
      rw [hxf] at hx
      obtain ⟨h1, h2⟩ := hE.sum x k hx
      exact ⟨h1, fun args d hd => h2 args d hd⟩
  mixed := hE.mixed
theorem Sums.calls {f : Nat} {args : List D} {d : D} (h : Sums E f args d) {w : World} {vs : List Value} (hlo : E.lo ≤ w.heap.size) (hF : E.F w)
    (hglob : ∀ q c, E.G q = some c → CRep (fun b x => ∃ v, w.cell? ⟨b, x, none⟩ = some v) w (.rp [[c]] 0 0) (.pointer (some ⟨q, 0, none⟩)))
    (hargs : DReps { S := fun b x => ∃ v, w.cell? ⟨b, x, none⟩ = some v, β := fun _ => none, γ := fun _ _ => none, μ := fun _ => none } w args vs) :
    Calls E.P f ⟨vs⟩ w fun en w' => ∃ v g', en = .returned v ∧ Below w.heap.size w w' ∧ DRep g' w' d v := by
  refine (h _ _ w vs rfl hlo hF (fun _ _ h => h) hglob hargs).mono ?_
  rintro en w' ⟨v, S', h1, h2, h3, h4, h5, h6⟩
  exact ⟨v, _, h1, h2, h6⟩
end
end Go.Vm
namespace Go.Vm
open Go.RowKit (Below)
def opndF (E : Env) (fr : Nat → D) : Operand → Option D
  | .tmp t => some (fr t)
  | .const v => toD v
  | .global g => (E.G g).map fun c => .c (.rp [[c]] 0 0)
  | .func f => some (.fn f [] [])
theorem opnd_eq (E : Env) (a : A) : opnd E a = opndF E a.get := by
  funext x; cases x <;> rfl
def updF (fr : Nat → D) (d : Nat) (v : D) : Nat → D := fun t => bif Nat.beq t d then v else fr t
def updO (fr : Nat → D) (o : Option Nat) (v : D) : Nat → D :=
  match o with
  | none => fr
  | some d => updF fr d v
def fitsO (nt : Nat) (o : Option Nat) : Bool :=
  match o with
  | none => true
  | some d => Nat.blt d nt
theorem pin {fr : Nat → D} {t : Nat} {v : D} (h : fr t = v) : fr = updF fr t v := by
  funext x
  simp only [updF]
  cases hx : Nat.beq x t with
  | true => have : x = t := Nat.beq_eq ▸ hx; subst this; simpa using h
  | false => rfl
theorem put_upd {a : A} {o : Option Nat} {v : D} (h : fitsO a.nt o = true) : ∃ a', a.put o v = .ok a' ∧ a'.nt = a.nt ∧ a'.get = updO a.get o v := by
  cases o with
  | none => exact ⟨a, rfl, rfl, rfl⟩
  | some d =>
    simp only [fitsO] at h
    refine ⟨⟨a.nt, a.t.set d v⟩, by simp only [A.put, h, cond_true], rfl, ?_⟩
    funext t
    simp only [A.get, updO, updF]
    cases ht : Nat.beq t d with
    | true => have : t = d := Nat.beq_eq ▸ ht; subst this; rw [Tr.get_set_same]; rfl
    | false =>
      have : t ≠ d := fun h => by rw [← Nat.beq_eq, ht] at h; cases h
      rw [Tr.get_set_other _ _ _ _ this]; rfl
def wantF (ops : List Oper) (fr : Nat → D) (o : Oper) : R Bool :=
  match o.guard with
  | none => .ok true
  | some (j, b) =>
    match (ops[j]?).bind (·.dst) with
    | none => .er 140
    | some d => match fr d with
      | .c (.bool x) => .ok (x == b)
      | .tup [] => .ok false
      | _ => .er 141
theorem want_eq (ops : Array Oper) (a : A) (o : Oper) : want ops a o = wantF ops.toList a.get o := by
  unfold want wantF
  cases o.guard with
  | none => rfl
  | some p =>
    obtain ⟨j, b⟩ := p
    simp only [Array.getElem?_toList]
    rfl
def Rn (E : Env) (r : Evs) (ops : List Oper) (rest : List Oper) (id nt : Nat) (fr : Nat → D) (σ : St) (cl : List Nat) (fr' : Nat → D) (σ' : St) : Prop :=
  ∀ a : A, a.nt = nt → a.get = fr → ∃ tr a', evOps E r ⟨ops⟩ rest id a σ = .ok (tr, a', σ') ∧ tr.map (·.cls) = cl ∧ a'.nt = nt ∧ a'.get = fr'
section
variable {E : Env} {r : Evs} {ops : List Oper} {rest : List Oper} {id nt : Nat} {fr fr' : Nat → D} {σ σ1 σ' : St} {cl : List Nat}
theorem Rn.nil : Rn E r ops [] id nt fr σ [] fr σ := fun a h1 h2 => ⟨[], a, rfl, rfl, h1, h2⟩
theorem Rn.on {o : Oper} {cls : Nat} {d : D} (hw : wantF ops fr o = .ok true) (hop : evOp E r (opndF E fr) id σ o.op = .ok (cls, d, σ1)) (hf : fitsO nt o.dst = true)
    (h : Rn E r ops rest (id + 1) nt (updO fr o.dst d) σ1 cl fr' σ') : Rn E r ops (o :: rest) id nt fr σ (cls :: cl) fr' σ' := by
  intro a h1 h2
  subst h1; subst h2
  obtain ⟨a1, p1, p2, p3⟩ := put_upd (v := d) hf
  obtain ⟨tr, a', q1, q2, q3, q4⟩ := h a1 p2 p3
  exact ⟨⟨true, cls, d, a, σ1⟩ :: tr, a', by simp only [evOps, want_eq, hw, R.bind, opnd_eq, hop, p1, q1], by simp [q2], q3, q4⟩
theorem Rn.off {o : Oper} (hw : wantF ops fr o = .ok false) (hf : fitsO nt o.dst = true)
    (h : Rn E r ops rest (id + 1) nt (updO fr o.dst (.tup [])) σ cl fr' σ') : Rn E r ops (o :: rest) id nt fr σ (3 :: cl) fr' σ' := by
  intro a h1 h2
  subst h1; subst h2
  obtain ⟨a1, p1, p2, p3⟩ := put_upd (v := .tup []) hf
  obtain ⟨tr, a', q1, q2, q3, q4⟩ := h a1 p2 p3
  exact ⟨⟨false, 3, .tup [], a, σ⟩ :: tr, a', by simp only [evOps, want_eq, hw, R.bind, p1, q1], by simp [q2], q3, q4⟩
end
section
variable {E : Env} {r : Evs} {ops : List Oper} {rest : List Oper} {id nt : Nat} {fr fr' : Nat → D} {σ σ1 σ' : St} {cl : List Nat}
theorem Rn.step {o : Oper} {t cls : Nat} {d : D} (hw : wantF ops fr o = .ok true) (hd : o.dst = some t) (hop : evOp E r (opndF E fr) id σ o.op = .ok (cls, d, σ1)) (hf : Nat.blt t nt = true)
    (h : Rn E r ops rest (id + 1) nt (updF fr t d) σ1 cl fr' σ') : Rn E r ops (o :: rest) id nt fr σ (cls :: cl) fr' σ' :=
  Rn.on hw hop (by rw [hd]; exact hf) (by rw [hd]; exact h)
theorem Rn.pass {o : Oper} {t : Nat} (hw : wantF ops fr o = .ok false) (hd : o.dst = some t) (hf : Nat.blt t nt = true)
    (h : Rn E r ops rest (id + 1) nt (updF fr t (.tup [])) σ cl fr' σ') : Rn E r ops (o :: rest) id nt fr σ (3 :: cl) fr' σ' :=
  Rn.off hw (by rw [hd]; exact hf) (by rw [hd]; exact h)
end
def effsC : List Nat → Nat → List Nat
  | [], _ => []
  | x :: xs, i => bif Nat.beq x 2 then i :: effsC xs (i + 1) else effsC xs (i + 1)
def lookC (m fs : List Nat) (i k : Nat) : Nat → Nat → Bool
  | 0, _ => true
  | n + 1, c => (Nat.beq c k || (fs.take c).any (fun j => (m.getD j 0).testBit i) || (fs.drop c).any (fun j => (m.getD i 0).testBit j)) && lookC m fs i k n (c + 1)
def looksC (m fs : List Nat) (n : Nat) : List Nat → Nat → Nat → Bool
  | [], _, _ => true
  | x :: xs, i, k => (!Nat.beq x 1 || lookC m fs i k n 0) && looksC m fs n xs (i + 1) (bif Nat.beq x 2 then k + 1 else k)
def drawC (ops : Array Oper) (cl : List Nat) : Bool :=
  let m := masks ops.toList []
  let fs := effsC cl 0
  drawStatic ops && ordered m fs && looksC m fs (fs.length + 1) cl 0 0
theorem effs_C : ∀ (tr : List Ent) (i : Nat), effs tr i = effsC (tr.map (·.cls)) i
  | [], i => rfl
  | x :: xs, i => by
    simp only [effs, List.map_cons, effsC, effs_C xs]
theorem lookC_ok {E : Env} {m fs : List Nat} {o : Oper} {x : Ent} {i k : Nat} : ∀ (τ : List St) (n c : Nat), τ.length ≤ n → lookC m fs i k n c = true → lookOK E m fs o x i k τ c = true
  | [], n, c, _, _ => rfl
  | σ :: τ, 0, c, h, _ => by simp at h
  | σ :: τ, n + 1, c, h, hl => by
    simp only [lookC, Bool.and_eq_true] at hl
    simp only [lookOK, hl.1, Bool.true_or, Bool.true_and]
    exact lookC_ok τ n (c + 1) (by simpa using h) hl.2
theorem looksC_ok {E : Env} {m fs : List Nat} {n : Nat} {τ : List St} (hτ : τ.length ≤ n) : ∀ (os : List Oper) (xs : List Ent) (i k : Nat), looksC m fs n (xs.map (·.cls)) i k = true → looksOK E m fs τ os xs i k = true
  | [], xs, i, k, _ => by simp [looksOK]
  | o :: os, [], i, k, _ => by simp [looksOK]
  | o :: os, x :: xs, i, k, h => by
    simp only [List.map_cons, looksC, Bool.and_eq_true, Bool.or_eq_true] at h
    simp only [looksOK, Bool.and_eq_true, Bool.or_eq_true]
    refine ⟨h.1.imp (fun h => h) (fun h => lookC_ok τ n 0 hτ h), ?_⟩
    exact looksC_ok hτ os xs _ _ h.2
theorem drawC_ok {E : Env} {ops : Array Oper} {σ : St} {tr : List Ent} (h : drawC ops (tr.map (·.cls)) = true) : (drawStatic ops && drawDyn E ops σ tr) = true := by
  simp only [drawC, Bool.and_eq_true] at h
  simp only [drawDyn, Bool.and_eq_true]
  rw [effs_C]
  refine ⟨h.1.1, h.1.2, looksC_ok ?_ _ _ _ _ h.2⟩
  rw [epochs_len, ← effs_len tr 0, effs_C]
  exact Nat.le_refl _
def Cn (E : Env) (c : Code) (nt : Nat) (fr : Nat → D) (σ : St) (o : Option (Option Nat)) (fr' : Nat → D) (σ' : St) : Prop :=
  ∃ N, ∀ n, N ≤ n → ∀ a : A, a.nt = nt → a.get = fr → ∃ a', (evs E n).code c a σ = .ok (o, a', σ') ∧ a'.nt = nt ∧ a'.get = fr'
section
variable {E : Env} {nt : Nat} {fr fr1 fr' : Nat → D} {σ σ1 σ' : St} {o : Option (Option Nat)} {x y b : Code}
theorem fuel {N n : Nat} (h : N + 1 ≤ n) : ∃ m, n = m + 1 ∧ N ≤ m := ⟨n - 1, by omega, by omega⟩
theorem Cn.skip : Cn E .skip nt fr σ none fr σ := ⟨1, fun n hn a h1 h2 => ⟨a, by obtain ⟨m, rfl, _⟩ := fuel hn; rfl, h1, h2⟩⟩
theorem Cn.ret : Cn E .ret nt fr σ (some none) fr σ := ⟨1, fun n hn a h1 h2 => ⟨a, by obtain ⟨m, rfl, _⟩ := fuel hn; rfl, h1, h2⟩⟩
theorem Cn.exit (id : Nat) : Cn E (.exit id) nt fr σ (some (some id)) fr σ := ⟨1, fun n hn a h1 h2 => ⟨a, by obtain ⟨m, rfl, _⟩ := fuel hn; rfl, h1, h2⟩⟩
theorem Cn.seq (hx : Cn E x nt fr σ none fr1 σ1) (hy : Cn E y nt fr1 σ1 o fr' σ') : Cn E (.seq x y) nt fr σ o fr' σ' := by
  obtain ⟨N1, p⟩ := hx
  obtain ⟨N2, q⟩ := hy
  refine ⟨N1 + N2 + 1, fun n hn a h1 h2 => ?_⟩
  obtain ⟨m, rfl, hm⟩ := fuel hn
  obtain ⟨a1, p3, p1, p2⟩ := p m (by omega) a h1 h2
  obtain ⟨a2, q3, q1, q2⟩ := q m (by omega) a1 p1 p2
  refine ⟨a2, ?_, q1, q2⟩
  simp only [evs, stepEvs, evCode, p3, R.bind, q3]
theorem Cn.seq_out {e : Option Nat} (hx : Cn E x nt fr σ (some e) fr1 σ1) : Cn E (.seq x y) nt fr σ (some e) fr1 σ1 := by
  obtain ⟨N1, p⟩ := hx
  refine ⟨N1 + 1, fun n hn a h1 h2 => ?_⟩
  obtain ⟨m, rfl, hm⟩ := fuel hn
  obtain ⟨a1, p3, p1, p2⟩ := p m (by omega) a h1 h2
  refine ⟨a1, ?_, p1, p2⟩
  simp only [evs, stepEvs, evCode, p3, R.bind]
theorem Cn.cond_true {c : Operand} (hc : opndF E fr c = some (.c (.bool true))) (hx : Cn E x nt fr σ o fr' σ') : Cn E (.cond c x y) nt fr σ o fr' σ' := by
  obtain ⟨N1, p⟩ := hx
  refine ⟨N1 + 1, fun n hn a h1 h2 => ?_⟩
  obtain ⟨m, rfl, hm⟩ := fuel hn
  obtain ⟨a1, p3, p1, p2⟩ := p m (by omega) a h1 h2
  refine ⟨a1, ?_, p1, p2⟩
  simp only [evs, stepEvs, evCode, opnd_eq, h2, hc, p3]
theorem Cn.cond_false {c : Operand} (hc : opndF E fr c = some (.c (.bool false))) (hx : Cn E y nt fr σ o fr' σ') : Cn E (.cond c x y) nt fr σ o fr' σ' := by
  obtain ⟨N1, p⟩ := hx
  refine ⟨N1 + 1, fun n hn a h1 h2 => ?_⟩
  obtain ⟨m, rfl, hm⟩ := fuel hn
  obtain ⟨a1, p3, p1, p2⟩ := p m (by omega) a h1 h2
  refine ⟨a1, ?_, p1, p2⟩
  simp only [evs, stepEvs, evCode, opnd_eq, h2, hc, p3]
def outBlock (id : Nat) : Option (Option Nat) → Option (Option Nat)
  | some (some j) => bif Nat.beq j id then none else some (some j)
  | o => o
theorem Cn.block {id : Nat} {o' : Option (Option Nat)} (hx : Cn E b nt fr σ o fr' σ') (ho : outBlock id o = o') : Cn E (.block id b) nt fr σ o' fr' σ' := by
  subst ho
  obtain ⟨N1, p⟩ := hx
  refine ⟨N1 + 1, fun n hn a h1 h2 => ?_⟩
  obtain ⟨m, rfl, hm⟩ := fuel hn
  obtain ⟨a1, p3, p1, p2⟩ := p m (by omega) a h1 h2
  refine ⟨a1, ?_, p1, p2⟩
  cases o with
  | none => simp only [evs, stepEvs, evCode, p3, R.bind, outBlock]
  | some e => cases e with
    | none => simp only [evs, stepEvs, evCode, p3, R.bind, outBlock]
    | some j => simp only [evs, stepEvs, evCode, p3, R.bind, outBlock]
theorem Cn.loop (hx : Cn E b nt fr σ none fr1 σ1) (hy : Cn E (.loop b) nt fr1 σ1 o fr' σ') : Cn E (.loop b) nt fr σ o fr' σ' := by
  obtain ⟨N1, p⟩ := hx
  obtain ⟨N2, q⟩ := hy
  refine ⟨N1 + N2 + 1, fun n hn a h1 h2 => ?_⟩
  obtain ⟨m, rfl, hm⟩ := fuel hn
  obtain ⟨a1, p3, p1, p2⟩ := p m (by omega) a h1 h2
  obtain ⟨a2, q3, q1, q2⟩ := q m (by omega) a1 p1 p2
  refine ⟨a2, ?_, q1, q2⟩
  simp only [evs, stepEvs, evCode, p3, R.bind]
  exact q3
theorem Cn.loop_out {e : Option Nat} (hx : Cn E b nt fr σ (some e) fr1 σ1) : Cn E (.loop b) nt fr σ (some e) fr1 σ1 := by
  obtain ⟨N1, p⟩ := hx
  refine ⟨N1 + 1, fun n hn a h1 h2 => ?_⟩
  obtain ⟨m, rfl, hm⟩ := fuel hn
  obtain ⟨a1, p3, p1, p2⟩ := p m (by omega) a h1 h2
  refine ⟨a1, ?_, p1, p2⟩
  simp only [evs, stepEvs, evCode, p3, R.bind]
theorem Cn.region {id : Nat} {ops : List Oper} {draw : Bool} {cl : List Nat} {N : Nat}
    (h : ∀ n, N ≤ n → Rn E (evs E n) ops ops σ.n nt fr { σ with n := σ.n + ops.length } cl fr' σ') (hd : (!draw || drawC ⟨ops⟩ cl) = true) :
    Cn E (.region id ⟨ops⟩ draw) nt fr σ none fr' σ' := by
  refine ⟨N + 1, fun n hn a h1 h2 => ?_⟩
  obtain ⟨m, rfl, hm⟩ := fuel hn
  obtain ⟨tr, a', p1, p2, p3, p4⟩ := h m hm a h1 h2
  refine ⟨a', ?_, p3, p4⟩
  have hd' : (!draw || (drawStatic ⟨ops⟩ && drawDyn E ⟨ops⟩ { σ with n := σ.n + ops.length } tr)) = true := by
    cases draw with
    | false => rfl
    | true =>
      subst p2
      simpa using drawC_ok (E := E) (σ := { σ with n := σ.n + ops.length }) (by simpa using hd)
  simp only [evs, stepEvs, evCode, List.size_toArray]
  rw [show evOps E (evs E m) ⟨ops⟩ ops σ.n a { σ with n := σ.n + ops.length } = _ from p1]
  simp only [R.bind, hd']
  rfl
end
def frOf (args : List D) : Nat → D := fun t => (args[t]?).getD (.tup [])
theorem init_fr (nt : Nat) (args : List D) : (initA nt args).get = frOf args := by
  funext t
  have hg := init_get args 0 .leaf t
  simp only [A.get, initA, frOf]
  rw [hg]
  simp only [Nat.zero_le, true_and, Nat.zero_add, Nat.sub_zero]
  by_cases ht : t < args.length
  · rw [if_pos ht]
  · rw [if_neg ht, List.getElem?_eq_none (by omega)]; rfl
def result1F (E : Env) (fr : Nat → D) (σ : St) : ResultVar → R D
  | .tmp t => .ok (fr t)
  | .cell x t => match fr x with
    | .ptr b off => (ofO 160 (σ.box.get b)).bind fun cs => (und E t).bind fun u => (size E t).bind fun n =>
      bif aggD u then (bif Nat.ble (off + n) cs.length then .ok (.agg ((cs.drop off).take n)) else .er 161)
      else ofO 162 cs[off]?
    | _ => .er 163
def resultF (E : Env) (fr : Nat → D) (σ : St) (rs : List ResultVar) : R D :=
  match rs with
  | [x] => result1F E fr σ x
  | rs => (ofO 164 (mapO (fun x => match result1F E fr σ x with | .ok d => some d | .er _ => none) rs)).bind fun ds => .ok (.tup ds)
theorem result1_F (E : Env) (a : A) (σ : St) (x : ResultVar) : result1 E a σ x = result1F E a.get σ x := by
  cases x <;> rfl
theorem result_F (E : Env) (a : A) (σ : St) (rs : List ResultVar) : result E a σ rs = resultF E a.get σ rs := by
  unfold result resultF
  have : result1 E a σ = result1F E a.get σ := funext fun x => result1_F E a σ x
  rw [this]
  match rs with
  | [] => rfl
  | [x] => rfl
  | _ :: _ :: _ => rfl
def Ev (E : Env) (f : Nat) (args : List D) (σ : St) (d : D) (σ' : St) : Prop := ∃ N, ∀ n, N ≤ n → (evs E n).call f args σ = .ok (d, σ')
theorem Ev.of {E : Env} {f : Nat} {fn : Func} {c : Code} {args : List D} {σ σ' : St} {o : Option (Option Nat)} {fr' : Nat → D} {d : D} {nt : Nat} (hf : E.P.funcs[f]? = some fn) (hb : fn.body = some c)
    (hnt : nt = args.length + (fn.ntmps - args.length)) (hc : Cn E c nt (frOf args) σ o fr' σ') (ho : o = none ∨ o = some none) (hr : resultF E fr' σ' fn.results.toList = .ok d) : Ev E f args σ d σ' := by
  subst hnt
  obtain ⟨N, p⟩ := hc
  refine ⟨N + 1, fun n hn => ?_⟩
  obtain ⟨m, rfl, hm⟩ := fuel hn
  obtain ⟨a', p1, p2, p3⟩ := p m hm (initA fn.ntmps args) rfl (init_fr _ _)
  simp only [evs, stepEvs, evBody, hf, hb, p1, R.bind]
  rcases ho with rfl | rfl <;> simp only [result_F, p3, hr, tagE]
theorem Ev.sums {E : Env} (hE : EnvOK E) {f : Nat} {args : List D} {d : D} {σ' : St} (h : Ev E f (args.map strip1) St.empty d σ') (ha : args.all plain1 = true) (hd : plain d = true) : Sums E f args (strip d) := by
  obtain ⟨N, h⟩ := h
  exact sums_of_call hE (h N (Nat.le_refl _)) ha hd
end Go.Vm
namespace Go.Vm
section
variable {E : Env} {r : Evs} {e : Operand → Option D} {id : Nat} {σ : St}
theorem pure_ok {o : Op} {d : D} (h : opPure E e o = some (.ok d)) : evOp E r e id σ o = .ok (0, d, σ) := by simp only [evOp, h, R.bind]
theorem read_ok {o : Op} {d : D} (hp : opPure E e o = none) (h : opRead E e σ o = some (.ok d)) : evOp E r e id σ o = .ok (1, d, σ) := by simp only [evOp, hp, h, R.bind]
theorem eff_ok {o : Op} {q : Nat × D × St} (hp : opPure E e o = none) (hr : opRead E e σ o = none) (h : opEff E r e id σ o = .ok q) : evOp E r e id σ o = .ok q := by simp only [evOp, hp, hr, h]
theorem op_move {x : Operand} {d : D} (hx : e x = some d) : evOp E r e id σ (.move x) = .ok (0, d, σ) := pure_ok (by simp only [opPure, hx, ofO])
theorem op_assign {x : Operand} {d : D} (hx : e x = some d) : evOp E r e id σ (.assign x) = .ok (0, d, σ) := pure_ok (by simp only [opPure, hx, ofO])
theorem op_move_c {x : Operand} {c : C} (hx : e x = some (.c c)) : evOp E r e id σ (.move x) = .ok (0, .c c, σ) := op_move hx
theorem op_assign_c {x : Operand} {c : C} (hx : e x = some (.c c)) : evOp E r e id σ (.assign x) = .ok (0, .c c, σ) := op_assign hx
theorem op_move_own {x : Operand} {t : Nat} {xs : List (List C)} (hx : e x = some (.own t xs)) : evOp E r e id σ (.move x) = .ok (0, .own t xs, σ) := op_move hx
theorem op_assign_own {x : Operand} {t : Nat} {xs : List (List C)} (hx : e x = some (.own t xs)) : evOp E r e id σ (.assign x) = .ok (0, .own t xs, σ) := op_assign hx
theorem op_pick_t {c x y : Operand} {d : C} (hc : e c = some (.c (.bool true))) (hx : e x = some (.c d)) : evOp E r e id σ (.pick c x y) = .ok (0, .c d, σ) := pure_ok (by simp only [opPure, hc, hx, ofO, R.bind])
theorem op_pick_f {c x y : Operand} {d : C} (hc : e c = some (.c (.bool false))) (hy : e y = some (.c d)) : evOp E r e id σ (.pick c x y) = .ok (0, .c d, σ) := pure_ok (by simp only [opPure, hc, hy, ofO, R.bind])
theorem op_not {t : TypeId} {x : Operand} {b : Bool} (hx : e x = some (.c (.bool b))) : evOp E r e id σ (.unOp .not t x) = .ok (0, .c (.bool !b), σ) := pure_ok (by simp only [opPure, hx, ofO, R.bind, un])
theorem op_int2 {op : BinOp} {t u : TypeId} {x y : Operand} {k : IntKind} {a b : Int} {d : D} (hx : e x = some (.c (.int k a))) (hy : e y = some (.c (.int k b))) (hs : isShift op = false) (h : int2 op k a b = .ok d) :
    evOp E r e id σ (.binOp op t x y u) = .ok (0, d, σ) := pure_ok (by simp only [opPure, hx, hy, ofO, R.bind, bin, hs, cond_false, if_true, h])
theorem op_eql_int {t u : TypeId} {x y : Operand} {k : IntKind} {a b : Int} {v : Bool} (hx : e x = some (.c (.int k a))) (hy : e y = some (.c (.int k b))) (hv : (a == b) = v) :
    evOp E r e id σ (.binOp .eql t x y u) = .ok (0, .c (.bool v), σ) := op_int2 hx hy rfl (by simp only [int2, hv])
theorem op_neq_int {t u : TypeId} {x y : Operand} {k : IntKind} {a b : Int} {v : Bool} (hx : e x = some (.c (.int k a))) (hy : e y = some (.c (.int k b))) (hv : (a != b) = v) :
    evOp E r e id σ (.binOp .neq t x y u) = .ok (0, .c (.bool v), σ) := op_int2 hx hy rfl (by simp only [int2, hv])
theorem op_lss_int {t u : TypeId} {x y : Operand} {k : IntKind} {a b : Int} {v : Bool} (hx : e x = some (.c (.int k a))) (hy : e y = some (.c (.int k b))) (hv : decide (a < b) = v) :
    evOp E r e id σ (.binOp .lss t x y u) = .ok (0, .c (.bool v), σ) := op_int2 hx hy rfl (by simp only [int2, hv])
theorem op_leq_int {t u : TypeId} {x y : Operand} {k : IntKind} {a b : Int} {v : Bool} (hx : e x = some (.c (.int k a))) (hy : e y = some (.c (.int k b))) (hv : decide (a ≤ b) = v) :
    evOp E r e id σ (.binOp .leq t x y u) = .ok (0, .c (.bool v), σ) := op_int2 hx hy rfl (by simp only [int2, hv])
theorem op_gtr_int {t u : TypeId} {x y : Operand} {k : IntKind} {a b : Int} {v : Bool} (hx : e x = some (.c (.int k a))) (hy : e y = some (.c (.int k b))) (hv : decide (a > b) = v) :
    evOp E r e id σ (.binOp .gtr t x y u) = .ok (0, .c (.bool v), σ) := op_int2 hx hy rfl (by simp only [int2, hv])
theorem op_geq_int {t u : TypeId} {x y : Operand} {k : IntKind} {a b : Int} {v : Bool} (hx : e x = some (.c (.int k a))) (hy : e y = some (.c (.int k b))) (hv : decide (a ≥ b) = v) :
    evOp E r e id σ (.binOp .geq t x y u) = .ok (0, .c (.bool v), σ) := op_int2 hx hy rfl (by simp only [int2, hv])
theorem op_add_int {t u : TypeId} {x y : Operand} {k : IntKind} {a b v : Int} (hx : e x = some (.c (.int k a))) (hy : e y = some (.c (.int k b))) (hv : k.wrap (a + b) = v) :
    evOp E r e id σ (.binOp .add t x y u) = .ok (0, .c (.int k v), σ) := op_int2 hx hy rfl (by simp only [int2, hv])
theorem op_sub_int {t u : TypeId} {x y : Operand} {k : IntKind} {a b v : Int} (hx : e x = some (.c (.int k a))) (hy : e y = some (.c (.int k b))) (hv : k.wrap (a - b) = v) :
    evOp E r e id σ (.binOp .sub t x y u) = .ok (0, .c (.int k v), σ) := op_int2 hx hy rfl (by simp only [int2, hv])
theorem op_eql_str {t u : TypeId} {x y : Operand} {a b : ByteArray} {v : Bool} (hx : e x = some (.c (.str a))) (hy : e y = some (.c (.str b))) (hv : (a.toList == b.toList) = v) :
    evOp E r e id σ (.binOp .eql t x y u) = .ok (0, .c (.bool v), σ) := pure_ok (by simp only [opPure, hx, hy, ofO, R.bind, bin, str2, hv])
theorem op_neq_str {t u : TypeId} {x y : Operand} {a b : ByteArray} {v : Bool} (hx : e x = some (.c (.str a))) (hy : e y = some (.c (.str b))) (hv : (!(a.toList == b.toList)) = v) :
    evOp E r e id σ (.binOp .neq t x y u) = .ok (0, .c (.bool v), σ) := pure_ok (by simp only [opPure, hx, hy, ofO, R.bind, bin, str2, hv])
theorem op_add_str {t u : TypeId} {x y : Operand} {a b : ByteArray} (hx : e x = some (.c (.str a))) (hy : e y = some (.c (.str b))) (hv : a.size + b.size ≤ 9223372036854775807) :
    evOp E r e id σ (.binOp .add t x y u) = .ok (0, .c (.str (a ++ b)), σ) := pure_ok (by simp only [opPure, hx, hy, ofO, R.bind, bin, str2, if_pos hv])
theorem op_len_str {x : Operand} {t : TypeId} {s : ByteArray} (hx : e x = some (.c (.str s))) (ht : E.P.underlying t = some .string) :
    evOp E r e id σ (.call { callee := .builtin .len, args := #[x], argTypes := #[t] }) = .ok (0, .c (.int .i64 s.size), σ) := pure_ok (by simp only [opPure, hx, und, ht, ofO, R.bind])
theorem op_len_sl {x : Operand} {t el : TypeId} {f : Bool} {xs : List (List C)} (hx : e x = some (.c (.sl f xs))) (ht : E.P.underlying t = some (.slice el)) :
    evOp E r e id σ (.call { callee := .builtin .len, args := #[x], argTypes := #[t] }) = .ok (0, .c (.int .i64 xs.length), σ) := pure_ok (by simp only [opPure, hx, und, ht, ofO, R.bind])
theorem op_len_own {x : Operand} {t el : TypeId} {k : Nat} {xs : List (List C)} (hx : e x = some (.own k xs)) (ht : E.P.underlying t = some (.slice el)) :
    evOp E r e id σ (.call { callee := .builtin .len, args := #[x], argTypes := #[t] }) = .ok (0, .c (.int .i64 xs.length), σ) := pure_ok (by simp only [opPure, hx, und, ht, ofO, R.bind])
theorem op_index_str {x ix : Operand} {t : TypeId} {s : ByteArray} {k : IntKind} {n : Int} {b : UInt8} (hx : e x = some (.c (.str s))) (hi : e ix = some (.c (.int k n))) (ht : E.P.underlying t = some .string)
    (h0 : 0 ≤ n) (hb : s[n.toNat]? = some b) : evOp E r e id σ (.index t x ix) = .ok (0, .c (.int .u8 b.toNat), σ) := pure_ok (by simp only [opPure, hx, hi, und, ht, ofO, R.bind, if_pos h0, hb])
theorem op_slice_str {x lo hi : Operand} {t : TypeId} {s : ByteArray} {k k' : IntKind} {l h : Int} (hx : e x = some (.c (.str s))) (hl : e lo = some (.c (.int k l))) (hh : e hi = some (.c (.int k' h))) (ht : E.P.underlying t = some .string)
    (h0 : 0 ≤ l) (h1 : l ≤ h) (h2 : h ≤ s.size) : evOp E r e id σ (.slice t x (some lo) (some hi) none) = .ok (0, .c (.str (s.extract l.toNat h.toNat)), σ) := by
  refine pure_ok ?_
  have e1 : Nat.ble l.toNat h.toNat = true := by rw [Nat.ble_eq]; omega
  have e2 : Nat.ble h.toNat s.size = true := by rw [Nat.ble_eq]; omega
  simp only [opPure, hx, und, ht, ofO, R.bind, bound, hl, hh, if_pos h0, if_pos (Int.le_trans h0 h1), e1, e2, Bool.and_self, cond_true]
theorem op_slice_lo {x lo : Operand} {t : TypeId} {s : ByteArray} {k : IntKind} {l : Int} (hx : e x = some (.c (.str s))) (hl : e lo = some (.c (.int k l))) (ht : E.P.underlying t = some .string)
    (h0 : 0 ≤ l) (h1 : l ≤ s.size) : evOp E r e id σ (.slice t x (some lo) none none) = .ok (0, .c (.str (s.extract l.toNat s.size)), σ) := by
  refine pure_ok ?_
  have e1 : Nat.ble l.toNat s.size = true := by rw [Nat.ble_eq]; omega
  have e2 : Nat.ble s.size s.size = true := by rw [Nat.ble_eq]; omega
  simp only [opPure, hx, und, ht, ofO, R.bind, bound, hl, if_pos h0, e1, e2, Bool.and_self, cond_true]
theorem op_slice_hi {x hi : Operand} {t : TypeId} {s : ByteArray} {k' : IntKind} {h : Int} (hx : e x = some (.c (.str s))) (hh : e hi = some (.c (.int k' h))) (ht : E.P.underlying t = some .string)
    (h0 : 0 ≤ h) (h2 : h ≤ s.size) : evOp E r e id σ (.slice t x none (some hi) none) = .ok (0, .c (.str (s.extract 0 h.toNat)), σ) := by
  refine pure_ok ?_
  have e1 : Nat.ble 0 h.toNat = true := by rw [Nat.ble_eq]; omega
  have e2 : Nat.ble h.toNat s.size = true := by rw [Nat.ble_eq]; omega
  simp only [opPure, hx, und, ht, ofO, R.bind, bound, hh, if_pos h0, e1, e2, Bool.and_self, cond_true]
theorem op_extract {x : Operand} {i : Nat} {vs : List D} {c : C} (hx : e x = some (.tup vs)) (hi : vs[i]? = some (.c c)) : evOp E r e id σ (.extract x i) = .ok (0, .c c, σ) := pure_ok (by simp only [opPure, hx, ofO, R.bind, hi])
theorem op_call {f : Operand} {args : Array Operand} {tys : Array TypeId} {ff : Nat} {das : List D} {h : List D → R D} {d : D} (hf : e f = some (.fn ff [] [])) (has : mapO e args.toList = some das) (hs : E.sum ff = some h)
    (hp : das.all plain1 = true) (hd : h (das.map strip1) = .ok d) : evOp E r e id σ (.call { callee := .value f, args := args, argTypes := tys }) = .ok (0, d, σ) := by
  refine eff_ok rfl rfl ?_
  simp only [opEff, hf, has, ofO, R.bind, evCall, hs, List.nil_append, List.append_nil, hp, cond_true, hd]
theorem op_indexAddr {t el : TypeId} {x ix : Operand} {d : D} {xs : List (List C)} {k : IntKind} {n : Int} {row : List C} {it : TypeInfo} (hx : e x = some d) (hi : e ix = some (.c (.int k n))) (hr : rowsOf d = some xs) (ht : E.P.underlying t = some (.slice el))
    (hit : E.P.info? el = some it) (h0 : 0 ≤ n) (hrow : xs[n.toNat]? = some row) (hl : row.length = it.size) : evOp E r e id σ (.indexAddr t x ix) = .ok (0, .c (.rp xs n.toNat 0), σ) := by
  refine pure_ok ?_
  have e1 : Nat.beq row.length it.size = true := by rw [Nat.beq_eq]; exact hl
  simp only [opPure, hx, hi, und, size, hit, Option.map_some, ht, ofO, R.bind, hr, if_pos h0, hrow, e1, cond_true]
theorem op_load_rp {t : TypeId} {x : Operand} {xs : List (List C)} {i off : Nat} {row : List C} {u : TypeDesc} {it : TypeInfo} {c : C} (hx : e x = some (.c (.rp xs i off))) (hrow : xs[i]? = some row) (ht : E.P.underlying t = some u)
    (hit : E.P.info? t = some it) (ha : aggD u = false) (hc : row[off]? = some c) : evOp E r e id σ (.load t x) = .ok (0, .c c, σ) := by
  refine pure_ok ?_
  simp only [opPure, hx, hrow, und, ht, size, hit, Option.map_some, ofO, R.bind, ha, cond_false, hc]
end
end Go.Vm
namespace Go.Vm
section
variable {E : Env} {r : Evs} {e : Operand → Option D} {id : Nat} {σ : St}
theorem op_build0 {t el : TypeId} {it : TypeInfo} {z : List D} (ht : E.P.underlying t = some (.slice el)) (hit : E.P.info? el = some it) (hs : Nat.beq it.size 0 = false) (hz : zero E el = .ok z) (hzl : Nat.beq z.length it.size = true) :
    evOp E r e id σ (.buildSlice t 0 #[]) = .ok (0, .c (.sl true []), σ) := by
  refine pure_ok ?_
  have e1 : Nat.blt 16777216 (0 * it.size) = false := by rw [Nat.zero_mul]; rfl
  simp only [opPure, und, ht, size, hit, Option.map_some, ofO, R.bind, hs, e1, Bool.or_self, cond_false, hz, hzl, Bool.not_true, parts, mapO, fill, repl, rowsFrom]
theorem op_build1 {t el : TypeId} {it : TypeInfo} {z0 : D} {x : Operand} {c : C} (hx : e x = some (.c c)) (ht : E.P.underlying t = some (.slice el)) (hit : E.P.info? el = some it) (hs : it.size = 1) (hz : zero E el = .ok [z0]) :
    evOp E r e id σ (.buildSlice t 1 #[(0, x)]) = .ok (0, .c (.sl true [[c]]), σ) := by
  refine pure_ok ?_
  simp only [opPure, und, ht, size, hit, Option.map_some, ofO, R.bind, hs, hz, parts, mapO, hx]
  rfl
structure AppOK (E : Env) (st xt : TypeId) (n : Nat) (ys : List (List C)) (k : Nat) : Prop where
  is : ∃ el xel it z, E.P.underlying st = some (.slice el) ∧ E.P.underlying xt = some (.slice xel) ∧ E.P.info? el = some it ∧ it.size = k ∧ zero E el = .ok z ∧ z.length = k ∧ k ≠ 0 ∧
    (∀ y ∈ ys, y.length = k) ∧ n + ys.length < 4611686018427387904 ∧ (n + ys.length) * it.bytes ≤ 140737488355328
theorem op_append {s x : Operand} {st xt : TypeId} {ds dx : D} {xs ys : List (List C)} {k : Nat} {q : Nat × D × St} (hs : e s = some ds) (hx : e x = some dx) (hxs : rowsOf ds = some xs) (hys : rowsOf dx = some ys) (hne : ys ≠ [])
    (h : AppOK E st xt xs.length ys k) (hh : headFits xs k = true) (hq : appendTo σ ds ys k = .ok q) :
    evOp E r e id σ (.call { callee := .builtin .append, args := #[s, x], argTypes := #[st, xt] }) = .ok q := by
  obtain ⟨el, xel, it, z, h1, h2, h3, h4, h5, h6, h7, h8, h9, h10⟩ := h.is
  subst h4
  refine eff_ok rfl rfl ?_
  have hadd : added it.size (.slice xel) dx = .ok ys := by
    have h0 : added it.size (.slice xel) dx = ofO 122 (rowsOf dx) := by
      cases dx with
      | c c => cases c <;> rfl
      | _ => rfl
    rw [h0, hys]; rfl
  have e0 : ys.isEmpty = false := by cases ys with
    | nil => exact absurd rfl hne
    | cons _ _ => rfl
  have e1 : Nat.beq it.size 0 = false := by rw [← Bool.not_eq_true, Nat.beq_eq]; exact h7
  have e2 : Nat.beq z.length it.size = true := by rw [Nat.beq_eq]; exact h6
  have e3 : (ys.all fun r => Nat.beq r.length it.size) = true := by
    rw [List.all_eq_true]
    intro y hy
    rw [Nat.beq_eq]; exact h8 y hy
  have e4 : Nat.blt (xs.length + ys.length) 4611686018427387904 = true := by rw [Nat.blt_eq]; exact h9
  have e5 : Nat.ble ((xs.length + ys.length) * it.bytes) 140737488355328 = true := by rw [Nat.ble_eq]; exact h10
  simp only [opEff, hs, hx, und, h1, h2, size, h3, Option.map_some, ofO, R.bind, h5, hadd, hxs, e0, cond_false, e1, e2, e3, hh, e4, e5, Bool.not_true, Bool.or_self, hq]
theorem op_append_new {s x : Operand} {st xt : TypeId} {f : Bool} {xs ys : List (List C)} {k : Nat} (hs : e s = some (.c (.sl true xs))) (hx : e x = some (.c (.sl f ys))) (hne : ys ≠ [])
    (h : AppOK E st xt xs.length ys k) (hh : headFits xs k = true) :
    evOp E r e id σ (.call { callee := .builtin .append, args := #[s, x], argTypes := #[st, xt] }) = .ok (2, .own σ.tn (xs ++ ys), { σ with tn := σ.tn + 1, tok := σ.tok.set σ.tn (xs.length + ys.length, k) }) :=
  op_append hs hx rfl rfl hne h hh rfl
theorem op_append_own {s x : Operand} {st xt : TypeId} {f : Bool} {t : Nat} {xs ys : List (List C)} {k : Nat} (hs : e s = some (.own t xs)) (hx : e x = some (.c (.sl f ys))) (hne : ys ≠ [])
    (h : AppOK E st xt xs.length ys k) (hh : headFits xs k = true) (ht : σ.tok.get t = some (xs.length, k)) :
    evOp E r e id σ (.call { callee := .builtin .append, args := #[s, x], argTypes := #[st, xt] }) = .ok (2, .own t (xs ++ ys), { σ with tok := σ.tok.set t (xs.length + ys.length, k) }) := by
  refine op_append hs hx rfl rfl hne h hh ?_
  have e1 : tokFits (σ.tok.get t) xs k = true := by
    rw [ht]
    simp [tokFits]
  simp only [appendTo, e1, cond_true]
end
end Go.Vm
namespace Go.Vm
def Rw (E : Env) (ops rest : List Oper) (id nt : Nat) (fr : Nat → D) (σ : St) (Q : List Nat → (Nat → D) → St → Prop) : Prop :=
  ∃ cl fr' σ' N, (∀ n, N ≤ n → Rn E (evs E n) ops rest id nt fr σ cl fr' σ') ∧ Q cl fr' σ'
def Cw (E : Env) (c : Code) (nt : Nat) (fr : Nat → D) (σ : St) (Q : Option (Option Nat) → (Nat → D) → St → Prop) : Prop :=
  ∃ o fr' σ', Cn E c nt fr σ o fr' σ' ∧ Q o fr' σ'
section
variable {E : Env} {ops rest : List Oper} {id nt : Nat} {fr : Nat → D} {σ σ1 : St} {Q : List Nat → (Nat → D) → St → Prop}
theorem Rw.nil (h : Q [] fr σ) : Rw E ops [] id nt fr σ Q := ⟨[], fr, σ, 0, fun _ _ => Rn.nil, h⟩
theorem Rw.step {o : Oper} {t cls : Nat} {d : D} (hw : wantF ops fr o = .ok true) (hd : o.dst = some t) (hop : ∀ r, evOp E r (opndF E fr) id σ o.op = .ok (cls, d, σ1)) (hf : Nat.blt t nt = true)
    (h : Rw E ops rest (id + 1) nt (updF fr t d) σ1 (fun cl f s => Q (cls :: cl) f s)) : Rw E ops (o :: rest) id nt fr σ Q := by
  obtain ⟨cl, fr', σ', N, p, q⟩ := h
  exact ⟨_, fr', σ', N, fun n hn => Rn.step hw hd (hop _) hf (p n hn), q⟩
theorem Rw.stepN {o : Oper} {cls : Nat} {d : D} (hw : wantF ops fr o = .ok true) (hd : o.dst = none) (hop : ∀ r, evOp E r (opndF E fr) id σ o.op = .ok (cls, d, σ1))
    (h : Rw E ops rest (id + 1) nt fr σ1 (fun cl f s => Q (cls :: cl) f s)) : Rw E ops (o :: rest) id nt fr σ Q := by
  obtain ⟨cl, fr', σ', N, p, q⟩ := h
  exact ⟨_, fr', σ', N, fun n hn => Rn.on hw (hop _) (by rw [hd]; rfl) (by rw [hd]; exact p n hn), q⟩
theorem Rw.call {o : Oper} {t cls : Nat} {d : D} {N : Nat} (hw : wantF ops fr o = .ok true) (hd : o.dst = some t) (hop : ∀ n, N ≤ n → evOp E (evs E n) (opndF E fr) id σ o.op = .ok (cls, d, σ1)) (hf : Nat.blt t nt = true)
    (h : Rw E ops rest (id + 1) nt (updF fr t d) σ1 (fun cl f s => Q (cls :: cl) f s)) : Rw E ops (o :: rest) id nt fr σ Q := by
  obtain ⟨cl, fr', σ', N', p, q⟩ := h
  exact ⟨_, fr', σ', N + N', fun n hn => Rn.step hw hd (hop n (by omega)) hf (p n (by omega)), q⟩
theorem Rw.pass {o : Oper} {t : Nat} (hw : wantF ops fr o = .ok false) (hd : o.dst = some t) (hf : Nat.blt t nt = true)
    (h : Rw E ops rest (id + 1) nt (updF fr t (.tup [])) σ (fun cl f s => Q (3 :: cl) f s)) : Rw E ops (o :: rest) id nt fr σ Q := by
  obtain ⟨cl, fr', σ', N, p, q⟩ := h
  exact ⟨_, fr', σ', N, fun n hn => Rn.pass hw hd hf (p n hn), q⟩
theorem Rw.passN {o : Oper} (hw : wantF ops fr o = .ok false) (hd : o.dst = none)
    (h : Rw E ops rest (id + 1) nt fr σ (fun cl f s => Q (3 :: cl) f s)) : Rw E ops (o :: rest) id nt fr σ Q := by
  obtain ⟨cl, fr', σ', N, p, q⟩ := h
  exact ⟨_, fr', σ', N, fun n hn => Rn.off hw (by rw [hd]; rfl) (by rw [hd]; exact p n hn), q⟩
theorem Rw.mono {Q' : List Nat → (Nat → D) → St → Prop} (h : Rw E ops rest id nt fr σ Q) (hq : ∀ cl f s, Q cl f s → Q' cl f s) : Rw E ops rest id nt fr σ Q' := by
  obtain ⟨cl, fr', σ', N, p, q⟩ := h
  exact ⟨cl, fr', σ', N, p, hq _ _ _ q⟩
end
section
variable {E : Env} {x y b : Code} {id nt : Nat} {fr : Nat → D} {σ : St} {Q Q' : Option (Option Nat) → (Nat → D) → St → Prop}
theorem Cw.mono (h : Cw E x nt fr σ Q) (hq : ∀ o f s, Q o f s → Q' o f s) : Cw E x nt fr σ Q' := by
  obtain ⟨o, fr', σ', p, q⟩ := h
  exact ⟨o, fr', σ', p, hq _ _ _ q⟩
theorem Cw.skip (h : Q none fr σ) : Cw E .skip nt fr σ Q := ⟨_, _, _, Cn.skip, h⟩
theorem Cw.ret (h : Q (some none) fr σ) : Cw E .ret nt fr σ Q := ⟨_, _, _, Cn.ret, h⟩
theorem Cw.exit {i : Nat} (h : Q (some (some i)) fr σ) : Cw E (.exit i) nt fr σ Q := ⟨_, _, _, Cn.exit i, h⟩
def andThen (k : (Nat → D) → St → Prop) (Q : Option (Option Nat) → (Nat → D) → St → Prop) (o : Option (Option Nat)) (f : Nat → D) (s : St) : Prop :=
  match o with
  | none => k f s
  | some e => Q (some e) f s
theorem Cw.seq (h : Cw E x nt fr σ (andThen (fun f s => Cw E y nt f s Q) Q)) : Cw E (.seq x y) nt fr σ Q := by
  obtain ⟨o, fr', σ', p, q⟩ := h
  cases o with
  | none =>
    obtain ⟨o2, fr2, σ2, p2, q2⟩ := q
    exact ⟨o2, fr2, σ2, Cn.seq p p2, q2⟩
  | some e => exact ⟨some e, fr', σ', Cn.seq_out p, q⟩
theorem Cw.cond_t {c : Operand} (hc : opndF E fr c = some (.c (.bool true))) (h : Cw E x nt fr σ Q) : Cw E (.cond c x y) nt fr σ Q := by
  obtain ⟨o, fr', σ', p, q⟩ := h
  exact ⟨o, fr', σ', Cn.cond_true hc p, q⟩
theorem Cw.cond_f {c : Operand} (hc : opndF E fr c = some (.c (.bool false))) (h : Cw E y nt fr σ Q) : Cw E (.cond c x y) nt fr σ Q := by
  obtain ⟨o, fr', σ', p, q⟩ := h
  exact ⟨o, fr', σ', Cn.cond_false hc p, q⟩
theorem Cw.block (h : Cw E b nt fr σ (fun o f s => Q (outBlock id o) f s)) : Cw E (.block id b) nt fr σ Q := by
  obtain ⟨o, fr', σ', p, q⟩ := h
  exact ⟨_, fr', σ', Cn.block p rfl, q⟩
theorem Cw.loop (h : Cw E b nt fr σ (andThen (fun f s => Cw E (.loop b) nt f s Q) Q)) : Cw E (.loop b) nt fr σ Q := by
  obtain ⟨o, fr', σ', p, q⟩ := h
  cases o with
  | none =>
    obtain ⟨o2, fr2, σ2, p2, q2⟩ := q
    exact ⟨o2, fr2, σ2, Cn.loop p p2, q2⟩
  | some e => exact ⟨some e, fr', σ', Cn.loop_out p, q⟩
theorem Cw.region {ops : List Oper} (h : Rw E ops ops σ.n nt fr { σ with n := σ.n + ops.length } (fun _ f s => Q none f s)) : Cw E (.region id ⟨ops⟩ false) nt fr σ Q := by
  obtain ⟨cl, fr', σ', N, p, q⟩ := h
  exact ⟨none, fr', σ', Cn.region (N := N) p rfl, q⟩
theorem Cw.region_any {ops : List Oper} (h : Rw E ops ops σ.n nt fr { σ with n := σ.n + ops.length } (fun cl f s => drawC ⟨ops⟩ cl = true ∧ Q none f s)) : Cw E (.region id ⟨ops⟩ true) nt fr σ Q := by
  obtain ⟨cl, fr', σ', N, p, q⟩ := h
  exact ⟨none, fr', σ', Cn.region (N := N) p q.1, q.2⟩
theorem Ev.wp {f : Nat} {fn : Func} {c : Code} {args : List D} {R : D → St → Prop} (hf : E.P.funcs[f]? = some fn) (hb : fn.body = some c) (hnt : nt = args.length + (fn.ntmps - args.length))
    (h : Cw E c nt (frOf args) σ (fun o fr' σ' => (o = none ∨ o = some none) ∧ ∃ d, resultF E fr' σ' fn.results.toList = .ok d ∧ R d σ')) : ∃ d σ', Ev E f args σ d σ' ∧ R d σ' := by
  obtain ⟨o, fr', σ', p, ho, d, hd, hR⟩ := h
  exact ⟨d, σ', Ev.of hf hb hnt p ho hd, hR⟩
end
end Go.Vm
namespace Go.Vm
open Go.RowKit (Below)
def Alive (w : World) : Nat → Nat → Prop := fun b x => ∃ v, w.cell? ⟨b, x, none⟩ = some v
def strRows (ss : List (List UInt8)) : List (List C) := ss.map fun s => [.str ⟨s.toArray⟩]
theorem var_cell {P : Program} {w : World} {n : String} {g : Nat} {cs : Array Value} (hg : P.globalNamed n = some g) (h : w.var? P n = some cs) (i : Nat) : w.cell? ⟨g, i, none⟩ = cs[i]? := by
  unfold World.var? at h
  rw [hg] at h
  simp only [Option.bind_some] at h
  unfold World.cell?
  split at h
  · rename_i c t f hh
    cases h
    simp only [hh]
    rfl
  · cases h
theorem addr_add {a : Addr} (h : a.spot = none) (i : Nat) : a.add i = ⟨a.block, a.off + i, none⟩ := by
  unfold Addr.add
  split
  · subst_vars; cases a; simp_all
  · rfl
theorem str_glob {P : Program} {w : World} {n : String} {g t e : Nat} {ss : List (List UInt8)} (hr : Lib.VarReads P w n (.slice (ss.map fun s => .lit (.string s)) [])) (hg : P.globalNamed n = some g)
    (hgt : (P.globals[g]?).map (·.type) = some t) (ht : P.underlying t = some (.slice e)) (he : P.underlying e = some .string) (hc : P.cellsOf e = 1) :
    CRep (Alive w) w (.rp [[.sl true (strRows ss)]] 0 0) (.pointer (some ⟨g, 0, none⟩)) := by
  obtain ⟨g', t', cs, fuel, p, h1, h2, h3, h4⟩ := hr
  rw [hg] at h1; cases h1
  rw [hgt] at h2; cases h2
  have hcell := var_cell hg h3
  have hsl : ∃ v, cs.toList = [v] ∧ CRep (Alive w) w (.sl true (strRows ss)) v := by
    rcases ChangeShapes.open_strings ht he hc h4 with ⟨_, hx⟩ | ⟨a, len, cap, xs, hcs, _, hl, hm, hz, hx, hcl, hsz⟩
    · cases hx
    · refine ⟨_, hcs, ?_⟩
      simp only [if_true] at hz
      have hx1 := congrArg Prod.fst hx
      simp only [DataW.slice.injEq] at hx1
      have hd : xs.drop len = [] := by
        have := hx1.2
        unfold ChangeShapes.strs at this
        exact List.map_eq_nil_iff.1 this.symm
      have hlen : len = xs.length := by
        have := List.drop_eq_nil_iff.1 hd
        omega
      have ht : xs.take len = xs := by rw [hlen, List.take_length]
      rw [ht] at hx1
      have hxs : ss.map (fun s => (DataW.lit (.string s) : DataW Unit)) = xs.map fun s => .lit (.string s.data.toList) := hx1.1
      have hl2 : ss.length = xs.length := by simpa using congrArg List.length hxs
      have hat : ∀ (i : Nat) (s : List UInt8), ss[i]? = some s → xs.getD i ByteArray.empty = ⟨s.toArray⟩ ∧ i < xs.length := by
        intro i s hi
        have hlt : i < xs.length := by rw [← hl2]; exact (List.getElem?_eq_some_iff.1 hi).1
        have h9 := congrArg (fun l => l[i]?) hxs
        simp only [List.getElem?_map, hi, List.getElem?_eq_getElem hlt, Option.map_some, Option.some.injEq, DataW.lit.injEq, Lit.string.injEq] at h9
        refine ⟨?_, hlt⟩
        rw [List.getD, List.getElem?_eq_getElem hlt, Option.getD_some]
        rw [h9]
      by_cases h0 : ss = []
      · subst h0
        have hx0 : xs.length = 0 := by rw [← hl2]; rfl
        have e1 : len = 0 := by omega
        have e2 : cap = 0 := by omega
        subst e1; subst e2
        exact .slNone true _ 0 (fun _ => rfl)
      · have hpos : 0 < xs.length := by rw [← hl2]; exact List.length_pos_iff.2 h0
        have hspot : a.spot = none := by
          have := hcl 0 hpos
          cases hs : a.spot with
          | none => rfl
          | some q =>
            simp only [Addr.add, if_true, World.cell?] at this
            split at this
            · rw [hs] at this; simp at this
            · cases this
        have e2 : cap = len := by omega
        subst e2
        have : cap = (strRows ss).length := by simp [strRows]; omega
        obtain ⟨ab, ao, asp⟩ := a
        simp only at hspot
        subst hspot
        have key : ∀ (i : Nat) (r : List C) (j : Nat) (c : C), (strRows ss)[i]? = some r → r[j]? = some c → j = 0 ∧ ∃ s, ss[i]? = some s ∧ c = .str ⟨s.toArray⟩ := by
          intro i r j c hi hj
          unfold strRows at hi
          rw [List.getElem?_map] at hi
          cases hss : ss[i]? with
          | none => rw [hss] at hi; cases hi
          | some s =>
            rw [hss] at hi
            simp only [Option.map_some, Option.some.injEq] at hi
            subst hi
            cases j with
            | zero => simp only [List.getElem?_cons_zero, Option.some.injEq] at hj; exact ⟨rfl, s, rfl, hj.symm⟩
            | succ j => simp at hj
        rw [this]
        refine CRep.sl true (strRows ss) ab ao 1 (strRows ss).length (fun i _ => .string (xs.getD i ByteArray.empty)) (Nat.le_refl _) (fun _ => rfl) ?_ ?_ ?_
        · intro i r hi
          unfold strRows at hi
          rw [List.getElem?_map] at hi
          cases hss : ss[i]? with
          | none => rw [hss] at hi; cases hi
          | some s => rw [hss] at hi; simp only [Option.map_some, Option.some.injEq] at hi; subst hi; rfl
        · intro i r j c hi hj
          obtain ⟨rfl, s, hs, rfl⟩ := key i r j c hi hj
          have := hcl i (hat i s hs).2
          rw [addr_add rfl] at this
          simp only [Nat.mul_one, Nat.add_zero]
          exact ⟨⟨_, this⟩, this⟩
        · intro i r j c hi hj
          obtain ⟨rfl, s, hs, rfl⟩ := key i r j c hi hj
          rw [(hat i s hs).1]
          exact .str _
  obtain ⟨v, hv, hrep⟩ := hsl
  have h0 : w.cell? ⟨g, 0, none⟩ = some v := by
    rw [hcell 0]
    have := congrArg (fun l => l[0]?) hv
    simpa using this
  have := CRep.rp (S := Alive w) (w := w) [[.sl true (strRows ss)]] 0 0 g 0 1 (fun _ _ => v) (by
      intro i r hi
      cases i with
      | zero => simp only [List.getElem?_cons_zero, Option.some.injEq] at hi; subst hi; rfl
      | succ i => simp at hi) (by
      intro i r j c hi hj
      cases i with
      | zero =>
        simp only [List.getElem?_cons_zero, Option.some.injEq] at hi
        subst hi
        cases j with
        | zero => exact ⟨⟨v, h0⟩, h0⟩
        | succ j => simp at hj
      | succ i => simp at hi) (by
      intro i r j c hi hj
      cases i with
      | zero =>
        simp only [List.getElem?_cons_zero, Option.some.injEq] at hi
        subst hi
        cases j with
        | zero =>
          simp only [List.getElem?_cons_zero, Option.some.injEq] at hj
          subst hj
          exact hrep
        | succ j => simp at hj
      | succ i => simp at hi)
  simpa using this
theorem sums_of_calls {E : Env} {f : Nat} {args : List D} {c : C} {v : Value} (hc : ∀ S w, CRep S w c v)
    (h : ∀ (_ : Nat → Nat → Prop) (g : Ghost) (w : World) (vs : List Value), E.F w → DReps g w args vs → Calls E.P f ⟨vs⟩ w fun e w' => e = .returned v ∧ Below w.heap.size w w') : Sums E f args (.c c) := by
  intro S g w vs hgS hlo hF hlive hglob hargs
  refine (h S g w vs hF hargs).mono ?_
  rintro e w' ⟨rfl, hb⟩
  refine ⟨v, S, rfl, hb, fun _ _ h => h, fun _ _ h => .inl h, fun b x hx => ?_, ?_⟩
  · obtain ⟨u, hu⟩ := hlive b x hx
    exact ⟨u, by rw [hb.cell (p := ⟨b, x, none⟩) (cell_lt hu)]; exact hu⟩
  · simp only [DRep]
    exact hc _ _
theorem reps2 {g : Ghost} {w : World} {a b : C} {vs : List Value} (h : DReps g w [.c a, .c b] vs) : ∃ u v, vs = [u, v] ∧ CRep g.S w a u ∧ CRep g.S w b v := by
  simp only [DReps, DRep] at h
  obtain ⟨u, _, rfl, h1, v, _, rfl, h2, rfl⟩ := h
  exact ⟨u, v, rfl, h1, h2⟩
end Go.Vm
namespace Go.Vm
def tokOf : D → Option Nat
  | .own t _ => some t
  | _ => none
def Ac (σ : St) (d : D) (rows : List (List C)) (k : Nat) : Prop :=
  d = .c (.sl true rows) ∨ ∃ t, d = .own t rows ∧ t < σ.tn ∧ σ.tok.get t = some (rows.length, k)
structure Kn (lo : Nat) (σ : St) (id top : Nat) (bs : List (Nat × List D)) (az : List (D × List (List C) × Nat)) : Prop where
  lo : lo ≤ σ.n
  top : top ≤ σ.n
  box : ∀ p ∈ bs, σ.box.get p.1 = some p.2 ∧ p.1 < id
  nd : bs.Pairwise (fun p q => p.1 ≠ q.1)
  ac : ∀ a ∈ az, Ac σ a.1 a.2.1 a.2.2
  na : az.Pairwise (fun a b => ∀ t, tokOf a.1 = some t → tokOf b.1 ≠ some t)
def Ko (lo : Nat) (σ : St) (bs : List (Nat × List D)) (az : List (D × List (List C) × Nat)) : Prop := Kn lo σ σ.n σ.n bs az
theorem Ko.empty : Ko 0 St.empty [] [] := ⟨Nat.le_refl _, Nat.le_refl _, by simp, .nil, by simp, .nil⟩
theorem Kn.le {lo : Nat} {σ : St} {id id' top : Nat} {bs az} (h : Kn lo σ id top bs az) (hi : id ≤ id') : Kn lo σ id' top bs az :=
  ⟨h.lo, h.top, fun p hp => ⟨(h.box p hp).1, Nat.lt_of_lt_of_le (h.box p hp).2 hi⟩, h.nd, h.ac, h.na⟩
theorem Kn.newBox {lo : Nat} {σ : St} {id top : Nat} {bs az} (h : Kn lo σ id top bs az) (cs : List D) : Kn lo { σ with box := σ.box.set id cs } (id + 1) top ((id, cs) :: bs) az where
  lo := h.lo
  top := h.top
  box := by
    intro p hp
    rcases List.mem_cons.1 hp with rfl | hp
    · exact ⟨Tr.get_set_same _ _ _, Nat.lt_succ_self _⟩
    · obtain ⟨h1, h2⟩ := h.box p hp
      exact ⟨by rw [Tr.get_set_other _ _ _ _ (Nat.ne_of_lt h2)]; exact h1, Nat.lt_succ_of_lt h2⟩
  nd := List.pairwise_cons.2 ⟨fun p hp => (Nat.ne_of_gt (h.box p hp).2), h.nd⟩
  ac := h.ac
  na := h.na
theorem set_mem {bs : List (Nat × List D)} {i b : Nat} {cs cs' : List D} (hnd : bs.Pairwise (fun p q => p.1 ≠ q.1)) (hi : bs[i]? = some (b, cs)) :
    ∀ p ∈ bs.set i (b, cs'), p = (b, cs') ∨ (p ∈ bs ∧ p.1 ≠ b) := by
  intro p hp
  obtain ⟨j, hj⟩ := List.getElem?_of_mem hp
  rw [List.getElem?_set] at hj
  split at hj
  · split at hj
    · exact .inl (Option.some.inj hj).symm
    · cases hj
  · rename_i hij
    have hm := List.mem_of_getElem? hj
    refine .inr ⟨hm, ?_⟩
    have hlt : i < bs.length := (List.getElem?_eq_some_iff.1 hi).1
    have hlj : j < bs.length := (List.getElem?_eq_some_iff.1 hj).1
    have e1 := (List.getElem?_eq_some_iff.1 hi).2
    have e2 := (List.getElem?_eq_some_iff.1 hj).2
    rcases Nat.lt_or_gt_of_ne hij with hl | hl
    · have := List.pairwise_iff_getElem.1 hnd i j hlt hlj hl
      rw [e1, e2] at this
      exact fun e => this e.symm
    · have := List.pairwise_iff_getElem.1 hnd j i hlj hlt hl
      rw [e1, e2] at this
      exact this
theorem pairwise_set {α : Type} {R : α → α → Prop} {l : List α} {i : Nat} {x y : α} (h : l.Pairwise R) (hi : l[i]? = some x) (h1 : ∀ z, R x z → R y z) (h2 : ∀ z, R z x → R z y) : (l.set i y).Pairwise R := by
  rw [List.pairwise_iff_getElem] at h ⊢
  have hlt : i < l.length := (List.getElem?_eq_some_iff.1 hi).1
  have hx := (List.getElem?_eq_some_iff.1 hi).2
  intro a b ha hb hab
  rw [List.length_set] at ha hb
  rw [List.getElem_set, List.getElem_set]
  have hr := h a b ha hb hab
  by_cases e1 : i = a
  · subst e1
    rw [if_pos rfl, if_neg (by omega)]
    rw [hx] at hr
    exact h1 _ hr
  · rw [if_neg e1]
    by_cases e2 : i = b
    · subst e2
      rw [if_pos rfl]
      rw [hx] at hr
      exact h2 _ hr
    · rw [if_neg e2]; exact hr
theorem Kn.put {lo : Nat} {σ : St} {id top : Nat} {bs az} (h : Kn lo σ id top bs az) {i b : Nat} {cs cs' : List D} (hi : bs[i]? = some (b, cs)) :
    Kn lo { σ with box := σ.box.set b cs' } id top (bs.set i (b, cs')) az where
  lo := h.lo
  top := h.top
  box := by
    intro p hp
    rcases set_mem h.nd hi p hp with rfl | ⟨hm, hne⟩
    · exact ⟨Tr.get_set_same _ _ _, (h.box _ (List.mem_of_getElem? hi)).2⟩
    · obtain ⟨h1, h2⟩ := h.box p hm
      exact ⟨by rw [Tr.get_set_other _ _ _ _ hne]; exact h1, h2⟩
  nd := pairwise_set h.nd hi (fun z hz => hz) (fun z hz => hz)
  ac := h.ac
  na := h.na
theorem Kn.get {lo : Nat} {σ : St} {id top : Nat} {bs az} (h : Kn lo σ id top bs az) {i b : Nat} {cs : List D} (hi : bs[i]? = some (b, cs)) : σ.box.get b = some cs :=
  (h.box _ (List.mem_of_getElem? hi)).1
theorem Kn.newAc {lo : Nat} {σ : St} {id top : Nat} {bs az} (h : Kn lo σ id top bs az) (rows : List (List C)) (k : Nat) : Kn lo σ id top bs ((.c (.sl true rows), rows, k) :: az) :=
  ⟨h.lo, h.top, h.box, h.nd, fun a ha => by
    rcases List.mem_cons.1 ha with rfl | ha
    · exact .inl rfl
    · exact h.ac a ha, List.pairwise_cons.2 ⟨fun a _ t ht => by simp [tokOf] at ht, h.na⟩⟩
theorem Kn.dropAc {lo : Nat} {σ : St} {id top : Nat} {bs az} (h : Kn lo σ id top bs az) {az'} (hs : az'.Sublist az) : Kn lo σ id top bs az' :=
  ⟨h.lo, h.top, h.box, h.nd, fun a ha => h.ac a (hs.subset ha), h.na.sublist hs⟩
theorem Kn.dropBox {lo : Nat} {σ : St} {id top : Nat} {bs az} (h : Kn lo σ id top bs az) {bs'} (hs : bs'.Sublist bs) : Kn lo σ id top bs' az :=
  ⟨h.lo, h.top, fun p hp => h.box p (hs.subset hp), h.nd.sublist hs, h.ac, h.na⟩
theorem Ac.rows {σ : St} {d : D} {rows : List (List C)} {k : Nat} (h : Ac σ d rows k) : rowsOf d = some rows := by
  rcases h with rfl | ⟨t, rfl, _⟩ <;> rfl
theorem Ac.plain {σ : St} {d : D} {rows : List (List C)} {k : Nat} (h : Ac σ d rows k) : plain1 d = true ∧ plainCell d = true ∧ cellLike d = true ∧ ∃ f, strip1 d = .c (.sl f rows) ∧ stripC d = .c (.sl f rows) ∧ toC d = some (.sl f rows) := by
  rcases h with rfl | ⟨t, rfl, _⟩
  · exact ⟨rfl, rfl, rfl, true, rfl, rfl, rfl⟩
  · exact ⟨rfl, rfl, rfl, false, rfl, rfl, rfl⟩
theorem Kn.append {lo : Nat} {σ : St} {id top : Nat} {bs az} (h : Kn lo σ id top bs az) {j k : Nat} {d : D} {rows ys : List (List C)} (hj : az[j]? = some (d, rows, k)) :
    ∃ d' σ', appendTo σ d ys k = .ok (2, d', σ') ∧ Kn lo σ' id top bs (az.set j (d', rows ++ ys, k)) := by
  have hm := List.mem_of_getElem? hj
  have hlt : j < az.length := (List.getElem?_eq_some_iff.1 hj).1
  have hx := (List.getElem?_eq_some_iff.1 hj).2
  rcases h.ac _ hm with hd | ⟨t, hd, ht, hg⟩
  · simp only at hd
    subst hd
    refine ⟨.own σ.tn (rows ++ ys), { σ with tn := σ.tn + 1, tok := σ.tok.set σ.tn (rows.length + ys.length, k) }, rfl, h.lo, h.top, h.box, h.nd, ?_, ?_⟩
    · intro a ha
      obtain ⟨l, hl⟩ := List.getElem?_of_mem ha
      rw [List.getElem?_set] at hl
      split at hl
      · obtain rfl := Option.some.inj hl
        exact .inr ⟨_, rfl, Nat.lt_succ_self _, by rw [Tr.get_set_same, List.length_append]⟩
      · rcases h.ac _ (List.mem_of_getElem? hl) with h1 | ⟨t, h1, h2, h3⟩
        · exact .inl h1
        · exact .inr ⟨t, h1, Nat.lt_succ_of_lt h2, by rw [Tr.get_set_other _ _ _ _ (Nat.ne_of_lt h2)]; exact h3⟩
    · have low : ∀ (l : Nat) (a : D × List (List C) × Nat), az[l]? = some a → ∀ t, tokOf a.1 = some t → t < σ.tn := by
        intro l a hl t ht
        rcases h.ac _ (List.mem_of_getElem? hl) with h1 | ⟨t', h1, h2, _⟩
        · rw [h1] at ht; cases ht
        · rw [h1] at ht; simp only [tokOf, Option.some.injEq] at ht; omega
      rw [List.pairwise_iff_getElem]
      intro a b ha hb hab t
      rw [List.length_set] at ha hb
      rw [List.getElem_set, List.getElem_set]
      by_cases e1 : j = a
      · rw [if_pos e1, if_neg (by omega)]
        intro ht
        simp only [tokOf, Option.some.injEq] at ht
        subst ht
        intro hb'
        have := low b _ (List.getElem?_eq_getElem hb) _ hb'
        omega
      · rw [if_neg e1]
        by_cases e2 : j = b
        · rw [if_pos e2]
          intro ht hb'
          have := low a _ (List.getElem?_eq_getElem ha) _ ht
          simp only [tokOf, Option.some.injEq] at hb'
          omega
        · rw [if_neg e2]
          exact List.pairwise_iff_getElem.1 h.na a b ha hb hab t
  · simp only at hd hg
    subst hd
    refine ⟨.own t (rows ++ ys), { σ with tok := σ.tok.set t (rows.length + ys.length, k) }, ?_, h.lo, h.top, h.box, h.nd, ?_, ?_⟩
    · simp only [appendTo, hg, tokFits, Nat.beq_refl, Bool.and_self, cond_true]
    · intro a ha
      obtain ⟨l, hl⟩ := List.getElem?_of_mem ha
      rw [List.getElem?_set] at hl
      split at hl
      · obtain rfl := Option.some.inj hl
        exact .inr ⟨_, rfl, ht, by rw [Tr.get_set_same, List.length_append]⟩
      · rename_i hjl
        rcases h.ac _ (List.mem_of_getElem? hl) with h1 | ⟨t', h1, h2, h3⟩
        · exact .inl h1
        · refine .inr ⟨t', h1, h2, ?_⟩
          have hll : l < az.length := (List.getElem?_eq_some_iff.1 hl).1
          have e2 := (List.getElem?_eq_some_iff.1 hl).2
          have : t' ≠ t := by
            rintro rfl
            rcases Nat.lt_or_gt_of_ne hjl with hl' | hl'
            · have := List.pairwise_iff_getElem.1 h.na j l hlt hll hl' t'
              rw [hx, e2, h1] at this
              exact this rfl rfl
            · have := List.pairwise_iff_getElem.1 h.na l j hll hlt hl' t'
              rw [hx, e2, h1] at this
              exact this rfl rfl
          show (σ.tok.set t _).get t' = _
          rw [Tr.get_set_other _ _ _ _ this]; exact h3
    · exact pairwise_set h.na hj (fun z hz => hz) (fun z hz => hz)
section
variable {E : Env} {ops rest : List Oper} {lo id nt top i : Nat} {fr : Nat → D} {σ : St} {Q : List Nat → (Nat → D) → St → Prop} {bs : List (Nat × List D)} {az : List (D × List (List C) × Nat)} {o : Oper} {t : Nat}
theorem Rw.bx {ty : TypeId} {x : Operand} {d : D} (hK : Kn lo σ i top bs az) (hi : i ≤ id) (hw : wantF ops fr o = .ok true) (hd : o.dst = some t) (ho : o.op = .box ty x) (hx : opndF E fr x = some d) (hc : d.cells.all cellLike = true)
    (hf : Nat.blt t nt = true) (h : ∀ b σ', Kn lo σ' (id + 1) top ((b, d.cells) :: bs) az → Rw E ops rest (id + 1) nt (updF fr t (.ptr b 0)) σ' (fun cl f s => Q (2 :: cl) f s)) : Rw E ops (o :: rest) id nt fr σ Q :=
  Rw.step hw hd (fun r => by rw [ho]; exact eff_ok rfl rfl (by simp only [opEff, hx, ofO, R.bind, hc, cond_true])) hf (h _ _ ((hK.le hi).newBox d.cells))
theorem Rw.al {ty : TypeId} {z : List D} (hK : Kn lo σ i top bs az) (hi : i ≤ id) (hw : wantF ops fr o = .ok true) (hd : o.dst = some t) (ho : o.op = .alloc ty) (hz : zero E ty = .ok z)
    (hf : Nat.blt t nt = true) (h : ∀ b σ', Kn lo σ' (id + 1) top ((b, z) :: bs) az → Rw E ops rest (id + 1) nt (updF fr t (.ptr b 0)) σ' (fun cl f s => Q (2 :: cl) f s)) : Rw E ops (o :: rest) id nt fr σ Q :=
  Rw.step hw hd (fun r => by rw [ho]; exact eff_ok rfl rfl (by simp only [opEff, hz, R.bind])) hf (h _ _ ((hK.le hi).newBox z))
def ldD (E : Env) (ty : TypeId) (cs : List D) (off : Nat) : R D :=
  (und E ty).bind fun u => (size E ty).bind fun n =>
    bif aggD u then (bif Nat.ble (off + n) cs.length then .ok (.agg ((cs.drop off).take n)) else .er 88)
    else ofO 89 cs[off]?
theorem Rw.ld {ty : TypeId} {x : Operand} {k b off : Nat} {cs : List D} {d : D} (hK : Kn lo σ i top bs az) (hw : wantF ops fr o = .ok true) (hd : o.dst = some t) (ho : o.op = .load ty x) (hx : opndF E fr x = some (.ptr b off))
    (hb : bs[k]? = some (b, cs)) (hl : ldD E ty cs off = .ok d) (hf : Nat.blt t nt = true)
    (h : Rw E ops rest (id + 1) nt (updF fr t d) σ (fun cl f s => Q (1 :: cl) f s)) : Rw E ops (o :: rest) id nt fr σ Q :=
  Rw.step hw hd (fun r => by
    rw [ho]
    refine read_ok (by simp only [opPure, hx]) ?_
    simp only [opRead, hx, ofO, R.bind, hK.get hb]
    exact congrArg some hl) hf h
theorem Rw.st {ty : TypeId} {x v : Operand} {k b off n : Nat} {cs cs' : List D} {d : D} (hK : Kn lo σ i top bs az) (hi : i ≤ id) (hw : wantF ops fr o = .ok true) (hd : o.dst = none) (ho : o.op = .store ty x v) (hx : opndF E fr x = some (.ptr b off))
    (hv : opndF E fr v = some d) (hn : size E ty = .ok n) (hb : bs[k]? = some (b, cs)) (hc : (Nat.beq d.cells.length n && d.cells.all cellLike) = true) (hs : setAt cs off d.cells = some cs')
    (h : ∀ σ', Kn lo σ' (id + 1) top (bs.set k (b, cs')) az → Rw E ops rest (id + 1) nt fr σ' (fun cl f s => Q (2 :: cl) f s)) : Rw E ops (o :: rest) id nt fr σ Q :=
  Rw.stepN (d := .tup []) hw hd (fun r => by
    rw [ho]
    exact eff_ok rfl rfl (by simp only [opEff, hx, hv, ofO, R.bind, hn, hK.get hb, hc, cond_true, hs])) (h _ (((hK.le hi).put hb).le (Nat.le_succ _)))
theorem op_fa {e : Operand → Option D} {r : Evs} {s : TypeId} {x : Operand} {f b off n : Nat} {fd : Field} (hf : field? E s f = .ok fd) (hn : size E fd.type = .ok n) (h0 : Nat.beq n 0 = false) (hx : e x = some (.ptr b off)) :
    evOp E r e id σ (.fieldAddr s x f) = .ok (0, .ptr b (off + fd.offset), σ) :=
  pure_ok (by simp only [opPure, hf, R.bind, hn, h0, cond_false, hx, ofO])
theorem op_fa_rp {e : Operand → Option D} {r : Evs} {s : TypeId} {x : Operand} {f off n j : Nat} {xs : List (List C)} {fd : Field} (hf : field? E s f = .ok fd) (hn : size E fd.type = .ok n) (h0 : Nat.beq n 0 = false) (hx : e x = some (.c (.rp xs j off))) :
    evOp E r e id σ (.fieldAddr s x f) = .ok (0, .c (.rp xs j (off + fd.offset)), σ) :=
  pure_ok (by simp only [opPure, hf, R.bind, hn, h0, cond_false, hx, ofO])
structure Room (E : Env) (st xt : TypeId) (k n : Nat) (ys : List (List C)) : Prop where
  el : ∃ el xel it z, E.P.underlying st = some (.slice el) ∧ E.P.underlying xt = some (.slice xel) ∧ E.P.info? el = some it ∧ it.size = k ∧ zero E el = .ok z ∧ Nat.beq z.length k = true ∧ Nat.beq k 0 = false ∧ (n + ys.length) * it.bytes ≤ 140737488355328
  rows : ys.all (fun r => Nat.beq r.length k) = true
  n : n + ys.length < 4611686018427387904
theorem Rw.ap {s x : Operand} {st xt : TypeId} {dx : D} {k j : Nat} {d : D} {rows ys : List (List C)} (hK : Kn lo σ i top bs az) (hi : i ≤ id) (hw : wantF ops fr o = .ok true) (hd : o.dst = some t)
    (ho : o.op = .call { callee := .builtin .append, args := #[s, x], argTypes := #[st, xt] }) (hs : opndF E fr s = some d) (hx : opndF E fr x = some dx) (hj : az[j]? = some (d, rows, k)) (hys : rowsOf dx = some ys) (hne : ys.isEmpty = false)
    (hr : Room E st xt k rows.length ys) (hh : headFits rows k = true) (hf : Nat.blt t nt = true)
    (h : ∀ d' σ', Kn lo σ' (id + 1) top bs (az.set j (d', rows ++ ys, k)) → Rw E ops rest (id + 1) nt (updF fr t d') σ' (fun cl f s => Q (2 :: cl) f s)) : Rw E ops (o :: rest) id nt fr σ Q := by
  obtain ⟨d', σ', ha, hK'⟩ := (hK.le hi).append (ys := ys) hj
  obtain ⟨el, xel, it, z, h1, h2, h3, h4, h5, h6, h7, h8⟩ := hr.el
  subst h4
  refine Rw.step hw hd (fun r => ?_) hf (h d' σ' (hK'.le (Nat.le_succ _)))
  rw [ho]
  refine eff_ok rfl rfl ?_
  have e1 : added it.size (.slice xel) dx = .ok ys := by
    cases dx with
    | c c => cases c <;> simp_all [added, rowsOf, ofO]
    | own => simp_all [added, rowsOf, ofO]
    | _ => simp [rowsOf] at hys
  have e2 : rowsOf d = some rows := (hK.ac _ (List.mem_of_getElem? hj)).rows
  have hn := hr.n
  simp only [opEff, hs, hx, ofO, R.bind, und, h1, h2, size, h3, Option.map_some, h5, e1, e2, hne, cond_false, h6, h7, hr.rows, hh, Bool.not_true, Bool.or_false,
    show Nat.blt (rows.length + ys.length) 4611686018427387904 = true from by rw [Nat.blt_eq]; exact hn, show Nat.ble ((rows.length + ys.length) * it.bytes) 140737488355328 = true from by rw [Nat.ble_eq]; exact h8]
  exact ha
theorem Rw.nilK (hK : Kn lo σ i top bs az) (hi : i ≤ top) (h : Ko lo σ bs az → Q [] fr σ) : Rw E ops [] id nt fr σ Q :=
  Rw.nil (h ⟨hK.lo, Nat.le_refl _, fun p hp => ⟨(hK.box p hp).1, Nat.lt_of_lt_of_le (hK.box p hp).2 (Nat.le_trans hi hK.top)⟩, hK.nd, hK.ac, hK.na⟩)
end
section
variable {E : Env} {lo nt id : Nat} {fr : Nat → D} {σ : St} {Q : Option (Option Nat) → (Nat → D) → St → Prop} {bs : List (Nat × List D)} {az : List (D × List (List C) × Nat)} {ops : List Oper}
theorem Ko.bump (h : Ko lo σ bs az) (m : Nat) : Kn lo { σ with n := σ.n + m } σ.n (σ.n + m) bs az := ⟨Nat.le_trans h.lo (Nat.le_add_right _ _), Nat.le_refl _, h.box, h.nd, h.ac, h.na⟩
theorem Cw.regionK (hK : Ko lo σ bs az) (h : ∀ n0 σ', Kn lo σ' n0 (n0 + ops.length) bs az → Rw E ops ops n0 nt fr σ' (fun _ f s => Q none f s)) : Cw E (.region id ⟨ops⟩ false) nt fr σ Q :=
  Cw.region (h _ _ (hK.bump _))
theorem Cw.regionD (hK : Ko lo σ bs az) (h : ∀ n0 σ', Kn lo σ' n0 (n0 + ops.length) bs az → Rw E ops ops n0 nt fr σ' (fun cl f s => drawC ⟨ops⟩ cl = true ∧ Q none f s)) : Cw E (.region id ⟨ops⟩ true) nt fr σ Q :=
  Cw.region_any (h _ _ (hK.bump _))
end
end Go.Vm
namespace Go.Vm
theorem Kn.ko {lo : Nat} {σ : St} {id top : Nat} {bs az} (h : Kn lo σ id top bs az) (hi : id ≤ top) : Ko σ.n σ bs az :=
  ⟨Nat.le_refl _, Nat.le_refl _, fun p hp => ⟨(h.box p hp).1, Nat.lt_of_lt_of_le (h.box p hp).2 (Nat.le_trans hi h.top)⟩, h.nd, h.ac, h.na⟩
theorem Kn.back {lo : Nat} {σ σ' : St} {id top : Nat} {bs bs' az az'} (h : Kn lo σ id top bs az) (h' : Ko σ.n σ' bs' az') (hb : bs'.map (·.1) = bs.map (·.1)) : Kn lo σ' (id + 1) top bs' az' where
  lo := Nat.le_trans h.lo h'.lo
  top := Nat.le_trans h.top h'.lo
  box := fun p hp => ⟨(h'.box p hp).1, by
    have : p.1 ∈ bs.map (·.1) := by rw [← hb]; exact List.mem_map_of_mem hp
    obtain ⟨q, hq, e⟩ := List.mem_map.1 this
    have := (h.box q hq).2
    omega⟩
  nd := h'.nd
  ac := h'.ac
  na := h'.na
theorem Kn.perm {lo : Nat} {σ : St} {id top : Nat} {bs bs' az} (h : Kn lo σ id top bs az) (hp : bs.Perm bs') : Kn lo σ id top bs' az :=
  ⟨h.lo, h.top, fun p hp' => h.box p (hp.mem_iff.2 hp'), hp.pairwise h.nd (fun hab e => hab e.symm), h.ac, h.na⟩
section
variable {E : Env} {ops rest : List Oper} {lo id nt top i : Nat} {fr : Nat → D} {σ : St} {Q : List Nat → (Nat → D) → St → Prop} {bs : List (Nat × List D)} {az : List (D × List (List C) × Nat)} {o : Oper} {t : Nat}
theorem Rw.ev {f : Operand} {args : Array Operand} {tys : Array TypeId} {ff : Nat} {das : List D} {d : D} {σ' : St} (hw : wantF ops fr o = .ok true) (hd : o.dst = some t) (ho : o.op = .call { callee := .value f, args := args, argTypes := tys })
    (hf : opndF E fr f = some (.fn ff [] [])) (has : mapO (opndF E fr) args.toList = some das) (hs : E.sum ff = none) (hx : E.ext ff = none) (hi : E.inl ff = false) (hp : das.all plain1 = true)
    (hev : Ev E ff (das.map strip1) St.empty d σ') (hpl : plain d = true) (hn : Nat.blt t nt = true)
    (h : Rw E ops rest (id + 1) nt (updF fr t (strip d)) σ (fun cl f s => Q (0 :: cl) f s)) : Rw E ops (o :: rest) id nt fr σ Q := by
  obtain ⟨N, hN⟩ := hev
  refine Rw.call (N := N) hw hd (fun n hn => ?_) hn h
  rw [ho]
  refine eff_ok rfl rfl ?_
  simp only [opEff, hf, has, ofO, R.bind, evCall, hs, hx, List.nil_append, List.append_nil, hp, hi, Bool.not_false, Bool.and_self, cond_true, hN n hn, hpl]
theorem Rw.on {f : Operand} {args : Array Operand} {tys : Array TypeId} {ff : Nat} {first cap das : List D} {d : D} {σ' : St} (hw : wantF ops fr o = .ok true) (hd : o.dst = some t) (ho : o.op = .call { callee := .value f, args := args, argTypes := tys })
    (hf : opndF E fr f = some (.fn ff first cap)) (has : mapO (opndF E fr) args.toList = some das) (hs : E.sum ff = none) (hx : E.ext ff = none) (hp : ((first ++ das ++ cap).all plain1 && !E.inl ff) = false)
    (hev : Ev E ff (first ++ das ++ cap) σ d σ') (hn : Nat.blt t nt = true)
    (h : Rw E ops rest (id + 1) nt (updF fr t d) σ' (fun cl f s => Q (2 :: cl) f s)) : Rw E ops (o :: rest) id nt fr σ Q := by
  obtain ⟨N, hN⟩ := hev
  refine Rw.call (N := N) hw hd (fun n hn => ?_) hn h
  rw [ho]
  refine eff_ok rfl rfl ?_
  simp only [opEff, hf, has, ofO, R.bind, evCall, hs, hx, hp, cond_false, hN n hn]
theorem Rw.stA {ty : TypeId} {x v : Operand} {k b off j kk : Nat} {cs cs' : List D} {d : D} {rows : List (List C)} (hK : Kn lo σ i top bs az) (hi : i ≤ id) (hw : wantF ops fr o = .ok true) (hd : o.dst = none) (ho : o.op = .store ty x v) (hx : opndF E fr x = some (.ptr b off))
    (hv : opndF E fr v = some d) (hn : size E ty = .ok 1) (hb : bs[k]? = some (b, cs)) (hj : az[j]? = some (d, rows, kk)) (hs : setAt cs off [d] = some cs')
    (h : ∀ σ', Kn lo σ' (id + 1) top (bs.set k (b, cs')) az → Rw E ops rest (id + 1) nt fr σ' (fun cl f s => Q (2 :: cl) f s)) : Rw E ops (o :: rest) id nt fr σ Q := by
  have hc : d.cells = [d] ∧ cellLike d = true := by
    rcases hK.ac _ (List.mem_of_getElem? hj) with h1 | ⟨t, h1, _⟩ <;> simp only at h1 <;> subst h1 <;> exact ⟨rfl, rfl⟩
  refine Rw.st hK hi hw hd ho hx hv hn hb ?_ (by rw [hc.1]; exact hs) h
  rw [hc.1]
  simp only [List.length_singleton, List.all_cons, List.all_nil, hc.2, Nat.beq_refl, Bool.and_self]
theorem op_ext {e : Operand → Option D} {r : Evs} {f : Operand} {args : Array Operand} {tys : Array TypeId} {ff : Nat} {das : List D} {h : List D → R D} {d : D} (hf : e f = some (.fn ff [] [])) (has : mapO e args.toList = some das) (hs : E.sum ff = none) (hx : E.ext ff = some h)
    (hp : das.all plain1 = true) (hd : h (das.map strip1) = .ok d) : evOp E r e id σ (.call { callee := .value f, args := args, argTypes := tys }) = .ok (0, d, σ) := by
  refine eff_ok rfl rfl ?_
  simp only [opEff, hf, has, ofO, R.bind, evCall, hs, hx, List.nil_append, List.append_nil, hp, cond_true, hd]
theorem op_fn {e : Operand → Option D} {r : Evs} {f : Nat} {first cap : Array Operand} {a b : List D} (ha : mapO e first.toList = some a) (hb : mapO e cap.toList = some b) :
    evOp E r e id σ (.makeFunc (.func f) first cap) = .ok (0, .fn f a b, σ) :=
  pure_ok (by simp only [opPure, ha, hb, ofO, R.bind])
theorem op_nilCheck_p {e : Operand → Option D} {r : Evs} {x : Operand} {b off : Nat} (hx : e x = some (.ptr b off)) : evOp E r e id σ (.nilCheck x) = .ok (0, .ptr b off, σ) :=
  pure_ok (by simp only [opPure, hx, ofO, R.bind])
theorem op_field {e : Operand → Option D} {r : Evs} {s : TypeId} {x : Operand} {f : Nat} {fd : Field} {cs : List D} {d : D} (hf : field? E s f = .ok fd) (hx : e x = some (.agg cs)) (hp : part E fd.type cs fd.offset = .ok d) :
    evOp E r e id σ (.field s x f) = .ok (0, d, σ) :=
  pure_ok (by simp only [opPure, hf, R.bind, hx, ofO, hp])
def buildD (E : Env) (t : TypeId) (ps : List (Nat × D)) : R D :=
  (und E t).bind fun u => match u with
    | .struct fs => (zero E t).bind fun z => (ofO 74 (mapO (fun f => (E.P.info? f.type).map fun i => (f.offset, i.size)) fs.toList)).bind fun pl =>
        (ofO 74 (fill (fun i => pl[i]?) z ps)).bind fun cs => .ok (.agg cs)
    | _ => .er 75
theorem op_buildS {e : Operand → Option D} {r : Evs} {t : TypeId} {ps : Array (Nat × Operand)} {qs : List (Nat × D)} {d : D} (hq : mapO (fun p => (e p.2).map fun d => (p.1, d)) ps.toList = some qs) (hd : buildD E t qs = .ok d) :
    evOp E r e id σ (.build t ps) = .ok (0, d, σ) := by
  refine pure_ok ?_
  simp only [opPure, parts, hq, ofO, R.bind]
  simp only [buildD] at hd
  generalize und E t = u at hd ⊢
  cases u with
  | er => exact congrArg some hd
  | ok u =>
    simp only [R.bind] at hd ⊢
    cases u <;> exact congrArg some hd
def ldC (E : Env) (ty : TypeId) (r : List C) (off : Nat) : R D :=
  (und E ty).bind fun u => (size E ty).bind fun n =>
    bif aggD u then (bif Nat.ble (off + n) r.length then .ok (.agg (((r.drop off).take n).map .c)) else .er 83)
    else (ofO 84 r[off]?).bind fun c => .ok (.c c)
theorem op_ldC {e : Operand → Option D} {r : Evs} {ty : TypeId} {x : Operand} {xs : List (List C)} {j off : Nat} {row : List C} {d : D} (hx : e x = some (.c (.rp xs j off))) (hrow : xs[j]? = some row) (hl : ldC E ty row off = .ok d) :
    evOp E r e id σ (.load ty x) = .ok (0, d, σ) :=
  pure_ok (by simp only [opPure, hx, hrow]; exact congrArg some hl)
theorem op_ix {e : Operand → Option D} {r : Evs} {t el : TypeId} {x ix : Operand} {d : D} {xs : List (List C)} {k : IntKind} {n : Nat} {row : List C} {z : Nat} (hx : e x = some d) (hi : e ix = some (.c (.int k (n : Int)))) (hr : rowsOf d = some xs) (ht : E.P.underlying t = some (.slice el))
    (hz : size E el = .ok z) (hrow : xs[n]? = some row) (hl : Nat.beq row.length z = true) : evOp E r e id σ (.indexAddr t x ix) = .ok (0, .c (.rp xs n 0), σ) := by
  refine pure_ok ?_
  simp only [opPure, und, ht, ofO, R.bind, hx, hi, hz, hr]
  rw [if_pos (Int.natCast_nonneg n), Int.toNat_natCast, hrow]
  simp only [hl, cond_true]
theorem op_lenD {e : Operand → Option D} {r : Evs} {x : Operand} {t el : TypeId} {d : D} {xs : List (List C)} (hx : e x = some d) (ht : E.P.underlying t = some (.slice el)) (hr : rowsOf d = some xs) :
    evOp E r e id σ (.call { callee := .builtin .len, args := #[x], argTypes := #[t] }) = .ok (0, .c (.int .i64 xs.length), σ) := by
  refine pure_ok ?_
  simp only [opPure, und, ht, ofO, R.bind, hx]
  cases d with
  | c c => cases c <;> simp_all [rowsOf]
  | own => simp_all [rowsOf]
  | _ => simp [rowsOf] at hr
theorem op_sliceHi {e : Operand → Option D} {r : Evs} {x hi : Operand} {t el : TypeId} {d : D} {xs : List (List C)} {k : IntKind} {h z : Nat} (hx : e x = some d) (hh : e hi = some (.c (.int k (h : Int)))) (ht : E.P.underlying t = some (.slice el)) (hz : size E el = .ok z) (hr : rowsOf d = some xs)
    (hle : h ≤ xs.length) (hf : headFits xs z = true) : evOp E r e id σ (.slice t x none (some hi) none) = .ok (0, .c (.sl false (xs.take h)), σ) := by
  refine pure_ok ?_
  have e1 : Nat.ble h xs.length = true := by rw [Nat.ble_eq]; exact hle
  have e2 : Nat.ble 0 h = true := by rw [Nat.ble_eq]; exact Nat.zero_le _
  simp only [opPure, und, ht, ofO, R.bind, hx, hz, hr, bound, hh]
  rw [if_pos (Int.natCast_nonneg h)]
  simp only [Int.toNat_natCast, e1, e2, hf, Bool.and_self, cond_true, List.drop_zero]
theorem op_sliceLo {e : Operand → Option D} {r : Evs} {x lo : Operand} {t el : TypeId} {d : D} {xs : List (List C)} {k : IntKind} {h z : Nat} (hx : e x = some d) (hh : e lo = some (.c (.int k (h : Int)))) (ht : E.P.underlying t = some (.slice el)) (hz : size E el = .ok z) (hr : rowsOf d = some xs)
    (hle : h ≤ xs.length) (hf : headFits xs z = true) : evOp E r e id σ (.slice t x (some lo) none none) = .ok (0, .c (.sl false (xs.drop h)), σ) := by
  refine pure_ok ?_
  have e1 : Nat.ble h xs.length = true := by rw [Nat.ble_eq]; exact hle
  have e2 : Nat.ble xs.length xs.length = true := by rw [Nat.ble_eq]; exact Nat.le_refl _
  simp only [opPure, und, ht, ofO, R.bind, hx, hz, hr, bound, hh]
  rw [if_pos (Int.natCast_nonneg h)]
  simp only [Int.toNat_natCast, e1, e2, hf, Bool.and_self, cond_true, List.take_length]
end
mutual
def normC : C → C
  | .sl _ xs => .sl false (normRows xs)
  | c => c
def normRow : List C → List C
  | [] => []
  | c :: cs => normC c :: normRow cs
def normRows : List (List C) → List (List C)
  | [] => []
  | r :: rs => normRow r :: normRows rs
end
theorem normRow_eq : ∀ r, normRow r = r.map normC
  | [] => rfl
  | c :: cs => by rw [normRow, normRow_eq cs]; rfl
theorem normRows_eq : ∀ rs, normRows rs = rs.map normRow
  | [] => rfl
  | r :: rs => by rw [normRows, normRows_eq rs]; rfl
theorem CRep.norm {S : Nat → Nat → Prop} {w : World} {c : C} {v : Value} (h : CRep S w c v) : CRep S w (normC c) v := by
  induction h with
  | bool b => exact .bool b
  | int k n => exact .int k n
  | float k n => exact .float k n
  | str s => exact .str s
  | nilp => exact .nilp
  | nili => exact .nili
  | nilf => exact .nilf
  | nilm => exact .nilm
  | slNone f p cap h => exact .slNone false p cap (by simp)
  | sl f xs b o k cap u hc hf hk hcell hrec ih =>
    have e : (normRows xs).length = xs.length := by rw [normRows_eq, List.length_map]
    have at_ : ∀ (i : Nat) (r : List C) (j : Nat) (c : C), (normRows xs)[i]? = some r → r[j]? = some c → ∃ r0 c0, xs[i]? = some r0 ∧ r0[j]? = some c0 ∧ c = normC c0 := by
      intro i r j c hi hj
      rw [normRows_eq, List.getElem?_map] at hi
      cases hx : xs[i]? with
      | none => rw [hx] at hi; cases hi
      | some r0 =>
        rw [hx] at hi
        simp only [Option.map_some, Option.some.injEq] at hi
        subst hi
        rw [normRow_eq, List.getElem?_map] at hj
        cases hx0 : r0[j]? with
        | none => rw [hx0] at hj; cases hj
        | some c0 =>
          rw [hx0] at hj
          simp only [Option.map_some, Option.some.injEq] at hj
          exact ⟨r0, c0, rfl, hx0, hj.symm⟩
    have main := CRep.sl (S := S) (w := w) false (normRows xs) b o k cap u (by rw [e]; exact hc) (by simp)
      (fun i r hi => by
        rw [normRows_eq, List.getElem?_map] at hi
        cases hx : xs[i]? with
        | none => rw [hx] at hi; cases hi
        | some r0 =>
          rw [hx] at hi
          simp only [Option.map_some, Option.some.injEq] at hi
          subst hi
          rw [normRow_eq, List.length_map]; exact hk i r0 hx)
      (fun i r j c hi hj => by obtain ⟨r0, c0, h1, h2, _⟩ := at_ i r j c hi hj; exact hcell i r0 j c0 h1 h2)
      (fun i r j c hi hj => by obtain ⟨r0, c0, h1, h2, rfl⟩ := at_ i r j c hi hj; exact ih i r0 j c0 h1 h2)
    rw [e] at main
    exact main
  | rp xs i off b o k u hk hcell hrec ih => exact .rp xs i off b o k u hk hcell hrec
def norm1 : D → D
  | .c (.sl _ xs) => .c (.sl false xs)
  | d => d
def normA : D → D
  | .agg cs => .agg (cs.map norm1)
  | d => norm1 d
theorem DRep.norm1 {g : Ghost} {w : World} {d : D} {v : Value} (h : DRep g w d v) : DRep g w (norm1 d) v := by
  unfold Vm.norm1
  split
  · simp only [DRep] at h ⊢; exact h.unfull
  · exact h
theorem DReps.norm1 {g : Ghost} {w : World} : ∀ {ds : List D} {vs : List Value}, DReps g w ds vs → DReps g w (ds.map Vm.norm1) vs
  | [], _, h => h
  | d :: ds, vs, h => by
    simp only [DReps, List.map_cons] at h ⊢
    obtain ⟨v, vs', rfl, h1, h2⟩ := h
    exact ⟨v, vs', rfl, h1.norm1, DReps.norm1 h2⟩
theorem cellLike_norm1 (d : D) : cellLike (norm1 d) = cellLike d := by
  unfold norm1; split <;> rfl
theorem DRep.normA {g : Ghost} {w : World} {d : D} {v : Value} (h : DRep g w d v) : DRep g w (normA d) v := by
  unfold Vm.normA
  split
  · simp only [DRep] at h ⊢
    obtain ⟨h1, vs, rfl, h2⟩ := h
    refine ⟨?_, vs, rfl, h2.norm1⟩
    rw [List.all_map]
    rw [List.all_eq_true] at h1 ⊢
    intro x hx
    simp only [Function.comp, cellLike_norm1]
    exact h1 x hx
  · exact h.norm1
theorem DReps.normA {g : Ghost} {w : World} : ∀ {ds : List D} {vs : List Value}, DReps g w ds vs → DReps g w (ds.map Vm.normA) vs
  | [], _, h => h
  | d :: ds, vs, h => by
    simp only [DReps, List.map_cons] at h ⊢
    obtain ⟨v, vs', rfl, h1, h2⟩ := h
    exact ⟨v, vs', rfl, h1.normA, DReps.normA h2⟩
def nrm1 : D → D
  | .c c => .c (normC c)
  | d => d
def nrmA : D → D
  | .agg cs => .agg (cs.map nrm1)
  | d => nrm1 d
def nrmD : D → D
  | .tup ds => .tup (ds.map nrmA)
  | d => nrmA d
theorem DRep.nrm1 {g : Ghost} {w : World} {d : D} {v : Value} (h : DRep g w d v) : DRep g w (nrm1 d) v := by
  unfold Vm.nrm1
  split
  · simp only [DRep] at h ⊢; exact h.norm
  · exact h
theorem cellLike_nrm1 (d : D) : cellLike (nrm1 d) = cellLike d := by
  unfold nrm1; split <;> rfl
theorem DReps.nrm1 {g : Ghost} {w : World} : ∀ {ds : List D} {vs : List Value}, DReps g w ds vs → DReps g w (ds.map Vm.nrm1) vs
  | [], _, h => h
  | d :: ds, vs, h => by
    simp only [DReps, List.map_cons] at h ⊢
    obtain ⟨v, vs', rfl, h1, h2⟩ := h
    exact ⟨v, vs', rfl, h1.nrm1, DReps.nrm1 h2⟩
theorem DRep.nrmA {g : Ghost} {w : World} {d : D} {v : Value} (h : DRep g w d v) : DRep g w (nrmA d) v := by
  unfold Vm.nrmA
  split
  · simp only [DRep] at h ⊢
    obtain ⟨h1, vs, rfl, h2⟩ := h
    refine ⟨?_, vs, rfl, h2.nrm1⟩
    rw [List.all_map]
    rw [List.all_eq_true] at h1 ⊢
    intro x hx
    simp only [Function.comp, cellLike_nrm1]
    exact h1 x hx
  · exact h.nrm1
theorem DReps.nrmA {g : Ghost} {w : World} : ∀ {ds : List D} {vs : List Value}, DReps g w ds vs → DReps g w (ds.map Vm.nrmA) vs
  | [], _, h => h
  | d :: ds, vs, h => by
    simp only [DReps, List.map_cons] at h ⊢
    obtain ⟨v, vs', rfl, h1, h2⟩ := h
    exact ⟨v, vs', rfl, h1.nrmA, DReps.nrmA h2⟩
theorem DRep.nrmD {g : Ghost} {w : World} {d : D} {v : Value} (h : DRep g w d v) : DRep g w (nrmD d) v := by
  unfold Vm.nrmD
  split
  · simp only [DRep] at h ⊢
    obtain ⟨vs, rfl, h2⟩ := h
    exact ⟨vs, rfl, h2.nrmA⟩
  · exact h.nrmA
theorem Sums.args {E : Env} {f : Nat} {args : List D} {d : D} (h : Sums E f (args.map normA) d) : Sums E f args d :=
  fun S g w vs h1 h2 h3 h4 h5 h6 => h S g w vs h1 h2 h3 h4 h5 h6.normA
theorem Sums.res {E : Env} {f : Nat} {args : List D} {d : D} (h : Sums E f args d) : Sums E f args (nrmD d) := by
  intro S g w vs h1 h2 h3 h4 h5 h6
  refine (h S g w vs h1 h2 h3 h4 h5 h6).mono ?_
  rintro en w' ⟨v, S', q1, q2, q3, q4, q5, q6⟩
  exact ⟨v, S', q1, q2, q3, q4, q5, q6.nrmD⟩
open Classical in
noncomputable def mkH {α : Type} (enc : α → List D) (pre : α → Prop) (res : α → D) (ds : List D) : R D :=
  if h : ∃ x, enc x = ds.map normA ∧ pre x then .ok (res (Classical.choose h)) else .er 999
theorem mkH_eq {α : Type} {enc : α → List D} {pre : α → Prop} {res : α → D} (inj : ∀ x y, enc x = enc y → x = y) {ds : List D} (x : α) (hx : ds.map normA = enc x) (hp : pre x) : mkH enc pre res ds = .ok (res x) := by
  have h : ∃ x, enc x = ds.map normA ∧ pre x := ⟨x, hx.symm, hp⟩
  unfold mkH
  rw [dif_pos h]
  have := inj _ _ ((Classical.choose_spec h).1.trans hx)
  rw [this]
theorem mkH_sums {α : Type} {E : Env} (hE : EnvOK E) {f : Nat} {enc : α → List D} {pre : α → Prop} {res : α → D} (hp1 : ∀ x, (enc x).all plain1 = true) (hst : ∀ x, (enc x).map strip1 = enc x)
    (hev : ∀ x, pre x → ∃ d σ', Ev E f (enc x) St.empty d σ' ∧ plain d = true ∧ nrmD (strip d) = res x) (args : List D) (d : D) (h : mkH enc pre res args = .ok d) : Sums E f args d := by
  unfold mkH at h
  split at h
  · rename_i hx
    cases h
    obtain ⟨h1, h2⟩ := Classical.choose_spec hx
    generalize Classical.choose hx = x at h1 h2
    obtain ⟨d, σ', q1, q2, q3⟩ := hev _ h2
    refine Sums.args ?_
    rw [← h1, ← q3]
    refine Sums.res (Ev.sums (σ' := σ') hE ?_ (hp1 _) q2)
    rw [hst]
    exact q1
  · cases h
end Go.Vm
namespace Go.Vm
def encI (n : Int) : List C := [.int .i64 n]
def encS (s : ByteArray) : List C := [.str s]
def encB (b : Bool) : List C := [.bool b]
theorem encI_inj (x y : Int) (h : encI x = encI y) : x = y := by simpa [encI] using h
theorem encS_inj (x y : ByteArray) (h : encS x = encS y) : x = y := by simpa [encS] using h
theorem map_inj {α : Type} {f : α → List C} (hf : ∀ x y, f x = f y → x = y) : ∀ {l m : List α}, l.map f = m.map f → l = m
  | [], [], _ => rfl
  | [], _ :: _, h => by simp at h
  | _ :: _, [], h => by simp at h
  | x :: l, y :: m, h => by
    simp only [List.map_cons, List.cons.injEq] at h
    rw [hf _ _ h.1, map_inj hf h.2]
theorem at_map {α : Type} [Inhabited α] {f : α → List C} {l : List α} {i : Nat} (h : i < l.length) : (l.map f)[i]? = some (f (l.getD i default)) := by
  rw [List.getElem?_map, List.getElem?_eq_getElem h, List.getD, List.getElem?_eq_getElem h]; rfl
structure Val where
  kind : Int
  n : Int
  f : Nat
  s : ByteArray
def Val.zero : Val := ⟨0, 0, 0, ⟨#[]⟩⟩
instance : Inhabited Val := ⟨Val.zero⟩
def Val.enc (x : Val) : List C := [.int .i64 x.kind, .int .i64 x.n, .float .f64 x.f, .str x.s]
theorem Val.ext_of (x y : Val) (h0 : x.kind = y.kind) (h1 : x.n = y.n) (h2 : x.f = y.f) (h3 : x.s = y.s) : x = y := by
  obtain ⟨a0, a1, a2, a3⟩ := x
  obtain ⟨b0, b1, b2, b3⟩ := y
  simp only at h0 h1 h2 h3
  subst h0
  subst h1
  subst h2
  subst h3
  rfl
theorem Val.inj (x y : Val) (h : Val.enc x = Val.enc y) : x = y := by
  simp only [Val.enc, List.cons.injEq, C.int.injEq, C.str.injEq, C.float.injEq, true_and, and_true] at h
  obtain ⟨h0, h1, h2, h3⟩ := h
  have e0 := h0
  have e1 := h1
  have e2 := h2
  have e3 := h3
  exact Val.ext_of x y e0 e1 e2 e3
theorem at_Val {l : List Val} {i : Nat} (h : i < l.length) : (l.map Val.enc)[i]? = some (Val.enc (l.getD i default)) := at_map h
structure Col where
  name : ByteArray
  kind : Int
  nul : Bool
  dflt : Val
def Col.zero : Col := ⟨⟨#[]⟩, 0, false, Val.zero⟩
instance : Inhabited Col := ⟨Col.zero⟩
def Col.enc (x : Col) : List C := [.str x.name, .int .i64 x.kind, .bool x.nul, .int .i64 x.dflt.kind, .int .i64 x.dflt.n, .float .f64 x.dflt.f, .str x.dflt.s]
theorem Col.ext_of (x y : Col) (h0 : x.name = y.name) (h1 : x.kind = y.kind) (h2 : x.nul = y.nul) (h3 : x.dflt.kind = y.dflt.kind) (h4 : x.dflt.n = y.dflt.n) (h5 : x.dflt.f = y.dflt.f) (h6 : x.dflt.s = y.dflt.s) : x = y := by
  obtain ⟨a0, a1, a2, a3⟩ := x
  obtain ⟨b0, b1, b2, b3⟩ := y
  simp only at h0 h1 h2 h3 h4 h5 h6
  subst h0
  subst h1
  subst h2
  have g3 : a3 = b3 := Val.ext_of a3 b3 h3 h4 h5 h6
  subst g3
  rfl
theorem Col.inj (x y : Col) (h : Col.enc x = Col.enc y) : x = y := by
  simp only [Col.enc, List.cons.injEq, C.int.injEq, C.str.injEq, C.float.injEq, C.bool.injEq, true_and, and_true] at h
  obtain ⟨h0, h1, h2, h3, h4, h5, h6⟩ := h
  have e0 := h0
  have e1 := h1
  have e2 := h2
  have e3 := h3
  have e4 := h4
  have e5 := h5
  have e6 := h6
  exact Col.ext_of x y e0 e1 e2 e3 e4 e5 e6
theorem at_Col {l : List Col} {i : Nat} (h : i < l.length) : (l.map Col.enc)[i]? = some (Col.enc (l.getD i default)) := at_map h
structure Idx where
  name : ByteArray
  columns : (List Int)
  unique : Bool
def Idx.zero : Idx := ⟨⟨#[]⟩, [], false⟩
instance : Inhabited Idx := ⟨Idx.zero⟩
def Idx.enc (x : Idx) : List C := [.str x.name, .sl false (x.columns.map encI), .bool x.unique]
theorem Idx.ext_of (x y : Idx) (h0 : x.name = y.name) (h1 : x.columns = y.columns) (h2 : x.unique = y.unique) : x = y := by
  obtain ⟨a0, a1, a2⟩ := x
  obtain ⟨b0, b1, b2⟩ := y
  simp only at h0 h1 h2
  subst h0
  subst h1
  subst h2
  rfl
theorem Idx.inj (x y : Idx) (h : Idx.enc x = Idx.enc y) : x = y := by
  simp only [Idx.enc, List.cons.injEq, C.str.injEq, C.bool.injEq, C.sl.injEq, true_and, and_true] at h
  obtain ⟨h0, h1, h2⟩ := h
  have e0 := h0
  have e1 := (map_inj encI_inj h1)
  have e2 := h2
  exact Idx.ext_of x y e0 e1 e2
theorem at_Idx {l : List Idx} {i : Nat} (h : i < l.length) : (l.map Idx.enc)[i]? = some (Idx.enc (l.getD i default)) := at_map h
structure Rfr where
  columns : (List Int)
  table : ByteArray
def Rfr.zero : Rfr := ⟨[], ⟨#[]⟩⟩
instance : Inhabited Rfr := ⟨Rfr.zero⟩
def Rfr.enc (x : Rfr) : List C := [.sl false (x.columns.map encI), .str x.table]
theorem Rfr.ext_of (x y : Rfr) (h0 : x.columns = y.columns) (h1 : x.table = y.table) : x = y := by
  obtain ⟨a0, a1⟩ := x
  obtain ⟨b0, b1⟩ := y
  simp only at h0 h1
  subst h0
  subst h1
  rfl
theorem Rfr.inj (x y : Rfr) (h : Rfr.enc x = Rfr.enc y) : x = y := by
  simp only [Rfr.enc, List.cons.injEq, C.str.injEq, C.sl.injEq, true_and, and_true] at h
  obtain ⟨h0, h1⟩ := h
  have e0 := (map_inj encI_inj h0)
  have e1 := h1
  exact Rfr.ext_of x y e0 e1
theorem at_Rfr {l : List Rfr} {i : Nat} (h : i < l.length) : (l.map Rfr.enc)[i]? = some (Rfr.enc (l.getD i default)) := at_map h
structure Tbl where
  name : ByteArray
  columns : (List Col)
  key : (List Int)
  indexes : (List Idx)
  refs : (List Rfr)
def Tbl.zero : Tbl := ⟨⟨#[]⟩, [], [], [], []⟩
instance : Inhabited Tbl := ⟨Tbl.zero⟩
def Tbl.enc (x : Tbl) : List C := [.str x.name, .sl false (x.columns.map Col.enc), .sl false (x.key.map encI), .sl false (x.indexes.map Idx.enc), .sl false (x.refs.map Rfr.enc)]
theorem Tbl.ext_of (x y : Tbl) (h0 : x.name = y.name) (h1 : x.columns = y.columns) (h2 : x.key = y.key) (h3 : x.indexes = y.indexes) (h4 : x.refs = y.refs) : x = y := by
  obtain ⟨a0, a1, a2, a3, a4⟩ := x
  obtain ⟨b0, b1, b2, b3, b4⟩ := y
  simp only at h0 h1 h2 h3 h4
  subst h0
  subst h1
  subst h2
  subst h3
  subst h4
  rfl
theorem Tbl.inj (x y : Tbl) (h : Tbl.enc x = Tbl.enc y) : x = y := by
  simp only [Tbl.enc, List.cons.injEq, C.str.injEq, C.sl.injEq, true_and, and_true] at h
  obtain ⟨h0, h1, h2, h3, h4⟩ := h
  have e0 := h0
  have e1 := (map_inj Col.inj h1)
  have e2 := (map_inj encI_inj h2)
  have e3 := (map_inj Idx.inj h3)
  have e4 := (map_inj Rfr.inj h4)
  exact Tbl.ext_of x y e0 e1 e2 e3 e4
theorem at_Tbl {l : List Tbl} {i : Nat} (h : i < l.length) : (l.map Tbl.enc)[i]? = some (Tbl.enc (l.getD i default)) := at_map h
inductive Exr where
  | mk (kind : Int) (op : ByteArray) (column : Int) (value : Val) (kids : List Exr)
def Exr.kind (x : Exr) : Int := match x with | .mk a _ _ _ _ => a
def Exr.op (x : Exr) : ByteArray := match x with | .mk _ a _ _ _ => a
def Exr.column (x : Exr) : Int := match x with | .mk _ _ a _ _ => a
def Exr.value (x : Exr) : Val := match x with | .mk _ _ _ a _ => a
def Exr.kids (x : Exr) : (List Exr) := match x with | .mk _ _ _ _ a => a
instance : Inhabited Exr := ⟨.mk 0 ⟨#[]⟩ 0 Val.zero []⟩
def Exr.zero : Exr := .mk 0 ⟨#[]⟩ 0 Val.zero []
mutual
def Exr.enc : Exr → List C
  | .mk kind op column value kids => [.int .i64 kind, .str op, .int .i64 column, .int .i64 value.kind, .int .i64 value.n, .float .f64 value.f, .str value.s, .sl false (Exr.encs kids)]
def Exr.encs : List Exr → List (List C)
  | [] => []
  | x :: l => Exr.enc x :: Exr.encs l
end
theorem Exr.encs_eq : ∀ l, Exr.encs l = l.map Exr.enc
  | [] => rfl
  | x :: l => by rw [Exr.encs, Exr.encs_eq l]; rfl
def Exr.row (x : Exr) : List C := [.int .i64 x.kind, .str x.op, .int .i64 x.column, .int .i64 x.value.kind, .int .i64 x.value.n, .float .f64 x.value.f, .str x.value.s, .sl false (x.kids.map Exr.enc)]
theorem Exr.enc_row (x : Exr) : Exr.enc x = Exr.row x := by
  cases x
  rw [Exr.enc, Exr.encs_eq]; rfl
theorem at_Exr {l : List Exr} {i : Nat} (h : i < l.length) : (l.map Exr.enc)[i]? = some (Exr.row (l.getD i default)) := by
  rw [at_map h, Exr.enc_row]
mutual
theorem Exr.inj : ∀ x y, Exr.enc x = Exr.enc y → x = y
  | .mk k o c v ks, .mk k' o' c' v' ks', h => by
    simp only [Exr.enc, List.cons.injEq, C.int.injEq, C.str.injEq, C.float.injEq, C.sl.injEq, true_and, and_true] at h
    obtain ⟨rfl, rfl, rfl, h1, h2, h3, h4, h5⟩ := h
    have := Exr.injs ks ks' h5
    subst this
    cases v; cases v'
    simp only at h1 h2 h3 h4
    subst h1; subst h2; subst h3; subst h4
    rfl
theorem Exr.injs : ∀ l m, Exr.encs l = Exr.encs m → l = m
  | [], [], _ => rfl
  | [], _ :: _, h => by simp [Exr.encs] at h
  | _ :: _, [], h => by simp [Exr.encs] at h
  | x :: l, y :: m, h => by
    simp only [Exr.encs, List.cons.injEq] at h
    rw [Exr.inj x y h.1, Exr.injs l m h.2]
end
theorem Exr.rinj (x y : Exr) (h : Exr.row x = Exr.row y) : x = y := Exr.inj x y (by rw [Exr.enc_row, Exr.enc_row]; exact h)
theorem Exr.ext_of (x y : Exr) (h0 : x.kind = y.kind) (h1 : x.op = y.op) (h2 : x.column = y.column) (h3 : x.value.kind = y.value.kind) (h4 : x.value.n = y.value.n) (h5 : x.value.f = y.value.f) (h6 : x.value.s = y.value.s) (h7 : x.kids = y.kids) : x = y := by
  obtain ⟨a0, a1, a2, a3, a4⟩ := x
  obtain ⟨b0, b1, b2, b3, b4⟩ := y
  simp only [Exr.kind, Exr.op, Exr.column, Exr.value, Exr.kids] at h0 h1 h2 h3 h4 h5 h6 h7
  have g := Val.ext_of a3 b3 h3 h4 h5 h6
  subst h0; subst h1; subst h2; subst g; subst h7
  rfl
def encL_Exr_enc (l : List Exr) : List C := [.sl false (l.map Exr.enc)]
theorem encL_Exr_inj (x y : List Exr) (h : encL_Exr_enc x = encL_Exr_enc y) : x = y := by
  simp only [encL_Exr_enc, List.cons.injEq, C.sl.injEq, true_and, and_true] at h
  exact map_inj Exr.inj h
structure Sst where
  column : Int
  expr : Exr
def Sst.zero : Sst := ⟨0, Exr.zero⟩
instance : Inhabited Sst := ⟨Sst.zero⟩
def Sst.enc (x : Sst) : List C := [.int .i64 x.column, .int .i64 x.expr.kind, .str x.expr.op, .int .i64 x.expr.column, .int .i64 x.expr.value.kind, .int .i64 x.expr.value.n, .float .f64 x.expr.value.f, .str x.expr.value.s, .sl false (x.expr.kids.map Exr.enc)]
theorem Sst.ext_of (x y : Sst) (h0 : x.column = y.column) (h1 : x.expr.kind = y.expr.kind) (h2 : x.expr.op = y.expr.op) (h3 : x.expr.column = y.expr.column) (h4 : x.expr.value.kind = y.expr.value.kind) (h5 : x.expr.value.n = y.expr.value.n) (h6 : x.expr.value.f = y.expr.value.f) (h7 : x.expr.value.s = y.expr.value.s) (h8 : x.expr.kids = y.expr.kids) : x = y := by
  obtain ⟨a0, a1⟩ := x
  obtain ⟨b0, b1⟩ := y
  simp only at h0 h1 h2 h3 h4 h5 h6 h7 h8
  subst h0
  have g1 : a1 = b1 := Exr.ext_of a1 b1 h1 h2 h3 h4 h5 h6 h7 h8
  subst g1
  rfl
theorem Sst.inj (x y : Sst) (h : Sst.enc x = Sst.enc y) : x = y := by
  simp only [Sst.enc, List.cons.injEq, C.int.injEq, C.str.injEq, C.float.injEq, C.sl.injEq, true_and, and_true] at h
  obtain ⟨h0, h1, h2, h3, h4, h5, h6, h7, h8⟩ := h
  have e0 := h0
  have e1 := h1
  have e2 := h2
  have e3 := h3
  have e4 := h4
  have e5 := h5
  have e6 := h6
  have e7 := h7
  have e8 := (map_inj Exr.inj h8)
  exact Sst.ext_of x y e0 e1 e2 e3 e4 e5 e6 e7 e8
theorem at_Sst {l : List Sst} {i : Nat} (h : i < l.length) : (l.map Sst.enc)[i]? = some (Sst.enc (l.getD i default)) := at_map h
structure Itm where
  fold : Int
  all : Bool
  expr : Exr
  name : ByteArray
def Itm.zero : Itm := ⟨0, false, Exr.zero, ⟨#[]⟩⟩
instance : Inhabited Itm := ⟨Itm.zero⟩
def Itm.enc (x : Itm) : List C := [.int .i64 x.fold, .bool x.all, .int .i64 x.expr.kind, .str x.expr.op, .int .i64 x.expr.column, .int .i64 x.expr.value.kind, .int .i64 x.expr.value.n, .float .f64 x.expr.value.f, .str x.expr.value.s, .sl false (x.expr.kids.map Exr.enc), .str x.name]
theorem Itm.ext_of (x y : Itm) (h0 : x.fold = y.fold) (h1 : x.all = y.all) (h2 : x.expr.kind = y.expr.kind) (h3 : x.expr.op = y.expr.op) (h4 : x.expr.column = y.expr.column) (h5 : x.expr.value.kind = y.expr.value.kind) (h6 : x.expr.value.n = y.expr.value.n) (h7 : x.expr.value.f = y.expr.value.f) (h8 : x.expr.value.s = y.expr.value.s) (h9 : x.expr.kids = y.expr.kids) (h10 : x.name = y.name) : x = y := by
  obtain ⟨a0, a1, a2, a3⟩ := x
  obtain ⟨b0, b1, b2, b3⟩ := y
  simp only at h0 h1 h2 h3 h4 h5 h6 h7 h8 h9 h10
  subst h0
  subst h1
  have g2 : a2 = b2 := Exr.ext_of a2 b2 h2 h3 h4 h5 h6 h7 h8 h9
  subst g2
  subst h10
  rfl
theorem Itm.inj (x y : Itm) (h : Itm.enc x = Itm.enc y) : x = y := by
  simp only [Itm.enc, List.cons.injEq, C.int.injEq, C.str.injEq, C.float.injEq, C.bool.injEq, C.sl.injEq, true_and, and_true] at h
  obtain ⟨h0, h1, h2, h3, h4, h5, h6, h7, h8, h9, h10⟩ := h
  have e0 := h0
  have e1 := h1
  have e2 := h2
  have e3 := h3
  have e4 := h4
  have e5 := h5
  have e6 := h6
  have e7 := h7
  have e8 := h8
  have e9 := (map_inj Exr.inj h9)
  have e10 := h10
  exact Itm.ext_of x y e0 e1 e2 e3 e4 e5 e6 e7 e8 e9 e10
theorem at_Itm {l : List Itm} {i : Nat} (h : i < l.length) : (l.map Itm.enc)[i]? = some (Itm.enc (l.getD i default)) := at_map h
structure Odr where
  column : Int
  desc : Bool
def Odr.zero : Odr := ⟨0, false⟩
instance : Inhabited Odr := ⟨Odr.zero⟩
def Odr.enc (x : Odr) : List C := [.int .i64 x.column, .bool x.desc]
theorem Odr.ext_of (x y : Odr) (h0 : x.column = y.column) (h1 : x.desc = y.desc) : x = y := by
  obtain ⟨a0, a1⟩ := x
  obtain ⟨b0, b1⟩ := y
  simp only at h0 h1
  subst h0
  subst h1
  rfl
theorem Odr.inj (x y : Odr) (h : Odr.enc x = Odr.enc y) : x = y := by
  simp only [Odr.enc, List.cons.injEq, C.int.injEq, C.bool.injEq, true_and, and_true] at h
  obtain ⟨h0, h1⟩ := h
  have e0 := h0
  have e1 := h1
  exact Odr.ext_of x y e0 e1
theorem at_Odr {l : List Odr} {i : Nat} (h : i < l.length) : (l.map Odr.enc)[i]? = some (Odr.enc (l.getD i default)) := at_map h
structure Qry where
  kind : Int
  table : Int
  columns : (List Int)
  rows : (List (List Exr))
  sets : (List Sst)
  items : (List Itm)
  wher : Exr
  group : (List Int)
  order : (List Odr)
  limit : Int
  level : Int
  stamp : Int
  name : ByteArray
  create : Tbl
def Qry.zero : Qry := ⟨0, 0, [], [], [], [], Exr.zero, [], [], 0, 0, 0, ⟨#[]⟩, Tbl.zero⟩
instance : Inhabited Qry := ⟨Qry.zero⟩
def Qry.enc (x : Qry) : List C := [.int .i64 x.kind, .int .i64 x.table, .sl false (x.columns.map encI), .sl false (x.rows.map encL_Exr_enc), .sl false (x.sets.map Sst.enc), .sl false (x.items.map Itm.enc), .int .i64 x.wher.kind, .str x.wher.op, .int .i64 x.wher.column, .int .i64 x.wher.value.kind, .int .i64 x.wher.value.n, .float .f64 x.wher.value.f, .str x.wher.value.s, .sl false (x.wher.kids.map Exr.enc), .sl false (x.group.map encI), .sl false (x.order.map Odr.enc), .int .i64 x.limit, .int .i64 x.level, .int .u64 x.stamp, .str x.name, .str x.create.name, .sl false (x.create.columns.map Col.enc), .sl false (x.create.key.map encI), .sl false (x.create.indexes.map Idx.enc), .sl false (x.create.refs.map Rfr.enc)]
theorem Qry.ext_of (x y : Qry) (h0 : x.kind = y.kind) (h1 : x.table = y.table) (h2 : x.columns = y.columns) (h3 : x.rows = y.rows) (h4 : x.sets = y.sets) (h5 : x.items = y.items) (h6 : x.wher.kind = y.wher.kind) (h7 : x.wher.op = y.wher.op) (h8 : x.wher.column = y.wher.column) (h9 : x.wher.value.kind = y.wher.value.kind) (h10 : x.wher.value.n = y.wher.value.n) (h11 : x.wher.value.f = y.wher.value.f) (h12 : x.wher.value.s = y.wher.value.s) (h13 : x.wher.kids = y.wher.kids) (h14 : x.group = y.group) (h15 : x.order = y.order) (h16 : x.limit = y.limit) (h17 : x.level = y.level) (h18 : x.stamp = y.stamp) (h19 : x.name = y.name) (h20 : x.create.name = y.create.name) (h21 : x.create.columns = y.create.columns) (h22 : x.create.key = y.create.key) (h23 : x.create.indexes = y.create.indexes) (h24 : x.create.refs = y.create.refs) : x = y := by
  obtain ⟨a0, a1, a2, a3, a4, a5, a6, a7, a8, a9, a10, a11, a12, a13⟩ := x
  obtain ⟨b0, b1, b2, b3, b4, b5, b6, b7, b8, b9, b10, b11, b12, b13⟩ := y
  simp only at h0 h1 h2 h3 h4 h5 h6 h7 h8 h9 h10 h11 h12 h13 h14 h15 h16 h17 h18 h19 h20 h21 h22 h23 h24
  subst h0
  subst h1
  subst h2
  subst h3
  subst h4
  subst h5
  have g6 : a6 = b6 := Exr.ext_of a6 b6 h6 h7 h8 h9 h10 h11 h12 h13
  subst g6
  subst h14
  subst h15
  subst h16
  subst h17
  subst h18
  subst h19
  have g13 : a13 = b13 := Tbl.ext_of a13 b13 h20 h21 h22 h23 h24
  subst g13
  rfl
theorem Qry.inj (x y : Qry) (h : Qry.enc x = Qry.enc y) : x = y := by
  simp only [Qry.enc, List.cons.injEq, C.int.injEq, C.str.injEq, C.float.injEq, C.sl.injEq, true_and, and_true] at h
  obtain ⟨h0, h1, h2, h3, h4, h5, h6, h7, h8, h9, h10, h11, h12, h13, h14, h15, h16, h17, h18, h19, h20, h21, h22, h23, h24⟩ := h
  have e0 := h0
  have e1 := h1
  have e2 := (map_inj encI_inj h2)
  have e3 := (map_inj encL_Exr_inj h3)
  have e4 := (map_inj Sst.inj h4)
  have e5 := (map_inj Itm.inj h5)
  have e6 := h6
  have e7 := h7
  have e8 := h8
  have e9 := h9
  have e10 := h10
  have e11 := h11
  have e12 := h12
  have e13 := (map_inj Exr.inj h13)
  have e14 := (map_inj encI_inj h14)
  have e15 := (map_inj Odr.inj h15)
  have e16 := h16
  have e17 := h17
  have e18 := h18
  have e19 := h19
  have e20 := h20
  have e21 := (map_inj Col.inj h21)
  have e22 := (map_inj encI_inj h22)
  have e23 := (map_inj Idx.inj h23)
  have e24 := (map_inj Rfr.inj h24)
  exact Qry.ext_of x y e0 e1 e2 e3 e4 e5 e6 e7 e8 e9 e10 e11 e12 e13 e14 e15 e16 e17 e18 e19 e20 e21 e22 e23 e24
theorem at_Qry {l : List Qry} {i : Nat} (h : i < l.length) : (l.map Qry.enc)[i]? = some (Qry.enc (l.getD i default)) := at_map h
structure Wkr where
  t : Tbl
  left : Int
def Wkr.zero : Wkr := ⟨Tbl.zero, 0⟩
instance : Inhabited Wkr := ⟨Wkr.zero⟩
def Wkr.enc (x : Wkr) : List C := [.str x.t.name, .sl false (x.t.columns.map Col.enc), .sl false (x.t.key.map encI), .sl false (x.t.indexes.map Idx.enc), .sl false (x.t.refs.map Rfr.enc), .int .i64 x.left]
theorem Wkr.ext_of (x y : Wkr) (h0 : x.t.name = y.t.name) (h1 : x.t.columns = y.t.columns) (h2 : x.t.key = y.t.key) (h3 : x.t.indexes = y.t.indexes) (h4 : x.t.refs = y.t.refs) (h5 : x.left = y.left) : x = y := by
  obtain ⟨a0, a1⟩ := x
  obtain ⟨b0, b1⟩ := y
  simp only at h0 h1 h2 h3 h4 h5
  have g0 : a0 = b0 := Tbl.ext_of a0 b0 h0 h1 h2 h3 h4
  subst g0
  subst h5
  rfl
theorem Wkr.inj (x y : Wkr) (h : Wkr.enc x = Wkr.enc y) : x = y := by
  simp only [Wkr.enc, List.cons.injEq, C.int.injEq, C.str.injEq, C.sl.injEq, true_and, and_true] at h
  obtain ⟨h0, h1, h2, h3, h4, h5⟩ := h
  have e0 := h0
  have e1 := (map_inj Col.inj h1)
  have e2 := (map_inj encI_inj h2)
  have e3 := (map_inj Idx.inj h3)
  have e4 := (map_inj Rfr.inj h4)
  have e5 := h5
  exact Wkr.ext_of x y e0 e1 e2 e3 e4 e5
theorem at_Wkr {l : List Wkr} {i : Nat} (h : i < l.length) : (l.map Wkr.enc)[i]? = some (Wkr.enc (l.getD i default)) := at_map h
end Go.Vm
namespace Go.Vm
inductive Lo (α β : Type) where
  | on (a : α)
  | out (b : β)
def okS (s : ByteArray) : Prop := s.size ≤ 1048576
def okL {α : Type} (p : α → Prop) (l : List α) : Prop := l.length ≤ 1048576 ∧ ∀ x ∈ l, p x
def okI (_ : Int) : Prop := True
theorem okS_len {s : ByteArray} (h : okS s) : s.size ≤ 1048576 := h
theorem okL_len {α : Type} {p : α → Prop} {l : List α} (h : okL p l) : l.length ≤ 1048576 := h.1
theorem okL_get {α : Type} [Inhabited α] {p : α → Prop} {l : List α} (h : okL p l) (hd : p default) (i : Nat) : p (l.getD i default) := by
  by_cases hi : i < l.length
  · rw [List.getD, List.getElem?_eq_getElem hi]
    exact h.2 _ (List.getElem_mem hi)
  · rw [List.getD, List.getElem?_eq_none (by omega)]
    exact hd
theorem wrap_nat {a b : Nat} (h : a + b < 9223372036854775808) : IntKind.i64.wrap ((a : Int) + (b : Int)) = ((a + b : Nat) : Int) := by
  simp only [IntKind.wrap, IntKind.signed, IntKind.bits]; simp; omega
theorem wrap_one {a : Nat} (h : a + 1 < 9223372036854775808) : IntKind.i64.wrap ((a : Int) + 1) = ((a + 1 : Nat) : Int) := wrap_nat (b := 1) h
def fieldI (E : Env) (s : TypeId) (f : Nat) : R (Nat × Nat × Nat) := (field? E s f).bind fun fd => (size E fd.type).bind fun n => .ok (fd.type, fd.offset, n)
theorem fieldI_ok {E : Env} {s : TypeId} {f a b c : Nat} (h : fieldI E s f = .ok (a, b, c)) : ∃ fd, field? E s f = .ok fd ∧ fd.type = a ∧ fd.offset = b ∧ size E fd.type = .ok c := by
  unfold fieldI at h
  cases h1 : field? E s f with
  | er e => rw [h1] at h; cases h
  | ok fd =>
    rw [h1] at h
    simp only [R.bind] at h
    cases h2 : size E fd.type with
    | er e => rw [h2] at h; cases h
    | ok n =>
      rw [h2] at h
      simp only [R.ok.injEq, Prod.mk.injEq] at h
      obtain ⟨rfl, rfl, rfl⟩ := h
      exact ⟨fd, rfl, rfl, rfl, h2⟩
section
variable {E : Env} {e : Operand → Option D} {r : Evs} {id : Nat} {σ : St}
theorem op_fp {s : TypeId} {x : Operand} {f a c n b off : Nat} (hf : fieldI E s f = .ok (a, c, n)) (h0 : Nat.beq n 0 = false) (hx : e x = some (.ptr b off)) : evOp E r e id σ (.fieldAddr s x f) = .ok (0, .ptr b (off + c), σ) := by
  obtain ⟨fd, h1, _, rfl, h2⟩ := fieldI_ok hf
  exact op_fa h1 h2 h0 hx
theorem op_fr {s : TypeId} {x : Operand} {f a c n off j : Nat} {xs : List (List C)} (hf : fieldI E s f = .ok (a, c, n)) (h0 : Nat.beq n 0 = false) (hx : e x = some (.c (.rp xs j off))) : evOp E r e id σ (.fieldAddr s x f) = .ok (0, .c (.rp xs j (off + c)), σ) := by
  obtain ⟨fd, h1, _, rfl, h2⟩ := fieldI_ok hf
  exact op_fa_rp h1 h2 h0 hx
end
structure TyF (E : Env) (t : TypeId) (n : Nat) (a : Bool) : Prop where
  h : ∃ u, E.P.underlying t = some u ∧ aggD u = a
  hn : size E t = .ok n
theorem TyF.ldA {E : Env} {t : TypeId} {n off : Nat} {cs l : List D} (h : TyF E t n true) (hle : Nat.ble (off + n) cs.length = true) (hl : (cs.drop off).take n = l) : ldD E t cs off = .ok (.agg l) := by
  obtain ⟨u, h1, h2⟩ := h.h
  simp only [ldD, und, h1, ofO, R.bind, h.hn, h2, cond_true, hle, hl]
theorem TyF.ldS {E : Env} {t : TypeId} {n off : Nat} {cs : List D} {d : D} (h : TyF E t n false) (hd : cs[off]? = some d) : ldD E t cs off = .ok d := by
  obtain ⟨u, h1, h2⟩ := h.h
  simp only [ldD, und, h1, ofO, R.bind, h.hn, h2, cond_false, hd]
theorem TyF.lcA {E : Env} {t : TypeId} {n off : Nat} {cs : List C} {l : List D} (h : TyF E t n true) (hle : Nat.ble (off + n) cs.length = true) (hl : ((cs.drop off).take n).map D.c = l) : ldC E t cs off = .ok (.agg l) := by
  obtain ⟨u, h1, h2⟩ := h.h
  simp only [ldC, und, h1, ofO, R.bind, h.hn, h2, cond_true, hle, hl]
theorem TyF.lcS {E : Env} {t : TypeId} {n off : Nat} {cs : List C} {c : C} (h : TyF E t n false) (hd : cs[off]? = some c) : ldC E t cs off = .ok (.c c) := by
  obtain ⟨u, h1, h2⟩ := h.h
  simp only [ldC, und, h1, ofO, R.bind, h.hn, h2, cond_false, hd]
theorem okL_nil {α : Type} {p : α → Prop} : okL p [] := ⟨Nat.zero_le _, by simp⟩
theorem okL_triv (l : List Int) (h : l.length ≤ 1048576) : okL okI l := ⟨h, fun _ _ => trivial⟩
theorem okL_mk {α : Type} {p : α → Prop} {l : List α} (h : l.length ≤ 1048576) (hm : ∀ x ∈ l, p x) : okL p l := ⟨h, hm⟩
theorem okL_of {α : Type} {p : α → Prop} {l : List α} (h : l.length ≤ 1048576) (hm : ∀ x, x ∈ l → p x) : okL p l := ⟨h, hm⟩
theorem all_snoc {α : Type} {p : α → Prop} {l : List α} {x : α} (hl : ∀ y ∈ l, p y) (hx : p x) : ∀ y ∈ l ++ [x], p y := by
  intro y hy
  rcases List.mem_append.1 hy with h | h
  · exact hl y h
  · rw [List.mem_singleton.1 h]; exact hx
theorem okS_zero : okS ⟨#[]⟩ := by unfold okS; decide
theorem okL_take {α : Type} {p : α → Prop} {l : List α} (h : okL p l) {n : Nat} : okL p (l.take n) := ⟨by have := h.1; rw [List.length_take]; omega, fun x hx => h.2 x (List.mem_of_mem_take hx)⟩
theorem okL_drop {α : Type} {p : α → Prop} {l : List α} (h : okL p l) {n : Nat} : okL p (l.drop n) := ⟨by have := h.1; rw [List.length_drop]; omega, fun x hx => h.2 x (List.mem_of_mem_drop hx)⟩
theorem op_lenN {E : Env} {e : Operand → Option D} {r : Evs} {id : Nat} {σ : St} {x : Operand} {t el : TypeId} {d : D} {xs : List (List C)} {n : Nat} (hx : e x = some d) (ht : E.P.underlying t = some (.slice el)) (hr : rowsOf d = some xs) (hn : xs.length = n) :
    evOp E r e id σ (.call { callee := .builtin .len, args := #[x], argTypes := #[t] }) = .ok (0, .c (.int .i64 (n : Int)), σ) := by
  subst hn; exact op_lenD hx ht hr
theorem op_ixI {E : Env} {e : Operand → Option D} {r : Evs} {id : Nat} {σ : St} {t el : TypeId} {x ix : Operand} {d : D} {xs : List (List C)} {k : IntKind} {n : Int} {row : List C} {z : Nat} (hx : e x = some d) (hi : e ix = some (.c (.int k n))) (hr : rowsOf d = some xs)
    (ht : E.P.underlying t = some (.slice el)) (hz : size E el = .ok z) (h0 : 0 ≤ n) (hrow : xs[n.toNat]? = some row) (hl : Nat.beq row.length z = true) : evOp E r e id σ (.indexAddr t x ix) = .ok (0, .c (.rp xs n.toNat 0), σ) := by
  refine pure_ok ?_
  simp only [opPure, und, ht, ofO, R.bind, hx, hi, hz, hr]
  rw [if_pos h0, hrow]
  simp only [hl, cond_true]
theorem heads_map {α : Type} {f : α → List C} {z : Nat} (l : List α) (h : ∀ x, (f x).length = z) : headFits (l.map f) z = true := by
  cases l with
  | nil => rfl
  | cons x l => simp only [List.map_cons, headFits, h, Nat.beq_refl]
def nrmT : D → D
  | .tup ds => .tup (ds.map normA)
  | d => normA d
theorem DRep.nrmT {g : Ghost} {w : World} {d : D} {v : Value} (h : DRep g w d v) : DRep g w (nrmT d) v := by
  unfold Vm.nrmT
  split
  · simp only [DRep] at h ⊢
    obtain ⟨vs, rfl, h2⟩ := h
    exact ⟨vs, rfl, h2.normA⟩
  · exact h.normA
theorem Sums.resT {E : Env} {f : Nat} {args : List D} {d : D} (h : Sums E f args d) : Sums E f args (nrmT d) := by
  intro S g w vs h1 h2 h3 h4 h5 h6
  refine (h S g w vs h1 h2 h3 h4 h5 h6).mono ?_
  rintro en w' ⟨v, S', q1, q2, q3, q4, q5, q6⟩
  exact ⟨v, S', q1, q2, q3, q4, q5, q6.nrmT⟩
theorem mkH_sumsT {α : Type} {E : Env} (hE : EnvOK E) {f : Nat} {enc : α → List D} {pre : α → Prop} {res : α → D} (hp1 : ∀ x, (enc x).all plain1 = true) (hst : ∀ x, (enc x).map strip1 = enc x)
    (hev : ∀ x, pre x → ∃ d σ', Ev E f (enc x) St.empty d σ' ∧ plain d = true ∧ nrmT (strip d) = res x) (args : List D) (d : D) (h : mkH enc pre res args = .ok d) : Sums E f args d := by
  unfold mkH at h
  split at h
  · rename_i hx
    cases h
    obtain ⟨h1, h2⟩ := Classical.choose_spec hx
    generalize Classical.choose hx = x at h1 h2
    obtain ⟨d, σ', q1, q2, q3⟩ := hev _ h2
    refine Sums.args ?_
    rw [← h1, ← q3]
    refine Sums.resT (Ev.sums (σ' := σ') hE ?_ (hp1 _) q2)
    rw [hst]
    exact q1
  · cases h
theorem mapc_inj : ∀ {a b : List C}, a.map D.c = b.map D.c → a = b
  | [], [], _ => rfl
  | [], _ :: _, h => by simp at h
  | _ :: _, [], h => by simp at h
  | x :: a, y :: b, h => by
    simp only [List.map_cons, List.cons.injEq, D.c.injEq] at h
    rw [h.1, mapc_inj h.2]
theorem agg_inj {a b : List C} (h : D.agg (a.map D.c) = D.agg (b.map D.c)) : a = b := mapc_inj (D.agg.inj h)
def byteAt (s : ByteArray) (n : Nat) : Int := ((s.data.toList.getD n 0).toNat : Int)
theorem op_ixS {E : Env} {e : Operand → Option D} {r : Evs} {id : Nat} {σ : St} {x ix : Operand} {t : TypeId} {s : ByteArray} {k : IntKind} {n : Nat} (hx : e x = some (.c (.str s))) (hi : e ix = some (.c (.int k (n : Int)))) (ht : E.P.underlying t = some .string) (h : n < s.size) :
    evOp E r e id σ (.index t x ix) = .ok (0, .c (.int .u8 (byteAt s n)), σ) := by
  refine op_index_str hx hi ht (Int.natCast_nonneg _) ?_
  rw [Int.toNat_natCast]
  have h2 : n < s.data.toList.length := by rw [Array.length_toList]; exact h
  rw [getElem?_pos s n h, List.getD, List.getElem?_eq_getElem h2, Option.getD_some]
  rfl
theorem str_pos {s : ByteArray} (h : (ByteArray.toList s == ByteArray.toList (⟨#[]⟩)) = false) : 0 < s.size := by
  rcases Nat.eq_zero_or_pos s.size with h0 | h0
  · have : s.data = #[] := Array.eq_empty_of_size_eq_zero h0
    have : s = ⟨#[]⟩ := by cases s; simp_all
    subst this
    simp at h
  · exact h0
theorem op_bs {E : Env} {e : Operand → Option D} {r : Evs} {id : Nat} {σ : St} {t el : TypeId} {len k : Nat} {ps : Array (Nat × Operand)} {qs : List (Nat × D)} {z cs : List D} {xs : List (List C)} (ht : E.P.underlying t = some (.slice el)) (hk : size E el = .ok k) (hz : zero E el = .ok z)
    (h0 : (Nat.beq k 0 || Nat.blt 16777216 (len * k)) = false) (hl : Nat.beq z.length k = true) (hq : mapO (fun p => (e p.2).map fun d => (p.1, d)) ps.toList = some qs) (hf : fill (fun i => some (i * k, k)) (repl z len) qs = some cs) (hr : rowsFrom k len cs = some xs) :
    evOp E r e id σ (.buildSlice t len ps) = .ok (0, .c (.sl true xs), σ) := by
  refine pure_ok ?_
  simp only [opPure, und, ht, ofO, R.bind, hk, h0, cond_false, hz, hl, Bool.not_true, parts, hq, hf, hr]
theorem room_mk {E : Env} {t el k b : Nat} {z : List D} {n : Nat} {ys : List (List C)} (ht : E.P.underlying t = some (.slice el)) (hi : (E.P.info? el).map (fun i => (i.size, i.bytes)) = some (k, b)) (hz : zero E el = .ok z) (hl : Nat.beq z.length k = true) (hk : Nat.beq k 0 = false) (hb : Nat.ble b 1024 = true)
    (hy : ys.all (fun r => Nat.beq r.length k) = true) (hn : n + ys.length ≤ 137438953472) : Room E t t k n ys := by
  cases h : E.P.info? el with
  | none => rw [h] at hi; cases hi
  | some it =>
    rw [h] at hi
    simp only [Option.map_some, Option.some.injEq, Prod.mk.injEq] at hi
    obtain ⟨rfl, rfl⟩ := hi
    refine ⟨⟨el, el, it, z, ht, ht, h, rfl, hz, hl, hk, ?_⟩, hy, by omega⟩
    have : it.bytes ≤ 1024 := by rw [Nat.ble_eq] at hb; exact hb
    calc (n + ys.length) * it.bytes ≤ 137438953472 * 1024 := Nat.mul_le_mul hn this
      _ ≤ 140737488355328 := by decide
theorem res_cell {E : Env} {lo : Nat} {σ : St} {bs : List (Nat × List D)} {az : List (D × List (List C) × Nat)} {fr : Nat → D} {x k b off : Nat} {t : TypeId} {cs : List D} {d : D} (hK : Ko lo σ bs az) (hx : fr x = .ptr b off) (hb : bs[k]? = some (b, cs)) (hl : ldD E t cs off = .ok d) :
    resultF E fr σ [.cell x t] = .ok d := by
  simp only [resultF, result1F, hx, hK.get hb, ofO, R.bind]
  simp only [ldD] at hl
  cases h1 : und E t with
  | er => rw [h1] at hl; cases hl
  | ok u =>
    cases h2 : size E t with
    | er => rw [h1, h2] at hl; cases hl
    | ok n =>
      simp only [h1, h2, R.bind] at hl ⊢
      cases h3 : aggD u with
      | false =>
        rw [h3] at hl
        simp only [cond_false] at hl ⊢
        cases h4 : cs[off]? with
        | none => rw [h4] at hl; cases hl
        | some x => rw [h4] at hl; exact hl
      | true =>
        rw [h3] at hl
        simp only [cond_true] at hl ⊢
        cases h4 : Nat.ble (off + n) cs.length with
        | false => rw [h4] at hl; cases hl
        | true => rw [h4] at hl; exact hl
theorem Ac.fin {σ : St} {d : D} {rows : List (List C)} {k : Nat} (h : Ac σ d rows k) : _root_.Go.Vm.plain d = true ∧ nrmT (strip d) = .c (.sl false rows) := by
  rcases h with rfl | ⟨t, rfl, _⟩ <;> exact ⟨rfl, rfl⟩
theorem op_slH {α : Type} {f : α → List C} {l : List α} {E : Env} {e : Operand → Option D} {r : Evs} {id : Nat} {σ : St} {x hi : Operand} {t el : TypeId} {d : D} {k : IntKind} {h z : Nat} (hx : e x = some d) (hh : e hi = some (.c (.int k (h : Int)))) (ht : E.P.underlying t = some (.slice el)) (hz : size E el = .ok z)
    (hr : rowsOf d = some (l.map f)) (hle : h ≤ l.length) (hf : ∀ x, (f x).length = z) : evOp E r e id σ (.slice t x none (some hi) none) = .ok (0, .c (.sl false ((l.take h).map f)), σ) := by
  rw [List.map_take]
  exact op_sliceHi hx hh ht hz hr (by rw [List.length_map]; exact hle) (heads_map l hf)
theorem op_slL {α : Type} {f : α → List C} {l : List α} {E : Env} {e : Operand → Option D} {r : Evs} {id : Nat} {σ : St} {x lo : Operand} {t el : TypeId} {d : D} {k : IntKind} {h z : Nat} (hx : e x = some d) (hh : e lo = some (.c (.int k (h : Int)))) (ht : E.P.underlying t = some (.slice el)) (hz : size E el = .ok z)
    (hr : rowsOf d = some (l.map f)) (hle : h ≤ l.length) (hf : ∀ x, (f x).length = z) : evOp E r e id σ (.slice t x (some lo) none none) = .ok (0, .c (.sl false ((l.drop h).map f)), σ) := by
  rw [List.map_drop]
  exact op_sliceLo hx hh ht hz hr (by rw [List.length_map]; exact hle) (heads_map l hf)
theorem getD_mem {α : Type} [Inhabited α] {l : List α} {i : Nat} (h : i < l.length) : l.getD i default ∈ l := by
  rw [List.getD, List.getElem?_eq_getElem h]; exact List.getElem_mem h
def mx (a b : Int) : Int := if b > a then b else a
theorem op_max {E : Env} {e : Operand → Option D} {r : Evs} {id : Nat} {σ : St} {x y : Operand} {tys : Array TypeId} {k : IntKind} {a b : Int} (hx : e x = some (.c (.int k a))) (hy : e y = some (.c (.int k b))) :
    evOp E r e id σ (.call { callee := .builtin .max, args := #[x, y], argTypes := tys }) = .ok (0, .c (.int k (mx a b)), σ) :=
  pure_ok (by simp only [opPure, hx, hy, ofO, R.bind, if_true]; rfl)
theorem ne_of_beqF {a b : Int} (h : (a == b) = false) : a ≠ b := by simpa using h
theorem ne_of_bneT {a b : Int} (h : (a != b) = true) : a ≠ b := by simpa using h
theorem eq_of_bneF {a b : Int} (h : (a != b) = false) : a = b := by simpa using h
theorem op_eql_bool {E : Env} {e : Operand → Option D} {r : Evs} {id : Nat} {σ : St} {t u : TypeId} {x y : Operand} {a b v : Bool} (hx : e x = some (.c (.bool a))) (hy : e y = some (.c (.bool b))) (ht : E.P.underlying t = some .bool) (hv : (a == b) = v) :
    evOp E r e id σ (.binOp .eql t x y u) = .ok (0, .c (.bool v), σ) := by
  subst hv
  exact pure_ok (by simp only [opPure, hx, hy, ofO, R.bind, bin, und, ht, eq2, cond_false])
theorem op_neq_bool {E : Env} {e : Operand → Option D} {r : Evs} {id : Nat} {σ : St} {t u : TypeId} {x y : Operand} {a b v : Bool} (hx : e x = some (.c (.bool a))) (hy : e y = some (.c (.bool b))) (ht : E.P.underlying t = some .bool) (hv : (a != b) = v) :
    evOp E r e id σ (.binOp .neq t x y u) = .ok (0, .c (.bool v), σ) := by
  subst hv
  exact pure_ok (by simp only [opPure, hx, hy, ofO, R.bind, bin, und, ht, eq2, cond_true]; rfl)
theorem of_notF {b : Bool} (h : (!b) = false) : b = true := by simpa using h
theorem of_notT {b : Bool} (h : (!b) = true) : b = false := by simpa using h
theorem mem_at {α : Type} [Inhabited α] {l : List α} {x : α} (h : x ∈ l) : ∃ j, j < l.length ∧ l.getD j default = x := by
  obtain ⟨j, hj, e⟩ := List.mem_iff_getElem.1 h
  exact ⟨j, hj, by rw [List.getD, List.getElem?_eq_getElem hj]; exact e⟩
theorem lit_ok {l : List ByteArray} (h : decide (l.length ≤ 1048576) = true) (hm : (l.all fun s => decide (s.size ≤ 1048576)) = true) : okL okS l :=
  ⟨of_decide_eq_true h, fun x hx => show x.size ≤ 1048576 from of_decide_eq_true (List.all_eq_true.1 hm x hx)⟩
theorem all2F {a f : D} {b : Bool} (h : plain1 f = false) : (([] ++ [a, f] ++ []).all plain1 && b) = false := by simp [h]
section
variable {E : Env} {ops rest : List Oper} {lo id nt top i n0 m : Nat} {fr : Nat → D} {σ σ1 : St} {Q : List Nat → (Nat → D) → St → Prop} {bs : List (Nat × List D)} {az : List (D × List (List C) × Nat)} {o : Oper} {t cls : Nat} {d : D}
theorem Rw.s (hp : (wantF ops fr o, o.dst, Nat.blt t nt) = (.ok true, some t, true)) (hop : ∀ r, evOp E r (opndF E fr) id σ o.op = .ok (cls, d, σ1))
    (h : Rw E ops rest (id + 1) nt (updF fr t d) σ1 (fun cl f s => Q (cls :: cl) f s)) : Rw E ops (o :: rest) id nt fr σ Q := by
  simp only [Prod.mk.injEq] at hp
  exact Rw.step hp.1 hp.2.1 hop hp.2.2 h
theorem Rw.p (hp : (wantF ops fr o, o.dst, Nat.blt t nt) = (.ok false, some t, true)) (h : Rw E ops rest (id + 1) nt (updF fr t (.tup [])) σ (fun cl f s => Q (3 :: cl) f s)) : Rw E ops (o :: rest) id nt fr σ Q := by
  simp only [Prod.mk.injEq] at hp
  exact Rw.pass hp.1 hp.2.1 hp.2.2 h
theorem Rw.l {ty : TypeId} {x : Operand} {k b off : Nat} {cs : List D} (hK : Kn lo σ i top bs az) (hp : (wantF ops fr o, o.dst, Nat.blt t nt) = (.ok true, some t, true)) (ho : (o.op, opndF E fr x) = (.load ty x, some (.ptr b off)))
    (hb : bs[k]? = some (b, cs)) (hl : ldD E ty cs off = .ok d) (h : Rw E ops rest (id + 1) nt (updF fr t d) σ (fun cl f s => Q (1 :: cl) f s)) : Rw E ops (o :: rest) id nt fr σ Q := by
  simp only [Prod.mk.injEq] at hp ho
  exact Rw.ld hK hp.1 hp.2.1 ho.1 ho.2 hb hl hp.2.2 h
theorem Rw.z (hK : Kn lo σ n0 (n0 + m) bs az) (h : Ko lo σ bs az → Q [] fr σ) : Rw E ops [] id nt fr σ Q := Rw.nilK hK (Nat.le_add_right _ _) h
end
theorem an2 {a b : Prop} (ha : a) (hb : b) : a ∧ b := ⟨ha, hb⟩
theorem an3 {a b c : Prop} (ha : a) (hb : b) (hc : c) : a ∧ b ∧ c := ⟨ha, hb, hc⟩
theorem an4 {a b c d : Prop} (ha : a) (hb : b) (hc : c) (hd : d) : a ∧ b ∧ c ∧ d := ⟨ha, hb, hc, hd⟩
theorem an5 {a b c d e : Prop} (ha : a) (hb : b) (hc : c) (hd : d) (he : e) : a ∧ b ∧ c ∧ d ∧ e := ⟨ha, hb, hc, hd, he⟩
theorem an6 {a b c d e f : Prop} (ha : a) (hb : b) (hc : c) (hd : d) (he : e) (hf : f) : a ∧ b ∧ c ∧ d ∧ e ∧ f := ⟨ha, hb, hc, hd, he, hf⟩
theorem an7 {a b c d e f g : Prop} (ha : a) (hb : b) (hc : c) (hd : d) (he : e) (hf : f) (hg : g) : a ∧ b ∧ c ∧ d ∧ e ∧ f ∧ g := ⟨ha, hb, hc, hd, he, hf, hg⟩
theorem an8 {a b c d e f g h : Prop} (ha : a) (hb : b) (hc : c) (hd : d) (he : e) (hf : f) (hg : g) (hh : h) : a ∧ b ∧ c ∧ d ∧ e ∧ f ∧ g ∧ h := ⟨ha, hb, hc, hd, he, hf, hg, hh⟩
abbrev dI (x : Int) : D := .c (.int .i64 x)
abbrev dN (n : Nat) : D := .c (.int .i64 ((n : Nat) : Int))
abbrev dU (k : IntKind) (x : Int) : D := .c (.int k x)
abbrev dB (b : Bool) : D := .c (.bool b)
abbrev dS (s : ByteArray) : D := .c (.str s)
abbrev dF (x : Nat) : D := .c (.float .f64 x)
abbrev dL {α : Type} (f : α → List C) (l : List α) : D := .c (.sl false (l.map f))
abbrev dT {α : Type} (f : α → List C) (l : List α) : D := .c (.sl true (l.map f))
abbrev dC {α : Type} (f : α → List C) (x : α) : List D := (f x).map D.c
abbrev dR {α : Type} (f : α → List C) (x : α) : D := .agg ((f x).map D.c)
def InjE {α β : Type} (f : α → β) : Prop := ∀ x y, f x = f y → x = y
theorem jI : InjE dI := fun _ _ h => (C.int.inj (D.c.inj h)).2
theorem jU {k : IntKind} : InjE (dU k) := fun _ _ h => (C.int.inj (D.c.inj h)).2
theorem jB : InjE dB := fun _ _ h => C.bool.inj (D.c.inj h)
theorem jS : InjE dS := fun _ _ h => C.str.inj (D.c.inj h)
theorem jF : InjE dF := fun _ _ h => (C.float.inj (D.c.inj h)).2
theorem jL {α : Type} {f : α → List C} (h : InjE f) : InjE (dL f) := fun _ _ e => map_inj h (C.sl.inj (D.c.inj e)).2
theorem jR {α : Type} {f : α → List C} (h : InjE f) : InjE (dR f) := fun _ _ e => h _ _ (agg_inj e)
def L0 (_ : Unit) : List D := []
def L1 {α : Type} (f : α → D) (x : α) : List D := [f x]
def L2 {α β : Type} (f : α → D) (g : β → D) (x : α × β) : List D := [f x.1, g x.2]
def L3 {α β γ : Type} (f : α → D) (g : β → D) (h : γ → D) (x : α × β × γ) : List D := [f x.1, g x.2.1, h x.2.2]
def L4 {α β γ δ : Type} (f : α → D) (g : β → D) (h : γ → D) (k : δ → D) (x : α × β × γ × δ) : List D := [f x.1, g x.2.1, h x.2.2.1, k x.2.2.2]
theorem j0 : InjE L0 := fun _ _ _ => rfl
theorem j1 {α : Type} {f : α → D} (h : InjE f) : InjE (L1 f) := fun _ _ e => h _ _ (List.cons.inj e).1
theorem j2 {α β : Type} {f : α → D} {g : β → D} (h : InjE f) (k : InjE g) : InjE (L2 f g) := fun _ _ e => Prod.ext (h _ _ (List.cons.inj e).1) (k _ _ (List.cons.inj (List.cons.inj e).2).1)
theorem j3 {α β γ : Type} {f : α → D} {g : β → D} {h : γ → D} (i1 : InjE f) (i2 : InjE g) (i3 : InjE h) : InjE (L3 f g h) := fun _ _ e =>
  Prod.ext (i1 _ _ (List.cons.inj e).1) (Prod.ext (i2 _ _ (List.cons.inj (List.cons.inj e).2).1) (i3 _ _ (List.cons.inj (List.cons.inj (List.cons.inj e).2).2).1))
theorem j4 {α β γ δ : Type} {f : α → D} {g : β → D} {h : γ → D} {k : δ → D} (i1 : InjE f) (i2 : InjE g) (i3 : InjE h) (i4 : InjE k) : InjE (L4 f g h k) := fun _ _ e =>
  Prod.ext (i1 _ _ (List.cons.inj e).1) (Prod.ext (i2 _ _ (List.cons.inj (List.cons.inj e).2).1) (Prod.ext (i3 _ _ (List.cons.inj (List.cons.inj (List.cons.inj e).2).2).1) (i4 _ _ (List.cons.inj (List.cons.inj (List.cons.inj (List.cons.inj e).2).2).2).1)))
theorem He {α : Type} {enc : α → List D} {pre : α → Prop} {res : α → D} (i : InjE enc) {ds : List D} (x : α) (hp : pre x) (hx : ds.map normA = enc x) : mkH enc pre res ds = .ok (res x) := mkH_eq i x hx hp
end Go.Vm
namespace Go.Vm
structure Val.ok (x : Val) : Prop where
  h0 : okS x.s
theorem Val.ok_s {x : Val} (h : Val.ok x) : okS x.s := h.h0
theorem Val.okset_kind {x : Val} (h : Val.ok x) {v : Int} : Val.ok { x with kind := v } := ⟨h.h0⟩
theorem Val.okset_n {x : Val} (h : Val.ok x) {v : Int} : Val.ok { x with n := v } := ⟨h.h0⟩
theorem Val.okset_f {x : Val} (h : Val.ok x) {v : Nat} : Val.ok { x with f := v } := ⟨h.h0⟩
theorem Val.okset_s {x : Val} (h : Val.ok x) {v : ByteArray} (hv : okS v) : Val.ok { x with s := v } := ⟨hv⟩
theorem Val.zok : Val.ok default := ⟨okS_zero⟩
structure Col.ok (x : Col) : Prop where
  h0 : okS x.name
  h1 : Val.ok x.dflt
theorem Col.ok_name {x : Col} (h : Col.ok x) : okS x.name := h.h0
theorem Col.ok_dflt {x : Col} (h : Col.ok x) : Val.ok x.dflt := h.h1
theorem Col.okset_name {x : Col} (h : Col.ok x) {v : ByteArray} (hv : okS v) : Col.ok { x with name := v } := ⟨hv, h.h1⟩
theorem Col.okset_kind {x : Col} (h : Col.ok x) {v : Int} : Col.ok { x with kind := v } := ⟨h.h0, h.h1⟩
theorem Col.okset_nul {x : Col} (h : Col.ok x) {v : Bool} : Col.ok { x with nul := v } := ⟨h.h0, h.h1⟩
theorem Col.okset_dflt {x : Col} (h : Col.ok x) {v : Val} (hv : Val.ok v) : Col.ok { x with dflt := v } := ⟨h.h0, hv⟩
theorem Col.zok : Col.ok default := ⟨okS_zero, Val.zok⟩
structure Idx.ok (x : Idx) : Prop where
  h0 : okS x.name
  h1 : (okL okI) x.columns
theorem Idx.ok_name {x : Idx} (h : Idx.ok x) : okS x.name := h.h0
theorem Idx.ok_columns {x : Idx} (h : Idx.ok x) : (okL okI) x.columns := h.h1
theorem Idx.okset_name {x : Idx} (h : Idx.ok x) {v : ByteArray} (hv : okS v) : Idx.ok { x with name := v } := ⟨hv, h.h1⟩
theorem Idx.okset_columns {x : Idx} (h : Idx.ok x) {v : (List Int)} (hv : (okL okI) v) : Idx.ok { x with columns := v } := ⟨h.h0, hv⟩
theorem Idx.okset_unique {x : Idx} (h : Idx.ok x) {v : Bool} : Idx.ok { x with unique := v } := ⟨h.h0, h.h1⟩
theorem Idx.zok : Idx.ok default := ⟨okS_zero, okL_nil⟩
structure Rfr.ok (x : Rfr) : Prop where
  h0 : (okL okI) x.columns
  h1 : okS x.table
theorem Rfr.ok_columns {x : Rfr} (h : Rfr.ok x) : (okL okI) x.columns := h.h0
theorem Rfr.ok_table {x : Rfr} (h : Rfr.ok x) : okS x.table := h.h1
theorem Rfr.okset_columns {x : Rfr} (h : Rfr.ok x) {v : (List Int)} (hv : (okL okI) v) : Rfr.ok { x with columns := v } := ⟨hv, h.h1⟩
theorem Rfr.okset_table {x : Rfr} (h : Rfr.ok x) {v : ByteArray} (hv : okS v) : Rfr.ok { x with table := v } := ⟨h.h0, hv⟩
theorem Rfr.zok : Rfr.ok default := ⟨okL_nil, okS_zero⟩
structure Tbl.ok (x : Tbl) : Prop where
  h0 : okS x.name
  h1 : (okL Col.ok) x.columns
  h2 : (okL okI) x.key
  h3 : (okL Idx.ok) x.indexes
  h4 : (okL Rfr.ok) x.refs
theorem Tbl.ok_name {x : Tbl} (h : Tbl.ok x) : okS x.name := h.h0
theorem Tbl.ok_columns {x : Tbl} (h : Tbl.ok x) : (okL Col.ok) x.columns := h.h1
theorem Tbl.ok_key {x : Tbl} (h : Tbl.ok x) : (okL okI) x.key := h.h2
theorem Tbl.ok_indexes {x : Tbl} (h : Tbl.ok x) : (okL Idx.ok) x.indexes := h.h3
theorem Tbl.ok_refs {x : Tbl} (h : Tbl.ok x) : (okL Rfr.ok) x.refs := h.h4
theorem Tbl.okset_name {x : Tbl} (h : Tbl.ok x) {v : ByteArray} (hv : okS v) : Tbl.ok { x with name := v } := ⟨hv, h.h1, h.h2, h.h3, h.h4⟩
theorem Tbl.okset_columns {x : Tbl} (h : Tbl.ok x) {v : (List Col)} (hv : (okL Col.ok) v) : Tbl.ok { x with columns := v } := ⟨h.h0, hv, h.h2, h.h3, h.h4⟩
theorem Tbl.okset_key {x : Tbl} (h : Tbl.ok x) {v : (List Int)} (hv : (okL okI) v) : Tbl.ok { x with key := v } := ⟨h.h0, h.h1, hv, h.h3, h.h4⟩
theorem Tbl.okset_indexes {x : Tbl} (h : Tbl.ok x) {v : (List Idx)} (hv : (okL Idx.ok) v) : Tbl.ok { x with indexes := v } := ⟨h.h0, h.h1, h.h2, hv, h.h4⟩
theorem Tbl.okset_refs {x : Tbl} (h : Tbl.ok x) {v : (List Rfr)} (hv : (okL Rfr.ok) v) : Tbl.ok { x with refs := v } := ⟨h.h0, h.h1, h.h2, h.h3, hv⟩
theorem Tbl.zok : Tbl.ok default := ⟨okS_zero, okL_nil, okL_nil, okL_nil, okL_nil⟩
inductive Exr.okE : Exr → Prop
  | mk (k : Int) (o : ByteArray) (c : Int) (v : Val) (ks : List Exr) : okS o → Val.ok v → ks.length ≤ 1048576 → (∀ x ∈ ks, Exr.okE x) → Exr.okE (.mk k o c v ks)
mutual
def Exr.count : Exr → Nat
  | .mk _ _ _ _ ks => Exr.counts ks + 1
def Exr.counts : List Exr → Nat
  | [] => 0
  | x :: l => Exr.count x + Exr.counts l
end
theorem Exr.count_mem : ∀ {l : List Exr} {x : Exr}, x ∈ l → x.count ≤ Exr.counts l
  | y :: l, x, h => by
    rw [Exr.counts]
    rcases List.mem_cons.1 h with rfl | h
    · exact Nat.le_add_right _ _
    · exact Nat.le_trans (Exr.count_mem h) (Nat.le_add_left _ _)
def Exr.ok (x : Exr) : Prop := Exr.okE x ∧ x.count ≤ 1048576
theorem Exr.ok_op {x : Exr} (h : Exr.ok x) : okS x.op := by cases h.1; assumption
theorem Exr.ok_value {x : Exr} (h : Exr.ok x) : Val.ok x.value := by cases h.1; assumption
theorem Exr.ok_count {x : Exr} (h : Exr.ok x) : x.count ≤ 1048576 := h.2
theorem Exr.ok_kids {x : Exr} (h : Exr.ok x) : okL Exr.ok x.kids := by
  obtain ⟨h, hc⟩ := h
  cases h with
  | mk k o c v ks h1 h2 h3 h4 =>
    rw [Exr.count] at hc
    exact ⟨h3, fun x hx => ⟨h4 x hx, by have := Exr.count_mem (show x ∈ ks from hx); omega⟩⟩
theorem Exr.okmk {k : Int} {o : ByteArray} {c : Int} {v : Val} (h1 : okS o) (h2 : Val.ok v) (_ : okL Exr.ok []) : Exr.ok (.mk k o c v []) := ⟨.mk _ _ _ _ _ h1 h2 (by decide) (by simp), by simp only [Exr.count, Exr.counts]; decide⟩
theorem Exr.zok : Exr.ok default := Exr.okmk okS_zero Val.zok okL_nil
structure Sst.ok (x : Sst) : Prop where
  h0 : Exr.ok x.expr
theorem Sst.ok_expr {x : Sst} (h : Sst.ok x) : Exr.ok x.expr := h.h0
theorem Sst.okset_column {x : Sst} (h : Sst.ok x) {v : Int} : Sst.ok { x with column := v } := ⟨h.h0⟩
theorem Sst.okset_expr {x : Sst} (h : Sst.ok x) {v : Exr} (hv : Exr.ok v) : Sst.ok { x with expr := v } := ⟨hv⟩
theorem Sst.zok : Sst.ok default := ⟨Exr.zok⟩
structure Itm.ok (x : Itm) : Prop where
  h0 : Exr.ok x.expr
  h1 : okS x.name
theorem Itm.ok_expr {x : Itm} (h : Itm.ok x) : Exr.ok x.expr := h.h0
theorem Itm.ok_name {x : Itm} (h : Itm.ok x) : okS x.name := h.h1
theorem Itm.okset_fold {x : Itm} (h : Itm.ok x) {v : Int} : Itm.ok { x with fold := v } := ⟨h.h0, h.h1⟩
theorem Itm.okset_all {x : Itm} (h : Itm.ok x) {v : Bool} : Itm.ok { x with all := v } := ⟨h.h0, h.h1⟩
theorem Itm.okset_expr {x : Itm} (h : Itm.ok x) {v : Exr} (hv : Exr.ok v) : Itm.ok { x with expr := v } := ⟨hv, h.h1⟩
theorem Itm.okset_name {x : Itm} (h : Itm.ok x) {v : ByteArray} (hv : okS v) : Itm.ok { x with name := v } := ⟨h.h0, hv⟩
theorem Itm.zok : Itm.ok default := ⟨Exr.zok, okS_zero⟩
structure Odr.ok (x : Odr) : Prop where
  h : True
theorem Odr.okset_column {x : Odr} (h : Odr.ok x) {v : Int} : Odr.ok { x with column := v } := ⟨trivial⟩
theorem Odr.okset_desc {x : Odr} (h : Odr.ok x) {v : Bool} : Odr.ok { x with desc := v } := ⟨trivial⟩
theorem Odr.zok : Odr.ok default := ⟨trivial⟩
structure Qry.ok (x : Qry) : Prop where
  h0 : (okL okI) x.columns
  h1 : (okL (okL Exr.ok)) x.rows
  h2 : (okL Sst.ok) x.sets
  h3 : (okL Itm.ok) x.items
  h4 : Exr.ok x.wher
  h5 : (okL okI) x.group
  h6 : (okL Odr.ok) x.order
  h7 : okS x.name
  h8 : Tbl.ok x.create
theorem Qry.ok_columns {x : Qry} (h : Qry.ok x) : (okL okI) x.columns := h.h0
theorem Qry.ok_rows {x : Qry} (h : Qry.ok x) : (okL (okL Exr.ok)) x.rows := h.h1
theorem Qry.ok_sets {x : Qry} (h : Qry.ok x) : (okL Sst.ok) x.sets := h.h2
theorem Qry.ok_items {x : Qry} (h : Qry.ok x) : (okL Itm.ok) x.items := h.h3
theorem Qry.ok_wher {x : Qry} (h : Qry.ok x) : Exr.ok x.wher := h.h4
theorem Qry.ok_group {x : Qry} (h : Qry.ok x) : (okL okI) x.group := h.h5
theorem Qry.ok_order {x : Qry} (h : Qry.ok x) : (okL Odr.ok) x.order := h.h6
theorem Qry.ok_name {x : Qry} (h : Qry.ok x) : okS x.name := h.h7
theorem Qry.ok_create {x : Qry} (h : Qry.ok x) : Tbl.ok x.create := h.h8
theorem Qry.okset_kind {x : Qry} (h : Qry.ok x) {v : Int} : Qry.ok { x with kind := v } := ⟨h.h0, h.h1, h.h2, h.h3, h.h4, h.h5, h.h6, h.h7, h.h8⟩
theorem Qry.okset_table {x : Qry} (h : Qry.ok x) {v : Int} : Qry.ok { x with table := v } := ⟨h.h0, h.h1, h.h2, h.h3, h.h4, h.h5, h.h6, h.h7, h.h8⟩
theorem Qry.okset_columns {x : Qry} (h : Qry.ok x) {v : (List Int)} (hv : (okL okI) v) : Qry.ok { x with columns := v } := ⟨hv, h.h1, h.h2, h.h3, h.h4, h.h5, h.h6, h.h7, h.h8⟩
theorem Qry.okset_rows {x : Qry} (h : Qry.ok x) {v : (List (List Exr))} (hv : (okL (okL Exr.ok)) v) : Qry.ok { x with rows := v } := ⟨h.h0, hv, h.h2, h.h3, h.h4, h.h5, h.h6, h.h7, h.h8⟩
theorem Qry.okset_sets {x : Qry} (h : Qry.ok x) {v : (List Sst)} (hv : (okL Sst.ok) v) : Qry.ok { x with sets := v } := ⟨h.h0, h.h1, hv, h.h3, h.h4, h.h5, h.h6, h.h7, h.h8⟩
theorem Qry.okset_items {x : Qry} (h : Qry.ok x) {v : (List Itm)} (hv : (okL Itm.ok) v) : Qry.ok { x with items := v } := ⟨h.h0, h.h1, h.h2, hv, h.h4, h.h5, h.h6, h.h7, h.h8⟩
theorem Qry.okset_wher {x : Qry} (h : Qry.ok x) {v : Exr} (hv : Exr.ok v) : Qry.ok { x with wher := v } := ⟨h.h0, h.h1, h.h2, h.h3, hv, h.h5, h.h6, h.h7, h.h8⟩
theorem Qry.okset_group {x : Qry} (h : Qry.ok x) {v : (List Int)} (hv : (okL okI) v) : Qry.ok { x with group := v } := ⟨h.h0, h.h1, h.h2, h.h3, h.h4, hv, h.h6, h.h7, h.h8⟩
theorem Qry.okset_order {x : Qry} (h : Qry.ok x) {v : (List Odr)} (hv : (okL Odr.ok) v) : Qry.ok { x with order := v } := ⟨h.h0, h.h1, h.h2, h.h3, h.h4, h.h5, hv, h.h7, h.h8⟩
theorem Qry.okset_limit {x : Qry} (h : Qry.ok x) {v : Int} : Qry.ok { x with limit := v } := ⟨h.h0, h.h1, h.h2, h.h3, h.h4, h.h5, h.h6, h.h7, h.h8⟩
theorem Qry.okset_level {x : Qry} (h : Qry.ok x) {v : Int} : Qry.ok { x with level := v } := ⟨h.h0, h.h1, h.h2, h.h3, h.h4, h.h5, h.h6, h.h7, h.h8⟩
theorem Qry.okset_stamp {x : Qry} (h : Qry.ok x) {v : Int} : Qry.ok { x with stamp := v } := ⟨h.h0, h.h1, h.h2, h.h3, h.h4, h.h5, h.h6, h.h7, h.h8⟩
theorem Qry.okset_name {x : Qry} (h : Qry.ok x) {v : ByteArray} (hv : okS v) : Qry.ok { x with name := v } := ⟨h.h0, h.h1, h.h2, h.h3, h.h4, h.h5, h.h6, hv, h.h8⟩
theorem Qry.okset_create {x : Qry} (h : Qry.ok x) {v : Tbl} (hv : Tbl.ok v) : Qry.ok { x with create := v } := ⟨h.h0, h.h1, h.h2, h.h3, h.h4, h.h5, h.h6, h.h7, hv⟩
theorem Qry.zok : Qry.ok default := ⟨okL_nil, okL_nil, okL_nil, okL_nil, Exr.zok, okL_nil, okL_nil, okS_zero, Tbl.zok⟩
structure Wkr.ok (x : Wkr) : Prop where
  h0 : Tbl.ok x.t
theorem Wkr.ok_t {x : Wkr} (h : Wkr.ok x) : Tbl.ok x.t := h.h0
theorem Wkr.okset_t {x : Wkr} (h : Wkr.ok x) {v : Tbl} (hv : Tbl.ok v) : Wkr.ok { x with t := v } := ⟨hv⟩
theorem Wkr.okset_left {x : Wkr} (h : Wkr.ok x) {v : Int} : Wkr.ok { x with left := v } := ⟨h.h0⟩
theorem Wkr.zok : Wkr.ok default := ⟨Tbl.zok⟩
mutual
def Exr.depth : Exr → Nat
  | .mk _ _ _ _ ks => Exr.depths ks + 1
def Exr.depths : List Exr → Nat
  | [] => 0
  | x :: l => max (Exr.depth x) (Exr.depths l)
end
theorem Exr.depth_mem : ∀ {l : List Exr} {x : Exr}, x ∈ l → x.depth ≤ Exr.depths l
  | y :: l, x, h => by
    rw [Exr.depths]
    rcases List.mem_cons.1 h with rfl | h
    · exact Nat.le_max_left _ _
    · exact Nat.le_trans (Exr.depth_mem h) (Nat.le_max_right _ _)
theorem Exr.depth_kid {e : Exr} {i : Nat} (h : i < e.kids.length) : (e.kids.getD i default).depth < e.depth := by
  have hm : e.kids.getD i default ∈ e.kids := getD_mem h
  have := Exr.depth_mem hm
  obtain ⟨a, b, c, d, ks⟩ := e
  simp only [Exr.kids, Exr.depth] at this ⊢
  omega
mutual
def Exr.cols : Exr → List Int
  | .mk k _ c _ ks => (if k = 2 then [c] else []) ++ Exr.colsL ks
def Exr.colsL : List Exr → List Int
  | [] => []
  | x :: l => Exr.cols x ++ Exr.colsL l
end
mutual
theorem Exr.cols_len : ∀ e : Exr, e.cols.length ≤ e.count
  | .mk k _ c _ ks => by
    have := Exr.colsL_len ks
    rw [Exr.cols, Exr.count, List.length_append]
    split <;> simp only [List.length_singleton, List.length_nil] <;> omega
theorem Exr.colsL_len : ∀ l : List Exr, (Exr.colsL l).length ≤ Exr.counts l
  | [] => Nat.le_refl _
  | x :: l => by
    have h1 := Exr.cols_len x
    have h2 := Exr.colsL_len l
    rw [Exr.colsL, Exr.counts, List.length_append]
    omega
end
theorem Exr.colsL_app : ∀ (a b : List Exr), Exr.colsL (a ++ b) = Exr.colsL a ++ Exr.colsL b
  | [], b => rfl
  | x :: a, b => by rw [List.cons_append, Exr.colsL, Exr.colsL, Exr.colsL_app a b, List.append_assoc]
theorem Exr.counts_app : ∀ (a b : List Exr), Exr.counts (a ++ b) = Exr.counts a + Exr.counts b
  | [], b => by rw [List.nil_append, Exr.counts, Nat.zero_add]
  | x :: a, b => by rw [List.cons_append, Exr.counts, Exr.counts, Exr.counts_app a b, Nat.add_assoc]
theorem take_succ_at {l : List Exr} {i : Nat} (h : i < l.length) : l.take (i + 1) = l.take i ++ [l.getD i default] := by
  rw [List.getD, List.getElem?_eq_getElem h, Option.getD_some, List.take_append_getElem h]
theorem Exr.colsL_at {l : List Exr} {i : Nat} (h : i < l.length) : Exr.colsL (l.take (i + 1)) = Exr.colsL (l.take i) ++ (l.getD i default).cols := by
  rw [take_succ_at h, Exr.colsL_app, Exr.colsL, Exr.colsL, List.append_nil]
theorem Exr.counts_at {l : List Exr} {i : Nat} (h : i < l.length) : Exr.counts (l.take (i + 1)) = Exr.counts (l.take i) + (l.getD i default).count := by
  rw [take_succ_at h, Exr.counts_app, Exr.counts, Exr.counts]; rfl
theorem Exr.counts_take (l : List Exr) (i : Nat) : Exr.counts (l.take i) ≤ Exr.counts l := by
  have := congrArg Exr.counts (List.take_append_drop i l)
  rw [Exr.counts_app] at this
  omega
mutual
def Exr.colset : Exr → List Int
  | .mk k _ c _ ks => Go.Lib.compact (((if k = 2 then [c] else []) ++ Exr.colsets ks).mergeSort fun x y => decide (x ≤ y))
def Exr.colsets : List Exr → List Int
  | [] => []
  | x :: l => Exr.colset x ++ Exr.colsets l
end
theorem compact_len (zs : List Int) : (Go.Lib.compact zs).length ≤ zs.length := by
  unfold Go.Lib.compact Go.Lib.compactUpTo
  rw [List.length_map]
  exact Nat.le_trans (List.length_filter_le _ _) (by rw [List.length_range]; exact Nat.le_refl _)
theorem compact_pos {zs : List Int} (h : 0 < zs.length) : 0 < (Go.Lib.compact zs).length := by
  unfold Go.Lib.compact Go.Lib.compactUpTo
  rw [List.length_map]
  refine List.length_pos_of_mem (a := 0) (List.mem_filter.2 ⟨List.mem_range.2 h, by simp [Go.Lib.keeps]⟩)
mutual
theorem Exr.colset_len : ∀ e : Exr, e.colset.length ≤ e.count
  | .mk k _ c _ ks => by
    have := Exr.colsets_len ks
    rw [Exr.colset, Exr.count]
    refine Nat.le_trans (compact_len _) ?_
    rw [List.length_mergeSort, List.length_append]
    split <;> simp only [List.length_singleton, List.length_nil] <;> omega
theorem Exr.colsets_len : ∀ l : List Exr, (Exr.colsets l).length ≤ Exr.counts l
  | [] => Nat.le_refl _
  | x :: l => by
    have h1 := Exr.colset_len x
    have h2 := Exr.colsets_len l
    rw [Exr.colsets, Exr.counts, List.length_append]
    omega
end
mutual
theorem Exr.colset_cols : ∀ e : Exr, e.colset.length = 0 ↔ e.cols.length = 0
  | .mk k _ c _ ks => by
    have h := Exr.colsets_cols ks
    rw [Exr.colset, Exr.cols]
    have e : (Go.Lib.compact (((if k = 2 then [c] else []) ++ Exr.colsets ks).mergeSort fun x y => decide (x ≤ y))).length = 0 ↔ ((if k = 2 then [c] else []) ++ Exr.colsets ks).length = 0 := by
      rw [← List.length_mergeSort (le := fun x y => decide (x ≤ y)) ((if k = 2 then [c] else []) ++ Exr.colsets ks)]
      generalize (((if k = 2 then [c] else []) ++ Exr.colsets ks).mergeSort fun x y => decide (x ≤ y)) = zs
      constructor
      · intro h0
        rcases Nat.eq_zero_or_pos zs.length with h1 | h1
        · exact h1
        · have := compact_pos h1; omega
      · intro h0
        have := compact_len zs; omega
    rw [e, List.length_append, List.length_append]
    omega
theorem Exr.colsets_cols : ∀ l : List Exr, (Exr.colsets l).length = 0 ↔ (Exr.colsL l).length = 0
  | [] => Iff.rfl
  | x :: l => by
    have h1 := Exr.colset_cols x
    have h2 := Exr.colsets_cols l
    rw [Exr.colsets, Exr.colsL, List.length_append, List.length_append]
    omega
end
theorem Exr.colsets_app : ∀ (a b : List Exr), Exr.colsets (a ++ b) = Exr.colsets a ++ Exr.colsets b
  | [], b => rfl
  | x :: a, b => by rw [List.cons_append, Exr.colsets, Exr.colsets, Exr.colsets_app a b, List.append_assoc]
theorem Exr.colsets_at {l : List Exr} {i : Nat} (h : i < l.length) : Exr.colsets (l.take (i + 1)) = Exr.colsets (l.take i) ++ (l.getD i default).colset := by
  rw [take_succ_at h, Exr.colsets_app, Exr.colsets, Exr.colsets, List.append_nil]
theorem Exr.colset_eq (e : Exr) : e.colset = Go.Lib.compact (((if e.kind = 2 then [e.column] else []) ++ Exr.colsets e.kids).mergeSort fun x y => decide (x ≤ y)) := by cases e; rfl
inductive Fits (n : Nat) : Exr → Prop
  | mk (k : Int) (o : ByteArray) (c : Int) (v : Val) (ks : List Exr) : (k = 1 ∨ k = 2 ∨ k = 3 ∨ k = 4 ∨ k = 5) → (k = 1 ∨ k = 2 → ks.length = 0) → (k = 3 → ks.length = 1) → (k = 4 → ks.length = 2) → (k = 5 → 2 ≤ ks.length) → (k = 2 → 0 ≤ c ∧ c < (n : Int)) → (∀ x ∈ ks, Fits n x) → Fits n (.mk k o c v ks)
theorem Fits.arity {n : Nat} {e : Exr} (h : Fits n e) : (e.kind = 1 ∨ e.kind = 2 ∨ e.kind = 3 ∨ e.kind = 4 ∨ e.kind = 5) ∧ (e.kind = 1 ∨ e.kind = 2 → e.kids.length = 0) ∧ (e.kind = 3 → e.kids.length = 1) ∧ (e.kind = 4 → e.kids.length = 2) ∧ (e.kind = 5 → 2 ≤ e.kids.length) := by
  cases h with
  | mk k o c v ks h1 h2 h3 h4 h5 h6 h7 => exact ⟨h1, h2, h3, h4, h5⟩
theorem Fits.col {n : Nat} {e : Exr} (h : Fits n e) : e.kind = 2 → 0 ≤ e.column ∧ e.column < (n : Int) := by
  cases h with
  | mk k o c v ks h1 h2 h3 h4 h5 h6 h7 => exact h6
theorem Fits.kid {n : Nat} {e : Exr} (h : Fits n e) {i : Nat} (hi : i < e.kids.length) : Fits n (e.kids.getD i default) := by
  cases h with
  | mk k o c v ks h1 h2 h3 h4 h5 h6 h7 => exact h7 _ (getD_mem hi)
theorem Fits.of {n : Nat} {e : Exr} (h1 : e.kind = 1 ∨ e.kind = 2 ∨ e.kind = 3 ∨ e.kind = 4 ∨ e.kind = 5) (h2 : e.kind = 1 ∨ e.kind = 2 → e.kids.length = 0) (h3 : e.kind = 3 → e.kids.length = 1) (h4 : e.kind = 4 → e.kids.length = 2) (h5 : e.kind = 5 → 2 ≤ e.kids.length)
    (h6 : e.kind = 2 → 0 ≤ e.column ∧ e.column < (n : Int)) (h7 : ∀ i, i < e.kids.length → Fits n (e.kids.getD i default)) : Fits n e := by
  obtain ⟨k, o, c, v, ks⟩ := e
  refine .mk k o c v ks h1 h2 h3 h4 h5 h6 fun x hx => ?_
  obtain ⟨j, hj, rfl⟩ := mem_at hx
  exact h7 j hj
end Go.Vm
namespace Go.Vm
mutual
theorem sameC_refl : ∀ c : C, sameC c c = true
  | .bool b => by simp [sameC]
  | .int k n => by simp [sameC]
  | .float k n => by simp [sameC]
  | .str s => by simp [sameC]
  | .sl f xs => by simp [sameC, sameRows_refl xs]
  | .rp xs i o => by simp [sameC, sameRows_refl xs]
  | .nilp => rfl
  | .nili => rfl
  | .nilf => rfl
  | .nilm => rfl
theorem sameRow_refl : ∀ r : List C, sameRow r r = true
  | [] => rfl
  | c :: r => by simp [sameRow, sameC_refl c, sameRow_refl r]
theorem sameRows_refl : ∀ rs : List (List C), sameRows rs rs = true
  | [] => rfl
  | r :: rs => by simp [sameRows, sameRow_refl r, sameRows_refl rs]
end
def Rt (E : Env) (r : Evs) (ops rest : List Oper) (id nt : Nat) (fr : Nat → D) (σ : St) (es : List (Nat × St)) (fr' : Nat → D) (σ' τ : St) : Prop :=
  ∀ a : A, a.nt = nt → a.get = fr → ∃ tr a', evOps E r ⟨ops⟩ rest id a σ = .ok (tr, a', σ') ∧ tr.map (fun x => (x.cls, x.σ)) = es ∧ (∀ (j : Nat) (o : Oper) (x : Ent), rest[j]? = some o → tr[j]? = some x → x.cls = 1 → stable E o x τ = true) ∧ a'.nt = nt ∧ a'.get = fr'
section
variable {E : Env} {r : Evs} {ops rest : List Oper} {id nt : Nat} {fr fr' : Nat → D} {σ σ1 σ' τ : St} {es : List (Nat × St)}
theorem Rt.nil : Rt E r ops [] id nt fr σ [] fr σ τ := fun a h1 h2 => ⟨[], a, rfl, rfl, fun j o x h => by simp at h, h1, h2⟩
theorem Rt.on {o : Oper} {cls : Nat} {d : D} (hw : wantF ops fr o = .ok true) (hop : evOp E r (opndF E fr) id σ o.op = .ok (cls, d, σ1)) (hs : cls = 1 → opRead E (opndF E fr) τ o.op = some (.ok d) ∧ sameD d d = true) (hf : fitsO nt o.dst = true)
    (h : Rt E r ops rest (id + 1) nt (updO fr o.dst d) σ1 es fr' σ' τ) : Rt E r ops (o :: rest) id nt fr σ ((cls, σ1) :: es) fr' σ' τ := by
  intro a h1 h2
  subst h1; subst h2
  obtain ⟨a1, p1, p2, p3⟩ := put_upd (v := d) hf
  obtain ⟨tr, a', q1, q2, q0, q3, q4⟩ := h a1 p2 p3
  refine ⟨⟨true, cls, d, a, σ1⟩ :: tr, a', by simp only [evOps, want_eq, hw, R.bind, opnd_eq, hop, p1, q1], by simp [q2], ?_, q3, q4⟩
  intro j o' x ho hx hc
  cases j with
  | zero =>
    simp only [List.getElem?_cons_zero, Option.some.injEq] at ho hx
    subst ho; subst hx
    obtain ⟨s1, s2⟩ := hs hc
    simp only [stable, opnd_eq, s1, s2]
  | succ j =>
    simp only [List.getElem?_cons_succ] at ho hx
    exact q0 j o' x ho hx hc
end
def Rw3 (E : Env) (ops rest : List Oper) (id nt : Nat) (fr : Nat → D) (σ τ : St) (Q : List (Nat × St) → (Nat → D) → St → Prop) : Prop :=
  ∃ es fr' σ' N, (∀ n, N ≤ n → Rt E (evs E n) ops rest id nt fr σ es fr' σ' τ) ∧ Q es fr' σ'
section
variable {E : Env} {ops rest : List Oper} {lo id nt top i n0 m cls : Nat} {fr : Nat → D} {σ σ1 τ : St} {Q : List (Nat × St) → (Nat → D) → St → Prop} {bs : List (Nat × List D)} {az : List (D × List (List C) × Nat)} {o : Oper} {t : Nat} {d : D}
theorem Rw3.s (hp : (wantF ops fr o, o.dst, Nat.blt t nt) = (.ok true, some t, true)) (hop : ∀ r, evOp E r (opndF E fr) id σ o.op = .ok (0, d, σ))
    (h : Rw3 E ops rest (id + 1) nt (updF fr t d) σ τ (fun es f s => Q ((0, σ) :: es) f s)) : Rw3 E ops (o :: rest) id nt fr σ τ Q := by
  simp only [Prod.mk.injEq] at hp
  obtain ⟨es, fr', σ', N, p, q⟩ := h
  exact ⟨_, fr', σ', N, fun n hn => Rt.on hp.1 (hop _) (fun h => by cases h) (by rw [hp.2.1]; exact hp.2.2) (by rw [hp.2.1]; exact p n hn), q⟩
theorem Rw3.l {ty : TypeId} {x : Operand} {k b off : Nat} {cs : List D} {c : C} (hK : Kn lo σ i top bs az) (hT : σ.box.get b = some cs → τ.box.get b = some cs) (hp : (wantF ops fr o, o.dst, Nat.blt t nt) = (.ok true, some t, true)) (ho : (o.op, opndF E fr x) = (.load ty x, some (.ptr b off)))
    (hb : bs[k]? = some (b, cs)) (hl : ldD E ty cs off = .ok (.c c)) (h : Rw3 E ops rest (id + 1) nt (updF fr t (.c c)) σ τ (fun es f s => Q ((1, σ) :: es) f s)) : Rw3 E ops (o :: rest) id nt fr σ τ Q := by
  simp only [Prod.mk.injEq] at hp ho
  obtain ⟨es, fr', σ', N, p, q⟩ := h
  have hr : ∀ ρ : St, ρ.box.get b = some cs → opRead E (opndF E fr) ρ o.op = some (.ok (.c c)) := by
    intro ρ hg
    rw [ho.1]
    simp only [opRead, ho.2, ofO, R.bind, hg]
    exact congrArg some hl
  refine ⟨_, fr', σ', N, fun n hn => Rt.on hp.1 (read_ok (by rw [ho.1]; simp only [opPure, ho.2]) (hr σ (hK.get hb))) (fun _ => ⟨hr τ (hT (hK.get hb)), sameC_refl c⟩) (by rw [hp.2.1]; exact hp.2.2) (by rw [hp.2.1]; exact p n hn), q⟩
theorem Rw3.al {ty : TypeId} {z : List D} (hK : Kn lo σ i top bs az) (hi : i ≤ id) (hp : (wantF ops fr o, o.dst, Nat.blt t nt) = (.ok true, some t, true)) (ho : o.op = .alloc ty) (hz : zero E ty = .ok z)
    (h : ∀ b σ', b = id → σ' = { σ with box := σ.box.set id z } → Kn lo σ' (id + 1) top ((b, z) :: bs) az → Rw3 E ops rest (id + 1) nt (updF fr t (.ptr b 0)) σ' τ (fun es f s => Q ((2, σ') :: es) f s)) : Rw3 E ops (o :: rest) id nt fr σ τ Q := by
  simp only [Prod.mk.injEq] at hp
  obtain ⟨es, fr', σ', N, p, q⟩ := h _ _ rfl rfl ((hK.le hi).newBox z)
  exact ⟨_, fr', σ', N, fun n hn => Rt.on (d := .ptr id 0) hp.1 (by rw [ho]; exact eff_ok rfl rfl (by simp only [opEff, hz, R.bind])) (fun h => by cases h) (by rw [hp.2.1]; exact hp.2.2) (by rw [hp.2.1]; exact p n hn), q⟩
theorem Rw3.st {ty : TypeId} {x v : Operand} {k b off n : Nat} {cs cs' : List D} {d : D} (hK : Kn lo σ i top bs az) (hi : i ≤ id) (hw : wantF ops fr o = .ok true) (hd : o.dst = none) (ho : o.op = .store ty x v) (hx : opndF E fr x = some (.ptr b off))
    (hv : opndF E fr v = some d) (hn : size E ty = .ok n) (hb : bs[k]? = some (b, cs)) (hc : (Nat.beq d.cells.length n && d.cells.all cellLike) = true) (hs : setAt cs off d.cells = some cs')
    (h : ∀ σ', Kn lo σ' (id + 1) top (bs.set k (b, cs')) az → Rw3 E ops rest (id + 1) nt fr σ' τ (fun es f s => Q ((2, σ') :: es) f s)) : Rw3 E ops (o :: rest) id nt fr σ τ Q := by
  obtain ⟨es, fr', σ', N, p, q⟩ := h _ (((hK.le hi).put hb).le (Nat.le_succ _))
  exact ⟨_, fr', σ', N, fun m hm => Rt.on (d := .tup []) hw (by rw [ho]; exact eff_ok rfl rfl (by simp only [opEff, hx, hv, ofO, R.bind, hn, hK.get hb, hc, cond_true, hs])) (fun h => by cases h) (by rw [hd]; rfl) (by rw [hd]; exact p m hm), q⟩
theorem Rw3.nilK (hK : Kn lo σ i top bs az) (hi : i ≤ top) (h : Ko lo σ bs az → Q [] fr σ) : Rw3 E ops [] id nt fr σ τ Q :=
  ⟨[], fr, σ, 0, fun _ _ => Rt.nil, h ⟨hK.lo, Nat.le_refl _, fun p hp => ⟨(hK.box p hp).1, Nat.lt_of_lt_of_le (hK.box p hp).2 (Nat.le_trans hi hK.top)⟩, hK.nd, hK.ac, hK.na⟩⟩
end
def lookA (m fs : List Nat) (i k : Nat) : Nat → Nat → Bool
  | 0, _ => true
  | n + 1, c => (Nat.beq c 1 || Nat.beq c k || (fs.take c).any (fun j => (m.getD j 0).testBit i) || (fs.drop c).any (fun j => (m.getD i 0).testBit j)) && lookA m fs i k n (c + 1)
def looksA (m fs : List Nat) (n : Nat) : List Nat → Nat → Nat → Bool
  | [], _, _ => true
  | x :: xs, i, k => (!Nat.beq x 1 || lookA m fs i k n 0) && looksA m fs n xs (i + 1) (bif Nat.beq x 2 then k + 1 else k)
def drawA (ops : Array Oper) (cl : List Nat) : Bool :=
  let m := masks ops.toList []
  let fs := effsC cl 0
  drawStatic ops && ordered m fs && looksA m fs (fs.length + 1) cl 0 0
theorem lookA_ok {E : Env} {m fs : List Nat} {o : Oper} {x : Ent} {i k : Nat} : ∀ (τs : List St) (n c : Nat), τs.length ≤ n → (∀ σ, c ≤ 1 → τs[1 - c]? = some σ → stable E o x σ = true) → lookA m fs i k n c = true → lookOK E m fs o x i k τs c = true
  | [], n, c, _, _, _ => rfl
  | σ :: τs, 0, c, h, _, _ => by simp at h
  | σ :: τs, n + 1, c, h, hs, hl => by
    simp only [lookA, Bool.and_eq_true] at hl
    have hrest : lookOK E m fs o x i k τs (c + 1) = true := lookA_ok τs n (c + 1) (by simpa using h) (fun ρ hc hρ => by
      have hc0 : c = 0 := by omega
      subst hc0
      exact hs ρ (by omega) (by simpa using hρ)) hl.2
    simp only [lookOK, Bool.and_eq_true, hrest, and_true]
    by_cases hc : c = 1
    · subst hc
      rw [hs σ (by omega) rfl, Bool.or_true]
    · have h1 := hl.1
      have : Nat.beq c 1 = false := by
        cases q : Nat.beq c 1 with
        | false => rfl
        | true => exact absurd (Nat.eq_of_beq_eq_true q) hc
      rw [this, Bool.false_or] at h1
      rw [h1, Bool.true_or]
theorem looksA_ok {E : Env} {m fs : List Nat} {n : Nat} {τs : List St} (hτ : τs.length ≤ n) : ∀ (os : List Oper) (xs : List Ent) (i k : Nat), (∀ (j : Nat) (o : Oper) (x : Ent), os[j]? = some o → xs[j]? = some x → x.cls = 1 → ∀ σ, τs[1]? = some σ → stable E o x σ = true) → looksA m fs n (xs.map (·.cls)) i k = true → looksOK E m fs τs os xs i k = true
  | [], xs, i, k, _, _ => by simp [looksOK]
  | o :: os, [], i, k, _, _ => by simp [looksOK]
  | o :: os, x :: xs, i, k, hs, h => by
    simp only [List.map_cons, looksA, Bool.and_eq_true, Bool.or_eq_true] at h
    simp only [looksOK, Bool.and_eq_true, Bool.or_eq_true]
    refine ⟨?_, looksA_ok hτ os xs _ _ (fun j o x ho hx => hs (j + 1) o x ho hx) h.2⟩
    rcases h.1 with h1 | h1
    · exact .inl h1
    · by_cases hc : x.cls = 1
      · exact .inr (lookA_ok τs n 0 hτ (fun σ _ hσ => hs 0 o x rfl rfl hc σ hσ) h1)
      · left
        cases q : Nat.beq x.cls 1 with
        | false => rfl
        | true => exact absurd (Nat.eq_of_beq_eq_true q) hc
def epochsE (σ : St) : List (Nat × St) → List St
  | [] => [σ]
  | x :: xs => bif Nat.beq x.1 2 then σ :: epochsE x.2 xs else epochsE σ xs
theorem epochs_E : ∀ (tr : List Ent) (σ : St), epochs σ tr = epochsE σ (tr.map fun x => (x.cls, x.σ))
  | [], σ => rfl
  | x :: xs, σ => by simp only [epochs, List.map_cons, epochsE, epochs_E xs]
theorem Cw.regionT {E : Env} {lo nt id : Nat} {fr : Nat → D} {σ : St} {Q : Option (Option Nat) → (Nat → D) → St → Prop} {bs : List (Nat × List D)} {az : List (D × List (List C) × Nat)} {ops : List Oper} (k : Nat) (z : List D) (hK : Ko lo σ bs az)
    (h : ∀ n0 σ' τ, τ = { σ' with box := σ'.box.set (n0 + k) z } → (∀ b cs, b < n0 → σ'.box.get b = some cs → τ.box.get b = some cs) → Kn lo σ' n0 (n0 + ops.length) bs az →
      Rw3 E ops ops n0 nt fr σ' τ (fun es f s => drawA ⟨ops⟩ (es.map (·.1)) = true ∧ (epochsE σ' es)[1]? = some τ ∧ Q none f s)) : Cw E (.region id ⟨ops⟩ true) nt fr σ Q := by
  obtain ⟨es, fr', σ', N, p, q1, q2, q3⟩ := h _ _ _ rfl (fun b cs hb hg => by
    show Tr.get (Tr.set _ _ _) _ = _
    rw [Tr.get_set_other _ _ _ _ (show b ≠ σ.n + k by omega)]; exact hg) (hK.bump ops.length)
  refine ⟨none, fr', σ', ⟨N + 1, fun n hn a h1 h2 => ?_⟩, q3⟩
  obtain ⟨m, rfl, hm⟩ := fuel hn
  obtain ⟨tr, a', p1, p2, p0, p3, p4⟩ := p m hm a h1 h2
  refine ⟨a', ?_, p3, p4⟩
  have hcl : es.map (·.1) = tr.map (·.cls) := by rw [← p2, List.map_map]; rfl
  have hd' : (!true || (drawStatic ⟨ops⟩ && drawDyn E ⟨ops⟩ { σ with n := σ.n + ops.length } tr)) = true := by
    rw [hcl] at q1
    simp only [drawA, Bool.and_eq_true] at q1
    simp only [Bool.not_true, Bool.false_or, drawDyn, Bool.and_eq_true]
    rw [effs_C]
    refine ⟨q1.1.1, q1.1.2, looksA_ok ?_ _ _ _ _ (fun j o x ho hx hc ρ hρ => ?_) q1.2⟩
    · rw [epochs_len, ← effs_len tr 0, effs_C]
      exact Nat.le_refl _
    · rw [epochs_E, p2, q2] at hρ
      cases hρ
      exact p0 j o x ho hx hc
  simp only [evs, stepEvs, evCode, List.size_toArray]
  rw [show evOps E (evs E m) ⟨ops⟩ ops σ.n a { σ with n := σ.n + ops.length } = _ from p1]
  simp only [R.bind, hd']
  rfl
end Go.Vm
namespace Go.Vm
def stepD (E : Env) (ops : List Oper) (fr : Nat → D) (o : Oper) : Option (Nat × D) :=
  match wantF ops fr o with
  | .ok true => match opPure E (opndF E fr) o.op with
    | some (.ok d) => some (0, d)
    | _ => none
  | .ok false => some (3, .tup [])
  | .er _ => none
def goN (E : Env) (ops : List Oper) (nt : Nat) : Nat → List Oper → (Nat → D) → List Nat → Option (List Nat × List Oper × (Nat → D))
  | 0, rest, fr, cs => some (cs, rest, fr)
  | n + 1, rest, fr, cs => match rest with
    | [] => none
    | o :: rest => match o.dst with
      | none => none
      | some t => bif Nat.blt t nt then
          (match stepD E ops fr o with
            | some (c, .c x) => goN E ops nt n rest (updF fr t (.c x)) (c :: cs)
            | some (c, .ptr b off) => goN E ops nt n rest (updF fr t (.ptr b off)) (c :: cs)
            | some (c, .tup ds) => goN E ops nt n rest (updF fr t (.tup ds)) (c :: cs)
            | some (c, .agg ds) => goN E ops nt n rest (updF fr t (.agg ds)) (c :: cs)
            | some (c, .own k xs) => goN E ops nt n rest (updF fr t (.own k xs)) (c :: cs)
            | some (c, .fn f a b) => goN E ops nt n rest (updF fr t (.fn f a b)) (c :: cs)
            | _ => none)
        else none
section
variable {E : Env} {ops rest rest' : List Oper} {lo id nt top i n0 m : Nat} {fr fr' : Nat → D} {σ σ1 : St} {Q : List Nat → (Nat → D) → St → Prop} {bs : List (Nat × List D)} {az : List (D × List (List C) × Nat)} {o : Oper} {t cls : Nat} {d : D}
theorem stepD_ok {c : Nat} (h : stepD E ops fr o = some (c, d)) (hd : o.dst = some t) (hf : Nat.blt t nt = true) (hr : Rw E ops rest (id + 1) nt (updF fr t d) σ (fun cl f s => Q (c :: cl) f s)) : Rw E ops (o :: rest) id nt fr σ Q := by
  unfold stepD at h
  split at h
  · rename_i hw
    split at h
    · rename_i hp
      cases h
      exact Rw.step hw hd (fun r => pure_ok hp) hf hr
    · cases h
  · rename_i hw
    cases h
    exact Rw.pass hw hd hf hr
  · cases h
theorem goN_ok : ∀ (n : Nat) (rest : List Oper) (fr : Nat → D) (cs : List Nat) (id : Nat) (Q : List Nat → (Nat → D) → St → Prop) (P : List Nat → List Nat → List Nat) {cs' : List Nat}, goN E ops nt n rest fr cs = some (cs', rest', fr') → (∀ cl, P cs' cl = P cs' cl) →
    Rw E ops rest' (id + n) nt fr' σ (fun cl f s => Q (cs'.reverseAux cl) f s) → Rw E ops rest id nt fr σ (fun cl f s => Q (cs.reverseAux cl) f s)
  | 0, rest, fr, cs, id, Q, P, cs', h, _, hr => by
    simp only [goN, Option.some.injEq, Prod.mk.injEq] at h
    obtain ⟨rfl, rfl, rfl⟩ := h
    exact hr
  | n + 1, rest, fr, cs, id, Q, P, cs', h, hp, hr => by
    unfold goN at h
    cases rest with
    | nil => cases h
    | cons o rest =>
      simp only at h
      split at h
      · cases h
      · rename_i t hd
        cases hf : Nat.blt t nt with
        | false => rw [hf] at h; cases h
        | true =>
          rw [hf] at h
          simp only [cond_true] at h
          rw [show id + (n + 1) = id + 1 + n by omega] at hr
          split at h
          all_goals first
            | cases h; done
            | (rename_i c _ hs
               exact stepD_ok hs hd hf (goN_ok n _ _ _ (id + 1) Q P h hp hr))
            | (rename_i c _ _ hs
               exact stepD_ok hs hd hf (goN_ok n _ _ _ (id + 1) Q P h hp hr))
            | (rename_i c _ _ _ hs
               exact stepD_ok hs hd hf (goN_ok n _ _ _ (id + 1) Q P h hp hr))
theorem Rg (n : Nat) {cs : List Nat} (hg : goN E ops nt n rest fr [] = some (cs, rest', fr')) (h : Rw E ops rest' (id + n) nt fr' σ (fun cl f s => Q (cs.reverseAux cl) f s)) : Rw E ops rest id nt fr σ Q :=
  goN_ok n rest fr [] id Q (fun _ l => l) hg (fun _ => rfl) h
theorem Rf {s : TypeId} {x : Operand} {f a c n b off : Nat} (hf : fieldI E s f = .ok (a, c, n)) (hp : (wantF ops fr o, o.dst, Nat.blt t nt, o.op, Nat.beq n 0, opndF E fr x) = (.ok true, some t, true, .fieldAddr s x f, false, some (.ptr b off)))
    (h : Rw E ops rest (id + 1) nt (updF fr t (.ptr b (off + c))) σ (fun cl f s => Q (0 :: cl) f s)) : Rw E ops (o :: rest) id nt fr σ Q := by
  simp only [Prod.mk.injEq] at hp
  exact Rw.step hp.1 hp.2.1 (fun r => by rw [hp.2.2.2.1]; exact op_fp hf hp.2.2.2.2.1 hp.2.2.2.2.2) hp.2.2.1 h
theorem Rl {ty : TypeId} {x : Operand} {b off : Nat} {cs : List D} (k : Nat) (hK : Kn lo σ i top bs az) (hp : (wantF ops fr o, o.dst, Nat.blt t nt, o.op, opndF E fr x, bs[k]?) = (.ok true, some t, true, .load ty x, some (.ptr b off), some (b, cs)))
    (hl : ldD E ty cs off = .ok d) (h : Rw E ops rest (id + 1) nt (updF fr t d) σ (fun cl f s => Q (1 :: cl) f s)) : Rw E ops (o :: rest) id nt fr σ Q := by
  simp only [Prod.mk.injEq] at hp
  exact Rw.ld hK hp.1 hp.2.1 hp.2.2.2.1 hp.2.2.2.2.1 hp.2.2.2.2.2 hl hp.2.2.1 h
theorem Re {x : Operand} {ty el : TypeId} {α : Type} {f : α → List C} {l : List α} {b : Bool} (ht : E.P.underlying ty = some (.slice el)) (hp : (wantF ops fr o, o.dst, Nat.blt t nt, o.op, opndF E fr x) = (.ok true, some t, true, .call { callee := .builtin .len, args := #[x], argTypes := #[ty] }, some (.c (.sl b (l.map f)))))
    (h : Rw E ops rest (id + 1) nt (updF fr t (.c (.int .i64 ((l.length : Nat) : Int)))) σ (fun cl f s => Q (0 :: cl) f s)) : Rw E ops (o :: rest) id nt fr σ Q := by
  simp only [Prod.mk.injEq] at hp
  exact Rw.step hp.1 hp.2.1 (fun r => by rw [hp.2.2.2.1]; exact op_lenN hp.2.2.2.2 ht rfl (List.length_map ..)) hp.2.2.1 h
theorem Rs (hp : (wantF ops fr o, o.dst, Nat.blt t nt) = (.ok true, some t, true)) (hop : ∀ r, evOp E r (opndF E fr) id σ o.op = .ok (cls, d, σ1)) (h : Rw E ops rest (id + 1) nt (updF fr t d) σ1 (fun cl f s => Q (cls :: cl) f s)) : Rw E ops (o :: rest) id nt fr σ Q := Rw.s hp hop h
end
section
variable {E : Env} {x y : Code} {lo nt id : Nat} {fr : Nat → D} {σ : St} {Q : Option (Option Nat) → (Nat → D) → St → Prop} {bs : List (Nat × List D)} {az : List (D × List (List C) × Nat)} {ops : List Oper}
theorem Ck (hK : Ko lo σ bs az) (h : ∀ n0 σ', Kn lo σ' n0 (n0 + ops.length) bs az → Rw E ops ops n0 nt fr σ' (fun _ f s => andThen (fun f s => Cw E y nt f s Q) Q none f s)) : Cw E (.seq (.region id ⟨ops⟩ false) y) nt fr σ Q :=
  Cw.seq (Cw.regionK hK h)
end
theorem decF {p : Prop} [i : Decidable p] (h : ¬ p) : decide p = false := decide_eq_false h
theorem decT {p : Prop} [i : Decidable p] (h : p) : decide p = true := decide_eq_true h
section
variable {E : Env} {x y b : Code} {lo nt id n0 m top i : Nat} {fr : Nat → D} {σ : St} {Q : Option (Option Nat) → (Nat → D) → St → Prop} {bs : List (Nat × List D)} {az : List (D × List (List C) × Nat)} {ops rest : List Oper} {o : Oper} {t : Nat}
theorem Ct {c : Operand} (hc : opndF E fr c = some (.c (.bool true))) (h : Cw E x nt fr σ Q) : Cw E (.cond c x y) nt fr σ Q := Cw.cond_t hc h
theorem Cf {c : Operand} (hc : opndF E fr c = some (.c (.bool false))) (h : Cw E y nt fr σ Q) : Cw E (.cond c x y) nt fr σ Q := Cw.cond_f hc h
theorem Cb (h : Cw E b nt fr σ (fun o f s => Q (outBlock id o) f s)) : Cw E (.block id b) nt fr σ Q := Cw.block h
theorem Cs (h : Cw E x nt fr σ (andThen (fun f s => Cw E y nt f s Q) Q)) : Cw E (.seq x y) nt fr σ Q := Cw.seq h
theorem Ci (h : Q none fr σ) : Cw E .skip nt fr σ Q := Cw.skip h
theorem Cr (h : Q (some none) fr σ) : Cw E .ret nt fr σ Q := Cw.ret h
theorem Co (h : Cw E b nt fr σ (andThen (fun f s => Cw E (.loop b) nt f s Q) Q)) : Cw E (.loop b) nt fr σ Q := Cw.loop h
theorem Rz {Q : List Nat → (Nat → D) → St → Prop} (hK : Kn lo σ n0 (n0 + m) bs az) (h : Ko lo σ bs az → Q [] fr σ) : Rw E ops [] id nt fr σ Q := Rw.z hK h
theorem Rc {Q : List Nat → (Nat → D) → St → Prop} {ty : TypeId} {x : Operand} {xs : List (List C)} {j off n : Nat} {row : List C} {c : C} (hrow : xs[j]? = some row) (hl : TyF E ty n false) (hp : (wantF ops fr o, o.dst, Nat.blt t nt, o.op, opndF E fr x, row[off]?) = (.ok true, some t, true, .load ty x, some (.c (.rp xs j off)), some c))
    (h : Rw E ops rest (id + 1) nt (updF fr t (.c c)) σ (fun cl f s => Q (0 :: cl) f s)) : Rw E ops (o :: rest) id nt fr σ Q := by
  simp only [Prod.mk.injEq] at hp
  exact Rw.step hp.1 hp.2.1 (fun r => by rw [hp.2.2.2.1]; exact op_ldC hp.2.2.2.2.1 hrow (hl.lcS hp.2.2.2.2.2)) hp.2.2.1 h
end
end Go.Vm
namespace Go.Vm
open Go.RowKit (Below)
open Go.Sort (Holds putRow grow size_grow size_putRow holds_grow holds_putRow holds_ahead grow_empty)
abbrev Tail := Nat → World → (Nat → Nat → Prop) → Exit → Act → World → Prop
def Cm (E : Env) (c : Code) (nt : Nat) (fr : Nat → D) (σ : St) (T : Tail) : Prop :=
  ∀ base w0 S0 g δ act w (fa : A), fa.nt = nt → fa.get = fr → (∀ b x, S0 b x → b < base) → SRel E base w0 S0 g δ σ w → ARel g fa act w → c.wp E.P (T base w0 S0) act w
theorem Cm.seq {E : Env} (hE : EnvOK E) {x y : Code} {nt : Nat} {fr : Nat → D} {σ : St} {T : Tail} (h : Cw E x nt fr σ (fun o f s => o = none ∧ Cm E y nt f s T)) : Cm E (.seq x y) nt fr σ T := by
  intro base w0 S0 g δ act w fa h1 h2 hS0 hs ha
  obtain ⟨o, fr', σ', ⟨N, p⟩, rfl, hy⟩ := h
  obtain ⟨a', p1, p2, p3⟩ := p N (Nat.le_refl _) fa h1 h2
  obtain ⟨_, m, hc⟩ := (evs_ok hE N).2 _ _ _ _ _ _ p1
  exact wp_seq (Runs.wp (hc _ _ _ _ _ _ _ _ hs ha fun g' δ' act' w' hle hs' ha' _ => hy _ _ _ _ _ _ _ _ p2 p3 hS0 hs' ha'))
theorem SRel.start {E : Env} {g : Ghost} {w : World} (hlo : E.lo ≤ w.heap.size) (hF : E.F w) (hlive : ∀ b x, g.S b x → ∃ v, w.cell? ⟨b, x, none⟩ = some v)
    (hglob : ∀ q c, E.G q = some c → CRep g.S w (.rp [[c]] 0 0) (.pointer (some ⟨q, 0, none⟩))) :
    SRel E w.heap.size w g.S { S := g.S, β := fun _ => none, γ := fun _ _ => none, μ := fun _ => none } (fun _ => none) St.empty w := by
  constructor
  · exact Below.refl _ _
  · exact Nat.le_refl _
  · exact hlo
  · exact hF
  · exact fun _ _ h => h
  · exact fun _ _ h => .inl h
  · exact hlive
  · exact hglob
  · intro b k h; cases h
  · intro b b' k h; cases h
  · intro b k x h; cases h
  · intro b cs h; cases h
  · intro t n v h; cases h
  · intro t p h; cases h
  · intro t b h; cases h
  · intro t t' b h; cases h
  · intro m k h; cases h
  · intro m m' k h; cases h
  · intro m es h; cases h
def TailOf (r : Nat) (c : C) : Tail := fun base w0 S0 e a w => (e = .normal ∨ e = .ret) ∧ a.defers = [] ∧ Below base w0 w ∧
  ∃ S' : Nat → Nat → Prop, (∀ b x, S0 b x → S' b x) ∧ (∀ b x, S' b x → S0 b x ∨ base ≤ b) ∧ (∀ b x, S' b x → ∃ v, w.cell? ⟨b, x, none⟩ = some v) ∧ CRep S' w c (a.tmps.getD r undef)
theorem Sums.ofCm {E : Env} {f r nt : Nat} {fn : Func} {c : Code} {args : List D} {d : C} (hf : E.P.funcs[f]? = some fn) (hb : fn.body = some c) (hr : fn.results = #[.tmp r]) (hnt : nt = args.length + (fn.ntmps - args.length)) (ha : args.all plain1 = true)
    (h : Cm E c nt (frOf (args.map strip1)) St.empty (TailOf r d)) : Sums E f args (.c d) := by
  intro S g w vs hgS hlo hF hlive hglob hargs
  subst hgS
  have hs := SRel.start hlo hF hlive hglob
  have hrep := plains_rep ha hargs { S := g.S, β := fun _ => none, γ := fun _ _ => none, μ := fun _ => none } rfl
  refine calls_of_wp hf hb (wp_mono (h _ _ _ _ _ _ _ (initA fn.ntmps (args.map strip1)) (by rw [hnt]; simp [initA]) (init_fr _ _) (fun b x hb => by obtain ⟨v, hv⟩ := hlive b x hb; exact cell_lt hv) hs (init_rel hrep fn.ntmps)) ?_)
  rintro e a w' ⟨he, hd, hbl, S', h1, h2, h3, h4⟩
  have hres : (results fn a.tmps).run E.P w' = .ok (a.tmps.getD r undef) w' := by
    have : ([ResultVar.tmp r].mapM (resSem a.tmps)).run E.P w' = .ok [a.tmps.getD r undef] w' := by rw [List.mapM_cons, Sem.run_bind]; rfl
    simp only [results_eq, hr, Array.mapM_eq_mapM_toList, Sem.run_bind, map_eq_pure_bind, this, Result.andThen_ok, Sem.run_pure]
    rfl
  have hfin : bodyPost E.P fn (fun en w' => ∃ v S', en = .returned v ∧ Below w.heap.size w w' ∧ (∀ b x, g.S b x → S' b x) ∧ (∀ b x, S' b x → g.S b x ∨ w.heap.size ≤ b) ∧
      (∀ b x, S' b x → ∃ v, w'.cell? ⟨b, x, none⟩ = some v) ∧ DRep { g with S := S' } w' (.c d) v) .normal a w' := ⟨hd, _, hres, _, S', rfl, hbl, h1, h2, h3, by simp only [DRep]; exact h4⟩
  rcases he with rfl | rfl
  · exact hfin
  · exact hfin
theorem wpOps_go {P : Program} {ops : Array Oper} {Q : Exit → Act → World → Prop} {i : Nat} {rest : List Nat} {a : Act} {w : World} {o : Oper} (ho : ops[i]? = some o) (hg : o.guard = none) (h : o.wp P a w (wpOps P ops Q rest) Q) : wpOps P ops Q (i :: rest) a w := by
  simp only [wpOps, ho, Region.wanted, hg, if_true]
  exact .inl h
theorem tmps_put {a : Act} {t : Nat} {v : Value} (ht : t < a.tmps.size) : (a.put (some t) v).tmps.getD t undef = v := by
  simp only [Act.put, Array.getD_eq_getD_getElem?]
  rw [Array.getElem?_setIfInBounds_self_of_lt ht]; rfl
theorem tmps_other {a : Act} {t x : Nat} {v : Value} (hx : x ≠ t) : (a.put (some t) v).tmps.getD x undef = a.tmps.getD x undef := by
  simp only [Act.put, Array.getD_eq_getD_getElem?]
  rw [Array.getElem?_setIfInBounds_ne (fun e => hx e.symm)]
theorem tmps_size {a : Act} {t : Nat} {v : Value} : (a.put (some t) v).tmps.size = a.tmps.size := by simp [Act.put]
theorem wp_call1 {E : Env} (hE : EnvOK E) {f t d : Nat} {fn : Func} {o : Oper} {tys : Array TypeId} {a : Act} {w : World} {v : Value} {next : Act → World → Prop} {Q : Exit → Act → World → Prop} (hf : E.P.funcs[f]? = some fn) (hb : fn.body.isNone = false)
    (hd : o.dst = some d) (ho : o.op = .call { callee := .value (.func f), args := #[.tmp t], argTypes := tys }) (hv : a.tmps.getD t undef = v)
    (h : Calls E.P f #[v] w (fun e w' => ∃ u, e = .returned u ∧ next (a.put (some d) u) w')) : o.wp E.P a w next Q := by
  obtain ⟨dst, op, ty, pos, after, guard⟩ := o
  simp only at hd ho
  subst hd; subst ho
  have hrun : (execOp a.eval ⟨some d, .call ⟨.value (.func f), #[.tmp t], tys⟩, ty, pos, after, guard⟩).run E.P w = (callFunc f #[v]).run E.P w := by
    have he : a.eval (.func f) = .func (.func f) #[] #[] := rfl
    have ht : a.eval (.tmp t) = v := hv
    simp only [execOp, resolve, he, Deferred.ofValue, Sem.run_bind, Sem.run_pure, Result.andThen_ok, invoke]
    congr 2
    apply Array.ext'
    simp [ht]
  unfold Oper.wp
  rw [hrun, run_callFunc hE hf hb, Oper.upon_enter]
  refine h.mono ?_
  rintro e w' ⟨u, rfl, hn⟩
  exact hn
def SortedAt (base : Nat) (w0 : World) (S0 : Nat → Nat → Prop) (zs : List Int) (v : Value) (w : World) : Prop :=
  Below base w0 w ∧ (∀ b x, S0 b x → b < base ∧ ∃ u, w.cell? ⟨b, x, none⟩ = some u) ∧
  ((zs = [] ∧ ∃ p cap, v = .slice p 0 cap) ∨ ∃ b o cap, v = .slice (some ⟨b, o, none⟩) zs.length cap ∧ zs.length ≤ cap ∧ base ≤ b ∧ b < w.heap.size ∧ Holds (Value.int .i64) w b o zs.toArray)
def sortI (zs : List Int) : List Int := zs.mergeSort fun x y => decide (x ≤ y)
theorem sortI_len (zs : List Int) : (sortI zs).length = zs.length := List.length_mergeSort _
theorem below_row {base : Nat} {w0 w : World} {b o n : Nat} {d0 : Array Int} {ys : List Int} {os : Array Obj} (hb : Below base w0 w) (hbase : base ≤ b) (hsz : base ≤ w.heap.size) (hH : Holds (Value.int .i64) w b o d0) (hl : ys.length = d0.size) :
    Below base w0 (grow (putRow (Value.int .i64) (Go.Sort.ahead w n) b o ys.toArray) os) ∧ w.heap.size ≤ (grow (putRow (Value.int .i64) (Go.Sort.ahead w n) b o ys.toArray) os).heap.size := by
  rw [Go.Lib.putRow_eq_setCells (Value.int .i64) w b o d0 ys n hH hl]
  have h1 : Below base w0 (w.drewN n) := ⟨hb.os, hb.tape, hb.output, hb.size, hb.block⟩
  have h2 := below_setCells b hbase (ys.map (Value.int .i64)) o (w.drewN n) h1
  have hs : ((w.drewN n).setCells b o (ys.map (Value.int .i64))).heap.size = w.heap.size := size_setCells _ _ _ _
  refine ⟨⟨h2.os, h2.tape, h2.output, ?_, fun k hk => ?_⟩, ?_⟩
  · rw [size_grow]; have := h2.size; omega
  · rw [← h2.block k hk]
    show (_ ++ _)[k]? = _
    rw [Array.getElem?_append_left (by rw [hs]; omega)]
  · rw [size_grow, hs]; omega
theorem rep_cell1 {S : Nat → Nat → Prop} {w : World} {rows : List (List C)} {v : Value} {b o n cap i : Nat} {c : C} (h : CRep S w (.sl false rows) v) (hv : v = .slice (some ⟨b, o, none⟩) n cap) (hi : rows[i]? = some [c]) : ∃ u, w.cell? ⟨b, o + i, none⟩ = some u ∧ CRep S w c u := by
  cases h with
  | slNone => simp at hi
  | sl f xs b' o' k cap' u hc hf hk hcl hrec =>
    cases hv
    have e1 := hk i _ hi
    simp only [List.length_singleton] at e1
    subst e1
    have e2 := hcl i _ 0 _ hi rfl
    rw [show o + i * 1 + 0 = o + i by omega] at e2
    exact ⟨_, e2.2, hrec i _ 0 _ hi rfl⟩
section
variable {E : Env} {base : Nat} {w0 : World} {S0 : Nat → Nat → Prop}
theorem sort_step {g : Ghost} {δ : Nat → Option Nat} {σ : St} {w : World} {fs : Nat} {zs : List Int} {dX : D} {v : Value} (hs : SRel E base w0 S0 g δ σ w) (hS0 : ∀ b x, S0 b x → b < base) (hv : DRep g w dX v) (hac : Ac σ dX (zs.map encI) 1) (hown : zs ≠ [] → ∃ t, dX = .own t (zs.map encI)) (hlen : zs.length < 4611686018427387904)
    (hsort : ∀ blk off cap zs w, Holds (Value.int .i64) w blk off zs.toArray → blk < w.heap.size → zs.length < 4611686018427387904 → Calls E.P fs #[.slice (some ⟨blk, off, none⟩) zs.length cap] w fun e w' => e = .returned (.tuple #[]) ∧ ∃ n os, w' = grow (putRow (Value.int .i64) (Go.Sort.ahead w n) blk off (sortI zs).toArray) os)
    (hsort0 : ∀ p cap w, Calls E.P fs #[.slice p 0 cap] w fun e w' => e = .returned (.tuple #[]) ∧ w' = w) :
    Calls E.P fs #[v] w fun e w' => e = .returned (.tuple #[]) ∧ SortedAt base w0 S0 (sortI zs) v w' := by
  have hlive : ∀ b x, S0 b x → b < base ∧ ∃ u, w.cell? ⟨b, x, none⟩ = some u := fun b x h => ⟨hS0 b x h, hs.live b x (hs.s0 b x h)⟩
  by_cases hz : zs = []
  · subst hz
    obtain ⟨p, cap, rfl, _⟩ := rows_len (rep_rows hv hac.rows)
    refine (hsort0 p cap w).mono ?_
    rintro e w' ⟨rfl, rfl⟩
    exact ⟨rfl, hs.below, hlive, .inl ⟨by simp [sortI], p, cap, rfl⟩⟩
  · obtain ⟨t, rfl⟩ := hown hz
    have htok : σ.tok.get t = some (zs.length, 1) := by
      rcases hac with h | ⟨t', h, _, h2⟩
      · cases h
      · cases h; rw [h2, List.length_map]
    simp only [DRep] at hv
    obtain ⟨_, v', hv', hsp⟩ := hs.tok t _ htok
    simp only at hv'
    rw [List.length_map] at hv
    rw [hv.2] at hv'
    cases hv'
    obtain ⟨b, o, cap, rfl, hcap, hδ, _, _, hfree⟩ := hsp.is
    simp only at hcap hfree
    obtain ⟨_, hbase, hblt, _⟩ := hs.tokδ t b hδ
    have hcell : ∀ j (h : j < zs.length), w.cell? ⟨b, o + j, none⟩ = some (.int .i64 (zs[j])) := by
      intro j h
      have hc := hv.1
      have hj : (zs.map encI)[j]? = some [C.int .i64 zs[j]] := by rw [List.getElem?_map, List.getElem?_eq_getElem h]; rfl
      obtain ⟨u, hu, hr⟩ := rep_cell1 hc rfl hj
      rw [hu]
      cases hr
      rfl
    have hH : Holds (Value.int .i64) w b o zs.toArray := by
      intro j hj
      rw [List.size_toArray] at hj
      refine ⟨?_, hfree _ (by omega) (by omega)⟩
      rw [hcell j hj, getElem!_pos _ _ (by rw [List.size_toArray]; exact hj)]
      simp
    refine (hsort b o cap zs w hH hblt hlen).mono ?_
    rintro e w' ⟨rfl, n, os, rfl⟩
    have hl : (sortI zs).length = zs.toArray.size := by rw [sortI_len, List.size_toArray]
    obtain ⟨hb1, hb2⟩ := below_row (n := n) (os := os) hs.below hbase hs.le_size hH hl
    refine ⟨rfl, hb1, fun b' x h => ⟨(hlive b' x h).1, ?_⟩, .inr ⟨b, o, cap, by rw [sortI_len], by rw [sortI_len]; exact hcap, hbase, by omega, ?_⟩⟩
    · obtain ⟨u, hu⟩ := (hlive b' x h).2
      refine ⟨u, ?_⟩
      have hbb := (hlive b' x h).1
      rw [World.cell?_of_block (w := w) ?_]
      · exact hu
      · show _ = w.heap[b']?
        have q1 := hb1.block b' hbb
        have q2 := hs.below.block b' hbb
        rw [q1, q2]
    · exact holds_grow _ _ _ _ _ _ (by rw [size_putRow]; exact hblt) (holds_putRow _ _ _ _ _ _ (holds_ahead _ _ _ _ _ _ hH) (by rw [List.size_toArray, hl]))
theorem compact_step {w : World} {fc : Nat} {zs : List Int} {v : Value} (h : SortedAt base w0 S0 zs v w) (hbs : base ≤ w0.heap.size) (hlen : zs.length ≤ 9223372036854775807)
    (hcomp : ∀ blk off cap zs w, Holds (Value.int .i64) w blk off zs.toArray → zs.length ≤ 9223372036854775807 → zs.length ≤ cap → Calls E.P fc #[.slice (some ⟨blk, off, none⟩) zs.length cap] w fun e w' => e = .returned (.slice (some ⟨blk, off, none⟩) (Go.Lib.compact zs).length cap) ∧ ∃ q, w' = putRow (Value.int .i64) (Go.Sort.ahead w q) blk off (Go.Lib.compact zs ++ List.replicate (zs.length - (Go.Lib.compact zs).length) 0).toArray)
    (hcomp0 : ∀ p cap w, Calls E.P fc #[.slice p 0 cap] w fun e w' => e = .returned (.slice p 0 cap) ∧ w' = w) :
    Calls E.P fc #[v] w fun e w' => ∃ u, e = .returned u ∧ Below base w0 w' ∧ ∃ S' : Nat → Nat → Prop, (∀ b x, S0 b x → S' b x) ∧ (∀ b x, S' b x → S0 b x ∨ base ≤ b) ∧ (∀ b x, S' b x → ∃ v, w'.cell? ⟨b, x, none⟩ = some v) ∧ CRep S' w' (.sl false ((Go.Lib.compact zs).map encI)) u := by
  obtain ⟨hb, hlive, hx⟩ := h
  rcases hx with ⟨rfl, p, cap, rfl⟩ | ⟨b, o, cap, rfl, hcap, hbase, hblt, hH⟩
  · refine (hcomp0 p cap w).mono ?_
    rintro e w' ⟨rfl, rfl⟩
    exact ⟨_, rfl, hb, S0, fun _ _ h => h, fun _ _ h => .inl h, fun b x h => (hlive b x h).2, .slNone false p cap (by simp)⟩
  · have hcl : (Go.Lib.compact zs).length ≤ zs.length := by
      unfold Go.Lib.compact Go.Lib.compactUpTo
      rw [List.length_map]
      exact Nat.le_trans (List.length_filter_le _ _) (by rw [List.length_range]; exact Nat.le_refl _)
    refine (hcomp b o cap zs w hH hlen hcap).mono ?_
    rintro e w' ⟨rfl, q, rfl⟩
    generalize hys : Go.Lib.compact zs ++ List.replicate (zs.length - (Go.Lib.compact zs).length) 0 = ys
    have hyl : ys.length = zs.toArray.size := by rw [← hys, List.length_append, List.length_replicate, List.size_toArray]; omega
    have hbs2 := hb.size
    obtain ⟨hb1, _⟩ := below_row (n := q) (os := #[]) hb hbase (by omega) hH hyl
    rw [grow_empty] at hb1
    have hH2 := holds_putRow (Value.int .i64) (Go.Sort.ahead w q) b o _ ys.toArray (holds_ahead _ _ _ _ _ _ hH) (by rw [List.size_toArray, hyl])
    have hcell : ∀ j (h : j < (Go.Lib.compact zs).length), (putRow (Value.int .i64) (Go.Sort.ahead w q) b o ys.toArray).cell? ⟨b, o + j, none⟩ = some (.int .i64 ((Go.Lib.compact zs)[j])) := by
      intro j h
      have hj : j < ys.toArray.size := by rw [List.size_toArray, hyl, List.size_toArray]; omega
      rw [(hH2 j hj).1, getElem!_pos ys.toArray j hj]
      have e : ys.toArray[j] = (Go.Lib.compact zs)[j] := by
        rw [List.getElem_toArray]
        subst hys
        exact List.getElem_append_left h
      rw [e]
    refine ⟨_, rfl, hb1, fun b' x => S0 b' x ∨ (b' = b ∧ o ≤ x ∧ x < o + (Go.Lib.compact zs).length), fun _ _ h => .inl h, ?_, ?_, ?_⟩
    · rintro b' x (h | ⟨rfl, _⟩)
      · exact .inl h
      · exact .inr hbase
    · rintro b' x (h | ⟨rfl, h1, h2⟩)
      · obtain ⟨u, hu⟩ := (hlive b' x h).2
        refine ⟨u, ?_⟩
        rw [World.cell?_of_block (w := w) ?_]
        · exact hu
        · show _ = w.heap[b']?
          rw [hb1.block b' (hlive b' x h).1, hb.block b' (hlive b' x h).1]
      · exact ⟨_, by have := hcell (x - o) (by omega); rwa [show o + (x - o) = x by omega] at this⟩
    · rw [show (Go.Lib.compact zs).length = ((Go.Lib.compact zs).map encI).length by rw [List.length_map]]
      refine .sl false _ b o 1 cap (fun i _ => .int .i64 ((Go.Lib.compact zs).getD i 0)) (by rw [List.length_map]; omega) (by simp) ?_ ?_ ?_
      · intro i r hi
        rw [List.getElem?_map] at hi
        cases h : (Go.Lib.compact zs)[i]? with
        | none => rw [h] at hi; cases hi
        | some z => rw [h] at hi; cases hi; rfl
      · intro i r j c hi hj
        have hil : i < (Go.Lib.compact zs).length := by have := (List.getElem?_eq_some_iff.1 hi).1; rwa [List.length_map] at this
        rw [List.getElem?_map, List.getElem?_eq_getElem hil] at hi
        cases hi
        have hj0 : j = 0 := by have := (List.getElem?_eq_some_iff.1 hj).1; simpa [encI] using this
        subst hj0
        refine ⟨.inr ⟨rfl, by omega, by rw [List.length_map]; omega⟩, ?_⟩
        rw [show o + i * 1 + 0 = o + i by omega, hcell i hil, List.getD_eq_getElem?_getD, List.getElem?_eq_getElem hil]; rfl
      · intro i r j c hi hj
        have hil : i < (Go.Lib.compact zs).length := by have := (List.getElem?_eq_some_iff.1 hi).1; rwa [List.length_map] at this
        rw [List.getElem?_map, List.getElem?_eq_getElem hil] at hi
        cases hi
        have hj0 : j = 0 := by have := (List.getElem?_eq_some_iff.1 hj).1; simpa [encI] using this
        subst hj0
        simp only [encI, List.getElem?_cons_zero, Option.some.injEq] at hj
        subst hj
        rw [List.getD_eq_getElem?_getD, List.getElem?_eq_getElem hil]
        exact .int _ _
end
theorem Cm.sorted {E : Env} (hE : EnvOK E) {fs fc x t1 t2 t3 t4 r nt id1 id2 : Nat} {o1 o2 o3 o4 o5 : Oper} {ys1 ys2 : Array TypeId} {fr : Nat → D} {σ : St} {zs : List Int} {dX : D} (hx : fr x = dX) (hac : Ac σ dX (zs.map encI) 1) (hown : zs ≠ [] → ∃ t, dX = .own t (zs.map encI)) (hlen : zs.length ≤ 4611686018427387903)
    (hfs : ∃ fn, E.P.funcs[fs]? = some fn ∧ fn.body.isNone = false) (hfc : ∃ fn, E.P.funcs[fc]? = some fn ∧ fn.body.isNone = false)
    (h1 : (o1.op, o1.dst, o1.guard) = (.move (.tmp x), some t1, none)) (h2 : (o2.op, o2.dst, o2.guard) = (.call { callee := .value (.func fs), args := #[.tmp t1], argTypes := ys1 }, some t2, none))
    (h3 : (o3.op, o3.dst, o3.guard) = (.move (.tmp x), some t3, none)) (h4 : (o4.op, o4.dst, o4.guard) = (.call { callee := .value (.func fc), args := #[.tmp t3], argTypes := ys2 }, some t4, none)) (h5 : (o5.op, o5.dst, o5.guard) = (.assign (.tmp t4), some r, none))
    (hlt : (t1 < nt ∧ t3 < nt ∧ t4 < nt ∧ r < nt) ∧ x ≠ t1 ∧ x ≠ t2)
    (hsort : ∀ blk off cap zs w, Holds (Value.int .i64) w blk off zs.toArray → blk < w.heap.size → zs.length < 4611686018427387904 → Calls E.P fs #[.slice (some ⟨blk, off, none⟩) zs.length cap] w fun e w' => e = .returned (.tuple #[]) ∧ ∃ n os, w' = grow (putRow (Value.int .i64) (Go.Sort.ahead w n) blk off (sortI zs).toArray) os)
    (hsort0 : ∀ p cap w, Calls E.P fs #[.slice p 0 cap] w fun e w' => e = .returned (.tuple #[]) ∧ w' = w)
    (hcomp : ∀ blk off cap zs w, Holds (Value.int .i64) w blk off zs.toArray → zs.length ≤ 9223372036854775807 → zs.length ≤ cap → Calls E.P fc #[.slice (some ⟨blk, off, none⟩) zs.length cap] w fun e w' => e = .returned (.slice (some ⟨blk, off, none⟩) (Go.Lib.compact zs).length cap) ∧ ∃ q, w' = putRow (Value.int .i64) (Go.Sort.ahead w q) blk off (Go.Lib.compact zs ++ List.replicate (zs.length - (Go.Lib.compact zs).length) 0).toArray)
    (hcomp0 : ∀ p cap w, Calls E.P fc #[.slice p 0 cap] w fun e w' => e = .returned (.slice p 0 cap) ∧ w' = w) :
    Cm E (.seq (.region id1 #[o1, o2] false) (.seq (.region id2 #[o3, o4, o5] false) .ret)) nt fr σ (TailOf r (.sl false ((Go.Lib.compact (sortI zs)).map encI))) := by
  obtain ⟨fns, hfs, hbs⟩ := hfs
  obtain ⟨fnc, hfc, hbc⟩ := hfc
  simp only [Prod.mk.injEq] at h1 h2 h3 h4 h5
  obtain ⟨⟨l1, l3, l4, l5⟩, n1, n2⟩ := hlt
  intro base w0 S0 g δ act w fa hnt hget hS0 hs ha
  have hv : DRep g w dX (act.tmps.getD x undef) := by have := ha.tmps x; rwa [hget, hx] at this
  have hsz := ha.nt
  rw [hnt] at hsz
  refine wp_seq (wp_region ?_)
  show wpOps _ _ _ [0, 1] _ _
  refine wpOps_go (o := o1) rfl h1.2.2 ?_
  have e1 : o1.wp E.P act w = fun next Q => next (act.put (some t1) (act.tmps.getD x undef)) w := by
    funext next Q
    unfold Oper.wp
    obtain ⟨dst, op, ty, pos, after, guard⟩ := o1
    simp only at h1
    obtain ⟨rfl, rfl, rfl⟩ := h1
    rfl
  rw [e1]
  refine wpOps_go (o := o2) rfl h2.2.2 ?_
  refine wp_call1 hE hfs hbs h2.2.1 h2.1 (tmps_put (by omega)) ?_
  refine (sort_step hs hS0 hv hac hown (by omega) hsort hsort0).mono ?_
  rintro e w1 ⟨rfl, hst⟩
  refine ⟨_, rfl, ?_⟩
  generalize hA : (act.put (some t1) (act.tmps.getD x undef)).put (some t2) (.tuple #[]) = A2
  have hA1 : A2.tmps.getD x undef = act.tmps.getD x undef := by rw [← hA, tmps_other n2, tmps_other n1]
  have hA2 : A2.tmps.size = nt := by rw [← hA, tmps_size, tmps_size, hsz]
  have hA3 : A2.defers = [] := by rw [← hA]; exact ha.defers
  show (Code.seq _ _).wp _ _ A2 w1
  refine wp_seq (wp_region ?_)
  show wpOps _ _ _ [0, 1, 2] _ _
  refine wpOps_go (o := o3) rfl h3.2.2 ?_
  have e3 : o3.wp E.P A2 w1 = fun next Q => next (A2.put (some t3) (act.tmps.getD x undef)) w1 := by
    funext next Q
    unfold Oper.wp
    obtain ⟨dst, op, ty, pos, after, guard⟩ := o3
    simp only at h3
    obtain ⟨rfl, rfl, rfl⟩ := h3
    rw [← hA1]
    rfl
  rw [e3]
  refine wpOps_go (o := o4) rfl h4.2.2 ?_
  refine wp_call1 hE hfc hbc h4.2.1 h4.1 (tmps_put (by omega)) ?_
  refine (compact_step hst hs.base_le (by rw [sortI_len]; omega) hcomp hcomp0).mono ?_
  rintro e w2 ⟨u, rfl, hfin⟩
  refine ⟨u, rfl, ?_⟩
  refine wpOps_go (o := o5) rfl h5.2.2 ?_
  generalize hB : (A2.put (some t3) (act.tmps.getD x undef)).put (some t4) u = A4
  have hB1 : A4.tmps.getD t4 undef = u := by rw [← hB]; exact tmps_put (by rw [tmps_size]; omega)
  have hB2 : A4.tmps.size = nt := by rw [← hB, tmps_size, tmps_size, hA2]
  have hB3 : A4.defers = [] := by rw [← hB]; exact hA3
  have e5 : o5.wp E.P A4 w2 = fun next Q => next (A4.put (some r) u) w2 := by
    funext next Q
    unfold Oper.wp
    obtain ⟨dst, op, ty, pos, after, guard⟩ := o5
    simp only at h5
    obtain ⟨rfl, rfl, rfl⟩ := h5
    rw [← hB1]
    rfl
  rw [e5]
  refine wp_ret ?_
  refine ⟨.inr rfl, hB3, hfin.1, ?_⟩
  obtain ⟨S', q1, q2, q3, q4⟩ := hfin.2
  exact ⟨S', q1, q2, q3, by rw [tmps_put (by omega)]; exact q4⟩
theorem appendTo_own {σ σ' : St} {d d' : D} {ys : List (List C)} {k c : Nat} (h : appendTo σ d ys k = .ok (c, d', σ')) : ∃ t xs, d' = .own t xs := by
  unfold appendTo at h
  split at h
  · obtain ⟨_, h⟩ := cond_ok h; cases h; exact ⟨_, _, rfl⟩
  · cases h; exact ⟨_, _, rfl⟩
  · cases h
section
variable {E : Env} {ops rest : List Oper} {lo id nt top i : Nat} {fr : Nat → D} {σ : St} {Q : List Nat → (Nat → D) → St → Prop} {bs : List (Nat × List D)} {acs : List (D × List (List C) × Nat)} {o : Oper} {t : Nat}
theorem Rw.apO {s x : Operand} {st xt : TypeId} {dx : D} {k j : Nat} {d : D} {rows ys : List (List C)} (hK : Kn lo σ i top bs acs) (hi : i ≤ id) (hw : wantF ops fr o = .ok true) (hd : o.dst = some t)
    (ho : o.op = .call { callee := .builtin .append, args := #[s, x], argTypes := #[st, xt] }) (hs : opndF E fr s = some d) (hx : opndF E fr x = some dx) (hj : acs[j]? = some (d, rows, k)) (hys : rowsOf dx = some ys) (hne : ys.isEmpty = false)
    (hr : Room E st xt k rows.length ys) (hh : headFits rows k = true) (hf : Nat.blt t nt = true)
    (h : ∀ d' σ', (∃ tk, d' = .own tk (rows ++ ys)) → Kn lo σ' (id + 1) top bs (acs.set j (d', rows ++ ys, k)) → Rw E ops rest (id + 1) nt (updF fr t d') σ' (fun cl f s => Q (2 :: cl) f s)) : Rw E ops (o :: rest) id nt fr σ Q := by
  obtain ⟨d', σ', ha, hK'⟩ := (hK.le hi).append (ys := ys) hj
  obtain ⟨el, xel, it, z, h1, h2, h3, h4, h5, h6, h7, h8⟩ := hr.el
  subst h4
  have hjl : j < acs.length := (List.getElem?_eq_some_iff.1 hj).1
  have hown : ∃ tk, d' = .own tk (rows ++ ys) := by
    obtain ⟨tk, xs, rfl⟩ := appendTo_own ha
    rcases hK'.ac (.own tk xs, rows ++ ys, it.size) (List.mem_of_getElem? (i := j) (by rw [List.getElem?_set_self hjl])) with h | ⟨t', h, _⟩
    · cases h
    · simp only at h; cases h; exact ⟨_, rfl⟩
  refine Rw.step hw hd (fun r => ?_) hf (h d' σ' hown (hK'.le (Nat.le_succ _)))
  rw [ho]
  refine eff_ok rfl rfl ?_
  have e1 : added it.size (.slice xel) dx = .ok ys := by
    cases dx with
    | c c => cases c <;> simp_all [added, rowsOf, ofO]
    | own => simp_all [added, rowsOf, ofO]
    | _ => simp [rowsOf] at hys
  have e2 : rowsOf d = some rows := (hK.ac _ (List.mem_of_getElem? hj)).rows
  have hn := hr.n
  simp only [opEff, hs, hx, ofO, R.bind, und, h1, h2, size, h3, Option.map_some, h5, e1, e2, hne, cond_false, h6, h7, hr.rows, hh, Bool.not_true, Bool.or_false,
    show Nat.blt (rows.length + ys.length) 4611686018427387904 = true from by rw [Nat.blt_eq]; exact hn, show Nat.ble ((rows.length + ys.length) * it.bytes) 140737488355328 = true from by rw [Nat.ble_eq]; exact h8]
  exact ha
theorem Rw.apE {s x : Operand} {st xt : TypeId} {dx : D} {k j : Nat} {d : D} {rows : List (List C)} (hK : Kn lo σ i top bs acs) (hw : wantF ops fr o = .ok true) (hd : o.dst = some t)
    (ho : o.op = .call { callee := .builtin .append, args := #[s, x], argTypes := #[st, xt] }) (hs : opndF E fr s = some d) (hx : opndF E fr x = some dx) (hj : acs[j]? = some (d, rows, k)) (hys : rowsOf dx = some [])
    (hr : Room E st xt k rows.length []) (hf : Nat.blt t nt = true)
    (h : Rw E ops rest (id + 1) nt (updF fr t d) σ (fun cl f s => Q (2 :: cl) f s)) : Rw E ops (o :: rest) id nt fr σ Q := by
  obtain ⟨el, xel, it, z, h1, h2, h3, h4, h5, h6, h7, h8⟩ := hr.el
  subst h4
  refine Rw.step hw hd (fun r => ?_) hf h
  rw [ho]
  refine eff_ok rfl rfl ?_
  have e1 : added it.size (.slice xel) dx = .ok [] := by
    cases dx with
    | c c => cases c <;> simp_all [added, rowsOf, ofO]
    | own => simp_all [added, rowsOf, ofO]
    | _ => simp [rowsOf] at hys
  have e2 : rowsOf d = some rows := (hK.ac _ (List.mem_of_getElem? hj)).rows
  simp only [opEff, hs, hx, ofO, R.bind, und, h1, h2, size, h3, Option.map_some, h5, e1, e2, List.isEmpty_nil, cond_true]
end
theorem mkH_ofSums {α : Type} {E : Env} {f : Nat} {enc : α → List D} {pre : α → Prop} {res : α → D} (hs : ∀ x, pre x → Sums E f (enc x) (res x)) (args : List D) (d : D) (h : mkH enc pre res args = .ok d) : Sums E f args d := by
  unfold mkH at h
  split at h
  · rename_i hx
    cases h
    obtain ⟨h1, h2⟩ := Classical.choose_spec hx
    generalize Classical.choose hx = x at h1 h2
    refine Sums.args ?_
    rw [← h1]
    exact hs x h2
  · cases h
end Go.Vm
namespace Go.Vm
open Go.Proofs
def gA (w : World) : Ghost := ⟨Alive w, fun _ => none, fun _ _ => none, fun _ => none⟩
structure BulkOf {H : Type} (B : DataW H → Nat) (BA : List (DataW H) → Nat) : Prop where
  str : ∀ s, B (.lit (.string s)) = s.length + 1
  one : ∀ d, 1 ≤ B d
  slice : ∀ e s, B (.slice e s) = BA e + BA s + 1
  agg : ∀ p, B (.agg p) = BA p + 1
  nil : BA [] = 0
  cons : ∀ d l, BA (d :: l) = B d + BA l
def Opens {H : Type} (enc : TypeId × Value → H) (P : Program) (w : World) (B : DataW H → Nat) {α : Type} (n : Nat) (t : TypeId) (en : α → List C) (sz : α → Nat) : Prop :=
  ∀ cs d p, DataW.trod enc P w 0 (fun _ => true) true n t cs = some (d, p) → ∃ a, DReps (gA w) w ((en a).map D.c) cs ∧ sz a ≤ B d
section
variable {H : Type} {enc : TypeId × Value → H} {P : Program} {w : World} {B : DataW H → Nat} {BA : List (DataW H) → Nat} {n : Nat} {t el : TypeId}
theorem reps1 {g : Ghost} {c : C} {v : Value} (h : CRep g.S w c v) : DReps g w [D.c c] [v] := by
  simp only [DReps, DRep]; exact ⟨v, [], rfl, h, rfl⟩
theorem open_int (hB : BulkOf B BA) {k : IntKind} (ht : P.underlying t = some (.int k)) : Opens enc P w B n t (fun x : Int => [C.int k x]) (fun _ => 1) := by
  intro cs d p h
  obtain ⟨x, rfl, h2, _⟩ := DataW.trod_int ht h
  exact ⟨x, reps1 (.int _ _), hB.one d⟩
theorem open_bool (hB : BulkOf B BA) (ht : P.underlying t = some .bool) : Opens enc P w B n t (fun x : Bool => [C.bool x]) (fun _ => 1) := by
  intro cs d p h
  obtain ⟨x, rfl, h2⟩ := DataW.trod_bool ht h
  exact ⟨x, reps1 (.bool _), hB.one d⟩
theorem open_str (hB : BulkOf B BA) (ht : P.underlying t = some .string) : Opens enc P w B n t (fun x : ByteArray => [C.str x]) (fun x => x.size + 1) := by
  intro cs d p h
  obtain ⟨x, rfl, h2, _⟩ := DataW.trod_string ht h
  cases h2
  exact ⟨x, reps1 (.str _), by rw [hB.str, Array.length_toList]; exact Nat.le_refl _⟩
theorem open_float (hB : BulkOf B BA) {k : FloatKind} (ht : P.underlying t = some (.float k)) : Opens enc P w B n t (fun x : Nat => [C.float k x]) (fun _ => 1) := by
  intro cs d p h
  have : ∃ b, cs = [.float k b] := by
    cases n with
    | zero => simp [DataW.trod] at h
    | succ m =>
      unfold DataW.trod at h
      rw [ht] at h
      split at h <;> simp_all
  obtain ⟨b, rfl⟩ := this
  exact ⟨b, reps1 (.float _ _), hB.one d⟩
theorem bulk_mem (hB : BulkOf B BA) : ∀ {l : List (DataW H)} {i : Nat} {d : DataW H}, l[i]? = some d → B d ≤ BA l
  | [], i, d, h => by simp at h
  | x :: l, 0, d, h => by
    simp only [List.getElem?_cons_zero, Option.some.injEq] at h
    subst h
    rw [hB.cons]; omega
  | x :: l, i + 1, d, h => by
    simp only [List.getElem?_cons_succ] at h
    have := bulk_mem hB h
    rw [hB.cons]; omega
theorem pick_list {α : Type} {R : Nat → α → Prop} {sz : α → Nat} (hB : BulkOf B BA) : ∀ (ds : List (DataW H)) (k : Nat), (∀ i d, ds[i]? = some d → ∃ a, R (k + i) a ∧ sz a ≤ B d) → ∃ l : List α, l.length = ds.length ∧ (∀ i a, l[i]? = some a → R (k + i) a) ∧ (l.map sz).sum ≤ BA ds
  | [], k, _ => ⟨[], rfl, fun i a h => by simp at h, by simp⟩
  | d :: ds, k, h => by
    obtain ⟨a, ha, hs⟩ := h 0 d rfl
    obtain ⟨l, h1, h2, h3⟩ := pick_list hB ds (k + 1) (fun i d hd => by
      obtain ⟨a, h4, h5⟩ := h (i + 1) d hd
      exact ⟨a, by rw [show k + 1 + i = k + (i + 1) by omega]; exact h4, h5⟩)
    refine ⟨a :: l, by simp [h1], fun i b hb => ?_, ?_⟩
    · cases i with
      | zero => simp only [List.getElem?_cons_zero, Option.some.injEq] at hb; subst hb; exact ha
      | succ i =>
        simp only [List.getElem?_cons_succ] at hb
        have := h2 i b hb
        rwa [show k + 1 + i = k + (i + 1) by omega] at this
    · rw [List.map_cons, List.sum_cons, hB.cons]; omega
theorem open_slice (hB : BulkOf B BA) {k : Nat} {α : Type} {en : α → List C} {sz : α → Nat} (ht : P.underlying t = some (.slice el)) (hk : P.cellsOf el = k) (hk0 : 0 < k) (hen : ∀ a, (en a).length = k) (hop : ∀ m, m < n → Opens enc P w B m el en sz) :
    Opens enc P w B n t (fun l : List α => [C.sl false (l.map en)]) (fun l => (l.map sz).sum + 1) := by
  intro cs d p h
  rcases DataW.trod_slice ht h with ⟨rfl, h2⟩ | ⟨a, len, cap, elems, rest, m, rfl, rfl, h2, _, hl, _, hlen, hel, _⟩
  · exact ⟨[], reps1 (.slNone false _ _ (by simp)), by have := hB.one d; simpa using this⟩
  · cases h2
    have each : ∀ i x, (elems.map (·.1))[i]? = some x → ∃ b, (∃ vs, w.cells? 0 (a.add (i * k)) k = some vs ∧ DReps (gA w) w ((en b).map D.c) vs) ∧ sz b ≤ B x := by
      intro i x hx
      rw [List.getElem?_map] at hx
      cases he : elems[i]? with
      | none => rw [he] at hx; cases hx
      | some y =>
        rw [he] at hx
        simp only [Option.map_some, Option.some.injEq] at hx
        subst hx
        have hil : i < len := by have := (List.getElem?_eq_some_iff.1 he).1; omega
        have hb := hel i hil
        rw [he, hk] at hb
        cases hc : w.cells? 0 (a.add (i * k)) k with
        | none => rw [hc] at hb; cases hb
        | some vs =>
          rw [hc] at hb
          obtain ⟨b, h3, h4⟩ := hop m (by omega) vs y.1 y.2 hb
          exact ⟨b, ⟨vs, rfl, h3⟩, h4⟩
    obtain ⟨l, h1, h3, h4⟩ := pick_list (R := fun i b => ∃ vs, w.cells? 0 (a.add (i * k)) k = some vs ∧ DReps (gA w) w ((en b).map D.c) vs) hB _ 0 (fun i x hx => by rw [Nat.zero_add]; exact each i x hx)
    have hll : l.length = len := by rw [h1, List.length_map, hlen]
    refine ⟨l, reps1 ?_, by show (l.map sz).sum + 1 ≤ _; rw [hB.slice]; omega⟩
    by_cases h0 : len = 0
    · have : l = [] := List.eq_nil_of_length_eq_zero (by omega)
      subst this
      subst h0
      exact .slNone false _ cap (by simp)
    · have h3 : ∀ i b, l[i]? = some b → ∃ vs, w.cells? 0 (a.add (i * k)) k = some vs ∧ DReps (gA w) w ((en b).map D.c) vs := fun i b hb => by have := h3 i b hb; rwa [Nat.zero_add] at this
      have hspot : a.spot = none := by
        obtain ⟨b, hb⟩ : ∃ b, l[0]? = some b := ⟨_, List.getElem?_eq_getElem (by omega)⟩
        obtain ⟨vs, hvs, hr⟩ := h3 0 b hb
        obtain ⟨_, q1, q2⟩ := World.cells?_some hvs
        have q3 := q2 0 hk0
        rw [Nat.zero_mul] at q3
        have : ∃ v, vs[0]? = some v := ⟨_, List.getElem?_eq_getElem (by omega)⟩
        obtain ⟨v, hv⟩ := this
        rw [hv] at q3
        cases hs : a.spot with
        | none => rfl
        | some q =>
          simp only [Addr.add, if_true, World.cell?] at q3
          split at q3
          · rw [hs] at q3; simp at q3
          · cases q3
      obtain ⟨ab, ao, asp⟩ := a
      simp only at hspot
      subst hspot
      have key : ∀ (i : Nat) (r : List C) (j : Nat) (c : C), (l.map en)[i]? = some r → r[j]? = some c → ∃ v, w.cell? ⟨ab, ao + i * k + j, none⟩ = some v ∧ CRep (Alive w) w c v := by
        intro i r j c hi hj
        rw [List.getElem?_map] at hi
        cases hb : l[i]? with
        | none => rw [hb] at hi; cases hi
        | some b =>
          rw [hb] at hi
          cases hi
          obtain ⟨vs, hvs, hr⟩ := h3 i b hb
          obtain ⟨_, q1, q2⟩ := World.cells?_some hvs
          obtain ⟨v, hv, hc⟩ := hr.at j (D.c c) (by rw [List.getElem?_map, hj]; rfl)
          have hjk : j < k := by have := (List.getElem?_eq_some_iff.1 hv).1; omega
          have q3 := q2 j hjk
          rw [hv] at q3
          refine ⟨v, ?_, by simp only [DRep] at hc; exact hc⟩
          rw [← q3]
          congr 1
          unfold Addr.add
          split <;> split <;> simp_all <;> omega
      have hlen2 : len = (l.map en).length := by rw [List.length_map, hll]
      rw [hlen2]
      refine .sl false (l.map en) ab ao k cap (fun i j => (w.cell? ⟨ab, ao + i * k + j, none⟩).getD undef) (by omega) (by simp) ?_ ?_ ?_
      · intro i r hi
        rw [List.getElem?_map] at hi
        cases hb : l[i]? with
        | none => rw [hb] at hi; cases hi
        | some b => rw [hb] at hi; cases hi; exact hen b
      · intro i r j c hi hj
        obtain ⟨v, hv, _⟩ := key i r j c hi hj
        exact ⟨⟨v, hv⟩, by rw [hv]; rfl⟩
      · intro i r j c hi hj
        obtain ⟨v, hv, hc⟩ := key i r j c hi hj
        rw [hv]; exact hc
theorem reps_field {g : Ghost} {cs : List Value} {o k o' : Nat} {l ls : List D} (h1 : DReps g w l ((cs.drop o).take k)) (ho : o' = o + k) (h2 : DReps g w ls (cs.drop o')) : DReps g w (l ++ ls) (cs.drop o) := by
  subst ho
  have := h1.append h2
  rwa [← List.drop_drop, List.take_append_drop] at this
theorem reps_end {g : Ghost} {cs : List Value} {o : Nat} (h : cs.length = o) : DReps g w [] (cs.drop o) := by
  rw [List.drop_eq_nil_of_le (by omega)]; simp only [DReps]
theorem okL_sz {α : Type} {p : α → Prop} {sz : α → Nat} (h1 : ∀ a, 1 ≤ sz a) (h2 : ∀ a, sz a ≤ 1048576 → p a) : ∀ {l : List α}, (l.map sz).sum ≤ 1048576 → okL p l
  | [], _ => okL_nil
  | a :: l, h => by
    rw [List.map_cons, List.sum_cons] at h
    have ih := okL_sz (p := p) h1 h2 (l := l) (by omega)
    refine ⟨?_, fun x hx => ?_⟩
    · have : ∀ l : List α, l.length ≤ (l.map sz).sum := by
        intro l
        induction l with
        | nil => simp
        | cons a l ih => rw [List.map_cons, List.sum_cons, List.length_cons]; have := h1 a; omega
      have h3 := this (a :: l)
      rw [List.map_cons, List.sum_cons] at h3
      omega
    · rcases List.mem_cons.1 hx with rfl | hx
      · exact h2 _ (by omega)
      · exact ih.2 x hx
end
end Go.Vm
