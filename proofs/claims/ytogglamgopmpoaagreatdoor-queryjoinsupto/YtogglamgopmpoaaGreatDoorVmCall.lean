/- Calls: by a contract, in a heap of their own, in the caller's heap; then one operation, whatever it is. -/
import Derived.Test.YtogglamgopmpoaaGreatDoorVmEff2
namespace Go.Vm
open Go.RowKit (Below)

/-- What a contract of a function says. -/
def Sums (E : Env) (f : Nat) (args : List D) (d : D) : Prop :=
  ∀ (S : Nat → Nat → Prop) (g : Ghost) (w : World) (vs : List Value), g.S = S → E.lo ≤ w.heap.size → E.F w → (∀ b x, S b x → ∃ v, w.cell? ⟨b, x, none⟩ = some v) →
    (∀ q c, E.G q = some c → CRep S w (.rp [[c]] 0 0) (.pointer (some ⟨q, 0, none⟩))) → DReps g w args vs →
    Calls E.P f ⟨vs⟩ w fun en w' => ∃ v S', en = .returned v ∧ Below w.heap.size w w' ∧ (∀ b x, S b x → S' b x) ∧ (∀ b x, S' b x → S b x ∨ w.heap.size ≤ b) ∧
      (∀ b x, S' b x → ∃ v, w'.cell? ⟨b, x, none⟩ = some v) ∧ DRep { g with S := S' } w' d v

structure EnvOK (E : Env) : Prop where
  names : ∀ (f : Nat) (fn : Func), E.P.funcs[f]? = some fn → (fn.name == "runtime.NumGoroutine") = false
  keep : ∀ w w', E.F w → Below E.lo w w' → E.F w'
  ext : ∀ f h, E.ext f = some h → ∀ args d, h args = .ok d → ∀ (g : Ghost) (w : World) (vs : List Value), DReps g w args vs →
    ∃ v, (callFunc f ⟨vs⟩).run E.P w = .ok (.value v) w ∧ DRep g w d v
  sum : ∀ f h, E.sum f = some h → (∃ fn, E.P.funcs[f]? = some fn ∧ fn.body.isNone = false) ∧ ∀ args d, h args = .ok d → Sums E f args d
  mixed : E.P.follows .mixedOrders = true

def CallOK (E : Env) (r : Evs) : Prop :=
  ∀ f args σ d σ', r.call f args σ = .ok (d, σ') → (∃ fn, E.P.funcs[f]? = some fn ∧ fn.body.isNone = false) ∧ σ.n ≤ σ'.n ∧
    ∀ base w0 S0 g δ w vs, SRel E base w0 S0 g δ σ w → DReps g w args vs →
    Calls E.P f ⟨vs⟩ w fun en w' => ∃ v g' δ', en = .returned v ∧ Le g g' w w' ∧ SRel E base w0 S0 g' δ' σ' w' ∧ DRep g' w' d v ∧ ∀ b, b < σ.n → g'.β b = g.β b

section
variable {E : Env} {base : Nat} {w0 : World} {S0 : Nat → Nat → Prop} {g : Ghost} {δ : Nat → Option Nat} {σ : St} {w : World} {e : Operand → Option D} {ρ : Operand → Value}

theorem plainCell_rep {d : D} {v : Value} (hp : plainCell d = true) (h : DRep g w d v) (g' : Ghost) (hS : g'.S = g.S) : DRep g' w (stripC d) v ∧ cellLike (stripC d) = true := by
  cases d with
  | c c => simp only [stripC, DRep, hS] at h ⊢; exact ⟨h, rfl⟩
  | own t xs => simp only [stripC, DRep, hS] at h ⊢; exact ⟨h.1, rfl⟩
  | fn f a b =>
    cases a with
    | nil => cases b with
      | nil => simp only [stripC, DRep, DReps] at h ⊢; exact ⟨h, rfl⟩
      | cons _ _ => cases hp
    | cons _ _ => cases hp
  | _ => cases hp

theorem plainCells_rep : ∀ {ds : List D} {vs : List Value}, ds.all plainCell = true → DReps g w ds vs → ∀ (g' : Ghost), g'.S = g.S → DReps g' w (ds.map stripC) vs ∧ (ds.map stripC).all cellLike = true
  | [], vs, _, h, g', _ => by simp only [DReps] at h; subst h; simp [DReps]
  | d :: ds, vs, hp, h, g', hS => by
    simp only [DReps] at h
    obtain ⟨v, vs', rfl, h1, h2⟩ := h
    simp only [List.all_cons, Bool.and_eq_true] at hp
    obtain ⟨q1, q2⟩ := plainCell_rep hp.1 h1 g' hS
    obtain ⟨q3, q4⟩ := plainCells_rep hp.2 h2 g' hS
    simp only [List.map_cons, DReps, List.all_cons, Bool.and_eq_true]
    exact ⟨⟨v, vs', rfl, q1, q3⟩, q2, q4⟩

theorem plain1_rep {d : D} {v : Value} (hp : plain1 d = true) (h : DRep g w d v) (g' : Ghost) (hS : g'.S = g.S) : DRep g' w (strip1 d) v := by
  cases d with
  | agg cs =>
    obtain ⟨_, vs, rfl, hr⟩ := rep_agg h
    obtain ⟨q1, q2⟩ := plainCells_rep hp hr g' hS
    simp only [strip1, DRep]
    exact ⟨q2, vs, rfl, q1⟩
  | c c => exact (plainCell_rep (d := .c c) hp h g' hS).1
  | own t xs => exact (plainCell_rep (d := .own t xs) hp h g' hS).1
  | fn f a b => exact (plainCell_rep (d := .fn f a b) hp h g' hS).1
  | _ => cases hp

theorem plains_rep : ∀ {ds : List D} {vs : List Value}, ds.all plain1 = true → DReps g w ds vs → ∀ (g' : Ghost), g'.S = g.S → DReps g' w (ds.map strip1) vs
  | [], vs, _, h, g', _ => by simp only [DReps] at h; subst h; simp [DReps]
  | d :: ds, vs, hp, h, g', hS => by
    simp only [DReps] at h
    obtain ⟨v, vs', rfl, h1, h2⟩ := h
    simp only [List.all_cons, Bool.and_eq_true] at hp
    simp only [List.map_cons, DReps]
    exact ⟨v, vs', rfl, plain1_rep hp.1 h1 g' hS, plains_rep hp.2 h2 g' hS⟩

theorem plain_rep {d : D} {v : Value} (hp : plain d = true) (h : DRep g w d v) (g' : Ghost) (hS : g'.S = g.S) : DRep g' w (strip d) v := by
  cases d with
  | tup ds =>
    obtain ⟨vs, rfl, hr⟩ := rep_tup h
    simp only [strip, DRep]
    exact ⟨vs, rfl, plains_rep hp hr g' hS⟩
  | c c => exact plain1_rep (d := .c c) hp h g' hS
  | own t xs => exact plain1_rep (d := .own t xs) hp h g' hS
  | fn f a b => exact plain1_rep (d := .fn f a b) hp h g' hS
  | agg cs => exact plain1_rep (d := .agg cs) hp h g' hS
  | ptr b o => cases hp
  | map m => cases hp

/-- What stands while a call worked in memory of its own. -/
theorem SRel.outer (hs : SRel E base w0 S0 g δ σ w) {w' : World} {S' : Nat → Nat → Prop} (hb : Below w.heap.size w w') (h1 : ∀ b x, g.S b x → S' b x)
    (h2 : ∀ b x, S' b x → g.S b x ∨ w.heap.size ≤ b) (h3 : ∀ b x, S' b x → ∃ v, w'.cell? ⟨b, x, none⟩ = some v) :
    Le g { g with S := S' } w w' ∧ SRel E base w0 S0 { g with S := S' } δ σ w' := by
  have hcell : ∀ b x, b < w.heap.size → w'.cell? ⟨b, x, none⟩ = w.cell? ⟨b, x, none⟩ := fun b x h => hb.cell (p := ⟨b, x, none⟩) h
  have hfroz : ∀ b x, b < w.heap.size → w'.frozen? ⟨b, x, none⟩ = w.frozen? ⟨b, x, none⟩ := fun b x h => hb.frozen (p := ⟨b, x, none⟩) h
  have hle : Le g { g with S := S' } w w' := ⟨h1, fun b x h => by obtain ⟨v, hv⟩ := hs.live b x h; exact hcell b x (cell_lt hv), fun _ _ h => h, fun _ _ _ h => h, fun _ _ h => h⟩
  have hbs := hs.le_size
  have hsz := hb.size
  refine ⟨hle, ?_⟩
  constructor
  · exact hs.below.trans (hb.mono hbs)
  · exact hs.base_le
  · exact hs.lo
  · exact hs.fact
  · exact fun b x h => h1 b x (hs.s0 b x h)
  · intro b x h
    rcases h2 b x h with h | h
    · exact hs.s1 b x h
    · exact .inr (by omega)
  · exact h3
  · exact fun q c h => (hs.glob q c h).mono hle.S hle.w
  · intro b k h
    obtain ⟨q1, q2, q3⟩ := hs.boxlt b k h
    exact ⟨q1, q2, by omega⟩
  · exact hs.boxinj
  · intro b k x h h9
    rcases h2 k x h9 with h9 | h9
    · exact hs.boxS b k x h h9
    · have := (hs.boxlt b k h).2.2; omega
  · intro b cs h
    obtain ⟨k, hk, ha⟩ := hs.box b cs h
    have hlt := (hs.boxlt b k hk).2.2
    refine ⟨k, hk, fun i d hi => ?_⟩
    obtain ⟨q1, v, q2, q3, q4⟩ := ha i d hi
    exact ⟨q1, v, by rw [hcell _ _ hlt]; exact q2, by rw [hfroz _ _ hlt]; exact q3, DRep.mono hle _ _ q4⟩
  · exact hs.tokγ
  · intro t p h
    obtain ⟨q1, v, q2, q3⟩ := hs.tok t p h
    obtain ⟨b, o, cap, q4, q5, q6, q7, q8⟩ := q3.is
    have hlt := (hs.tokδ t b q6).2.2.1
    refine ⟨q1, v, q2, ⟨b, o, cap, q4, q5, q6, q7, fun x hx hx' => ?_⟩⟩
    obtain ⟨⟨u, hu⟩, hf, hns⟩ := q8 x hx hx'
    refine ⟨⟨u, by rw [hcell _ _ hlt]; exact hu⟩, by rw [hfroz _ _ hlt]; exact hf, fun h9 => ?_⟩
    rcases h2 b x h9 with h9 | h9
    · exact hns h9
    · omega
  · intro t b h
    obtain ⟨q1, q2, q3, q4⟩ := hs.tokδ t b h
    exact ⟨q1, q2, by omega, q4⟩
  · exact hs.tokinj
  · intro m k h
    obtain ⟨q1, q2, q3, q4, q5, q6⟩ := hs.mapμ m k h
    refine ⟨q1, q2, by omega, fun x h9 => ?_, q5, q6⟩
    rcases h2 k x h9 with h9 | h9
    · exact q4 x h9
    · omega
  · exact hs.mapinj
  · intro m es h
    obtain ⟨k, hk, l, clock, q1, q2, q3⟩ := hs.map m es h
    have hlt := (hs.mapμ m k hk).2.2.1
    exact ⟨k, hk, l, clock, by rw [hb.block k hlt]; exact q1, q2, fun i x p hx hp => ⟨(q3 i x p hx hp).1, DRep.mono hle _ _ (q3 i x p hx hp).2⟩⟩

/-- A heap of its own. -/
theorem SRel.inner (hE : EnvOK E) (hs : SRel E base w0 S0 g δ σ w) :
    SRel E w.heap.size w g.S { S := g.S, β := fun _ => none, γ := fun _ _ => none, μ := fun _ => none } (fun _ => none) St.empty w := by
  have hbs := hs.le_size
  constructor
  · exact Below.refl _ _
  · exact Nat.le_refl _
  · exact Nat.le_trans hs.lo hbs
  · exact hE.keep w0 w hs.fact (hs.below.mono hs.lo)
  · exact fun _ _ h => h
  · exact fun _ _ h => .inl h
  · exact hs.live
  · exact hs.glob
  · intro b k h; cases h
  · intro b b' k h; cases h
  · intro b k x h; cases h
  · intro b cs h; cases h
  · intro t n v h; cases h
  · intro t p h; cases h
  · intro t b h; cases h
  · intro t t' b h; cases h
  · intro m k h; cases h
  · intro m m' k h; cases h
  · intro m es h; cases h

theorem run_callFunc (hE : EnvOK E) {f : Nat} {fn : Func} (hf : E.P.funcs[f]? = some fn) (hb : fn.body.isNone = false) (args : Array Value) (w : World) :
    (callFunc f args).run E.P w = .ok (.enter f args) w := by
  have hn : ¬ fn.name = "runtime.NumGoroutine" := by simpa using hE.names f fn hf
  obtain ⟨c, hc⟩ : ∃ c, fn.body = some c := by
    cases h : fn.body with
    | none => rw [h] at hb; cases hb
    | some c => exact ⟨c, rfl⟩
  simp [callFunc, hf, hn, hc]

/-- One call. -/
theorem evCall_sound (hE : EnvOK E) {r : Evs} (hr : CallOK E r) (hs : SRel E base w0 S0 g δ σ w) {f cls : Nat} {args : List D} {d : D} {σ' : St} {vs : List Value}
    (h : evCall E r f args σ = .ok (cls, d, σ')) (ha : DReps g w args vs) {o : Oper} {a : Act} {next : Act → World → Prop} {Q : Exit → Act → World → Prop}
    (hK : ∀ v g' δ' w', Le g g' w w' → SRel E base w0 S0 g' δ' σ' w' → DRep g' w' d v → (∀ b, b < σ.n → g'.β b = g.β b) → next (a.put o.dst v) w') :
    o.upon E.P a next Q ((callFunc f ⟨vs⟩).run E.P w) := by
  unfold evCall at h
  cases hsum : E.sum f with
  | some hh =>
    rw [hsum] at h
    obtain ⟨hp, h⟩ := cond_ok h
    obtain ⟨d', hd, h⟩ := R.bind_ok h
    cases h
    obtain ⟨⟨fn, hfn, hbody⟩, hS⟩ := hE.sum f hh hsum
    rw [run_callFunc hE hfn hbody, Oper.upon_enter]
    have hlo : E.lo ≤ w.heap.size := Nat.le_trans hs.lo hs.le_size
    refine (hS _ _ hd g.S g w vs rfl hlo (hE.keep w0 w hs.fact (hs.below.mono hs.lo)) hs.live hs.glob (plains_rep hp ha g rfl)).mono ?_
    rintro en w' ⟨v, S', rfl, hb, h1, h2, h3, hd'⟩
    obtain ⟨hle, hs'⟩ := hs.outer hb h1 h2 h3
    exact hK v _ _ w' hle hs' hd' (fun _ _ => rfl)
  | none =>
    rw [hsum] at h
    cases hext : E.ext f with
    | some hh =>
      rw [hext] at h
      obtain ⟨hp, h⟩ := cond_ok h
      obtain ⟨d', hd, h⟩ := R.bind_ok h
      cases h
      obtain ⟨v, hv, hdv⟩ := hE.ext f hh hext _ _ hd g w vs (plains_rep hp ha g rfl)
      rw [hv, Oper.upon_value]
      exact hK v g δ w (Le.refl _ _) hs hdv (fun _ _ => rfl)
    | none =>
      rw [hext] at h
      simp only at h
      cases hp : (args.all plain1 && !E.inl f) with
      | true =>
        rw [hp] at h
        simp only [cond_true] at h
        obtain ⟨p, hcall, h⟩ := R.bind_ok h
        obtain ⟨hpl, h⟩ := cond_ok h
        cases h
        obtain ⟨d1, σ1⟩ := p
        obtain ⟨⟨fn, hfn, hbody⟩, _, hC⟩ := hr _ _ _ _ _ hcall
        rw [run_callFunc hE hfn hbody, Oper.upon_enter]
        have hp1 : args.all plain1 = true := by
          simp only [Bool.and_eq_true] at hp; exact hp.1
        refine (hC _ _ _ _ _ _ vs (hs.inner hE) (plains_rep hp1 ha _ rfl)).mono ?_
        rintro en w' ⟨v, g', δ', rfl, hle', hs', hd', _⟩
        obtain ⟨hle, hs2⟩ := hs.outer hs'.below (S' := g'.S) hle'.S hs'.s1 hs'.live
        exact hK v _ _ w' hle hs2 (plain_rep hpl hd' { g with S := g'.S } rfl) (fun _ _ => rfl)
      | false =>
        rw [hp] at h
        simp only [cond_false] at h
        obtain ⟨p, hcall, h⟩ := R.bind_ok h
        cases h
        obtain ⟨d1, σ1⟩ := p
        obtain ⟨⟨fn, hfn, hbody⟩, _, hC⟩ := hr _ _ _ _ _ hcall
        rw [run_callFunc hE hfn hbody, Oper.upon_enter]
        refine (hC _ _ _ _ _ _ vs hs ha).mono ?_
        rintro en w' ⟨v, g', δ', rfl, hle', hs', hd', hβ⟩
        exact hK v _ _ w' hle' hs' hd' hβ

theorem does_wp {s : Sem Next} {d : D} {σ' : St} {id : Nat} (h : Does E base w0 S0 g σ w s d σ' id) {o : Oper} {a : Act} {next : Act → World → Prop} {Q : Exit → Act → World → Prop}
    (hK : ∀ v g' δ' w', Le g g' w w' → SRel E base w0 S0 g' δ' σ' w' → DRep g' w' d v → (∀ b, b < σ.n → b ≠ id → g'.β b = g.β b) → next (a.put o.dst v) w') :
    o.upon E.P a next Q (s.run E.P w) := by
  obtain ⟨v, g', δ', w', hrun, hle, hs', hd, hβ⟩ := h
  rcases hrun with hrun | ⟨hrun, rfl⟩
  · rw [hrun, Oper.upon_value]; exact hK v g' δ' w' hle hs' hd hβ
  · rw [hrun, Oper.upon_skip]; exact hK _ g' δ' w' hle hs' hd hβ

theorem op_sound (hE : EnvOK E) {r : Evs} (hr : CallOK E r) (hs : SRel E base w0 S0 g δ σ w) {o : Oper} {cls id : Nat} {d : D} {σ' : St} {a : Act}
    (h : evOp E r e id σ o.op = .ok (cls, d, σ')) (hop : ∀ x ∈ o.op.operands.toList, ∀ d, e x = some d → DRep g w d (a.eval x)) (hid : g.β id = none) (hlt : id < σ.n)
    {next : Act → World → Prop} {Q : Exit → Act → World → Prop}
    (hK : ∀ v g' δ' w', Le g g' w w' → SRel E base w0 S0 g' δ' σ' w' → DRep g' w' d v → (∀ b, b < σ.n → b ≠ id → g'.β b = g.β b) → next (a.put o.dst v) w') :
    o.wp E.P a w next Q := by
  unfold Oper.wp
  unfold evOp at h
  cases hp : opPure E e o.op with
  | some x =>
    rw [hp] at h
    obtain ⟨d', hd, h⟩ := R.bind_ok h
    cases h
    subst hd
    obtain ⟨v, g', w', hrun, hle, hs', hd', hβ⟩ := opPure_fine hs hp hop
    rw [hrun, Oper.upon_value]
    exact hK v g' δ w' hle hs' hd' (fun b _ _ => by rw [hβ])
  | none =>
    rw [hp] at h
    cases hrd : opRead E e σ o.op with
    | some x =>
      rw [hrd] at h
      obtain ⟨d', hd, h⟩ := R.bind_ok h
      cases h
      subst hd
      obtain ⟨v, hrun, hd'⟩ := opRead_gives hs hrd hop
      rw [hrun, Oper.upon_value]
      exact hK v g δ w (Le.refl _ _) hs hd' (fun _ _ _ => rfl)
    | none =>
      rw [hrd] at h
      simp only at h
      obtain ⟨dst, op, ty, pos, after, guard⟩ := o
      simp only at h hop hp hrd
      cases op with
      | alloc t =>
        simp only [opEff] at h
        obtain ⟨z, hz, h⟩ := R.bind_ok h
        cases h
        exact does_wp (alloc_does hs hz hid hlt) hK
      | box t x =>
        simp only [opEff] at h
        obtain ⟨dx, hx, h⟩ := R.bind_ok h
        obtain ⟨hall, h⟩ := cond_ok h
        cases h
        exact does_wp (box_does hs (hop x (by simp [Op.operands]) _ (ofO_ok hx)) hall hid hlt) hK
      | store t x v =>
        simp only [opEff] at h
        obtain ⟨dp, hdp, h⟩ := R.bind_ok h
        obtain ⟨dv, hdv, h⟩ := R.bind_ok h
        obtain ⟨n, hn, h⟩ := R.bind_ok h
        cases dp with
        | ptr b off =>
          simp only at h
          obtain ⟨cs, hcs, h⟩ := R.bind_ok h
          obtain ⟨hc, h⟩ := cond_ok h
          obtain ⟨cs', hcs', h⟩ := R.bind_ok h
          cases h
          simp only [Bool.and_eq_true, Nat.beq_eq] at hc
          exact does_wp (store_does hs (hop x (by simp [Op.operands]) _ (ofO_ok hdp)) (hop v (by simp [Op.operands]) _ (ofO_ok hdv)) hn (ofO_ok hcs) hc.1 hc.2 (ofO_ok hcs')) hK
        | _ => cases h
      | makeMap t rs =>
        cases rs with
        | some x => simp only [opEff] at h; cases h
        | none =>
          simp only [opEff] at h
          cases h
          exact does_wp (makeMap_does hs t id) hK
      | insert t m k v =>
        simp only [opEff] at h
        obtain ⟨u, hu, h⟩ := R.bind_ok h
        obtain ⟨dm, hdm, h⟩ := R.bind_ok h
        obtain ⟨dk, hdk, h⟩ := R.bind_ok h
        obtain ⟨dv, hdv, h⟩ := R.bind_ok h
        cases u with
        | map kt el => cases dm with
          | map mm => cases dk with
            | c c => cases c with
              | str key =>
                simp only at h
                obtain ⟨ku, hku, h⟩ := R.bind_ok h
                cases ku with
                | string =>
                  simp only at h
                  obtain ⟨es, hes, h⟩ := R.bind_ok h
                  obtain ⟨hnew, h⟩ := cond_ok' h
                  cases h
                  exact does_wp (insert_does hs (und_ok hu) (und_ok hku) (hop m (by simp [Op.operands]) _ (ofO_ok hdm)) (hop k (by simp [Op.operands]) _ (ofO_ok hdk)) (hop v (by simp [Op.operands]) _ (ofO_ok hdv)) (ofO_ok hes) hnew) hK
                | _ => cases h
              | _ => cases h
            | _ => cases h
          | _ => cases h
        | _ => cases h
      | convert src dst x =>
        simp only [opEff] at h
        obtain ⟨u, hu, h⟩ := R.bind_ok h
        obtain ⟨u2, hu2, h⟩ := R.bind_ok h
        cases u with
        | string => cases u2 with
          | slice el =>
            simp only at h
            obtain ⟨eu, heu, h⟩ := R.bind_ok h
            obtain ⟨k, hk, h⟩ := R.bind_ok h
            cases eu with
            | int kk => cases kk with
              | u8 =>
                simp only at h
                obtain ⟨_, h⟩ := cond_ok h
                obtain ⟨dx, hdx, h⟩ := R.bind_ok h
                cases dx with
                | c c => cases c with
                  | str s =>
                    simp only at h
                    obtain ⟨_, h⟩ := cond_ok h
                    cases h
                    exact does_wp (bytes_does hs (und_ok hu) (und_ok hu2) (und_ok heu) (hop x (by simp [Op.operands]) _ (ofO_ok hdx))) hK
                  | _ => cases h
                | _ => cases h
              | _ => cases h
            | _ => cases h
          | _ => cases h
        | _ => cases h
      | call c =>
        obtain ⟨callee, args, tys⟩ := c
        cases callee with
        | builtin b => cases b with
          | append =>
            simp only [opEff] at h
            obtain ⟨args⟩ := args
            obtain ⟨tys⟩ := tys
            simp only at h
            cases args with
            | nil => cases h
            | cons s rest => cases rest with
              | nil => cases h
              | cons x rest => cases rest with
                | cons _ _ => cases h
                | nil => cases tys with
                  | nil => cases h
                  | cons st rest => cases rest with
                    | nil => cases h
                    | cons xt rest => cases rest with
                      | cons _ _ => cases h
                      | nil =>
                        simp only at h
                        obtain ⟨ds, hds, h⟩ := R.bind_ok h
                        obtain ⟨dx, hdx, h⟩ := R.bind_ok h
                        obtain ⟨u, hu, h⟩ := R.bind_ok h
                        obtain ⟨xu, hxu, h⟩ := R.bind_ok h
                        cases u with
                        | slice el =>
                          simp only at h
                          obtain ⟨k, hk, h⟩ := R.bind_ok h
                          obtain ⟨by_, hby, h⟩ := R.bind_ok h
                          obtain ⟨z, hz, h⟩ := R.bind_ok h
                          obtain ⟨ys, hys, h⟩ := R.bind_ok h
                          obtain ⟨xs, hxs, h⟩ := R.bind_ok h
                          have hcls : cls = 2 := by
                            revert h
                            cases ys.isEmpty with
                            | true => intro h; cases h; rfl
                            | false =>
                              intro h
                              obtain ⟨_, h⟩ := cond_ok' h
                              unfold appendTo at h
                              split at h
                              · obtain ⟨_, h⟩ := cond_ok h; cases h; rfl
                              · cases h; rfl
                              · cases h
                          subst hcls
                          have hd := append_does (ty := ty) (id := id) hs (und_ok hu) (und_ok hxu) hk (ofO_ok hby) hz (hop s (by simp [Op.operands, Call.operands]) _ (ofO_ok hds)) (hop x (by simp [Op.operands, Call.operands]) _ (ofO_ok hdx)) hys (ofO_ok hxs) h
                          refine does_wp (s := execOp a.eval _) ?_ hK
                          obtain ⟨v, g', δ', w', hrun, rest⟩ := hd
                          refine ⟨v, g', δ', w', ?_, rest⟩
                          have hmap : (({ toList := [s, x] } : Array Operand).map a.eval) = #[a.eval s, a.eval x] := by simp
                          simp only [execOp, resolve, hmap, Sem.run_bind, Sem.run_pure, Result.andThen_ok, invoke, builtin] at hrun ⊢
                          exact hrun
                        | _ => cases h
          | _ => simp only [opEff] at h; cases h
        | value f =>
          simp only [opEff] at h
          obtain ⟨df, hdf, h⟩ := R.bind_ok h
          obtain ⟨das, hdas, h⟩ := R.bind_ok h
          cases df with
          | fn ff first cap =>
            simp only at h
            have hrf := hop f (by simp [Op.operands, Call.operands]) _ (ofO_ok hdf)
            obtain ⟨fs, cs, hv, h1, h2⟩ := rep_fn hrf
            have hra := mapO_rep (ρ := a.eval) (g := g) (w := w) (ofO_ok hdas) (fun x hx => hop x (by
              simp only [Op.operands, Call.operands]
              simp only [Array.toList_append, List.mem_append]
              exact .inr hx))
            have hall := (h1.append hra).append h2
            have := evCall_sound hE hr hs h hall (o := ⟨dst, .call ⟨.value f, args, tys⟩, ty, pos, after, guard⟩) (a := a) (next := next) (Q := Q) (fun v g' δ' w' q1 q2 q3 q4 => hK v g' δ' w' q1 q2 q3 (fun b hb _ => q4 b hb))
            have hrun : (execOp a.eval ⟨dst, .call ⟨.value f, args, tys⟩, ty, pos, after, guard⟩).run E.P w = (callFunc ff ⟨fs ++ args.toList.map a.eval ++ cs⟩).run E.P w := by
              simp only [execOp, resolve, hv, Deferred.ofValue, Sem.run_bind, Sem.run_pure, Result.andThen_ok, invoke]
              congr 2
              apply Array.ext'
              simp
            rw [hrun]
            exact this
          | _ => cases h
        | _ => simp only [opEff] at h; cases h
      | _ => simp only [opEff] at h; cases h

end

end Go.Vm
