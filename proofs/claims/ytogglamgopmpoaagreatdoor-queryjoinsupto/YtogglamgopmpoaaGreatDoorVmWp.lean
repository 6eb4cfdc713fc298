/- The rounds with values that are not known, from behind: what must hold when it is done. -/
import Derived.Test.YtogglamgopmpoaaGreatDoorVmSym3
namespace Go.Vm

/-- Operations one behind another. -/
def Rw (E : Env) (ops rest : List Oper) (id nt : Nat) (fr : Nat → D) (σ : St) (Q : List Nat → (Nat → D) → St → Prop) : Prop :=
  ∃ cl fr' σ' N, (∀ n, N ≤ n → Rn E (evs E n) ops rest id nt fr σ cl fr' σ') ∧ Q cl fr' σ'

/-- A code. -/
def Cw (E : Env) (c : Code) (nt : Nat) (fr : Nat → D) (σ : St) (Q : Option (Option Nat) → (Nat → D) → St → Prop) : Prop :=
  ∃ o fr' σ', Cn E c nt fr σ o fr' σ' ∧ Q o fr' σ'

section
variable {E : Env} {ops rest : List Oper} {id nt : Nat} {fr : Nat → D} {σ σ1 : St} {Q : List Nat → (Nat → D) → St → Prop}

theorem Rw.nil (h : Q [] fr σ) : Rw E ops [] id nt fr σ Q := ⟨[], fr, σ, 0, fun _ _ => Rn.nil, h⟩

theorem Rw.step {o : Oper} {t cls : Nat} {d : D} (hw : wantF ops fr o = .ok true) (hd : o.dst = some t) (hop : ∀ r, evOp E r (opndF E fr) id σ o.op = .ok (cls, d, σ1)) (hf : Nat.blt t nt = true)
    (h : Rw E ops rest (id + 1) nt (updF fr t d) σ1 (fun cl f s => Q (cls :: cl) f s)) : Rw E ops (o :: rest) id nt fr σ Q := by
  obtain ⟨cl, fr', σ', N, p, q⟩ := h
  exact ⟨_, fr', σ', N, fun n hn => Rn.step hw hd (hop _) hf (p n hn), q⟩

theorem Rw.stepN {o : Oper} {cls : Nat} {d : D} (hw : wantF ops fr o = .ok true) (hd : o.dst = none) (hop : ∀ r, evOp E r (opndF E fr) id σ o.op = .ok (cls, d, σ1))
    (h : Rw E ops rest (id + 1) nt fr σ1 (fun cl f s => Q (cls :: cl) f s)) : Rw E ops (o :: rest) id nt fr σ Q := by
  obtain ⟨cl, fr', σ', N, p, q⟩ := h
  exact ⟨_, fr', σ', N, fun n hn => Rn.on hw (hop _) (by rw [hd]; rfl) (by rw [hd]; exact p n hn), q⟩

/-- A call that runs on for as long as the fuel is enough. -/
theorem Rw.call {o : Oper} {t cls : Nat} {d : D} {N : Nat} (hw : wantF ops fr o = .ok true) (hd : o.dst = some t) (hop : ∀ n, N ≤ n → evOp E (evs E n) (opndF E fr) id σ o.op = .ok (cls, d, σ1)) (hf : Nat.blt t nt = true)
    (h : Rw E ops rest (id + 1) nt (updF fr t d) σ1 (fun cl f s => Q (cls :: cl) f s)) : Rw E ops (o :: rest) id nt fr σ Q := by
  obtain ⟨cl, fr', σ', N', p, q⟩ := h
  exact ⟨_, fr', σ', N + N', fun n hn => Rn.step hw hd (hop n (by omega)) hf (p n (by omega)), q⟩

theorem Rw.pass {o : Oper} {t : Nat} (hw : wantF ops fr o = .ok false) (hd : o.dst = some t) (hf : Nat.blt t nt = true)
    (h : Rw E ops rest (id + 1) nt (updF fr t (.tup [])) σ (fun cl f s => Q (3 :: cl) f s)) : Rw E ops (o :: rest) id nt fr σ Q := by
  obtain ⟨cl, fr', σ', N, p, q⟩ := h
  exact ⟨_, fr', σ', N, fun n hn => Rn.pass hw hd hf (p n hn), q⟩

theorem Rw.passN {o : Oper} (hw : wantF ops fr o = .ok false) (hd : o.dst = none)
    (h : Rw E ops rest (id + 1) nt fr σ (fun cl f s => Q (3 :: cl) f s)) : Rw E ops (o :: rest) id nt fr σ Q := by
  obtain ⟨cl, fr', σ', N, p, q⟩ := h
  exact ⟨_, fr', σ', N, fun n hn => Rn.off hw (by rw [hd]; rfl) (by rw [hd]; exact p n hn), q⟩

theorem Rw.mono {Q' : List Nat → (Nat → D) → St → Prop} (h : Rw E ops rest id nt fr σ Q) (hq : ∀ cl f s, Q cl f s → Q' cl f s) : Rw E ops rest id nt fr σ Q' := by
  obtain ⟨cl, fr', σ', N, p, q⟩ := h
  exact ⟨cl, fr', σ', N, p, hq _ _ _ q⟩

end

section
variable {E : Env} {x y b : Code} {id nt : Nat} {fr : Nat → D} {σ : St} {Q Q' : Option (Option Nat) → (Nat → D) → St → Prop}

theorem Cw.mono (h : Cw E x nt fr σ Q) (hq : ∀ o f s, Q o f s → Q' o f s) : Cw E x nt fr σ Q' := by
  obtain ⟨o, fr', σ', p, q⟩ := h
  exact ⟨o, fr', σ', p, hq _ _ _ q⟩

theorem Cw.skip (h : Q none fr σ) : Cw E .skip nt fr σ Q := ⟨_, _, _, Cn.skip, h⟩
theorem Cw.ret (h : Q (some none) fr σ) : Cw E .ret nt fr σ Q := ⟨_, _, _, Cn.ret, h⟩
theorem Cw.exit {i : Nat} (h : Q (some (some i)) fr σ) : Cw E (.exit i) nt fr σ Q := ⟨_, _, _, Cn.exit i, h⟩

/-- On where it goes on; out where it goes out. -/
def andThen (k : (Nat → D) → St → Prop) (Q : Option (Option Nat) → (Nat → D) → St → Prop) (o : Option (Option Nat)) (f : Nat → D) (s : St) : Prop :=
  match o with
  | none => k f s
  | some e => Q (some e) f s

theorem Cw.seq (h : Cw E x nt fr σ (andThen (fun f s => Cw E y nt f s Q) Q)) : Cw E (.seq x y) nt fr σ Q := by
  obtain ⟨o, fr', σ', p, q⟩ := h
  cases o with
  | none =>
    obtain ⟨o2, fr2, σ2, p2, q2⟩ := q
    exact ⟨o2, fr2, σ2, Cn.seq p p2, q2⟩
  | some e => exact ⟨some e, fr', σ', Cn.seq_out p, q⟩

theorem Cw.cond_t {c : Operand} (hc : opndF E fr c = some (.c (.bool true))) (h : Cw E x nt fr σ Q) : Cw E (.cond c x y) nt fr σ Q := by
  obtain ⟨o, fr', σ', p, q⟩ := h
  exact ⟨o, fr', σ', Cn.cond_true hc p, q⟩
theorem Cw.cond_f {c : Operand} (hc : opndF E fr c = some (.c (.bool false))) (h : Cw E y nt fr σ Q) : Cw E (.cond c x y) nt fr σ Q := by
  obtain ⟨o, fr', σ', p, q⟩ := h
  exact ⟨o, fr', σ', Cn.cond_false hc p, q⟩

theorem Cw.block (h : Cw E b nt fr σ (fun o f s => Q (outBlock id o) f s)) : Cw E (.block id b) nt fr σ Q := by
  obtain ⟨o, fr', σ', p, q⟩ := h
  exact ⟨_, fr', σ', Cn.block p rfl, q⟩

theorem Cw.loop (h : Cw E b nt fr σ (andThen (fun f s => Cw E (.loop b) nt f s Q) Q)) : Cw E (.loop b) nt fr σ Q := by
  obtain ⟨o, fr', σ', p, q⟩ := h
  cases o with
  | none =>
    obtain ⟨o2, fr2, σ2, p2, q2⟩ := q
    exact ⟨o2, fr2, σ2, Cn.loop p p2, q2⟩
  | some e => exact ⟨some e, fr', σ', Cn.loop_out p, q⟩

theorem Cw.region {ops : List Oper} (h : Rw E ops ops σ.n nt fr { σ with n := σ.n + ops.length } (fun _ f s => Q none f s)) : Cw E (.region id ⟨ops⟩ false) nt fr σ Q := by
  obtain ⟨cl, fr', σ', N, p, q⟩ := h
  exact ⟨none, fr', σ', Cn.region (N := N) p rfl, q⟩

theorem Cw.region_any {ops : List Oper} (h : Rw E ops ops σ.n nt fr { σ with n := σ.n + ops.length } (fun cl f s => drawC ⟨ops⟩ cl = true ∧ Q none f s)) : Cw E (.region id ⟨ops⟩ true) nt fr σ Q := by
  obtain ⟨cl, fr', σ', N, p, q⟩ := h
  exact ⟨none, fr', σ', Cn.region (N := N) p q.1, q.2⟩

theorem Ev.wp {f : Nat} {fn : Func} {c : Code} {args : List D} {R : D → St → Prop} (hf : E.P.funcs[f]? = some fn) (hb : fn.body = some c) (hnt : nt = args.length + (fn.ntmps - args.length))
    (h : Cw E c nt (frOf args) σ (fun o fr' σ' => (o = none ∨ o = some none) ∧ ∃ d, resultF E fr' σ' fn.results.toList = .ok d ∧ R d σ')) : ∃ d σ', Ev E f args σ d σ' ∧ R d σ' := by
  obtain ⟨o, fr', σ', p, ho, d, hd, hR⟩ := h
  exact ⟨d, σ', Ev.of hf hb hnt p ho hd, hR⟩

end

end Go.Vm
