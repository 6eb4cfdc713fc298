/- The interpreter with values that are not known: frames as functions, one operation at a time. -/
import Derived.Test.YtogglamgopmpoaaGreatDoorVmTop
namespace Go.Vm
open Go.RowKit (Below)

def opndF (E : Env) (fr : Nat → D) : Operand → Option D
  | .tmp t => some (fr t)
  | .const v => toD v
  | .global g => (E.G g).map fun c => .c (.rp [[c]] 0 0)
  | .func f => some (.fn f [] [])

theorem opnd_eq (E : Env) (a : A) : opnd E a = opndF E a.get := by
  funext x; cases x <;> rfl

def updF (fr : Nat → D) (d : Nat) (v : D) : Nat → D := fun t => bif Nat.beq t d then v else fr t
def updO (fr : Nat → D) (o : Option Nat) (v : D) : Nat → D :=
  match o with
  | none => fr
  | some d => updF fr d v
def fitsO (nt : Nat) (o : Option Nat) : Bool :=
  match o with
  | none => true
  | some d => Nat.blt d nt

theorem pin {fr : Nat → D} {t : Nat} {v : D} (h : fr t = v) : fr = updF fr t v := by
  funext x
  simp only [updF]
  cases hx : Nat.beq x t with
  | true => have : x = t := Nat.beq_eq ▸ hx; subst this; simpa using h
  | false => rfl

theorem put_upd {a : A} {o : Option Nat} {v : D} (h : fitsO a.nt o = true) : ∃ a', a.put o v = .ok a' ∧ a'.nt = a.nt ∧ a'.get = updO a.get o v := by
  cases o with
  | none => exact ⟨a, rfl, rfl, rfl⟩
  | some d =>
    simp only [fitsO] at h
    refine ⟨⟨a.nt, a.t.set d v⟩, by simp only [A.put, h, cond_true], rfl, ?_⟩
    funext t
    simp only [A.get, updO, updF]
    cases ht : Nat.beq t d with
    | true => have : t = d := Nat.beq_eq ▸ ht; subst this; rw [Tr.get_set_same]; rfl
    | false =>
      have : t ≠ d := fun h => by rw [← Nat.beq_eq, ht] at h; cases h
      rw [Tr.get_set_other _ _ _ _ this]; rfl

def wantF (ops : List Oper) (fr : Nat → D) (o : Oper) : R Bool :=
  match o.guard with
  | none => .ok true
  | some (j, b) =>
    match (ops[j]?).bind (·.dst) with
    | none => .er 140
    | some d => match fr d with
      | .c (.bool x) => .ok (x == b)
      | .tup [] => .ok false
      | _ => .er 141

theorem want_eq (ops : Array Oper) (a : A) (o : Oper) : want ops a o = wantF ops.toList a.get o := by
  unfold want wantF
  cases o.guard with
  | none => rfl
  | some p =>
    obtain ⟨j, b⟩ := p
    simp only [Array.getElem?_toList]
    rfl

/-- Operations one behind another: 'cl' their classes. -/
def Rn (E : Env) (r : Evs) (ops : List Oper) (rest : List Oper) (id nt : Nat) (fr : Nat → D) (σ : St) (cl : List Nat) (fr' : Nat → D) (σ' : St) : Prop :=
  ∀ a : A, a.nt = nt → a.get = fr → ∃ tr a', evOps E r ⟨ops⟩ rest id a σ = .ok (tr, a', σ') ∧ tr.map (·.cls) = cl ∧ a'.nt = nt ∧ a'.get = fr'

section
variable {E : Env} {r : Evs} {ops : List Oper} {rest : List Oper} {id nt : Nat} {fr fr' : Nat → D} {σ σ1 σ' : St} {cl : List Nat}

theorem Rn.nil : Rn E r ops [] id nt fr σ [] fr σ := fun a h1 h2 => ⟨[], a, rfl, rfl, h1, h2⟩

theorem Rn.on {o : Oper} {cls : Nat} {d : D} (hw : wantF ops fr o = .ok true) (hop : evOp E r (opndF E fr) id σ o.op = .ok (cls, d, σ1)) (hf : fitsO nt o.dst = true)
    (h : Rn E r ops rest (id + 1) nt (updO fr o.dst d) σ1 cl fr' σ') : Rn E r ops (o :: rest) id nt fr σ (cls :: cl) fr' σ' := by
  intro a h1 h2
  subst h1; subst h2
  obtain ⟨a1, p1, p2, p3⟩ := put_upd (v := d) hf
  obtain ⟨tr, a', q1, q2, q3, q4⟩ := h a1 p2 p3
  exact ⟨⟨true, cls, d, a, σ1⟩ :: tr, a', by simp only [evOps, want_eq, hw, R.bind, opnd_eq, hop, p1, q1], by simp [q2], q3, q4⟩

theorem Rn.off {o : Oper} (hw : wantF ops fr o = .ok false) (hf : fitsO nt o.dst = true)
    (h : Rn E r ops rest (id + 1) nt (updO fr o.dst (.tup [])) σ cl fr' σ') : Rn E r ops (o :: rest) id nt fr σ (3 :: cl) fr' σ' := by
  intro a h1 h2
  subst h1; subst h2
  obtain ⟨a1, p1, p2, p3⟩ := put_upd (v := .tup []) hf
  obtain ⟨tr, a', q1, q2, q3, q4⟩ := h a1 p2 p3
  exact ⟨⟨false, 3, .tup [], a, σ⟩ :: tr, a', by simp only [evOps, want_eq, hw, R.bind, p1, q1], by simp [q2], q3, q4⟩

end

section
variable {E : Env} {r : Evs} {ops : List Oper} {rest : List Oper} {id nt : Nat} {fr fr' : Nat → D} {σ σ1 σ' : St} {cl : List Nat}

theorem Rn.step {o : Oper} {t cls : Nat} {d : D} (hw : wantF ops fr o = .ok true) (hd : o.dst = some t) (hop : evOp E r (opndF E fr) id σ o.op = .ok (cls, d, σ1)) (hf : Nat.blt t nt = true)
    (h : Rn E r ops rest (id + 1) nt (updF fr t d) σ1 cl fr' σ') : Rn E r ops (o :: rest) id nt fr σ (cls :: cl) fr' σ' :=
  Rn.on hw hop (by rw [hd]; exact hf) (by rw [hd]; exact h)

theorem Rn.pass {o : Oper} {t : Nat} (hw : wantF ops fr o = .ok false) (hd : o.dst = some t) (hf : Nat.blt t nt = true)
    (h : Rn E r ops rest (id + 1) nt (updF fr t (.tup [])) σ cl fr' σ') : Rn E r ops (o :: rest) id nt fr σ (3 :: cl) fr' σ' :=
  Rn.off hw (by rw [hd]; exact hf) (by rw [hd]; exact h)

end

/-! ## Open orders, by the classes alone -/

def effsC : List Nat → Nat → List Nat
  | [], _ => []
  | x :: xs, i => bif Nat.beq x 2 then i :: effsC xs (i + 1) else effsC xs (i + 1)

def lookC (m fs : List Nat) (i k : Nat) : Nat → Nat → Bool
  | 0, _ => true
  | n + 1, c => (Nat.beq c k || (fs.take c).any (fun j => (m.getD j 0).testBit i) || (fs.drop c).any (fun j => (m.getD i 0).testBit j)) && lookC m fs i k n (c + 1)

def looksC (m fs : List Nat) (n : Nat) : List Nat → Nat → Nat → Bool
  | [], _, _ => true
  | x :: xs, i, k => (!Nat.beq x 1 || lookC m fs i k n 0) && looksC m fs n xs (i + 1) (bif Nat.beq x 2 then k + 1 else k)

def drawC (ops : Array Oper) (cl : List Nat) : Bool :=
  let m := masks ops.toList []
  let fs := effsC cl 0
  drawStatic ops && ordered m fs && looksC m fs (fs.length + 1) cl 0 0

theorem effs_C : ∀ (tr : List Ent) (i : Nat), effs tr i = effsC (tr.map (·.cls)) i
  | [], i => rfl
  | x :: xs, i => by
    simp only [effs, List.map_cons, effsC, effs_C xs]

theorem lookC_ok {E : Env} {m fs : List Nat} {o : Oper} {x : Ent} {i k : Nat} : ∀ (τ : List St) (n c : Nat), τ.length ≤ n → lookC m fs i k n c = true → lookOK E m fs o x i k τ c = true
  | [], n, c, _, _ => rfl
  | σ :: τ, 0, c, h, _ => by simp at h
  | σ :: τ, n + 1, c, h, hl => by
    simp only [lookC, Bool.and_eq_true] at hl
    simp only [lookOK, hl.1, Bool.true_or, Bool.true_and]
    exact lookC_ok τ n (c + 1) (by simpa using h) hl.2

theorem looksC_ok {E : Env} {m fs : List Nat} {n : Nat} {τ : List St} (hτ : τ.length ≤ n) : ∀ (os : List Oper) (xs : List Ent) (i k : Nat), looksC m fs n (xs.map (·.cls)) i k = true → looksOK E m fs τ os xs i k = true
  | [], xs, i, k, _ => by simp [looksOK]
  | o :: os, [], i, k, _ => by simp [looksOK]
  | o :: os, x :: xs, i, k, h => by
    simp only [List.map_cons, looksC, Bool.and_eq_true, Bool.or_eq_true] at h
    simp only [looksOK, Bool.and_eq_true, Bool.or_eq_true]
    refine ⟨h.1.imp (fun h => h) (fun h => lookC_ok τ n 0 hτ h), ?_⟩
    exact looksC_ok hτ os xs _ _ h.2

theorem drawC_ok {E : Env} {ops : Array Oper} {σ : St} {tr : List Ent} (h : drawC ops (tr.map (·.cls)) = true) : (drawStatic ops && drawDyn E ops σ tr) = true := by
  simp only [drawC, Bool.and_eq_true] at h
  simp only [drawDyn, Bool.and_eq_true]
  rw [effs_C]
  refine ⟨h.1.1, h.1.2, looksC_ok ?_ _ _ _ _ h.2⟩
  rw [epochs_len, ← effs_len tr 0, effs_C]
  exact Nat.le_refl _

/-! ## Code -/

/-- A code comes to its end, whatever the fuel from some on. -/
def Cn (E : Env) (c : Code) (nt : Nat) (fr : Nat → D) (σ : St) (o : Option (Option Nat)) (fr' : Nat → D) (σ' : St) : Prop :=
  ∃ N, ∀ n, N ≤ n → ∀ a : A, a.nt = nt → a.get = fr → ∃ a', (evs E n).code c a σ = .ok (o, a', σ') ∧ a'.nt = nt ∧ a'.get = fr'

section
variable {E : Env} {nt : Nat} {fr fr1 fr' : Nat → D} {σ σ1 σ' : St} {o : Option (Option Nat)} {x y b : Code}

theorem fuel {N n : Nat} (h : N + 1 ≤ n) : ∃ m, n = m + 1 ∧ N ≤ m := ⟨n - 1, by omega, by omega⟩

theorem Cn.skip : Cn E .skip nt fr σ none fr σ := ⟨1, fun n hn a h1 h2 => ⟨a, by obtain ⟨m, rfl, _⟩ := fuel hn; rfl, h1, h2⟩⟩
theorem Cn.ret : Cn E .ret nt fr σ (some none) fr σ := ⟨1, fun n hn a h1 h2 => ⟨a, by obtain ⟨m, rfl, _⟩ := fuel hn; rfl, h1, h2⟩⟩
theorem Cn.exit (id : Nat) : Cn E (.exit id) nt fr σ (some (some id)) fr σ := ⟨1, fun n hn a h1 h2 => ⟨a, by obtain ⟨m, rfl, _⟩ := fuel hn; rfl, h1, h2⟩⟩

theorem Cn.seq (hx : Cn E x nt fr σ none fr1 σ1) (hy : Cn E y nt fr1 σ1 o fr' σ') : Cn E (.seq x y) nt fr σ o fr' σ' := by
  obtain ⟨N1, p⟩ := hx
  obtain ⟨N2, q⟩ := hy
  refine ⟨N1 + N2 + 1, fun n hn a h1 h2 => ?_⟩
  obtain ⟨m, rfl, hm⟩ := fuel hn
  obtain ⟨a1, p3, p1, p2⟩ := p m (by omega) a h1 h2
  obtain ⟨a2, q3, q1, q2⟩ := q m (by omega) a1 p1 p2
  refine ⟨a2, ?_, q1, q2⟩
  simp only [evs, stepEvs, evCode, p3, R.bind, q3]

theorem Cn.seq_out {e : Option Nat} (hx : Cn E x nt fr σ (some e) fr1 σ1) : Cn E (.seq x y) nt fr σ (some e) fr1 σ1 := by
  obtain ⟨N1, p⟩ := hx
  refine ⟨N1 + 1, fun n hn a h1 h2 => ?_⟩
  obtain ⟨m, rfl, hm⟩ := fuel hn
  obtain ⟨a1, p3, p1, p2⟩ := p m (by omega) a h1 h2
  refine ⟨a1, ?_, p1, p2⟩
  simp only [evs, stepEvs, evCode, p3, R.bind]

theorem Cn.cond_true {c : Operand} (hc : opndF E fr c = some (.c (.bool true))) (hx : Cn E x nt fr σ o fr' σ') : Cn E (.cond c x y) nt fr σ o fr' σ' := by
  obtain ⟨N1, p⟩ := hx
  refine ⟨N1 + 1, fun n hn a h1 h2 => ?_⟩
  obtain ⟨m, rfl, hm⟩ := fuel hn
  obtain ⟨a1, p3, p1, p2⟩ := p m (by omega) a h1 h2
  refine ⟨a1, ?_, p1, p2⟩
  simp only [evs, stepEvs, evCode, opnd_eq, h2, hc, p3]

theorem Cn.cond_false {c : Operand} (hc : opndF E fr c = some (.c (.bool false))) (hx : Cn E y nt fr σ o fr' σ') : Cn E (.cond c x y) nt fr σ o fr' σ' := by
  obtain ⟨N1, p⟩ := hx
  refine ⟨N1 + 1, fun n hn a h1 h2 => ?_⟩
  obtain ⟨m, rfl, hm⟩ := fuel hn
  obtain ⟨a1, p3, p1, p2⟩ := p m (by omega) a h1 h2
  refine ⟨a1, ?_, p1, p2⟩
  simp only [evs, stepEvs, evCode, opnd_eq, h2, hc, p3]

/-- What a block makes of an exit. -/
def outBlock (id : Nat) : Option (Option Nat) → Option (Option Nat)
  | some (some j) => bif Nat.beq j id then none else some (some j)
  | o => o

theorem Cn.block {id : Nat} {o' : Option (Option Nat)} (hx : Cn E b nt fr σ o fr' σ') (ho : outBlock id o = o') : Cn E (.block id b) nt fr σ o' fr' σ' := by
  subst ho
  obtain ⟨N1, p⟩ := hx
  refine ⟨N1 + 1, fun n hn a h1 h2 => ?_⟩
  obtain ⟨m, rfl, hm⟩ := fuel hn
  obtain ⟨a1, p3, p1, p2⟩ := p m (by omega) a h1 h2
  refine ⟨a1, ?_, p1, p2⟩
  cases o with
  | none => simp only [evs, stepEvs, evCode, p3, R.bind, outBlock]
  | some e => cases e with
    | none => simp only [evs, stepEvs, evCode, p3, R.bind, outBlock]
    | some j => simp only [evs, stepEvs, evCode, p3, R.bind, outBlock]

theorem Cn.loop (hx : Cn E b nt fr σ none fr1 σ1) (hy : Cn E (.loop b) nt fr1 σ1 o fr' σ') : Cn E (.loop b) nt fr σ o fr' σ' := by
  obtain ⟨N1, p⟩ := hx
  obtain ⟨N2, q⟩ := hy
  refine ⟨N1 + N2 + 1, fun n hn a h1 h2 => ?_⟩
  obtain ⟨m, rfl, hm⟩ := fuel hn
  obtain ⟨a1, p3, p1, p2⟩ := p m (by omega) a h1 h2
  obtain ⟨a2, q3, q1, q2⟩ := q m (by omega) a1 p1 p2
  refine ⟨a2, ?_, q1, q2⟩
  simp only [evs, stepEvs, evCode, p3, R.bind]
  exact q3

theorem Cn.loop_out {e : Option Nat} (hx : Cn E b nt fr σ (some e) fr1 σ1) : Cn E (.loop b) nt fr σ (some e) fr1 σ1 := by
  obtain ⟨N1, p⟩ := hx
  refine ⟨N1 + 1, fun n hn a h1 h2 => ?_⟩
  obtain ⟨m, rfl, hm⟩ := fuel hn
  obtain ⟨a1, p3, p1, p2⟩ := p m (by omega) a h1 h2
  refine ⟨a1, ?_, p1, p2⟩
  simp only [evs, stepEvs, evCode, p3, R.bind]

/-- A region whose order is the text's, or whose edges order what must be. -/
theorem Cn.region {id : Nat} {ops : List Oper} {draw : Bool} {cl : List Nat} {N : Nat}
    (h : ∀ n, N ≤ n → Rn E (evs E n) ops ops σ.n nt fr { σ with n := σ.n + ops.length } cl fr' σ') (hd : (!draw || drawC ⟨ops⟩ cl) = true) :
    Cn E (.region id ⟨ops⟩ draw) nt fr σ none fr' σ' := by
  refine ⟨N + 1, fun n hn a h1 h2 => ?_⟩
  obtain ⟨m, rfl, hm⟩ := fuel hn
  obtain ⟨tr, a', p1, p2, p3, p4⟩ := h m hm a h1 h2
  refine ⟨a', ?_, p3, p4⟩
  have hd' : (!draw || (drawStatic ⟨ops⟩ && drawDyn E ⟨ops⟩ { σ with n := σ.n + ops.length } tr)) = true := by
    cases draw with
    | false => rfl
    | true =>
      subst p2
      simpa using drawC_ok (E := E) (σ := { σ with n := σ.n + ops.length }) (by simpa using hd)
  simp only [evs, stepEvs, evCode, List.size_toArray]
  rw [show evOps E (evs E m) ⟨ops⟩ ops σ.n a { σ with n := σ.n + ops.length } = _ from p1]
  simp only [R.bind, hd']
  rfl

end

/-! ## Calls -/

def frOf (args : List D) : Nat → D := fun t => (args[t]?).getD (.tup [])

theorem init_fr (nt : Nat) (args : List D) : (initA nt args).get = frOf args := by
  funext t
  have hg := init_get args 0 .leaf t
  simp only [A.get, initA, frOf]
  rw [hg]
  simp only [Nat.zero_le, true_and, Nat.zero_add, Nat.sub_zero]
  by_cases ht : t < args.length
  · rw [if_pos ht]
  · rw [if_neg ht, List.getElem?_eq_none (by omega)]; rfl

def result1F (E : Env) (fr : Nat → D) (σ : St) : ResultVar → R D
  | .tmp t => .ok (fr t)
  | .cell x t => match fr x with
    | .ptr b off => (ofO 160 (σ.box.get b)).bind fun cs => (und E t).bind fun u => (size E t).bind fun n =>
      bif aggD u then (bif Nat.ble (off + n) cs.length then .ok (.agg ((cs.drop off).take n)) else .er 161)
      else ofO 162 cs[off]?
    | _ => .er 163

def resultF (E : Env) (fr : Nat → D) (σ : St) (rs : List ResultVar) : R D :=
  match rs with
  | [x] => result1F E fr σ x
  | rs => (ofO 164 (mapO (fun x => match result1F E fr σ x with | .ok d => some d | .er _ => none) rs)).bind fun ds => .ok (.tup ds)

theorem result1_F (E : Env) (a : A) (σ : St) (x : ResultVar) : result1 E a σ x = result1F E a.get σ x := by
  cases x <;> rfl

theorem result_F (E : Env) (a : A) (σ : St) (rs : List ResultVar) : result E a σ rs = resultF E a.get σ rs := by
  unfold result resultF
  have : result1 E a σ = result1F E a.get σ := funext fun x => result1_F E a σ x
  rw [this]
  match rs with
  | [] => rfl
  | [x] => rfl
  | _ :: _ :: _ => rfl

/-- A call comes to its end, whatever the fuel from some on. -/
def Ev (E : Env) (f : Nat) (args : List D) (σ : St) (d : D) (σ' : St) : Prop := ∃ N, ∀ n, N ≤ n → (evs E n).call f args σ = .ok (d, σ')

theorem Ev.of {E : Env} {f : Nat} {fn : Func} {c : Code} {args : List D} {σ σ' : St} {o : Option (Option Nat)} {fr' : Nat → D} {d : D} {nt : Nat} (hf : E.P.funcs[f]? = some fn) (hb : fn.body = some c)
    (hnt : nt = args.length + (fn.ntmps - args.length)) (hc : Cn E c nt (frOf args) σ o fr' σ') (ho : o = none ∨ o = some none) (hr : resultF E fr' σ' fn.results.toList = .ok d) : Ev E f args σ d σ' := by
  subst hnt
  obtain ⟨N, p⟩ := hc
  refine ⟨N + 1, fun n hn => ?_⟩
  obtain ⟨m, rfl, hm⟩ := fuel hn
  obtain ⟨a', p1, p2, p3⟩ := p m hm (initA fn.ntmps args) rfl (init_fr _ _)
  simp only [evs, stepEvs, evBody, hf, hb, p1, R.bind]
  rcases ho with rfl | rfl <;> simp only [result_F, p3, hr, tagE]

theorem Ev.sums {E : Env} (hE : EnvOK E) {f : Nat} {args : List D} {d : D} {σ' : St} (h : Ev E f (args.map strip1) St.empty d σ') (ha : args.all plain1 = true) (hd : plain d = true) : Sums E f args (strip d) := by
  obtain ⟨N, h⟩ := h
  exact sums_of_call hE (h N (Nat.le_refl _)) ha hd

end Go.Vm
