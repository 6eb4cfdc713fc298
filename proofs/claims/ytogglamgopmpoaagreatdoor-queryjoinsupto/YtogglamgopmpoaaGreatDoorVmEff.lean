/- Operations that look, and operations with an effect (calls apart). -/
import Derived.Test.YtogglamgopmpoaaGreatDoorVmOps3
namespace Go.Vm
open Go.RowKit (Below)

section
variable {E : Env} {base : Nat} {w0 : World} {S0 : Nat → Nat → Prop} {g : Ghost} {δ : Nat → Option Nat} {σ : St} {w : World} {e : Operand → Option D} {ρ : Operand → Value}

theorem loadCells_box {k : Nat} {cs : List D} (hbox : ∀ (i : Nat) (d : D), cs[i]? = some d → cellLike d = true ∧ ∃ v, w.cell? ⟨k, i, none⟩ = some v ∧ w.frozen? ⟨k, i, none⟩ = false ∧ DRep g w d v)
    (off n : Nat) (h : off + n ≤ cs.length) (P : Program) : ∃ vs, vs.length = n ∧ (loadCells ⟨k, off, none⟩ n).run P w = .ok vs.toArray w ∧ DReps g w ((cs.drop off).take n) vs := by
  have hv : ∀ j, j < n → ∃ v, w.cell? ⟨k, off + j, none⟩ = some v := fun j hj => by
    obtain ⟨_, v, hv, _⟩ := hbox (off + j) _ (List.getElem?_eq_getElem (by omega))
    exact ⟨v, hv⟩
  have hlc := run_loadCells_list (P := P) w ⟨k, off, none⟩ ((List.range n).map fun j => (w.cell? ⟨k, off + j, none⟩).getD undef) (fun j v hj => by
    rw [List.getElem?_map] at hj
    have hjl : j < n := by
      by_cases h9 : j < n
      · exact h9
      · rw [List.getElem?_eq_none (by simp; omega)] at hj; cases hj
    rw [List.getElem?_range hjl] at hj
    simp only [Option.map_some, Option.some.injEq] at hj
    obtain ⟨v', hv'⟩ := hv j hjl
    rw [Addr.add_off, hv', ← hj, hv', Option.getD_some])
  simp only [List.length_map, List.length_range] at hlc
  refine ⟨_, by simp, hlc, DReps.of (by simp; omega) fun j d v hd hv2 => ?_⟩
  have hjl : j < n := by
    have := (List.getElem?_eq_some_iff.1 hv2).1; simpa using this
  rw [List.getElem?_map, List.getElem?_range hjl] at hv2
  simp only [Option.map_some, Option.some.injEq] at hv2
  rw [List.getElem?_take_of_lt hjl, List.getElem?_drop] at hd
  obtain ⟨_, v', h1, _, h2⟩ := hbox _ d hd
  rw [h1, Option.getD_some] at hv2
  subst hv2; exact h2

theorem loadBox_gives (hs : SRel E base w0 S0 g δ σ w) {t : TypeId} {b off : Nat} {cs : List D} {u : TypeDesc} {n : Nat} {d : D} {k : Nat} (hb : σ.box.get b = some cs) (hk : g.β b = some k)
    (hu : und E t = .ok u) (hn : size E t = .ok n)
    (h : (bif aggD u then (bif Nat.ble (off + n) cs.length then .ok (.agg ((cs.drop off).take n)) else .er 88) else ofO 89 cs[off]?) = .ok d) :
    Gives E g w (loadVar t ⟨k, off, none⟩) d := by
  obtain ⟨k', hk', hbox⟩ := hs.box b cs hb
  rw [hk] at hk'; cases hk'
  obtain ⟨it, hit, rfl⟩ := size_ok hn
  have hagg := run_isAgg (und_ok hu) w
  cases ha : aggD u with
  | true =>
    rw [ha] at h hagg
    obtain ⟨hle, h⟩ := cond_ok h
    cases h
    rw [Nat.ble_eq] at hle
    obtain ⟨vs, hl, hlc, hr⟩ := loadCells_box hbox off it.size hle E.P
    refine ⟨.agg vs.toArray, by simp only [loadVar, Sem.run_bind, hagg, Result.andThen_ok, if_true, run_sizeOf hit, hlc, Sem.run_pure], ?_⟩
    simp only [DRep]
    refine ⟨?_, vs, rfl, hr⟩
    rw [List.all_eq_true]
    intro x hx
    obtain ⟨i, hi⟩ := List.mem_iff_getElem?.1 (List.mem_of_mem_drop (List.mem_of_mem_take hx))
    exact (hbox i x hi).1
  | false =>
    rw [ha] at h hagg
    obtain ⟨_, v, hv, _, hd⟩ := hbox off d (ofO_ok h)
    exact ⟨v, by simp only [loadVar, Sem.run_bind, hagg, Result.andThen_ok, Bool.false_eq_true, if_false, run_load, hv], hd⟩

theorem findNow_es (k : ByteArray) : ∀ (l : List MapEntry) (es : List (ByteArray × D)) (i : Nat), l.length = es.length →
    (∀ (i : Nat) (x : MapEntry) (p : ByteArray × D), l[i]? = some x → es[i]? = some p → x.key = .string p.1 ∧ DRep g w p.2 x.val) →
    (es.find? (fun p => k == p.1) = none → Instr.findNow .string (.string k) l i = some none) ∧
    (∀ p, es.find? (fun p => k == p.1) = some p → ∃ j v, Instr.findNow .string (.string k) l i = some (some (j, v)) ∧ DRep g w p.2 v)
  | [], [], i, _, _ => ⟨fun _ => rfl, fun p h => by simp at h⟩
  | [], p :: es, i, h, _ => by simp at h
  | x :: l, [], i, h, _ => by simp at h
  | x :: l, p :: es, i, h, hp => by
    obtain ⟨h1, h2⟩ := hp 0 x p (by simp) (by simp)
    obtain ⟨g1, g2⟩ := findNow_es k l es (i + 1) (by simpa using h) (fun j x p hx hq => hp (j + 1) x p (by simpa using hx) (by simpa using hq))
    cases hk : (k == p.1) with
    | true =>
      refine ⟨fun hn => by simp [hk] at hn, fun q hq => ?_⟩
      simp only [List.find?_cons, hk, Option.some.injEq] at hq
      subst hq
      exact ⟨i, x.val, by simp [Instr.findNow, Instr.sameNow, h1, hk], h2⟩
    | false =>
      have hf : Instr.findNow .string (.string k) (x :: l) i = Instr.findNow .string (.string k) l (i + 1) := by simp [Instr.findNow, Instr.sameNow, h1, hk]
      refine ⟨fun hn => ?_, fun q hq => ?_⟩
      · simp only [List.find?_cons, hk] at hn
        rw [hf]; exact g1 hn
      · simp only [List.find?_cons, hk] at hq
        rw [hf]; exact g2 q hq

theorem run_checkKey_str {P : Program} {t : TypeId} (h : P.underlying t = some .string) (em : Bool) (n : Nat) (s : ByteArray) (w : World) :
    (Instr.checkKey em (n + 1) t (.string s)).run P w = .ok () w := by simp [Instr.checkKey, run_underlying h]

theorem opRead_gives (hs : SRel E base w0 S0 g δ σ w) {o : Oper} {d : D} (h : opRead E e σ o.op = some (.ok d))
    (hop : ∀ x ∈ o.op.operands.toList, ∀ d, e x = some d → DRep g w d (ρ x)) : ∃ v, (execOp ρ o).run E.P w = .ok (.value v) w ∧ DRep g w d v := by
  obtain ⟨dst, op, ty, pos, after, guard⟩ := o
  simp only at h hop
  cases op with
  | load t x =>
    simp only [opRead, Option.some.injEq] at h
    obtain ⟨dx, hx, h⟩ := R.bind_ok h
    have hdx := hop x (by simp [Op.operands]) _ (ofO_ok hx)
    cases dx with
    | ptr b off =>
      simp only at h
      obtain ⟨cs, hcs, h⟩ := R.bind_ok h
      obtain ⟨u, hu, h⟩ := R.bind_ok h
      obtain ⟨n, hn, h⟩ := R.bind_ok h
      obtain ⟨k, hk, hv⟩ := rep_ptr hdx
      obtain ⟨v, hr, hd⟩ := loadBox_gives hs (ofO_ok hcs) hk hu hn h
      exact ⟨v, by simp only [execOp, Instr.loadAt, Instr.sureAddr, hv, Sem.run_bind, Sem.run_pure, Result.andThen_ok, hr], hd⟩
    | _ => cases h
  | lookup t m k ok =>
    simp only [opRead, Option.some.injEq] at h
    obtain ⟨u, hu, h⟩ := R.bind_ok h
    obtain ⟨dm, hm, h⟩ := R.bind_ok h
    obtain ⟨dk, hk, h⟩ := R.bind_ok h
    have hdm := hop m (by simp [Op.operands]) _ (ofO_ok hm)
    have hdk := hop k (by simp [Op.operands]) _ (ofO_ok hk)
    have hu := und_ok hu
    cases u with
    | map kt el => cases dm with
      | map mm => cases dk with
        | c c => cases c with
          | str key =>
            simp only at h
            obtain ⟨ku, hku, h⟩ := R.bind_ok h
            have hku := und_ok hku
            cases ku with
            | string =>
              simp only at h
              obtain ⟨es, hes, h⟩ := R.bind_ok h
              obtain ⟨z, hz, h⟩ := R.bind_ok h
              obtain ⟨q, hq, l, clock, hw, hl, hent⟩ := hs.map mm es (ofO_ok hes)
              simp only [DRep] at hdm
              obtain ⟨q', hq', hvm⟩ := hdm
              rw [hq] at hq'; cases hq'
              have hvk := rep_str hdk
              obtain ⟨g1, g2⟩ := findNow_es (g := g) (w := w) key l es 0 hl hent
              obtain ⟨it, hit, hz⟩ := R.bind_ok hz
              obtain ⟨zv, hzv, hz⟩ := R.bind_ok hz
              have hzd := (toD_rep (ofO_ok hz) g w).1
              have hzr : (zeroValue el).run E.P w = .ok zv w := by simp [zeroValue, typeInfo, ofO_ok hit, ofO_ok hzv]
              have hget : (getObj q).run E.P w = .ok (.map ⟨l⟩ clock) w := by simp [getObj, Sem.run, hw]
              have hck : (Instr.checkKey (⟨l⟩ : Array MapEntry).isEmpty 10000 kt (.string key)).run E.P w = .ok () w := by
                exact run_checkKey_str hku _ 9999 key w
              have hrun : ∀ (r : Option (Nat × Value)), Instr.findNow .string (.string key) l 0 = some r →
                  (Instr.lookup t (.map (some q)) (.string key) ok).run E.P w = .ok (if ok then .tuple #[(match r with | some (_, v) => v | none => zv), .bool r.isSome] else (match r with | some (_, v) => v | none => zv)) w := by
                intro r hr
                have hfk : (Instr.findKey kt (.string key) l).run E.P w = .ok r w := by
                  simp only [Instr.findKey, Sem.run_bind, run_underlying hku, Result.andThen_ok, hr, Sem.run_pure]
                simp only [Instr.lookup, Sem.run_bind, run_underlying hu, Result.andThen_ok, hget, hck, Sem.run_pure, hfk]
                cases r with
                | none => simp [hzr]
                | some x => simp
              have hexec : ∀ v, (Instr.lookup t (.map (some q)) (.string key) ok).run E.P w = .ok v w → (execOp ρ ⟨dst, .lookup t m k ok, ty, pos, after, guard⟩).run E.P w = .ok (.value v) w := by
                intro v hv
                simp only [execOp, hvm, hvk, Sem.run_bind, hv, Result.andThen_ok, Sem.run_pure]
              cases hf : es.find? (fun p => key == p.1) with
              | none =>
                rw [hf] at h
                cases h
                refine ⟨_, hexec _ (hrun none (g1 hf)), ?_⟩
                cases ok
                · simpa using hzd
                · simp only [cond_true, if_true, DRep, DReps]
                  exact ⟨[zv, .bool false], rfl, zv, [.bool false], rfl, hzd, .bool false, [], rfl, .bool false, rfl⟩
              | some p =>
                rw [hf] at h
                cases h
                obtain ⟨j, v, hj, hd⟩ := g2 p hf
                refine ⟨_, hexec _ (hrun _ hj), ?_⟩
                cases ok
                · simpa using hd
                · simp only [cond_true, if_true, DRep, DReps]
                  exact ⟨[v, .bool true], rfl, v, [.bool true], rfl, hd, .bool true, [], rfl, .bool true, rfl⟩
            | _ => cases h
          | _ => cases h
        | _ => cases h
      | _ => cases h
    | _ => cases h
  | _ => simp only [opRead] at h; cases h

/-- What an operation with an effect comes to. -/
def Does (E : Env) (base : Nat) (w0 : World) (S0 : Nat → Nat → Prop) (g : Ghost) (σ : St) (w : World) (s : Sem Next) (d : D) (σ' : St) (id : Nat) : Prop :=
  ∃ v g' δ' w', (s.run E.P w = .ok (.value v) w' ∨ (s.run E.P w = .ok .skip w' ∧ v = undef)) ∧ Le g g' w w' ∧ SRel E base w0 S0 g' δ' σ' w' ∧ DRep g' w' d v ∧
    ∀ b, b < σ.n → b ≠ id → g'.β b = g.β b

theorem undef_rep : DRep g w (.tup []) undef := by
  simp only [DRep, DReps]; exact ⟨[], rfl, rfl⟩

theorem alloc_does (hs : SRel E base w0 S0 g δ σ w) {t : TypeId} {z : List D} {id : Nat} (hz : zero E t = .ok z) (hid : g.β id = none) (hlt : id < σ.n) :
    Does E base w0 S0 g σ w (do pure (.value (← Instr.alloc t true (.tuple #[])))) (.ptr id 0) { σ with box := σ.box.set id z } id := by
  obtain ⟨i, v, hi, hv, hall, hr⟩ := zero_rep hz
  obtain ⟨hle, hs'⟩ := hs.allocBox v.cells t id z hid hlt hall (hr g w)
  refine ⟨.pointer (some ⟨w.heap.size, 0, none⟩), _, _, _, .inl ?_, hle, hs', ?_, fun b _ hb => if_neg hb⟩
  · simp only [Instr.alloc, Sem.run_bind, zeroValue, typeInfo, run_program, Result.andThen_ok, hi, Sem.run_pure, hv, newVar, newRow, run_newObj]
    rfl
  · simp only [DRep]; exact ⟨_, by simp, rfl⟩

theorem box_does (hs : SRel E base w0 S0 g δ σ w) {t : TypeId} {x : D} {v : Value} {id : Nat} (hx : DRep g w x v) (hall : x.cells.all cellLike = true) (hid : g.β id = none) (hlt : id < σ.n) :
    Does E base w0 S0 g σ w (do pure (.value (← Instr.box t v))) (.ptr id 0) { σ with box := σ.box.set id x.cells } id := by
  obtain ⟨hle, hs'⟩ := hs.allocBox v.cells t id x.cells hid hlt hall hx.cells
  refine ⟨.pointer (some ⟨w.heap.size, 0, none⟩), _, _, _, .inl ?_, hle, hs', ?_, fun b _ hb => if_neg hb⟩
  · simp only [Instr.box, Sem.run_bind, Result.andThen_ok, Sem.run_pure, newVar, newRow, run_newObj]
    rfl
  · simp only [DRep]; exact ⟨_, by simp, rfl⟩

theorem oneCells {ds : List D} {vs : List Value} (hr : DReps g w ds vs) (hall : ds.all cellLike = true) : ∀ v ∈ vs, v.oneCell' = true := by
  intro v hv
  obtain ⟨i, hi⟩ := List.mem_iff_getElem?.1 hv
  have hlt : i < ds.length := by
    have := (List.getElem?_eq_some_iff.1 hi).1; rw [hr.length] at this; exact this
  obtain ⟨v', hv', hd⟩ := hr.at i _ (List.getElem?_eq_getElem hlt)
  rw [hi] at hv'; cases hv'
  exact hd.oneCell (List.all_eq_true.1 hall _ (List.getElem_mem hlt))

theorem store_does (hs : SRel E base w0 S0 g δ σ w) {t : TypeId} {b off : Nat} {a x : Value} {d : D} {cs cs' : List D} {n id : Nat} (ha : DRep g w (.ptr b off) a) (hx : DRep g w d x)
    (hn : size E t = .ok n) (hcs : σ.box.get b = some cs) (hlen : d.cells.length = n) (hall : d.cells.all cellLike = true) (hset : setAt cs off d.cells = some cs') :
    Does E base w0 S0 g σ w (do Instr.storeAt t a x; pure .skip) (.tup []) { σ with box := σ.box.set b cs' } id := by
  obtain ⟨k, hk, rfl⟩ := rep_ptr ha
  obtain ⟨it, hit, rfl⟩ := size_ok hn
  have hr := hx.cells
  obtain ⟨h1, h2, hle, hs'⟩ := hs.store hcs hk hset hall hr
  have hrun := run_storeCells_cells (P := E.P) k off x.cells.toList 0 w (by simpa using h1) (by simpa using h2) (oneCells hr hall)
  refine ⟨undef, _, _, _, .inr ⟨?_, rfl⟩, hle, hs', undef_rep, fun _ _ _ => rfl⟩
  have hsz : ¬ (x.cells.size ≠ it.size) := by
    have := hr.length; rw [hlen] at this; simpa using this
  simp only [Instr.storeAt, Instr.sureAddr, Sem.run_bind, Sem.run_pure, Result.andThen_ok, storeVar, run_sizeOf hit]
  rw [if_neg hsz, hrun]
  simp

end

end Go.Vm
