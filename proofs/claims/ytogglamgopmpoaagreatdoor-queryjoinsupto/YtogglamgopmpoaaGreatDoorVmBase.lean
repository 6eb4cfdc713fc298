/- Small laws: results, operands, types, the filling of aggregates. -/
import Derived.Test.YtogglamgopmpoaaGreatDoorVmRel
import Derived.Laws.Tables
import Derived.Laws.Slices
import Derived.Laws.Strings
import Derived.Laws.BytesString
import Derived.Laws.Concat
namespace Go.Vm
open Go.RowKit (Below)

theorem R.bind_ok {α β : Type} {x : R α} {f : α → R β} {b : β} (h : x.bind f = .ok b) : ∃ a, x = .ok a ∧ f a = .ok b := by
  cases x with
  | ok a => exact ⟨a, rfl, h⟩
  | er n => cases h

theorem ofO_ok {α : Type} {n : Nat} {x : Option α} {a : α} (h : ofO n x = .ok a) : x = some a := by
  cases x with
  | none => cases h
  | some b => cases h; rfl

theorem cond_ok {α : Type} {c : Bool} {x : R α} {n : Nat} {a : α} (h : (bif c then x else .er n) = .ok a) : c = true ∧ x = .ok a := by
  cases c with
  | true => exact ⟨rfl, h⟩
  | false => cases h

theorem ite_ok {α : Type} {c : Prop} [Decidable c] {x : R α} {n : Nat} {a : α} (h : (if c then x else .er n) = .ok a) : c ∧ x = .ok a := by
  by_cases hc : c
  · rw [if_pos hc] at h; exact ⟨hc, h⟩
  · rw [if_neg hc] at h; cases h

theorem ite_ok' {α : Type} {c : Prop} [Decidable c] {x : R α} {n : Nat} {a : α} (h : (if c then .er n else x) = .ok a) : ¬ c ∧ x = .ok a := by
  by_cases hc : c
  · rw [if_pos hc] at h; cases h
  · rw [if_neg hc] at h; exact ⟨hc, h⟩

theorem cond_ok' {α : Type} {c : Bool} {x : R α} {n : Nat} {a : α} (h : (bif c then .er n else x) = .ok a) : c = false ∧ x = .ok a := by
  cases c with
  | false => exact ⟨rfl, h⟩
  | true => cases h

theorem und_ok {E : Env} {t : TypeId} {u : TypeDesc} (h : und E t = .ok u) : E.P.underlying t = some u := ofO_ok h

theorem size_ok {E : Env} {t : TypeId} {n : Nat} (h : size E t = .ok n) : ∃ i, E.P.info? t = some i ∧ i.size = n := by
  have := ofO_ok h
  cases hi : E.P.info? t with
  | none => rw [hi] at this; cases this
  | some i => rw [hi] at this; exact ⟨i, rfl, by simpa using this⟩

theorem run_sizeOf {P : Program} {t : TypeId} {i : TypeInfo} (h : P.info? t = some i) (w : World) : (sizeOf t).run P w = .ok i.size w := by simp [sizeOf, typeInfo, h]

theorem run_isAgg {P : Program} {t : TypeId} {u : TypeDesc} (h : P.underlying t = some u) (w : World) : (isAgg t).run P w = .ok (aggD u) w := by
  cases u <;> simp [isAgg, run_underlying h, aggD]

theorem mapO_eq {α β : Type} (f : α → Option β) : ∀ l : List α, mapO f l = l.mapM f
  | [] => rfl
  | a :: l => by
    rw [mapO, List.mapM_cons, mapO_eq f l]
    cases f a with
    | none => rfl
    | some y => cases l.mapM f <;> rfl

theorem cellD_cell {v : Value} {d : D} (h : cellD v = some d) : cellLike d = true := by
  unfold cellD at h
  split at h <;> first | (cases h; rfl) | cases h

theorem cellD_rep {v : Value} {d : D} (h : cellD v = some d) (g : Ghost) (w : World) : DRep g w d v := by
  unfold cellD at h
  split at h <;> first
    | (cases h; simp only [DRep]; first | exact .bool _ | exact .int _ _ | exact .float _ _ | exact .str _ | exact .nilp | exact .nili | exact .nilf | exact .nilm | exact .slNone _ _ _ (fun _ => rfl))
    | cases h

theorem toD_rep {v : Value} {d : D} (h : toD v = some d) (g : Ghost) (w : World) : DRep g w d v ∧ (∀ c ∈ d.cells, cellLike c = true ∨ d = .tup []) := by
  unfold toD at h
  split at h
  · rename_i cs
    cases hm : mapO cellD cs.toList with
    | none => rw [hm] at h; cases h
    | some ds =>
      rw [hm] at h
      simp only [Option.map_some, Option.some.injEq] at h
      subst h
      obtain ⟨hl, ha⟩ := mapO_some hm
      have hall : ds.all cellLike = true := by
        rw [List.all_eq_true]
        intro x hx
        obtain ⟨i, hi⟩ := List.mem_iff_getElem?.1 hx
        have hlt : i < cs.toList.length := by
          have := (List.getElem?_eq_some_iff.1 hi).1; omega
        obtain ⟨y, hy, hy2⟩ := ha i cs.toList[i] (List.getElem?_eq_getElem hlt)
        rw [hi] at hy2; cases hy2
        exact cellD_cell hy
      refine ⟨?_, fun c hc => .inl ?_⟩
      · simp only [DRep]
        refine ⟨hall, cs.toList, rfl, DReps.of hl.symm fun i d v hd hv => ?_⟩
        obtain ⟨y, hy, hy2⟩ := ha i v hv
        rw [hd] at hy2; cases hy2
        exact cellD_rep hy g w
      · exact List.all_eq_true.1 hall c hc
  · rename_i vs
    split at h
    · rename_i hv
      cases h
      refine ⟨?_, fun c _ => .inr rfl⟩
      simp only [DRep, DReps]
      exact ⟨[], by congr 1; apply Array.ext'; simpa using hv, rfl⟩
    · cases h
  · refine ⟨cellD_rep h g w, fun c hc => .inl ?_⟩
    have hcl := cellD_cell h
    have : d.cells = [d] := by cases d <;> first | rfl | cases hcl
    rw [this] at hc
    simp only [List.mem_singleton] at hc
    subst hc; exact hcl

theorem SRel.opnd {E : Env} {base : Nat} {w0 : World} {S0 : Nat → Nat → Prop} {g : Ghost} {δ : Nat → Option Nat} {σ : St} {w : World} (hs : SRel E base w0 S0 g δ σ w)
    {a : A} {act : Act} (ha : ARel g a act w) (x : Operand) (d : D) (h : opnd E a x = some d) : DRep g w d (act.eval x) := by
  cases x with
  | tmp t => simp only [Vm.opnd, Option.some.injEq] at h; subst h; exact ha.tmps t
  | const v => exact (toD_rep h g w).1
  | global q =>
    simp only [Vm.opnd] at h
    cases hq : E.G q with
    | none => rw [hq] at h; cases h
    | some c =>
      rw [hq] at h
      simp only [Option.map_some, Option.some.injEq] at h
      subst h
      simp only [DRep]
      exact hs.glob q c hq
  | func f =>
    simp only [Vm.opnd, Option.some.injEq] at h
    subst h
    simp only [DRep, DReps]
    exact ⟨[], [], rfl, rfl, rfl⟩

/-! ## The filling of aggregates -/

theorem setAll (off : Nat) : ∀ (l : List Value) (k : Nat) (cells : Array Value), off + k + l.length ≤ cells.size →
    ((l.zipIdx k).foldl (fun (cs : Array Value) (p : Value × Nat) => cs.setIfInBounds (off + p.2) p.1) cells).toList = cells.toList.take (off + k) ++ l ++ cells.toList.drop (off + k + l.length)
  | [], k, cells, h => by simp
  | x :: l, k, cells, h => by
    simp only [List.length_cons] at h
    rw [List.zipIdx_cons, List.foldl_cons, setAll off l (k + 1) _ (by simp; omega)]
    have hs : (cells.setIfInBounds (off + k) x).toList = cells.toList.set (off + k) x := by simp
    rw [hs]
    have e1 : off + (k + 1) = off + k + 1 := by omega
    rw [e1, List.take_set, List.drop_set_of_lt (by omega)]
    rw [List.take_succ_eq_append_getElem (by simpa using (by omega : off + k < cells.size))]
    rw [List.set_append_right _ _ (by simp; omega)]
    have : off + k - (cells.toList.take (off + k)).length = 0 := by simp; omega
    rw [this]
    simp only [List.set_cons_zero, List.append_assoc, List.cons_append, List.nil_append, List.length_cons]
    rw [show off + k + 1 + l.length = off + k + (l.length + 1) by omega]

theorem fill_rep {g : Ghost} {w : World} {place : Nat → Option (Nat × Nat)} : ∀ {ps : List (Nat × D)} {qs : List (Nat × Value)} {cells cs' : List D} {vs : List Value},
    fill place cells ps = some cs' → DReps g w cells vs → cells.all cellLike = true →
    qs.length = ps.length → (∀ (i : Nat) (p : Nat × D) (q : Nat × Value), ps[i]? = some p → qs[i]? = some q → p.1 = q.1 ∧ DRep g w p.2 q.2) →
    ∃ vs', Instr.fill place ⟨vs⟩ qs = some ⟨vs'⟩ ∧ DReps g w cs' vs' ∧ cs'.all cellLike = true ∧ cs'.length = cells.length
  | [], qs, cells, cs', vs, h, hr, hc, hl, hp => by
    simp only [fill, Option.some.injEq] at h
    subst h
    have : qs = [] := List.length_eq_zero_iff.1 (by simpa using hl)
    subst this
    exact ⟨vs, rfl, hr, hc, rfl⟩
  | (i, d) :: ps, [], cells, cs', vs, h, hr, hc, hl, hp => by simp at hl
  | (i, d) :: ps, (j, v) :: qs, cells, cs', vs, h, hr, hc, hl, hp => by
    obtain ⟨hij, hd⟩ := hp 0 (i, d) (j, v) (by simp) (by simp)
    simp only at hij hd
    subst hij
    simp only [fill] at h
    cases hpl : place i with
    | none => rw [hpl] at h; cases h
    | some p =>
      obtain ⟨off, sz⟩ := p
      rw [hpl] at h
      simp only at h
      cases hcond : (Nat.beq d.cells.length sz && Nat.ble (off + sz) cells.length && d.cells.all cellLike) with
      | false => rw [hcond] at h; cases h
      | true =>
        rw [hcond] at h
        simp only [cond_true] at h
        simp only [Bool.and_eq_true, Nat.beq_eq, Nat.ble_eq] at hcond
        obtain ⟨⟨h1, h2⟩, h3⟩ := hcond
        have hdc := hd.cells
        have hlen := hr.length
        have hdl := hdc.length
        have hsz : v.cells.size = sz := by rw [← h1, ← hdl]; simp
        have hset := setAll off v.cells.toList 0 ⟨vs⟩ (by simp; omega)
        simp only [Nat.add_zero] at hset
        have hrep : DReps g w (cells.take off ++ d.cells ++ cells.drop (off + sz)) (vs.take off ++ v.cells.toList ++ vs.drop (off + sz)) :=
          ((hr.take off).append hdc).append (hr.drop _)
        have hall : (cells.take off ++ d.cells ++ cells.drop (off + sz)).all cellLike = true := by
          rw [List.all_eq_true] at hc h3 ⊢
          intro x hx
          simp only [List.mem_append] at hx
          rcases hx with (hx | hx) | hx
          · exact hc x (List.mem_of_mem_take hx)
          · exact h3 x hx
          · exact hc x (List.mem_of_mem_drop hx)
        obtain ⟨vs', hf, hr', hc', hl'⟩ := fill_rep (qs := qs) h hrep hall (by simpa using hl) fun k p q hp' hq => hp (k + 1) p q (by simpa using hp') (by simpa using hq)
        refine ⟨vs', ?_, hr', hc', by rw [hl']; simp [h1]; omega⟩
        rw [Instr.fill, hpl]
        simp only
        rw [if_neg (by simp; omega)]
        rw [← hf]
        congr 1
        apply Array.ext'
        rw [← Array.foldl_toList, Array.toList_zipIdx, hset]
        simp [hsz]

theorem parts_rep {g : Ghost} {w : World} {e : Operand → Option D} {ρ : Operand → Value} {ps : Array (Nat × Operand)} {r : List (Nat × D)}
    (h : parts e ps.toList = .ok r) (hop : ∀ p ∈ ps.toList, ∀ d, e p.2 = some d → DRep g w d (ρ p.2)) :
    (ps.map fun (p : Nat × Operand) => (p.1, ρ p.2)).toList.length = r.length ∧
      ∀ (i : Nat) (p : Nat × D) (q : Nat × Value), r[i]? = some p → (ps.map fun (p : Nat × Operand) => (p.1, ρ p.2)).toList[i]? = some q → p.1 = q.1 ∧ DRep g w p.2 q.2 := by
  obtain ⟨hl, ha⟩ := mapO_some (ofO_ok h)
  refine ⟨by simpa using hl.symm, fun i p q hp hq => ?_⟩
  rw [Array.toList_map, List.getElem?_map] at hq
  cases hx : ps.toList[i]? with
  | none => rw [hx] at hq; cases hq
  | some x =>
    rw [hx] at hq
    simp only [Option.map_some, Option.some.injEq] at hq
    subst hq
    obtain ⟨y, hy, hy2⟩ := ha i x hx
    rw [hp] at hy2; cases hy2
    cases hd : e x.2 with
    | none => rw [hd] at hy; cases hy
    | some d =>
      rw [hd] at hy
      simp only [Option.map_some, Option.some.injEq] at hy
      subst hy
      exact ⟨rfl, hop x (List.mem_of_getElem? hx) d hd⟩

theorem zero_rep {E : Env} {t : TypeId} {z : List D} (h : zero E t = .ok z) :
    ∃ i v, E.P.info? t = some i ∧ i.zero = some v ∧ z.all cellLike = true ∧ ∀ (g : Ghost) (w : World), DReps g w z v.cells.toList := by
  obtain ⟨i, hi, h⟩ := R.bind_ok h
  obtain ⟨v, hv, h⟩ := R.bind_ok h
  obtain ⟨d, hd, h⟩ := R.bind_ok h
  obtain ⟨hc, h⟩ := cond_ok h
  cases h
  exact ⟨i, v, ofO_ok hi, ofO_ok hv, hc, fun g w => (toD_rep (ofO_ok hd) g w).1.cells⟩

end Go.Vm
