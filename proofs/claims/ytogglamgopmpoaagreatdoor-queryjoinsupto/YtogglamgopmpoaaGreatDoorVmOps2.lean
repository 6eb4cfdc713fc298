/- The other operations without effect, and the operations that look. -/
import Derived.Test.YtogglamgopmpoaaGreatDoorVmStore
namespace Go.Vm
open Go.RowKit (Below)

section
variable {E : Env} {base : Nat} {w0 : World} {S0 : Nat → Nat → Prop} {g : Ghost} {δ : Nat → Option Nat} {σ : St} {w : World} {e : Operand → Option D} {ρ : Operand → Value}

theorem build_gives {t : TypeId} {ps : Array (Nat × Operand)} {d : D} (h0 : opPure E e (.build t ps) = some (.ok d)) (hop : ∀ p ∈ ps.toList, ∀ d, e p.2 = some d → DRep g w d (ρ p.2)) :
    Gives E g w (Instr.build t (ps.map fun (i, x) => (i, ρ x))) d := by
  simp only [opPure, Option.some.injEq] at h0
  obtain ⟨u, hu, h⟩ := R.bind_ok h0
  have hu := und_ok hu
  cases u with
  | struct fs =>
    simp only at h
    obtain ⟨z, hz, h⟩ := R.bind_ok h
    obtain ⟨qs, hqs, h⟩ := R.bind_ok h
    obtain ⟨pl, hpl, h⟩ := R.bind_ok h
    obtain ⟨cs, hcs, h⟩ := R.bind_ok h
    cases h
    obtain ⟨i, v, hi, hv, hall, hrep⟩ := zero_rep hz
    obtain ⟨hl, hp⟩ := parts_rep hqs hop
    have hpl := ofO_ok hpl
    rw [mapO_eq] at hpl
    obtain ⟨vs', hf, hr', hc', _⟩ := fill_rep (ofO_ok hcs) (hrep g w) hall hl hp
    refine ⟨.agg ⟨vs'⟩, run_build w t _ _ ?_, ?_⟩
    · simp only [Program.built, hi, hu, hv, hpl]
      have : (fun (x : Nat) => pl.toArray[x]?) = fun i => pl[i]? := by funext x; simp
      rw [this]
      exact hf
    · simp only [DRep]; exact ⟨hc', vs', rfl, hr'⟩
  | _ => cases h

theorem toC_rep {d : D} {c : C} {v : Value} (h : toC d = some c) (hd : DRep g w d v) : CRep g.S w c v := by
  cases d with
  | c c' => simp only [toC, Option.some.injEq] at h; subst h; simpa only [DRep] using hd
  | own t xs => simp only [toC, Option.some.injEq] at h; subst h; simp only [DRep] at hd; exact hd.1
  | _ => cases h

theorem rowsFrom_get {k : Nat} : ∀ {n : Nat} {cs : List D} {xs : List (List C)}, rowsFrom k n cs = some xs → n * k ≤ cs.length →
    xs.length = n ∧ (∀ (i : Nat) (r : List C), xs[i]? = some r → r.length = k) ∧
      ∀ (i : Nat) (r : List C) (j : Nat) (c : C), xs[i]? = some r → r[j]? = some c → ∃ d, cs[i * k + j]? = some d ∧ toC d = some c
  | 0, cs, xs, h, hl => by
    simp only [rowsFrom, Option.some.injEq] at h
    subst h
    exact ⟨rfl, fun i r h => by simp at h, fun i r j c h => by simp at h⟩
  | n + 1, cs, xs, h, hl => by
    simp only [rowsFrom] at h
    have hnk : (n + 1) * k = n * k + k := Nat.succ_mul n k
    cases hr : mapO toC (cs.take k) with
    | none => rw [hr] at h; cases h
    | some r =>
      rw [hr] at h
      cases hrs : rowsFrom k n (cs.drop k) with
      | none => simp [hrs] at h
      | some rs =>
        simp only [hrs, Option.some.injEq] at h
        subst h
        obtain ⟨h1, h2⟩ := mapO_some hr
        obtain ⟨h3, h4, h5⟩ := rowsFrom_get hrs (by simp; omega)
        have hrl : r.length = k := by rw [h1]; simp; omega
        refine ⟨by simp [h3], fun i q hi => ?_, fun i q j c hi hj => ?_⟩
        · cases i with
          | zero => simp only [List.getElem?_cons_zero, Option.some.injEq] at hi; subst hi; exact hrl
          | succ i => simp only [List.getElem?_cons_succ] at hi; exact h4 i q hi
        · cases i with
          | zero =>
            simp only [List.getElem?_cons_zero, Option.some.injEq] at hi
            subst hi
            have hjlt : j < k := by have := (List.getElem?_eq_some_iff.1 hj).1; omega
            have hlt : j < (cs.take k).length := by simp; omega
            obtain ⟨y, hy, hy2⟩ := h2 j _ (List.getElem?_eq_getElem hlt)
            rw [hj] at hy2; cases hy2
            refine ⟨(cs.take k)[j], ?_, hy⟩
            have := List.getElem?_eq_getElem hlt
            rw [List.getElem?_take_of_lt hjlt] at this
            simp
          | succ i =>
            simp only [List.getElem?_cons_succ] at hi
            obtain ⟨d, hd, hd2⟩ := h5 i q j c hi hj
            refine ⟨d, ?_, hd2⟩
            rw [List.getElem?_drop] at hd
            rw [← hd]; congr 1; rw [Nat.succ_mul]; omega

theorem repl_get (z : List D) : ∀ (n i : Nat) (d : D), (repl z n)[i]? = some d → z[i % z.length]? = some d ∧ i < n * z.length
  | 0, i, d, h => by simp [repl] at h
  | n + 1, i, d, h => by
    rw [repl] at h
    rw [Nat.succ_mul]
    by_cases hi : i < z.length
    · rw [List.getElem?_append_left hi] at h
      rw [Nat.mod_eq_of_lt hi]
      exact ⟨h, by omega⟩
    · rw [List.getElem?_append_right (by omega)] at h
      obtain ⟨h1, h2⟩ := repl_get z n _ d h
      rw [Nat.mod_eq_sub_mod (by omega)]
      exact ⟨h1, by omega⟩

theorem repl_len (z : List D) : ∀ n, (repl z n).length = n * z.length
  | 0 => by simp [repl]
  | n + 1 => by rw [repl, List.length_append, repl_len z n, Nat.succ_mul]; omega

theorem repl_rep {z : List D} {v : Value} {n : Nat} (hr : DReps g w z v.cells.toList) :
    DReps g w (repl z n) ((Array.range (n * z.length)).map (v.cells[· % v.cells.size]!)).toList := by
  have hl := hr.length
  refine DReps.of (by simp [repl_len]) fun i d u hd hu => ?_
  obtain ⟨h1, h2⟩ := repl_get z n i d hd
  obtain ⟨u', hu', hd'⟩ := hr.at _ _ h1
  have hsz : v.cells.size = z.length := by simpa using hl
  rw [Array.toList_map, List.getElem?_map, Array.toList_range, List.getElem?_range h2] at hu
  simp only [Option.map_some, Option.some.injEq] at hu
  subst hu
  have : v.cells[i % v.cells.size]! = u' := by
    rw [hsz]
    have : v.cells[i % z.length]? = some u' := by simpa using hu'
    rw [getElem!_def, this]
  rw [this]; exact hd'

theorem buildSlice_does (hs : SRel E base w0 S0 g δ σ w) {t : TypeId} {len : Nat} {ps : Array (Nat × Operand)} {d : D} (h0 : opPure E e (.buildSlice t len ps) = some (.ok d))
    (hop : ∀ p ∈ ps.toList, ∀ d, e p.2 = some d → DRep g w d (ρ p.2)) :
    ∃ v g' w', (Instr.buildSlice t len (ps.map fun (i, x) => (i, ρ x))).run E.P w = .ok v w' ∧ Le g g' w w' ∧ SRel E base w0 S0 g' δ σ w' ∧ DRep g' w' d v ∧ g'.β = g.β := by
  simp only [opPure, Option.some.injEq] at h0
  obtain ⟨u, hu, h⟩ := R.bind_ok h0
  have hu := und_ok hu
  cases u with
  | slice el =>
    simp only at h
    obtain ⟨k, hk, h⟩ := R.bind_ok h
    obtain ⟨hbig, h⟩ := cond_ok' h
    obtain ⟨z, hz, h⟩ := R.bind_ok h
    obtain ⟨hzk, h⟩ := cond_ok' h
    obtain ⟨qs, hqs, h⟩ := R.bind_ok h
    obtain ⟨cs, hcs, h⟩ := R.bind_ok h
    obtain ⟨xs, hxs, h⟩ := R.bind_ok h
    cases h
    obtain ⟨it, hit, rfl⟩ := size_ok hk
    simp only [Bool.or_eq_false_iff] at hbig
    obtain ⟨hk0, hbig⟩ := hbig
    have hk0 : it.size ≠ 0 := by rw [← Bool.not_eq_true, Nat.beq_eq] at hk0; exact hk0
    have hbig : ¬ (16777216 < len * it.size) := by
      intro h9
      have : Nat.blt 16777216 (len * it.size) = true := by rw [Nat.blt_eq]; exact h9
      rw [this] at hbig; cases hbig
    have hzk : z.length = it.size := by simpa [Nat.beq_eq] using hzk
    obtain ⟨i, v, hi, hv, hall, hrep⟩ := zero_rep hz
    rw [hit] at hi; cases hi
    obtain ⟨hl, hp⟩ := parts_rep hqs hop
    have hrr := repl_rep (n := len) (hrep g w)
    have hallr : (repl z len).all cellLike = true := by
      rw [List.all_eq_true] at hall ⊢
      intro x hx
      obtain ⟨i, hi⟩ := List.mem_iff_getElem?.1 hx
      exact hall x (List.mem_of_getElem? (repl_get z len i x hi).1)
    obtain ⟨vs', hf, hr', hc', hlen'⟩ := fill_rep (ofO_ok hcs) hrr hallr hl hp
    rw [repl_len, hzk] at hlen'
    obtain ⟨g1, g2, g3⟩ := rowsFrom_get (ofO_ok hxs) (by rw [hlen']; exact Nat.le_refl _)
    have hvl : vs'.length = len * it.size := by rw [hr'.length, hlen']
    obtain ⟨hle, hs'⟩ := hs.allocRow ⟨vs'⟩ el (len * it.size) (by simp [hvl])
    refine ⟨.slice (some ⟨w.heap.size, 0, none⟩) len len, _, _, ?_, hle, hs', ?_, rfl⟩
    · have hf2 : Instr.fill (fun i => some (i * it.size, it.size)) ((Array.range (len * it.size)).map (v.cells[· % v.cells.size]!)) (ps.map fun (i, x) => (i, ρ x)).toList = some ⟨vs'⟩ := by
        rw [← hf, hzk]
      by_cases h9 : len * it.size = 0
      · have hf3 : Instr.fill (fun i => some (i * it.size, it.size)) ((Array.range 0).map ((#[] : Array Value)[· % (#[] : Array Value).size]!)) (ps.map fun (i, x) => (i, ρ x)).toList = some ⟨vs'⟩ := by
          have hr0 : Array.range 0 = #[] := rfl
          rw [h9, hr0, Array.map_empty] at hf2; rw [hr0, Array.map_empty]; exact hf2
        simp only [Instr.buildSlice, Sem.run_bind, run_underlying hu, Result.andThen_ok, run_sizeOf hit]
        rw [Sem.run_ite, if_neg (by simpa using hbig)]
        simp only [h9, if_true, Sem.run_bind, Sem.run_pure, Result.andThen_ok, hf3, newRow, run_newObj]
        rfl
      · simp only [Instr.buildSlice, Sem.run_bind, run_underlying hu, Result.andThen_ok, run_sizeOf hit]
        rw [Sem.run_ite, if_neg (by simpa using hbig)]
        have hzz : (zeroValue el).run E.P w = .ok v w := by simp [zeroValue, typeInfo, hit, hv]
        simp only [if_neg h9, Sem.run_bind, hzz, Sem.run_pure, Result.andThen_ok, hf2, newRow, run_newObj]
        rfl
    · simp only [DRep]
      have key : ∀ (i : Nat) (r : List C) (j : Nat) (c : C), xs[i]? = some r → r[j]? = some c → ∃ u, vs'[i * it.size + j]? = some u ∧ CRep g.S w c u := by
        intro i r j c hi hj
        obtain ⟨d, hd, hd2⟩ := g3 i r j c hi hj
        obtain ⟨u, hu, hdu⟩ := hr'.at _ _ hd
        exact ⟨u, hu, toC_rep hd2 hdu⟩
      have := CRep.sl (S := fun b x => g.S b x ∨ b = w.heap.size ∧ x < len * it.size) (w := w.alloc (.cells ⟨vs'⟩ el)) true xs w.heap.size 0 it.size xs.length (fun i j => (vs'[i * it.size + j]?).getD undef) (Nat.le_refl _) (fun _ => rfl) g2 (fun i r j c hi hj => by
          obtain ⟨u, hu, _⟩ := key i r j c hi hj
          have hlt := (List.getElem?_eq_some_iff.1 hu).1
          refine ⟨.inr ⟨rfl, by omega⟩, ?_⟩
          rw [World.cell?_alloc_new, hu, Nat.zero_add]
          simpa using hu) (fun i r j c hi hj => by
          obtain ⟨u, hu, hcu⟩ := key i r j c hi hj
          simp only [hu, Option.getD_some]
          exact hcu.mono hle.S hle.w)
      rw [g1] at this
      exact this
  | _ => cases h

theorem load_rp_gives {t : TypeId} {x : Operand} {xs : List (List C)} {i off : Nat} {d : D} (hx : e x = some (.c (.rp xs i off))) (h0 : opPure E e (.load t x) = some (.ok d))
    (hop : DRep g w (.c (.rp xs i off)) (ρ x)) : Gives E g w (Instr.loadAt t (ρ x)) d := by
  simp only [opPure, hx, Option.some.injEq] at h0
  cases hr : xs[i]? with
  | none => rw [hr] at h0; cases h0
  | some r =>
    rw [hr] at h0
    simp only at h0
    obtain ⟨u, hu, h⟩ := R.bind_ok h0
    obtain ⟨n, hn, h⟩ := R.bind_ok h
    obtain ⟨it, hit, rfl⟩ := size_ok hn
    simp only [DRep] at hop
    generalize ρ x = v at hop
    cases hop with
    | rp _ _ _ b o k uu hk hcell hrec =>
      have hagg := run_isAgg (und_ok hu) w
      have hrk := hk _ _ hr
      cases ha : aggD u with
      | true =>
        rw [ha] at h hagg
        obtain ⟨hle, h⟩ := cond_ok h
        cases h
        rw [Nat.ble_eq] at hle
        have hlc := run_loadCells_list (P := E.P) w ⟨b, o + i * k + off, none⟩ ((List.range it.size).map fun j => uu i (off + j)) (fun j v hj => by
          rw [List.getElem?_map] at hj
          have hjl : j < it.size := by
            by_cases h9 : j < it.size
            · exact h9
            · rw [List.getElem?_eq_none (by simp; omega)] at hj; cases hj
          rw [List.getElem?_range hjl] at hj
          simp only [Option.map_some, Option.some.injEq] at hj
          subst hj
          rw [Addr.add_off, Nat.add_assoc]
          exact (hcell i r (off + j) _ hr (List.getElem?_eq_getElem (by omega))).2)
        simp only [List.length_map, List.length_range] at hlc
        refine ⟨.agg ((List.range it.size).map fun j => uu i (off + j)).toArray, ?_, ?_⟩
        · simp only [Instr.loadAt, Instr.sureAddr, Sem.run_bind, Sem.run_pure, Result.andThen_ok, loadVar, hagg, if_true, run_sizeOf hit, hlc]
        · simp only [DRep]
          refine ⟨by rw [List.all_map]; exact List.all_eq_true.2 (fun _ _ => rfl), _, rfl, DReps.of (by simp; omega) fun j d v hd hv => ?_⟩
          rw [List.getElem?_map] at hd hv
          have hjl : j < it.size := by
            by_cases h9 : j < it.size
            · exact h9
            · rw [List.getElem?_eq_none (by simp; omega)] at hv; cases hv
          rw [List.getElem?_range hjl] at hv
          simp only [Option.map_some, Option.some.injEq] at hv
          subst hv
          rw [List.getElem?_take_of_lt hjl, List.getElem?_drop] at hd
          cases hc : r[off + j]? with
          | none => rw [hc] at hd; cases hd
          | some c =>
            rw [hc] at hd
            simp only [Option.map_some, Option.some.injEq] at hd
            subst hd
            simp only [DRep]
            exact hrec i r (off + j) c hr hc
      | false =>
        rw [ha] at h hagg
        obtain ⟨c, hc, h⟩ := R.bind_ok h
        cases h
        have hc := ofO_ok hc
        obtain ⟨_, hcl⟩ := hcell i r off c hr hc
        refine ⟨uu i off, ?_, ?_⟩
        · simp only [Instr.loadAt, Instr.sureAddr, Sem.run_bind, Sem.run_pure, Result.andThen_ok, loadVar, hagg, Bool.false_eq_true, if_false, run_load, hcl]
        · simp only [DRep]; exact hrec i r off c hr hc

end

end Go.Vm
