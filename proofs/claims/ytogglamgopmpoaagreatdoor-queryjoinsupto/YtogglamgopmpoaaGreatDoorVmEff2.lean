/- Maps that are made and filled; bytes of a text; append. -/
import Derived.Test.YtogglamgopmpoaaGreatDoorVmEff
namespace Go.Vm
open Go.RowKit (Below)

section
variable {E : Env} {base : Nat} {w0 : World} {S0 : Nat → Nat → Prop} {g : Ghost} {δ : Nat → Option Nat} {σ : St} {w : World} {e : Operand → Option D} {ρ : Operand → Value}

theorem makeMap_does (hs : SRel E base w0 S0 g δ σ w) (t : TypeId) (id : Nat) :
    Does E base w0 S0 g σ w (do pure (.value (← Instr.makeMap t none))) (.map σ.mn) { σ with mn := σ.mn + 1, mp := σ.mp.set σ.mn [] } id := by
  obtain ⟨hle, hs'⟩ := hs.newMap
  refine ⟨.map (some w.heap.size), _, _, _, .inl ?_, hle, hs', ?_, fun _ _ _ => rfl⟩
  · simp only [Instr.makeMap, Sem.run_bind, Sem.run_pure, Result.andThen_ok, run_newObj]
    rfl
  · simp only [DRep]; exact ⟨_, by simp, rfl⟩

theorem insert_does (hs : SRel E base w0 S0 g δ σ w) {t kt el : TypeId} {m : Nat} {key : ByteArray} {d : D} {vm vk v : Value} {es : List (ByteArray × D)} {id : Nat}
    (hu : E.P.underlying t = some (.map kt el)) (hku : E.P.underlying kt = some .string) (hm : DRep g w (.map m) vm) (hk : DRep g w (.c (.str key)) vk) (hd : DRep g w d v)
    (hes : σ.mp.get m = some es) (hnew : (es.find? (fun p => key == p.1)).isSome = false) :
    Does E base w0 S0 g σ w (do Instr.mapUpdate t vm vk v; pure .skip) (.tup []) { σ with mp := σ.mp.set m (es ++ [(key, d)]) } id := by
  obtain ⟨q, hq, l, clock, hw, hl, hent⟩ := hs.map m es hes
  simp only [DRep] at hm
  obtain ⟨q', hq', rfl⟩ := hm
  rw [hq] at hq'; cases hq'
  rw [rep_str hk]
  have hnone : es.find? (fun p => key == p.1) = none := by
    cases h : es.find? (fun p => key == p.1) with
    | none => rfl
    | some p => rw [h] at hnew; cases hnew
  have hfn := (findNow_es (g := g) (w := w) key l es 0 hl hent).1 hnone
  have hqlt := (hs.mapμ m q hq).2.2.1
  obtain ⟨hle, hs'⟩ := hs.entry (clock := clock) hq hqlt key d v hd hl hent { key := .string key, val := v, born := clock } rfl rfl
  refine ⟨undef, _, _, _, .inr ⟨?_, rfl⟩, hle, hs', undef_rep, fun _ _ _ => rfl⟩
  have hget : (getObj q).run E.P w = .ok (.map ⟨l⟩ clock) w := by simp [getObj, Sem.run, hw]
  have hck : (Instr.checkKey false 10000 kt (.string key)).run E.P w = .ok () w := run_checkKey_str hku _ 9999 key w
  have hfk : (Instr.findKey kt (.string key) l).run E.P w = .ok none w := by
    simp only [Instr.findKey, Sem.run_bind, run_underlying hku, Result.andThen_ok, hfn, Sem.run_pure]
  have hset : ∀ o, (setObj q o).run E.P w = .ok () (withObj w q o) := by
    intro o; simp [setObj, Sem.run, hw, withObj]
  simp only [Instr.mapUpdate, Sem.run_bind, run_underlying hu, Result.andThen_ok, hget, hck, hfk, hset, Sem.run_pure]

/-- The cells of a slice that is read, one behind the other. -/
theorem rowsCells {S : Nat → Nat → Prop} {w : World} {f : Bool} {xs : List (List C)} {v : Value} {k : Nat} (h : CRep S w (.sl f xs) v) (hk0 : 0 < k) (hk : headFits xs k = true) :
    ∃ vs : List Value, vs.length = xs.length * k ∧ (∀ (P : Program) (w' : World), (∀ a, w'.cell? a = w.cell? a) → (Builtin.firstCells k xs.length v).run P w' = .ok vs.toArray w') ∧
      (∀ (i : Nat) (r : List C), xs[i]? = some r → r.length = k) ∧
      (∀ (i : Nat) (r : List C) (j : Nat) (c : C), xs[i]? = some r → r[j]? = some c → ∃ u, vs[i * k + j]? = some u ∧ CRep S w c u) ∧
      (xs ≠ [] → ∃ b o cap, v = .slice (some ⟨b, o, none⟩) xs.length cap ∧ ∀ x u, vs[x]? = some u → S b (o + x) ∧ w.cell? ⟨b, o + x, none⟩ = some u) := by
  cases h with
  | slNone f p cap h =>
    refine ⟨[], by simp, fun P w' _ => ?_, fun i r h => by simp at h, fun i r j c h => by simp at h, fun h => absurd rfl h⟩
    cases p with
    | none => simp [Builtin.firstCells]
    | some a => simp [Builtin.firstCells, loadCells, loadCellsFrom]
  | sl f xs b o k' cap u hc hf hkk hcell hrec =>
    cases xs with
    | nil =>
      refine ⟨[], by simp, fun P w' _ => ?_, fun i r h => by simp at h, fun i r j c h => by simp at h, fun h => absurd rfl h⟩
      simp [Builtin.firstCells, loadCells, loadCellsFrom]
    | cons r0 rs =>
      have hk' : k' = k := by
        simp only [headFits, Nat.beq_eq] at hk
        rw [← hk]; exact (hkk 0 r0 (by simp)).symm
      subst hk'
      generalize hxs : r0 :: rs = xs at *
      have hget : ∀ x, x < xs.length * k' → ∃ r c, xs[x / k']? = some r ∧ r[x % k']? = some c := by
        intro x hx
        have h1 : x / k' < xs.length := (Nat.div_lt_iff_lt_mul hk0).2 hx
        have h2 := hkk _ _ (List.getElem?_eq_getElem h1)
        have h3 : x % k' < (xs[x / k']).length := by rw [h2]; exact Nat.mod_lt _ hk0
        exact ⟨_, _, List.getElem?_eq_getElem h1, List.getElem?_eq_getElem h3⟩
      have hcells : ∀ x, x < xs.length * k' → S b (o + x) ∧ w.cell? ⟨b, o + x, none⟩ = some (u (x / k') (x % k')) := by
        intro x hx
        obtain ⟨r, c, h1, h2⟩ := hget x hx
        have := hcell _ _ _ _ h1 h2
        rw [show o + x / k' * k' + x % k' = o + x by rw [Nat.add_assoc, Nat.mul_comm, Nat.div_add_mod]] at this
        exact this
      have hvs : ∀ x v, ((List.range (xs.length * k')).map fun x => u (x / k') (x % k'))[x]? = some v → x < xs.length * k' ∧ v = u (x / k') (x % k') := by
        intro x v h
        have hx : x < xs.length * k' := by have := (List.getElem?_eq_some_iff.1 h).1; simpa using this
        rw [List.getElem?_map, List.getElem?_range hx] at h
        simp only [Option.map_some, Option.some.injEq] at h
        exact ⟨hx, h.symm⟩
      refine ⟨(List.range (xs.length * k')).map fun x => u (x / k') (x % k'), by simp, fun P w' hw' => ?_, hkk, fun i r j c hi hj => ?_, fun _ => ⟨b, o, cap, rfl, fun x v h => ?_⟩⟩
      · refine run_firstCells_some w' k' xs.length ⟨b, o, none⟩ xs.length cap _ (by simp) (fun j v hj => ?_)
        obtain ⟨h1, rfl⟩ := hvs j v hj
        rw [Addr.add_off, hw']
        exact (hcells j h1).2
      · have hjk : j < k' := by have := (List.getElem?_eq_some_iff.1 hj).1; rw [hkk i r hi] at this; exact this
        have hil : i < xs.length := (List.getElem?_eq_some_iff.1 hi).1
        have hx : i * k' + j < xs.length * k' := by
          have : (i + 1) * k' ≤ xs.length * k' := Nat.mul_le_mul_right _ hil
          rw [Nat.succ_mul] at this; omega
        have e1 : (i * k' + j) / k' = i := by rw [Nat.mul_comm, Nat.mul_add_div hk0, Nat.div_eq_of_lt hjk]; rfl
        have e2 : (i * k' + j) % k' = j := by rw [Nat.mul_comm, Nat.mul_add_mod, Nat.mod_eq_of_lt hjk]
        refine ⟨u i j, ?_, hrec i r j c hi hj⟩
        rw [List.getElem?_map, List.getElem?_range hx]
        simp [e1, e2]
      · obtain ⟨h1, rfl⟩ := hvs x v h
        exact hcells x h1

/-- A slice out of its cells. -/
theorem mkRows {S : Nat → Nat → Prop} {w : World} {xs : List (List C)} {k b o cap : Nat} {vs : List Value} (hk : ∀ (i : Nat) (r : List C), xs[i]? = some r → r.length = k)
    (hcap : xs.length ≤ cap) (hcell : ∀ x u, vs[x]? = some u → S b (o + x) ∧ w.cell? ⟨b, o + x, none⟩ = some u)
    (hrep : ∀ (i : Nat) (r : List C) (j : Nat) (c : C), xs[i]? = some r → r[j]? = some c → ∃ u, vs[i * k + j]? = some u ∧ CRep S w c u) :
    CRep S w (.sl false xs) (.slice (some ⟨b, o, none⟩) xs.length cap) := by
  refine .sl false xs b o k cap (fun i j => (vs[i * k + j]?).getD undef) hcap (by simp) hk (fun i r j c hi hj => ?_) (fun i r j c hi hj => ?_)
  · obtain ⟨u, hu, _⟩ := hrep i r j c hi hj
    rw [hu, Option.getD_some, Nat.add_assoc]
    exact hcell _ _ hu
  · obtain ⟨u, hu, hc⟩ := hrep i r j c hi hj
    rw [hu, Option.getD_some]; exact hc

structure Added (P : Program) (g : Ghost) (w : World) (k : Nat) (xu : TypeDesc) (ys : List (List C)) (v : Value) : Prop where
  len : (Builtin.lenOf v).run P w = .ok ys.length w
  ty : ∀ kk, xu ≠ .int kk
  rows : ∀ (i : Nat) (r : List C), ys[i]? = some r → r.length = k
  cells : ∃ vs : List Value, vs.length = ys.length * k ∧ (∀ (w' : World), (∀ a, w'.cell? a = w.cell? a) → (Builtin.firstCells k ys.length v).run P w' = .ok vs.toArray w') ∧
      (∀ u ∈ vs, u.oneCell' = true) ∧
      (∀ (i : Nat) (r : List C) (j : Nat) (c : C), ys[i]? = some r → r[j]? = some c → ∃ u, vs[i * k + j]? = some u ∧ CRep g.S w c u)

theorem added_rep {k : Nat} {xu : TypeDesc} {x : D} {ys : List (List C)} {v : Value} (h : added k xu x = .ok ys) (hx : DRep g w x v) (hk0 : 0 < k) (hall : ys.all (fun r => Nat.beq r.length k) = true) :
    Added E.P g w k xu ys v := by
  have hrows : ∀ (i : Nat) (r : List C), ys[i]? = some r → r.length = k := by
    intro i r hi
    have := List.all_eq_true.1 hall r (List.mem_of_getElem? hi)
    rwa [Nat.beq_eq] at this
  have hhead : headFits ys k = true := by
    cases ys with
    | nil => rfl
    | cons r rs => simp only [headFits, Nat.beq_eq]; exact hrows 0 r (by simp)
  have slices : ∀ el, xu = .slice el → rowsOf x = some ys → Added E.P g w k xu ys v := fun el hxu hr => by
    have hrep := rep_rows hx hr
    obtain ⟨p, cap, hv, _⟩ := rows_len hrep
    obtain ⟨vs, h1, h2, h3, h4, _⟩ := rowsCells hrep hk0 hhead
    have hone : ∀ u ∈ vs, u.oneCell' = true := by
      intro u hu
      obtain ⟨i, hi⟩ := List.mem_iff_getElem?.1 hu
      have hlt : i < ys.length * k := by have := (List.getElem?_eq_some_iff.1 hi).1; omega
      have hd : i / k < ys.length := (Nat.div_lt_iff_lt_mul hk0).2 hlt
      have h5 := h3 _ _ (List.getElem?_eq_getElem hd)
      have h6 : i % k < (ys[i / k]).length := by rw [h5]; exact Nat.mod_lt _ hk0
      obtain ⟨u', hu', hc⟩ := h4 _ _ _ _ (List.getElem?_eq_getElem hd) (List.getElem?_eq_getElem h6)
      rw [Nat.mul_comm, Nat.div_add_mod, hi] at hu'
      cases hu'
      exact hc.oneCell
    exact ⟨by rw [hv]; simp [Builtin.lenOf], by rw [hxu]; simp, hrows, vs, h1, fun w' hw' => h2 E.P w' hw', hone, h4⟩
  unfold added at h
  split at h
  · rename_i b
    obtain ⟨hk1, h⟩ := cond_ok h
    cases h
    rw [Nat.beq_eq] at hk1
    subst hk1
    rw [rep_str hx]
    have hlen : (bytesRows b).length = b.size := by simp [bytesRows]
    refine ⟨by simp [Builtin.lenOf, hlen], by simp, hrows, b.data.toList.map (fun c => Value.int .u8 c.toNat), ?_, fun w' _ => ?_, by simp [Value.oneCell'], fun i r j c hi hj => ?_⟩
    · rw [hlen]; simp
    · rw [hlen]
      simp only [Builtin.firstCells, Sem.run_pure]
      congr 1
      apply Array.ext'
      simp
    · unfold bytesRows at hi
      rw [List.getElem?_map] at hi
      cases hb : b.data.toList[i]? with
      | none => rw [hb] at hi; cases hi
      | some c0 =>
        rw [hb] at hi
        simp only [Option.map_some, Option.some.injEq] at hi
        subst hi
        have hj0 : j = 0 := by have := (List.getElem?_eq_some_iff.1 hj).1; simpa using this
        subst hj0
        simp only [List.getElem?_cons_zero, Option.some.injEq] at hj
        subst hj
        refine ⟨_, ?_, .int _ _⟩
        rw [Nat.mul_one, Nat.add_zero, List.getElem?_map]
        rw [hb]; rfl
  · exact slices _ rfl (ofO_ok h)
  · cases h

theorem run_append_in {P : Program} {st xt el ty : TypeId} {xu : TypeDesc} {it : TypeInfo} (hst : P.underlying st = some (.slice el)) (hxt : P.underlying xt = some xu) (hxi : ∀ kk, xu ≠ .int kk)
    (hit : P.info? el = some it) (b o len cap n : Nat) (x : Value) (w : World) (news : List Value) (hlen : (Builtin.lenOf x).run P w = .ok n w)
    (hf : (Builtin.firstCells it.size n x).run P w = .ok news.toArray w) (hroom : len + n ≤ cap)
    (hs : (storeCells ⟨b, o + len * it.size, none⟩ news).run P w = .ok () (w.setCells b (o + len * it.size) news)) :
    (Builtin.append_ #[st, xt] ty #[.slice (some ⟨b, o, none⟩) len cap, x]).run P w = .ok (.slice (some ⟨b, o, none⟩) (len + n) cap) (w.setCells b (o + len * it.size) news) := by
  have hz : (xu matches .int _) = false := by
    cases xu <;> first | rfl | exact absurd rfl (hxi _)
  simp [Builtin.append_, run_underlying hst, run_underlying hxt, run_sizeOf hit, hlen, hroom, hf, Addr.add_off, hs]

theorem run_append_out {P : Program} {st xt el ty : TypeId} {xu : TypeDesc} {it : TypeInfo} {z : Value} (hst : P.underlying st = some (.slice el)) (hxt : P.underlying xt = some xu) (hxi : ∀ kk, xu ≠ .int kk)
    (hit : P.info? el = some it) (hz : it.zero = some z) (p : Option Addr) (len cap n : Nat) (x : Value) (w : World) (olds news : List Value) (hlen : (Builtin.lenOf x).run P w = .ok n w)
    (hf : (Builtin.firstCells it.size n x).run P w.drew = .ok news.toArray w.drew) (hfo : (Builtin.firstCells it.size len (.slice p len cap)).run P w.drew = .ok olds.toArray w.drew)
    (hroom : cap < len + n) (h63 : len + n ≤ 9223372036854775807) (hfit : (len + n) * it.bytes ≤ 140737488355328) :
    (Builtin.append_ #[st, xt] ty #[.slice p len cap, x]).run P w = .ok (.slice (some ⟨w.heap.size, 0, none⟩) (len + n) (grownCap w (len + n) cap el))
      (w.drew.alloc (.cells (olds.toArray ++ news.toArray ++ Builtin.zeroCells z.cells (grownCap w (len + n) cap el - (len + n))) el)) := by
  have hn : ¬ (len + n ≤ cap) := by omega
  have h63' : ¬ (9223372036854775807 < ((len : Int) + (n : Int))) := by omega
  have h48' : ¬ (281474976710656 < Builtin.nextslicecap (len + n) cap * it.bytes) := by have := growslice_fits hroom hfit; omega
  have hzz : (xu matches .int _) = false := by
    cases xu <;> first | rfl | exact absurd rfl (hxi _)
  simp [Builtin.append_, run_underlying hst, run_underlying hxt, sizeOf, typeInfo, zeroValue, hit, hz, hlen, hn, h63', h48', Question.forced, hf, hfo, newRow, grownCap]
  congr 2
  apply Array.ext'
  simp [List.append_assoc]

theorem append_does (hs : SRel E base w0 S0 g δ σ w) {st xt el ty : TypeId} {k by_ : Nat} {xu : TypeDesc} {s x d : D} {vs vx : Value} {xs ys : List (List C)} {z : List D} {σ' : St} {id : Nat}
    (hst : E.P.underlying st = some (.slice el)) (hxt : E.P.underlying xt = some xu) (hk : size E el = .ok k) (hby : (E.P.info? el).map (·.bytes) = some by_) (hz : zero E el = .ok z)
    (hds : DRep g w s vs) (hdx : DRep g w x vx) (hys : added k xu x = .ok ys) (hxs : rowsOf s = some xs)
    (h : (bif ys.isEmpty then .ok (2, s, σ) else
        bif Nat.beq k 0 || !Nat.beq z.length k || !(ys.all fun r => Nat.beq r.length k) || !headFits xs k ||
          !Nat.blt (xs.length + ys.length) 4611686018427387904 || !Nat.ble ((xs.length + ys.length) * by_) 140737488355328 then .er 123 else
        appendTo σ s ys k : R (Nat × D × St)) = .ok (2, d, σ')) :
    Does E base w0 S0 g σ w (do pure (.value (← Builtin.append_ #[st, xt] ty #[vs, vx]))) d σ' id := by
  obtain ⟨it, hit, rfl⟩ := size_ok hk
  have hbyi : it.bytes = by_ := by rw [hit] at hby; simpa using hby
  have hxrep := rep_rows hds hxs
  cases hem : ys.isEmpty with
  | true =>
    rw [hem] at h
    cases h
    have hys0 : ys = [] := by simpa using hem
    subst hys0
    obtain ⟨p, cap, hv, hcap⟩ := rows_len hxrep
    have hx : (Builtin.lenOf vx).run E.P w = .ok 0 w ∧ (∀ kk, xu ≠ .int kk) ∧ (Builtin.firstCells it.size 0 vx).run E.P w = .ok ([] : List Value).toArray w := by
      unfold added at hys
      split at hys
      · obtain ⟨hk1, h9⟩ := cond_ok hys
        rename_i b
        rw [rep_str hdx]
        have hb0 : b.size = 0 := by
          have : (bytesRows b).length = 0 := by
            have := congrArg (fun r => match r with | R.ok (l : List (List C)) => l.length | R.er _ => 0) h9
            simpa using this
          simpa [bytesRows] using this
        refine ⟨by simp [Builtin.lenOf, hb0], by simp, ?_⟩
        simp [Builtin.firstCells]
      · have hr := rep_rows hdx (ofO_ok hys)
        obtain ⟨p', cap', hv', _⟩ := rows_len hr
        rw [hv']
        refine ⟨by simp [Builtin.lenOf], by simp, ?_⟩
        cases p' with
        | none => simp [Builtin.firstCells]
        | some a => simp [Builtin.firstCells, loadCells, loadCellsFrom]
      · cases hys
    have hrun : (Builtin.append_ #[st, xt] ty #[vs, vx]).run E.P w = .ok vs w := by
      obtain ⟨hx1, hx2, hx3⟩ := hx
      rw [hv]
      have hz : (xu matches .int _) = false := by
        cases xu <;> first | rfl | exact absurd rfl (hx2 _)
      cases p with
      | none => simp [Builtin.append_, run_underlying hst, run_underlying hxt, run_sizeOf hit, hx1, hcap, hx3]
      | some a => simp [Builtin.append_, run_underlying hst, run_underlying hxt, run_sizeOf hit, hx1, hcap, hx3, storeCells]
    exact ⟨vs, g, δ, w, .inl (by simp only [Sem.run_bind, hrun, Result.andThen_ok, Sem.run_pure]), Le.refl _ _, hs, hds, fun _ _ _ => rfl⟩
  | false =>
    rw [hem] at h
    simp only [cond_false] at h
    obtain ⟨hc, hfin⟩ := cond_ok' h
    clear h
    simp only [Bool.or_eq_false_iff, Bool.not_eq_false'] at hc
    obtain ⟨⟨⟨⟨⟨h1, h2⟩, h3⟩, h4⟩, h5⟩, h6⟩ := hc
    have hk0 : 0 < it.size := by
      rcases Nat.eq_zero_or_pos it.size with h9 | h9
      · rw [h9] at h1; cases h1
      · exact h9
    rw [Nat.beq_eq] at h2
    rw [Nat.blt_eq] at h5
    rw [Nat.ble_eq] at h6
    have hm : 0 < ys.length := by
      cases ys with
      | nil => cases hem
      | cons r rs => simp
    have had := added_rep (E := E) hys hdx hk0 h3
    obtain ⟨news, hn1, hn2, hn3, hn4⟩ := had.cells
    obtain ⟨olds, ho1, ho2, ho3, ho4, ho5⟩ := rowsCells hxrep hk0 h4
    have hrows : ∀ (i : Nat) (r : List C), (xs ++ ys)[i]? = some r → r.length = it.size := by
      intro i r hi
      by_cases h9 : i < xs.length
      · rw [List.getElem?_append_left h9] at hi; exact ho3 i r hi
      · rw [List.getElem?_append_right (by omega)] at hi; exact had.rows _ r hi
    have hlast : ∀ (S' : Nat → Nat → Prop) (w' : World), (∀ b x, g.S b x → S' b x) → (∀ b x, g.S b x → w'.cell? ⟨b, x, none⟩ = w.cell? ⟨b, x, none⟩) →
        ∀ (i : Nat) (r : List C) (j : Nat) (c : C), (xs ++ ys)[i]? = some r → r[j]? = some c → ∃ u, (olds ++ news)[i * it.size + j]? = some u ∧ CRep S' w' c u := by
      intro S' w' hS hw i r j c hi hj
      by_cases h9 : i < xs.length
      · rw [List.getElem?_append_left h9] at hi
        obtain ⟨u, hu, hc⟩ := ho4 i r j c hi hj
        have hlt := (List.getElem?_eq_some_iff.1 hu).1
        exact ⟨u, by rw [List.getElem?_append_left hlt]; exact hu, hc.mono hS hw⟩
      · rw [List.getElem?_append_right (by omega)] at hi
        obtain ⟨u, hu, hc⟩ := hn4 _ r j c hi hj
        refine ⟨u, ?_, hc.mono hS hw⟩
        have e1 : i * it.size = xs.length * it.size + (i - xs.length) * it.size := by rw [← Nat.add_mul]; congr 1; omega
        rw [List.getElem?_append_right (by rw [ho1]; omega), ho1, ← hu]
        congr 1; omega
    obtain ⟨iz, vz, hiz, hvz, _, hrz⟩ := zero_rep hz
    rw [hit] at hiz; cases hiz
    have hzl : vz.cells.size = it.size := by
      have := (hrz g w).length; rw [h2] at this; simpa using this
    have hlen1 : (Builtin.lenOf vx).run E.P w = .ok ys.length w := had.len
    -- the roads: there is room, or a new array
    have grow : ∀ (p : Option Addr) (cap t : Nat), vs = .slice p xs.length cap → cap < xs.length + ys.length →
        (t = σ.tn ∨ (t < σ.tn ∧ ∃ m, σ.tok.get t = some (m, it.size) ∧ m < xs.length + ys.length)) →
        d = .own t (xs ++ ys) → σ' = { σ with tn := max σ.tn (t + 1), tok := σ.tok.set t (xs.length + ys.length, it.size) } →
        Does E base w0 S0 g σ w (do pure (.value (← Builtin.append_ #[st, xt] ty #[vs, vx]))) d σ' id := by
      intro p cap t hv hcap ht hd hσ
      subst hd; subst hσ
      have hrun := run_append_out (ty := ty) hst hxt had.ty hit hvz p xs.length cap ys.length vx w olds news hlen1 (hn2 w.drew (fun _ => rfl)) (by rw [← hv]; exact ho2 E.P w.drew (fun _ => rfl)) hcap (by omega) (by rw [hbyi]; exact h6)
      rw [← hv] at hrun
      have hnc : xs.length + ys.length ≤ grownCap w (xs.length + ys.length) cap el := by unfold grownCap; simp [Question.cut]
      have harr : (olds.toArray ++ news.toArray ++ Builtin.zeroCells vz.cells (grownCap w (xs.length + ys.length) cap el - (xs.length + ys.length))).size = grownCap w (xs.length + ys.length) cap el * it.size := by
        simp only [Array.size_append, size_zeroCells, hzl, List.size_toArray, ho1, hn1]
        rw [← Nat.add_mul, ← Nat.add_mul]; congr 1; omega
      obtain ⟨hle, hs'⟩ := hs.drew.allocTok _ el (0, 0) t (xs.length + ys.length) it.size _ hk0 hnc harr (.inl rfl) ht
      refine ⟨_, _, _, _, .inl (by simp only [Sem.run_bind, hrun, Result.andThen_ok, Sem.run_pure]; rfl), (Le.drew g w).trans hle, hs', ?_, fun _ _ _ => rfl⟩
      simp only [DRep]
      rw [List.length_append]
      refine ⟨?_, if_pos ⟨trivial, rfl⟩⟩
      have hcells : ∀ (x : Nat) (u : Value), (olds ++ news)[x]? = some u → (olds.toArray ++ news.toArray ++ Builtin.zeroCells vz.cells (grownCap w (xs.length + ys.length) cap el - (xs.length + ys.length)))[x]? = some u := by
        intro x u hx
        have hlt := (List.getElem?_eq_some_iff.1 hx).1
        rw [Array.getElem?_append_left (by simpa using hlt)]
        simpa using hx
      have := mkRows (S := fun b x => g.S b x ∨ (b = w.drew.heap.size ∧ x < (xs.length + ys.length) * it.size)) (w := w.drew.alloc (.cells (olds.toArray ++ news.toArray ++ Builtin.zeroCells vz.cells (grownCap w (xs.length + ys.length) cap el - (xs.length + ys.length))) el))
        (b := w.heap.size) (o := 0) (cap := grownCap w (xs.length + ys.length) cap el) (vs := olds ++ news) hrows (by rw [List.length_append]; exact hnc)
        (fun x u hx => by
          have hlt := (List.getElem?_eq_some_iff.1 hx).1
          rw [List.length_append, ho1, hn1, ← Nat.add_mul] at hlt
          refine ⟨.inr ⟨rfl, by omega⟩, ?_⟩
          rw [Nat.zero_add]
          exact (World.cell?_alloc_new w.drew _ el x).trans (hcells x u hx))
        (hlast _ _ hle.S hle.w)
      rw [List.length_append] at this
      exact this
    cases s with
    | own t xs' =>
      simp only [rowsOf, Option.some.injEq] at hxs
      subst hxs
      simp only [appendTo] at hfin
      obtain ⟨hfit, hfin2⟩ := cond_ok hfin
      cases hfin2
      have htok : σ.tok.get t = some (xs'.length, it.size) := by
        unfold tokFits at hfit
        split at hfit
        · rename_i p hp
          simp only [Bool.and_eq_true, Nat.beq_eq] at hfit
          rw [hp, ← hfit.1, ← hfit.2]
        · cases hfit
      simp only [DRep] at hds
      obtain ⟨htn, v', hv', hsp⟩ := hs.tok t _ htok
      simp only at hv'
      rw [hds.2] at hv'; cases hv'
      obtain ⟨b, o, cap, hv, hcap, _, _, _⟩ := hsp.is
      simp only at hv hcap
      by_cases hroom : xs'.length + ys.length ≤ cap
      · obtain ⟨r1, r2, hle, hs'⟩ := hs.room htok (by rw [← hv]; exact hds.2) hm hroom hn1
        have hst2 := run_storeCells_cells (P := E.P) b (o + xs'.length * it.size) news 0 w (by simpa using r1) (by simpa using r2) hn3
        rw [Nat.add_zero] at hst2
        have hrun := run_append_in (ty := ty) hst hxt had.ty hit b o xs'.length cap ys.length vx w news hlen1 (hn2 w (fun _ => rfl)) hroom hst2
        rw [← hv] at hrun
        refine ⟨_, _, _, _, .inl (by simp only [Sem.run_bind, hrun, Result.andThen_ok, Sem.run_pure]; rfl), hle, hs', ?_, fun _ _ _ => rfl⟩
        simp only [DRep]
        rw [List.length_append]
        refine ⟨?_, if_pos ⟨trivial, rfl⟩⟩
        have hold : ∀ x u, olds[x]? = some u → g.S b (o + x) ∧ w.cell? ⟨b, o + x, none⟩ = some u := by
          intro x u hx
          have hlt := (List.getElem?_eq_some_iff.1 hx).1
          have hne : xs' ≠ [] := by rintro rfl; rw [ho1] at hlt; simp at hlt
          obtain ⟨b', o', cap', hv2, h9⟩ := ho5 hne
          rw [hv] at hv2
          simp only [Value.slice.injEq, Option.some.injEq, Addr.mk.injEq, true_and, and_true] at hv2
          obtain ⟨⟨rfl, rfl⟩, rfl⟩ := hv2
          exact h9 x u hx
        have := mkRows (S := fun b' x => g.S b' x ∨ (b' = b ∧ o + xs'.length * it.size ≤ x ∧ x < o + (xs'.length + ys.length) * it.size)) (w := w.setCells b (o + xs'.length * it.size) news)
          (b := b) (o := o) (cap := cap) (vs := olds ++ news) hrows (by rw [List.length_append]; exact hroom)
          (fun x u hx => by
            by_cases h9 : x < olds.length
            · rw [List.getElem?_append_left h9] at hx
              obtain ⟨q1, q2⟩ := hold x u hx
              exact ⟨.inl q1, by rw [hle.w _ _ q1]; exact q2⟩
            · rw [List.getElem?_append_right (by omega)] at hx
              have hlt := (List.getElem?_eq_some_iff.1 hx).1
              rw [ho1] at hlt hx h9
              have hnm : (xs'.length + ys.length) * it.size = xs'.length * it.size + ys.length * it.size := Nat.add_mul _ _ _
              refine ⟨.inr ⟨rfl, by omega, by omega⟩, ?_⟩
              have := World.cell?_setCells_in b news (o + xs'.length * it.size) w r1 _ hlt
              rw [show o + xs'.length * it.size + (x - xs'.length * it.size) = o + x by omega] at this
              rw [this, ← hx, List.getElem?_eq_getElem hlt])
          (hlast _ _ hle.S hle.w)
        rw [List.length_append] at this
        exact this
      · exact grow _ cap t hv (by omega) (.inr ⟨htn, _, htok, by omega⟩) rfl (by simp only [St.mk.injEq, true_and, and_true]; omega)
    | c c => cases c with
      | sl f xs' =>
        simp only [rowsOf, Option.some.injEq] at hxs
        subst hxs
        cases f with
        | true =>
          simp only [appendTo] at hfin
          cases hfin
          simp only [DRep] at hds
          have hfull : ∃ p, vs = .slice p xs'.length xs'.length := by
            cases hds with
            | slNone f p cap h99 => exact ⟨p, by rw [h99 rfl]; rfl⟩
            | sl f xs b o k cap u hc hf hk hcell hrec => exact ⟨_, by rw [hf rfl]⟩
          obtain ⟨p, hv⟩ := hfull
          exact grow p _ σ.tn hv (by omega) (.inl rfl) rfl (by simp only [St.mk.injEq, true_and, and_true]; omega)
        | false => cases hfin
      | _ => cases hfin
    | _ => cases hfin

theorem bytes_does (hs : SRel E base w0 S0 g δ σ w) {src dst el : TypeId} {s : ByteArray} {v : Value} {id : Nat}
    (hsrc : E.P.underlying src = some .string) (hdst : E.P.underlying dst = some (.slice el)) (hel : E.P.underlying el = some (.int .u8)) (hv : DRep g w (.c (.str s)) v) :
    Does E base w0 S0 g σ w (do pure (.value (← convert src dst v))) (.own σ.tn (bytesRows s)) { σ with tn := σ.tn + 1, tok := σ.tok.set σ.tn (s.size, 1) } id := by
  rw [rep_str hv]
  have hrun := run_bytes_of_string w src dst el s hsrc hdst hel
  have hnc : s.size ≤ grownCap w s.size 0 el := by unfold grownCap; simp [Question.cut]
  have harr : (bytesRow s (grownCap w s.size 0 el)).size = grownCap w s.size 0 el * 1 := by
    have : s.data.size = s.size := rfl
    simp [bytesRow]; omega
  obtain ⟨hle, hs'⟩ := hs.drew.allocTok (bytesRow s (grownCap w s.size 0 el)) el ((bytesRow s (grownCap w s.size 0 el)).size, (bytesRow s (grownCap w s.size 0 el)).size + 1) σ.tn s.size 1 _ (by omega) hnc harr (.inr rfl) (.inl rfl)
  have hmax : max σ.tn (σ.tn + 1) = σ.tn + 1 := by omega
  rw [hmax] at hs'
  refine ⟨_, _, _, _, .inl (by simp only [Sem.run_bind, hrun, Result.andThen_ok, Sem.run_pure]; rfl), (Le.drew g w).trans hle, hs', ?_, fun _ _ _ => rfl⟩
  have hlen : (bytesRows s).length = s.size := by simp [bytesRows]
  simp only [DRep]
  rw [hlen]
  refine ⟨?_, if_pos ⟨trivial, rfl⟩⟩
  have := mkRows (S := fun b x => g.S b x ∨ (b = w.drew.heap.size ∧ x < s.size * 1)) (w := w.drew.alloc (.cells (bytesRow s (grownCap w s.size 0 el)) el ((bytesRow s (grownCap w s.size 0 el)).size, (bytesRow s (grownCap w s.size 0 el)).size + 1)))
    (xs := bytesRows s) (k := 1) (b := w.heap.size) (o := 0) (cap := grownCap w s.size 0 el) (vs := s.data.toList.map fun c => Value.int .u8 c.toNat)
    (fun i r hi => by
      unfold bytesRows at hi
      rw [List.getElem?_map] at hi
      cases hb : s.data.toList[i]? with
      | none => rw [hb] at hi; cases hi
      | some c0 => rw [hb] at hi; simp only [Option.map_some, Option.some.injEq] at hi; subst hi; rfl)
    (by rw [hlen]; exact hnc)
    (fun x u hx => by
      rw [List.getElem?_map] at hx
      cases hb : s.data.toList[x]? with
      | none => rw [hb] at hx; cases hx
      | some c0 =>
        rw [hb] at hx
        simp only [Option.map_some, Option.some.injEq] at hx
        subst hx
        have hlt : x < s.data.size := by have := (List.getElem?_eq_some_iff.1 hb).1; simpa using this
        have hlt2 : x < s.size := hlt
        refine ⟨.inr ⟨rfl, by omega⟩, ?_⟩
        rw [Nat.zero_add]
        refine (World.cell?_alloc_mark w.drew _ el _ x).trans ?_
        rw [bytesRow_at s _ x hlt]
        have : s.data[x] = c0 := by
          have := (List.getElem?_eq_some_iff.1 hb).2
          simpa using this
        rw [this])
    (fun i r j c hi hj => by
      unfold bytesRows at hi
      rw [List.getElem?_map] at hi
      cases hb : s.data.toList[i]? with
      | none => rw [hb] at hi; cases hi
      | some c0 =>
        rw [hb] at hi
        simp only [Option.map_some, Option.some.injEq] at hi
        subst hi
        have hj0 : j = 0 := by have := (List.getElem?_eq_some_iff.1 hj).1; simpa using this
        subst hj0
        simp only [List.getElem?_cons_zero, Option.some.injEq] at hj
        subst hj
        refine ⟨_, ?_, .int _ _⟩
        rw [Nat.mul_one, Nat.add_zero, List.getElem?_map, hb]; rfl)
  rw [hlen] at this
  exact this

end

end Go.Vm
