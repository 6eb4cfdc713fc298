/- Operations without effect: each by itself, then all. -/
import Derived.Test.YtogglamgopmpoaaGreatDoorVmPure
namespace Go.Vm
open Go.RowKit (Below)

section
variable {E : Env} {g : Ghost} {w : World} {e : Operand → Option D} {ρ : Operand → Value}

/-- The machine's operation gives a value that stands for d, and nothing else happens. -/
def Gives (E : Env) (g : Ghost) (w : World) (s : Sem Value) (d : D) : Prop := ∃ v, s.run E.P w = .ok v w ∧ DRep g w d v

theorem mapO_rep {l : List Operand} {ds : List D} (h : mapO e l = some ds) (hop : ∀ x ∈ l, ∀ d, e x = some d → DRep g w d (ρ x)) : DReps g w ds (l.map ρ) := by
  obtain ⟨hl, ha⟩ := mapO_some h
  refine DReps.of (by simp [hl]) fun i d v hd hv => ?_
  rw [List.getElem?_map] at hv
  cases hx : l[i]? with
  | none => rw [hx] at hv; cases hv
  | some x =>
    rw [hx] at hv
    simp only [Option.map_some, Option.some.injEq] at hv
    subst hv
    obtain ⟨y, hy, hy2⟩ := ha i x hx
    rw [hd] at hy2; cases hy2
    exact hop x (List.mem_of_getElem? hx) d hy

theorem part_gives {t : TypeId} {cs : List D} {off : Nat} {d : D} (h : part E t cs off = .ok d) {vs : List Value} (hc : cs.all cellLike = true) (hr : DReps g w cs vs) :
    Gives E g w (Go.part t ⟨vs⟩ off) d := by
  obtain ⟨u, hu, h⟩ := R.bind_ok h
  obtain ⟨n, hn, h⟩ := R.bind_ok h
  obtain ⟨i, hi, rfl⟩ := size_ok hn
  have hagg := run_isAgg (und_ok hu) w
  cases ha : aggD u with
  | true =>
    rw [ha] at h hagg
    obtain ⟨hle, h⟩ := cond_ok h
    cases h
    rw [Nat.ble_eq] at hle
    have hlen := hr.length
    refine ⟨.agg ⟨(vs.drop off).take i.size⟩, ?_, ?_⟩
    · simp only [Go.part, Sem.run_bind, hagg, Result.andThen_ok, if_true, run_sizeOf hi, Sem.run_pure]
      congr 2
      apply Array.ext'
      simp [List.take_drop]
    · simp only [DRep]
      refine ⟨?_, _, rfl, (hr.drop off).take _⟩
      rw [List.all_eq_true] at hc ⊢
      intro x hx
      exact hc x (List.mem_of_mem_drop (List.mem_of_mem_take hx))
  | false =>
    rw [ha] at h hagg
    have h := ofO_ok h
    obtain ⟨v, hv, hd⟩ := hr.at off d h
    refine ⟨v, ?_, hd⟩
    simp only [Go.part, Sem.run_bind, hagg, Result.andThen_ok, Bool.false_eq_true, if_false]
    have : (⟨vs⟩ : Array Value)[off]? = some v := by simpa using hv
    rw [this]; rfl

theorem field_gives {s : TypeId} {x : Operand} {f : Nat} {d : D} (h : opPure E e (.field s x f) = some (.ok d)) (hop : ∀ d, e x = some d → DRep g w d (ρ x)) :
    Gives E g w (Instr.field s (ρ x) f) d := by
  simp only [opPure, Option.some.injEq] at h
  obtain ⟨fd, hf, h⟩ := R.bind_ok h
  obtain ⟨dx, hx, h⟩ := R.bind_ok h
  have hdx := hop _ (ofO_ok hx)
  obtain ⟨u, hu, hf⟩ := R.bind_ok hf
  cases dx <;> simp only at h <;> try (cases h; done)
  rename_i cs
  obtain ⟨hc, vs, hv, hr⟩ := rep_agg hdx
  cases u <;> simp only at hf <;> try (cases hf; done)
  rename_i fs
  have hf := ofO_ok hf
  obtain ⟨v, hv2, hd⟩ := part_gives h hc hr
  refine ⟨v, ?_, hd⟩
  rw [hv]
  simp only [Instr.field, Sem.run_bind, run_underlying (und_ok hu), Result.andThen_ok, hf, asAgg, Sem.run_pure]
  exact hv2

theorem Addr.add_off (b o n : Nat) : (⟨b, o, none⟩ : Addr).add n = ⟨b, o + n, none⟩ := by
  unfold Addr.add
  by_cases h : n = 0
  · rw [if_pos h]; subst h; rfl
  · rw [if_neg h]

theorem run_fieldAt {P : Program} {s : TypeId} {fs : Array Field} {f : Nat} {fd : Field} {i : TypeInfo} (hu : P.underlying s = some (.struct fs)) (hf : fs[f]? = some fd) (hi : P.info? fd.type = some i)
    (hn : i.size ≠ 0) (b o : Nat) (w : World) : (Instr.fieldAt s (.pointer (some ⟨b, o, none⟩)) f).run P w = .ok (.pointer (some ⟨b, o + fd.offset, none⟩)) w := by
  simp only [Instr.fieldAt, Sem.run_bind, run_underlying hu, Result.andThen_ok, hf, Instr.sureAddr, Sem.run_pure, fieldPlace, run_sizeOf hi]
  rw [if_neg hn]
  simp [Addr.add_off]

theorem fieldAddr_gives {s : TypeId} {x : Operand} {f : Nat} {d : D} (h : opPure E e (.fieldAddr s x f) = some (.ok d)) (hop : ∀ d, e x = some d → DRep g w d (ρ x)) :
    Gives E g w (Instr.fieldAt s (ρ x) f) d := by
  simp only [opPure, Option.some.injEq] at h
  obtain ⟨fd, hf, h⟩ := R.bind_ok h
  obtain ⟨n, hn, h⟩ := R.bind_ok h
  obtain ⟨hz, h3⟩ := cond_ok' h
  have hz : n ≠ 0 := by rw [← Bool.not_eq_true, Nat.beq_eq] at hz; exact hz
  obtain ⟨i, hi, rfl⟩ := size_ok hn
  obtain ⟨dx, hx, h⟩ := R.bind_ok h3
  have hdx := hop _ (ofO_ok hx)
  obtain ⟨u, hu, hf⟩ := R.bind_ok hf
  cases u <;> simp only at hf <;> try (cases hf; done)
  rename_i fs
  have hf := ofO_ok hf
  cases dx with
  | c c =>
    cases c <;> simp only at h <;> try (cases h; done)
    rename_i xs i' off
    cases h
    simp only [DRep] at hdx
    generalize hv : ρ x = v at hdx
    cases hdx with
    | rp _ _ _ b o k u hk hcell hrec =>
      refine ⟨_, run_fieldAt (und_ok hu) hf hi hz _ _ w, ?_⟩
      simp only [DRep]
      rw [Nat.add_assoc]
      exact .rp xs i' (off + fd.offset) b o k u hk hcell hrec
  | ptr b off =>
    simp only at h
    cases h
    obtain ⟨k, hk, hv⟩ := rep_ptr hdx
    rw [hv]
    refine ⟨_, run_fieldAt (und_ok hu) hf hi hz _ _ w, ?_⟩
    simp only [DRep]
    exact ⟨k, hk, rfl⟩
  | _ => cases h

theorem indexAddr_gives {t : TypeId} {x ix : Operand} {d : D} (h0 : opPure E e (.indexAddr t x ix) = some (.ok d)) (hop : ∀ d, e x = some d → DRep g w d (ρ x)) (hop2 : ∀ d, e ix = some d → DRep g w d (ρ ix)) :
    Gives E g w (Instr.indexAt t (ρ x) (ρ ix)) d := by
  simp only [opPure, Option.some.injEq] at h0
  obtain ⟨u, hu, h1⟩ := R.bind_ok h0
  obtain ⟨dx, hx, h2⟩ := R.bind_ok h1
  obtain ⟨di, hi, h⟩ := R.bind_ok h2
  clear h0 h1 h2
  have hdx := hop _ (ofO_ok hx)
  have hdi := hop2 _ (ofO_ok hi)
  have hu := und_ok hu
  cases di with
  | c ci => cases ci with
    | int k n => cases u with
      | slice el =>
        simp only at h
        rw [rep_int hdi]
        obtain ⟨sz, hsz, h⟩ := R.bind_ok h
        obtain ⟨xs, hxs, h⟩ := R.bind_ok h
        obtain ⟨it, hit, rfl⟩ := size_ok hsz
        obtain ⟨hn, h⟩ := ite_ok h
        cases hr : xs[n.toNat]? with
        | none => rw [hr] at h; cases h
        | some r =>
          rw [hr] at h
          obtain ⟨hlen, h⟩ := cond_ok h
          cases h
          rw [Nat.beq_eq] at hlen
          have hrep := rep_rows hdx (ofO_ok hxs)
          generalize ρ x = v at hrep
          cases hrep with
          | slNone f p cap h => simp at hr
          | sl f xs b o kk cap u hc hf hk hcell hrec =>
            have hlt : n.toNat < xs.length := (List.getElem?_eq_some_iff.1 hr).1
            have hkk := hk _ _ hr
            refine ⟨.pointer (some ⟨b, o + n.toNat * kk + 0, none⟩), ?_, ?_⟩
            · have hlt2 : n < (xs.length : Int) := by omega
              simp only [Instr.indexAt, asIntOf, Sem.run_bind, Sem.run_pure, Result.andThen_ok, run_underlying hu]
              rw [Sem.run_ite, if_pos ⟨hn, hlt2⟩]
              simp only [Sem.run_bind, run_sizeOf hit, Result.andThen_ok, Sem.run_pure, Addr.add_off]
              rw [← hlen, hkk, Nat.add_zero]
            · simp only [DRep]
              exact .rp xs n.toNat 0 b o kk u hk hcell hrec
      | array len el =>
        simp only at h
        rw [rep_int hdi]
        obtain ⟨sz, hsz, h⟩ := R.bind_ok h
        obtain ⟨it, hit, rfl⟩ := size_ok hsz
        obtain ⟨hn, h⟩ := ite_ok h
        cases dx with
        | ptr b off =>
          simp only at h
          cases h
          obtain ⟨q, hq, hv⟩ := rep_ptr hdx
          rw [hv]
          refine ⟨.pointer (some ⟨q, off + n.toNat * it.size, none⟩), ?_, ?_⟩
          · simp only [Instr.indexAt, asIntOf, Sem.run_bind, Sem.run_pure, Result.andThen_ok, run_underlying hu, Instr.sureAddr]
            rw [Sem.run_ite, if_pos hn]
            simp only [Sem.run_bind, run_sizeOf hit, Result.andThen_ok, Sem.run_pure, Addr.add_off]
          · simp only [DRep]; exact ⟨q, hq, rfl⟩
        | _ => cases h
      | _ => cases h
    | _ => cases u <;> cases h
  | _ => cases u <;> cases h

theorem index_gives {t : TypeId} {x ix : Operand} {d : D} (h0 : opPure E e (.index t x ix) = some (.ok d)) (hop : ∀ d, e x = some d → DRep g w d (ρ x)) (hop2 : ∀ d, e ix = some d → DRep g w d (ρ ix)) :
    Gives E g w (Instr.index t (ρ x) (ρ ix)) d := by
  simp only [opPure, Option.some.injEq] at h0
  obtain ⟨u, hu, h1⟩ := R.bind_ok h0
  obtain ⟨dx, hx, h2⟩ := R.bind_ok h1
  obtain ⟨di, hi, h⟩ := R.bind_ok h2
  clear h0 h1 h2
  have hdx := hop _ (ofO_ok hx)
  have hdi := hop2 _ (ofO_ok hi)
  have hu := und_ok hu
  cases u with
  | string => cases dx with
    | c cx => cases cx with
      | str s => cases di with
        | c ci => cases ci with
          | int k n =>
            simp only at h
            rw [rep_int hdi, rep_str hdx]
            obtain ⟨hn, h⟩ := ite_ok h
            cases hb : s[n.toNat]? with
            | none => rw [hb] at h; cases h
            | some b =>
              rw [hb] at h
              cases h
              refine ⟨_, ?_, mk_int _ _⟩
              simp only [Instr.index, asIntOf, Sem.run_bind, Sem.run_pure, Result.andThen_ok, run_underlying hu]
              rw [if_pos hn, hb]
              rfl
          | _ => cases h
        | _ => cases h
      | _ => cases h
    | _ => cases h
  | _ => cases h

theorem run_sliceBound1 {P : Program} (k : IntKind) (i : Int) (y : Nat) (c : BoundsCode) (h0 : 0 ≤ i) (h1 : i.toNat ≤ y) (w : World) : (Instr.sliceBound (.int k i) y c).run P w = .ok i.toNat w := by
  have : i ≤ (y : Int) := by omega
  simp [Instr.sliceBound, asIntOf, h0, this]

theorem bound_ok {x : Option Operand} {dflt n : Nat} (h : bound e x dflt = .ok n) (hop : ∀ y, x = some y → ∀ d, e y = some d → DRep g w d (ρ y)) :
    (x = none ∧ n = dflt) ∨ ∃ y k i, x = some y ∧ ρ y = .int k i ∧ 0 ≤ i ∧ n = i.toNat := by
  unfold bound at h
  cases x with
  | none => cases h; exact .inl ⟨rfl, rfl⟩
  | some y =>
    simp only at h
    split at h
    · rename_i k i hy
      obtain ⟨h0, h⟩ := ite_ok h
      cases h
      exact .inr ⟨y, k, i, rfl, rep_int (hop y rfl _ hy), h0, rfl⟩
    · cases h

theorem run_sliceBounds {P : Program} {isS : Bool} {len cap : Nat} {lo hi : Option Operand} {l h : Nat}
    (hh : bound e hi len = .ok h) (hl : bound e lo 0 = .ok l) (h1 : l ≤ h) (h2 : h ≤ cap)
    (hop : ∀ y, hi = some y → ∀ d, e y = some d → DRep g w d (ρ y)) (hop2 : ∀ y, lo = some y → ∀ d, e y = some d → DRep g w d (ρ y)) (w' : World) :
    (Instr.sliceBounds isS len cap (lo.map ρ) (hi.map ρ) none).run P w' = .ok (l, h, cap) w' := by
  have e1 := bound_ok hh hop
  have e2 := bound_ok hl hop2
  rcases e1 with ⟨rfl, rfl⟩ | ⟨y, k, i, rfl, hy, hi0, rfl⟩ <;> rcases e2 with ⟨rfl, rfl⟩ | ⟨y', k', i', rfl, hy', hi0', rfl⟩
  · simp [Instr.sliceBounds]
  · simp [Instr.sliceBounds, hy', run_sliceBound1 k' i' _ _ hi0' h1]
  · simp [Instr.sliceBounds, hy, run_sliceBound1 k i _ _ hi0 h2]
  · simp [Instr.sliceBounds, hy, hy', run_sliceBound1 k i _ _ hi0 h2, run_sliceBound1 k' i' _ _ hi0' h1]

theorem drop_rep {S : Nat → Nat → Prop} {w : World} {xs : List (List C)} {v : Value} (h : CRep S w (.sl false xs) v) {l hh : Nat} (h1 : l ≤ hh) (h2 : hh ≤ xs.length) :
    ∃ p cap b o k, v = .slice p xs.length cap ∧ xs.length ≤ cap ∧ (xs = [] ∨ (p = some ⟨b, o, none⟩ ∧ ∀ (i : Nat) (r : List C), xs[i]? = some r → r.length = k)) ∧
      ∀ cap', hh - l ≤ cap' → CRep S w (.sl false ((xs.take hh).drop l)) (.slice (some ⟨b, o + l * k, none⟩) (hh - l) cap') := by
  have hlen : ((xs.take hh).drop l).length = hh - l := by simp; omega
  cases h with
  | slNone f p cap h =>
    refine ⟨p, cap, 0, 0, 0, rfl, Nat.zero_le _, .inl rfl, fun cap' hc => ?_⟩
    have : hh = 0 := by simpa using h2
    subst this
    simp only [List.take_nil, List.drop_nil, Nat.zero_sub]
    exact .slNone _ _ _ (by simp)
  | sl f xs b o k cap u hc hf hk hcell hrec =>
    refine ⟨_, cap, b, o, k, rfl, hc, .inr ⟨rfl, hk⟩, fun cap' hc' => ?_⟩
    have hget : ∀ (i : Nat) (r : List C), ((xs.take hh).drop l)[i]? = some r → xs[l + i]? = some r := by
      intro i r hi
      rw [List.getElem?_drop] at hi
      rw [List.getElem?_take] at hi
      split at hi
      · exact hi
      · cases hi
    have := CRep.sl (S := S) (w := w) false ((xs.take hh).drop l) b (o + l * k) k cap' (fun i j => u (l + i) j) (by rw [hlen]; exact hc') (by simp) (fun i r hi => hk _ _ (hget i r hi))
      (fun i r j c hi hj => by
        have := hcell _ _ j c (hget i r hi) hj
        rw [show o + l * k + i * k + j = o + (l + i) * k + j by rw [Nat.add_mul]; omega]
        exact this)
      (fun i r j c hi hj => hrec _ _ j c (hget i r hi) hj)
    rw [hlen] at this
    simpa using this

theorem slice_gives {t : TypeId} {x : Operand} {lo hi : Option Operand} {d : D} (h0 : opPure E e (.slice t x lo hi none) = some (.ok d)) (hop : ∀ d, e x = some d → DRep g w d (ρ x))
    (hop1 : ∀ y, hi = some y → ∀ d, e y = some d → DRep g w d (ρ y)) (hop2 : ∀ y, lo = some y → ∀ d, e y = some d → DRep g w d (ρ y)) :
    Gives E g w (Instr.sliceAt t (ρ x) (lo.map ρ) (hi.map ρ) none) d := by
  simp only [opPure, Option.some.injEq] at h0
  obtain ⟨u, hu, h1⟩ := R.bind_ok h0
  obtain ⟨dx, hx, h⟩ := R.bind_ok h1
  clear h0 h1
  have hdx := hop _ (ofO_ok hx)
  have hu := und_ok hu
  cases u with
  | string => cases dx with
    | c cx => cases cx with
      | str s =>
        simp only at h
        obtain ⟨hh, hhb, h⟩ := R.bind_ok h
        obtain ⟨ll, hlb, h⟩ := R.bind_ok h
        obtain ⟨hc, h⟩ := cond_ok h
        cases h
        simp only [Bool.and_eq_true, Nat.ble_eq] at hc
        rw [rep_str hdx]
        refine ⟨_, ?_, mk_str _⟩
        have hb := run_sliceBounds (P := E.P) (isS := false) hhb hlb hc.1 hc.2 hop1 hop2 w
        simp [Instr.sliceAt, Instr.slice, run_underlying hu, hb]
      | _ => cases h
    | _ => cases h
  | slice el =>
    simp only at h
    obtain ⟨k, hk, h⟩ := R.bind_ok h
    obtain ⟨xs, hxs, h⟩ := R.bind_ok h
    obtain ⟨hh, hhb, h⟩ := R.bind_ok h
    obtain ⟨ll, hlb, h⟩ := R.bind_ok h
    obtain ⟨hc, h⟩ := cond_ok h
    cases h
    simp only [Bool.and_eq_true, Nat.ble_eq] at hc
    obtain ⟨⟨hc1, hc2⟩, hc3⟩ := hc
    obtain ⟨it, hit, rfl⟩ := size_ok hk
    have hrep := rep_rows hdx (ofO_ok hxs)
    obtain ⟨p, cap, b, o, k, hv, hcap, hpk, hmk⟩ := drop_rep hrep hc1 hc2
    rw [hv]
    have hb := run_sliceBounds (P := E.P) (isS := true) (cap := cap) hhb hlb hc1 (by omega) hop1 hop2 w
    have hrun : (Instr.sliceAt t (.slice p xs.length cap) (lo.map ρ) (hi.map ρ) none).run E.P w =
        .ok (.slice (if cap = ll then p else p.map (·.add (ll * it.size))) (hh - ll) (cap - ll)) w := by
      simp [Instr.sliceAt, Instr.slice, run_underlying hu, hb, run_sizeOf hit]
    refine ⟨_, hrun, ?_⟩
    simp only [DRep]
    by_cases hem : hh - ll = 0
    · have : (xs.take hh).drop ll = [] := by
        apply List.length_eq_zero_iff.1; simp; omega
      rw [this, hem]
      exact .slNone _ _ _ (by simp)
    · rcases hpk with rfl | ⟨rfl, hkk⟩
      · simp at hc2; omega
      · rw [if_neg (by omega)]
        have hk0 : it.size = k := by
          cases xs with
          | nil => simp at hc2; omega
          | cons r rs =>
            simp only [headFits, Nat.beq_eq] at hc3
            rw [← hc3]; exact hkk 0 r (by simp)
        have := hmk (cap - ll) (by omega)
        simpa [Addr.add_off, hk0] using this
  | _ => cases h

end

end Go.Vm
