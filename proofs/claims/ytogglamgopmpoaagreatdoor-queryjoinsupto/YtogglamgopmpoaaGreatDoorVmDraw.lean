/- Regions whose order is open: whatever order the edges let. -/
import Derived.Test.YtogglamgopmpoaaGreatDoorVmRegion
namespace Go.Vm
open Go.RowKit (Below)

/-! ## The trace of the text's order -/

def stAt : St → List Ent → Nat → St
  | σ, _, 0 => σ
  | σ, [], _ + 1 => σ
  | _, x :: xs, i + 1 => stAt x.σ xs i

def frAt (fa' : A) : List Ent → Nat → A
  | [], _ => fa'
  | x :: _, 0 => x.a
  | _ :: xs, i + 1 => frAt fa' xs i

def cnt : List Ent → Nat → Nat
  | _, 0 => 0
  | [], _ + 1 => 0
  | x :: xs, i + 1 => (if x.cls = 2 then 1 else 0) + cnt xs i

section
variable {E : Env} {r : Evs} {ops : Array Oper}

structure Fact (E : Env) (r : Evs) (ops : Array Oper) (o : Oper) (x : Ent) (id : Nat) (σ : St) (next : A) : Prop where
  want : want ops x.a o = .ok x.on
  off : x.on = false → x.cls = 3 ∧ x.d = .tup [] ∧ x.σ = σ
  on : x.on = true → evOp E r (opnd E x.a) id σ o.op = .ok (x.cls, x.d, x.σ)
  put : x.a.put o.dst x.d = .ok next

theorem evOps_facts : ∀ (rest : List Oper) (id : Nat) (fa : A) (σ : St) (tr : List Ent) (fa' : A) (σ' : St), evOps E r ops rest id fa σ = .ok (tr, fa', σ') →
    tr.length = rest.length ∧ stAt σ tr rest.length = σ' ∧ frAt fa' tr 0 = fa ∧ (∀ i, rest.length ≤ i → frAt fa' tr i = fa') ∧
      ∀ (j : Nat) (o : Oper) (x : Ent), rest[j]? = some o → tr[j]? = some x → x.a = frAt fa' tr j ∧ Fact E r ops o x (id + j) (stAt σ tr j) (frAt fa' tr (j + 1))
  | [], id, fa, σ, tr, fa', σ', h => by
    simp only [evOps] at h
    cases h
    exact ⟨rfl, rfl, rfl, fun i _ => rfl, fun j o x hj => by simp at hj⟩
  | o :: rest, id, fa, σ, tr, fa', σ', h => by
    simp only [evOps] at h
    obtain ⟨b, hw, h⟩ := R.bind_ok h
    cases b with
    | false =>
      simp only at h
      obtain ⟨fa1, hput, h⟩ := R.bind_ok h
      obtain ⟨⟨tr1, fa2, σ2⟩, hp, h⟩ := R.bind_ok h
      cases h
      obtain ⟨h1, h2, h3, h4, h5⟩ := evOps_facts rest (id + 1) fa1 σ tr1 _ _ hp
      refine ⟨by simp [h1], h2, rfl, fun i hi => ?_, fun j o' x hj hx => ?_⟩
      · cases i with
        | zero => simp at hi
        | succ i => exact h4 i (by simpa using hi)
      · cases j with
        | zero =>
          simp only [List.getElem?_cons_zero, Option.some.injEq] at hj hx
          subst hj; subst hx
          exact ⟨rfl, hw, fun _ => ⟨rfl, rfl, rfl⟩, fun h => (nomatch h), by simp only [frAt, h3]; exact hput⟩
        | succ j =>
          simp only [List.getElem?_cons_succ] at hj hx
          obtain ⟨q1, q2⟩ := h5 j o' x hj hx
          refine ⟨q1, ?_⟩
          rw [show id + (j + 1) = id + 1 + j by omega]
          exact q2
    | true =>
      simp only at h
      obtain ⟨⟨cls, d, σ1⟩, hq, h⟩ := R.bind_ok h
      obtain ⟨fa1, hput, h⟩ := R.bind_ok h
      obtain ⟨⟨tr1, fa2, σ2⟩, hp, h⟩ := R.bind_ok h
      cases h
      obtain ⟨h1, h2, h3, h4, h5⟩ := evOps_facts rest (id + 1) fa1 σ1 tr1 _ _ hp
      refine ⟨by simp [h1], h2, rfl, fun i hi => ?_, fun j o' x hj hx => ?_⟩
      · cases i with
        | zero => simp at hi
        | succ i => exact h4 i (by simpa using hi)
      · cases j with
        | zero =>
          simp only [List.getElem?_cons_zero, Option.some.injEq] at hj hx
          subst hj; subst hx
          exact ⟨rfl, hw, fun h => (nomatch h), fun _ => hq, by simp only [frAt, h3]; exact hput⟩
        | succ j =>
          simp only [List.getElem?_cons_succ] at hj hx
          obtain ⟨q1, q2⟩ := h5 j o' x hj hx
          refine ⟨q1, ?_⟩
          rw [show id + (j + 1) = id + 1 + j by omega]
          exact q2

/-- Only an effect turns the state. -/
def Steady : St → List Ent → Prop
  | _, [] => True
  | σ, x :: xs => (x.cls ≠ 2 → x.σ = σ) ∧ Steady x.σ xs

theorem steady_of : ∀ (tr : List Ent) (σ : St), (∀ (j : Nat) (x : Ent), tr[j]? = some x → x.cls ≠ 2 → x.σ = stAt σ tr j) → Steady σ tr
  | [], σ, _ => trivial
  | x :: xs, σ, h => ⟨h 0 x rfl, steady_of xs x.σ fun j y hy hc => h (j + 1) y (by simpa using hy) hc⟩

theorem epochs_at : ∀ (tr : List Ent) (σ : St), Steady σ tr → ∀ i, i ≤ tr.length → (epochs σ tr)[cnt tr i]? = some (stAt σ tr i)
  | [], σ, _, i, hi => by
    have : i = 0 := by simpa using hi
    subst this; rfl
  | x :: xs, σ, h, i, hi => by
    cases i with
    | zero =>
      simp only [cnt, stAt]
      unfold epochs
      by_cases hc : x.cls = 2
      · rw [hc]; rfl
      · have : Nat.beq x.cls 2 = false := by rw [← Bool.not_eq_true, Nat.beq_eq]; exact hc
        rw [this]
        simp only [cond_false]
        have hσ := h.1 hc
        have := epochs_at xs σ (by rw [← hσ]; exact h.2) 0 (Nat.zero_le _)
        simpa [cnt, stAt] using this
    | succ i =>
      simp only [cnt, stAt]
      have ih := epochs_at xs x.σ h.2 i (by simpa using hi)
      unfold epochs
      by_cases hc : x.cls = 2
      · rw [if_pos hc, hc]
        show (σ :: epochs x.σ xs)[1 + cnt xs i]? = _
        rw [Nat.add_comm, List.getElem?_cons_succ]; exact ih
      · have : Nat.beq x.cls 2 = false := by rw [← Bool.not_eq_true, Nat.beq_eq]; exact hc
        rw [if_neg hc, this, Nat.zero_add]
        simp only [cond_false]
        rw [← h.1 hc]; exact ih

theorem epochs_len : ∀ (tr : List Ent) (σ : St), (epochs σ tr).length = cnt tr tr.length + 1
  | [], σ => rfl
  | x :: xs, σ => by
    unfold epochs
    simp only [List.length_cons, cnt]
    by_cases hc : x.cls = 2
    · rw [if_pos hc, hc]
      show (σ :: epochs x.σ xs).length = _
      rw [List.length_cons, epochs_len xs]; omega
    · have : Nat.beq x.cls 2 = false := by rw [← Bool.not_eq_true, Nat.beq_eq]; exact hc
      rw [if_neg hc, this]
      simp only [cond_false]
      rw [epochs_len xs]; omega

theorem effs_at : ∀ (tr : List Ent) (s j : Nat) (x : Ent), tr[j]? = some x → x.cls = 2 → (effs tr s)[cnt tr j]? = some (s + j)
  | [], s, j, x, h, _ => by simp at h
  | y :: ys, s, j, x, h, hc => by
    unfold effs
    cases j with
    | zero =>
      simp only [List.getElem?_cons_zero, Option.some.injEq] at h
      subst h
      rw [hc]; rfl
    | succ j =>
      simp only [List.getElem?_cons_succ] at h
      have ih := effs_at ys (s + 1) j x h hc
      simp only [cnt]
      by_cases hy : y.cls = 2
      · rw [if_pos hy, hy]
        show (s :: effs ys (s + 1))[1 + cnt ys j]? = _
        rw [Nat.add_comm 1, List.getElem?_cons_succ, ih]; congr 1; omega
      · have : Nat.beq y.cls 2 = false := by rw [← Bool.not_eq_true, Nat.beq_eq]; exact hy
        rw [if_neg hy, this, Nat.zero_add]
        simp only [cond_false]
        rw [ih]; congr 1; omega

theorem effs_is : ∀ (tr : List Ent) (s t f : Nat), (effs tr s)[t]? = some f → ∃ j x, f = s + j ∧ tr[j]? = some x ∧ x.cls = 2 ∧ cnt tr j = t
  | [], s, t, f, h => by simp [effs] at h
  | y :: ys, s, t, f, h => by
    unfold effs at h
    by_cases hy : y.cls = 2
    · rw [hy] at h
      have h : (s :: effs ys (s + 1))[t]? = some f := h
      cases t with
      | zero =>
        simp only [List.getElem?_cons_zero, Option.some.injEq] at h
        exact ⟨0, y, by omega, rfl, hy, rfl⟩
      | succ t =>
        simp only [List.getElem?_cons_succ] at h
        obtain ⟨j, x, h1, h2, h3, h4⟩ := effs_is ys (s + 1) t f h
        exact ⟨j + 1, x, by omega, by simpa using h2, h3, by simp only [cnt, if_pos hy]; omega⟩
    · have hb : Nat.beq y.cls 2 = false := by rw [← Bool.not_eq_true, Nat.beq_eq]; exact hy
      rw [hb] at h
      simp only [cond_false] at h
      obtain ⟨j, x, h1, h2, h3, h4⟩ := effs_is ys (s + 1) t f h
      exact ⟨j + 1, x, by omega, by simpa using h2, h3, by simp only [cnt, if_neg hy]; omega⟩

theorem effs_len : ∀ (tr : List Ent) (s : Nat), (effs tr s).length = cnt tr tr.length
  | [], s => rfl
  | y :: ys, s => by
    unfold effs
    simp only [List.length_cons, cnt]
    by_cases hy : y.cls = 2
    · rw [if_pos hy, hy]
      show (s :: effs ys (s + 1)).length = _
      rw [List.length_cons, effs_len ys]; omega
    · have hb : Nat.beq y.cls 2 = false := by rw [← Bool.not_eq_true, Nat.beq_eq]; exact hy
      rw [if_neg hy, hb]
      simp only [cond_false]
      rw [effs_len ys]; omega

theorem ordered_spec {m : List Nat} : ∀ {fs : List Nat}, ordered m fs = true → ∀ (s t f f' : Nat), s < t → fs[s]? = some f → fs[t]? = some f' → (m.getD f' 0).testBit f = true
  | [], _, s, t, f, f', _, h, _ => by simp at h
  | x :: xs, h, s, t, f, f', hst, hs, ht => by
    simp only [ordered, Bool.and_eq_true] at h
    cases t with
    | zero => omega
    | succ t =>
      simp only [List.getElem?_cons_succ] at ht
      cases s with
      | zero =>
        simp only [List.getElem?_cons_zero, Option.some.injEq] at hs
        subst hs
        exact List.all_eq_true.1 h.1 f' (List.mem_of_getElem? ht)
      | succ s =>
        simp only [List.getElem?_cons_succ] at hs
        exact ordered_spec h.2 s t f f' (by omega) hs ht

theorem lookOK_spec {m fs : List Nat} {o : Oper} {x : Ent} {i k : Nat} : ∀ {τ : List St} {c0 : Nat}, lookOK E m fs o x i k τ c0 = true → ∀ (c : Nat) (σ : St), τ[c]? = some σ →
    (c0 + c = k) ∨ (∃ j ∈ fs.take (c0 + c), (m.getD j 0).testBit i = true) ∨ (∃ j ∈ fs.drop (c0 + c), (m.getD i 0).testBit j = true) ∨ stable E o x σ = true
  | [], _, _, c, σ, h => by simp at h
  | σ0 :: τ, c0, h, c, σ, hc => by
    simp only [lookOK, Bool.and_eq_true, Bool.or_eq_true, Nat.beq_eq] at h
    cases c with
    | zero =>
      simp only [List.getElem?_cons_zero, Option.some.injEq] at hc
      subst hc
      rcases h.1 with ((h1 | h1) | h1) | h1
      · exact .inl h1
      · obtain ⟨j, hj, hb⟩ := List.any_eq_true.1 h1; exact .inr (.inl ⟨j, hj, hb⟩)
      · obtain ⟨j, hj, hb⟩ := List.any_eq_true.1 h1; exact .inr (.inr (.inl ⟨j, hj, hb⟩))
      · exact .inr (.inr (.inr h1))
    | succ c =>
      simp only [List.getElem?_cons_succ] at hc
      have := lookOK_spec h.2 c σ hc
      rw [show c0 + (c + 1) = c0 + 1 + c by omega]
      exact this

theorem looksOK_spec {m fs : List Nat} {τ : List St} : ∀ {os : List Oper} {xs : List Ent} {i k : Nat}, looksOK E m fs τ os xs i k = true →
    ∀ (j : Nat) (o : Oper) (x : Ent), os[j]? = some o → xs[j]? = some x → x.cls = 1 → lookOK E m fs o x (i + j) (k + cnt xs j) τ 0 = true
  | [], xs, i, k, _, j, o, x, ho, _, _ => by simp at ho
  | o0 :: os, [], i, k, _, j, o, x, _, hx, _ => by simp at hx
  | o0 :: os, x0 :: xs, i, k, h, j, o, x, ho, hx, hc => by
    simp only [looksOK, Bool.and_eq_true, Bool.or_eq_true, Bool.not_eq_true'] at h
    cases j with
    | zero =>
      simp only [List.getElem?_cons_zero, Option.some.injEq] at ho hx
      subst ho; subst hx
      have hb : Nat.beq x0.cls 1 = true := by rw [Nat.beq_eq]; exact hc
      rcases h.1 with h1 | h1
      · rw [hb] at h1; cases h1
      · exact h1
    | succ j =>
      simp only [List.getElem?_cons_succ] at ho hx
      have := looksOK_spec h.2 j o x ho hx hc
      simp only [cnt]
      by_cases hy : x0.cls = 2
      · have hb : Nat.beq x0.cls 2 = true := by rw [Nat.beq_eq]; exact hy
        rw [hb] at this
        simp only [cond_true] at this
        rw [if_pos hy, show i + (j + 1) = i + 1 + j by omega, show k + (1 + cnt xs j) = k + 1 + cnt xs j by omega]
        exact this
      · have hb : Nat.beq x0.cls 2 = false := by rw [← Bool.not_eq_true, Nat.beq_eq]; exact hy
        rw [hb] at this
        simp only [cond_false] at this
        rw [if_neg hy, show i + (j + 1) = i + 1 + j by omega, Nat.zero_add]
        exact this

/-! ## Masks -/

theorem maskFold (acc : List Nat) (j : Nat) : ∀ (l : List Edge) (s : Nat),
    (l.foldl (fun s e => bif Region.binds .any e then s ||| (1 <<< e.on) ||| acc.getD e.on 0 else s) s).testBit j = true →
      s.testBit j = true ∨ ∃ e ∈ l, Region.binds .any e = true ∧ (e.on = j ∨ (acc.getD e.on 0).testBit j = true)
  | [], s, h => .inl h
  | e :: l, s, h => by
    rw [List.foldl_cons] at h
    rcases maskFold acc j l _ h with h | ⟨e', he', h'⟩
    · cases hb : Region.binds .any e with
      | false => rw [hb] at h; exact .inl h
      | true =>
        rw [hb] at h
        simp only [cond_true, Nat.testBit_or, Bool.or_eq_true] at h
        rcases h with (h | h) | h
        · exact .inl h
        · refine .inr ⟨e, by simp, hb, .inl ?_⟩
          rw [Nat.one_shiftLeft, Nat.testBit_two_pow] at h
          simpa using h
        · exact .inr ⟨e, by simp, hb, .inr h⟩
    · exact .inr ⟨e', by simp [he'], h'⟩

theorem masks_len : ∀ (os : List Oper) (acc : List Nat), (masks os acc).length = acc.length + os.length
  | [], acc => by simp [masks]
  | o :: os, acc => by rw [masks, masks_len os]; simp; omega

theorem masks_pre : ∀ (os : List Oper) (acc : List Nat) (j : Nat), j < acc.length → (masks os acc)[j]? = acc[j]?
  | [], acc, j, _ => rfl
  | o :: os, acc, j, h => by
    rw [masks, masks_pre os _ j (by simp; omega), List.getElem?_append_left h]

theorem masks_at : ∀ (os : List Oper) (acc : List Nat) (j : Nat) (o : Oper), os[j]? = some o → (masks os acc)[acc.length + j]? = some (maskOf ((masks os acc).take (acc.length + j)) o)
  | [], acc, j, o, h => by simp at h
  | o0 :: os, acc, j, o, h => by
    rw [masks]
    cases j with
    | zero =>
      simp only [List.getElem?_cons_zero, Option.some.injEq] at h
      subst h
      have ht : (masks os (acc ++ [maskOf acc o0])).take acc.length = acc := by
        apply List.ext_getElem?
        intro i
        by_cases hi : i < acc.length
        · rw [List.getElem?_take_of_lt hi, masks_pre _ _ _ (by simp; omega), List.getElem?_append_left hi]
        · rw [List.getElem?_eq_none (by simp; omega), List.getElem?_eq_none (by omega)]
      rw [Nat.add_zero, ht, masks_pre _ _ _ (by simp), List.getElem?_append_right (by omega)]
      simp
    | succ j =>
      simp only [List.getElem?_cons_succ] at h
      have := masks_at os (acc ++ [maskOf acc o0]) j o h
      rw [List.length_append, List.length_singleton, show acc.length + 1 + j = acc.length + (j + 1) by omega] at this
      exact this

theorem mask_bit {os : List Oper} {i : Nat} {o : Oper} (ho : os[i]? = some o) (hlt : ∀ e ∈ o.after.toList, Region.binds .any e = true → e.on < i) {j : Nat}
    (h : ((masks os []).getD i 0).testBit j = true) : ∃ e ∈ o.after.toList, Region.binds .any e = true ∧ (e.on = j ∨ ((masks os []).getD e.on 0).testBit j = true) := by
  have hm := masks_at os [] i o ho
  rw [List.length_nil, Nat.zero_add] at hm
  rw [List.getD_eq_getElem?_getD, hm, Option.getD_some, maskOf] at h
  rcases maskFold _ j _ _ h with h | ⟨e, he, hb, h⟩
  · simp at h
  · refine ⟨e, he, hb, h.imp (fun h => h) fun h => ?_⟩
    rw [List.getD_eq_getElem?_getD] at h ⊢
    rwa [List.getElem?_take_of_lt (hlt e he hb)] at h

theorem downTo_spec {f : Nat → Bool} : ∀ {n : Nat}, downTo n f = true → ∀ i, i < n → f i = true
  | 0, _, i, h => by omega
  | n + 1, h, i, hi => by
    simp only [downTo, Bool.and_eq_true] at h
    by_cases he : i = n
    · subst he; exact h.1
    · exact downTo_spec h.2 i (by omega)

end

end Go.Vm
