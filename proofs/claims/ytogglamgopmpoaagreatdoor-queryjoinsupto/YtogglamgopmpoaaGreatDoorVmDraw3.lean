/- A region whose order is open: all of its orders. -/
import Derived.Test.YtogglamgopmpoaaGreatDoorVmDraw2
namespace Go.Vm
open Go.RowKit (Below)

/-- How many have not been carried out. -/
def cntU (l : Array Bool) : Nat → Nat
  | 0 => 0
  | n + 1 => cntU l n + (if l.getD n false = true then 0 else 1)

theorem cntU_set {l : Array Bool} {i : Nat} (hi : i < l.size) (hf : l.getD i false = false) : ∀ (n : Nat),
    (i < n → cntU (l.setIfInBounds i true) n + 1 = cntU l n) ∧ (n ≤ i → cntU (l.setIfInBounds i true) n = cntU l n)
  | 0 => ⟨fun h => by omega, fun _ => rfl⟩
  | n + 1 => by
    obtain ⟨h1, h2⟩ := cntU_set hi hf n
    have hne : n ≠ i → (l.setIfInBounds i true).getD n false = l.getD n false := fun hj => getD_set_ne false (fun h => hj h.symm)
    have heq : (l.setIfInBounds i true).getD i false = true := by simp [Array.getD_eq_getD_getElem?, hi]
    refine ⟨fun h => ?_, fun h => ?_⟩
    · simp only [cntU]
      by_cases hn : n = i
      · subst hn
        rw [heq, hf, h2 (Nat.le_refl _)]; simp
      · rw [hne hn]
        have := h1 (by omega)
        omega
    · simp only [cntU]
      rw [hne (by omega), h2 (by omega)]

theorem cntU_zero {l : Array Bool} : ∀ {n : Nat}, cntU l n = 0 → ∀ i, i < n → l.getD i false = true
  | 0, _, i, h => by omega
  | n + 1, h, i, hi => by
    simp only [cntU] at h
    by_cases hn : i = n
    · subst hn
      cases hl : l.getD i false with
      | true => rfl
      | false => rw [hl] at h; simp at h
    · exact cntU_zero (n := n) (by omega) i (by omega)

theorem cntU_le {l : Array Bool} : ∀ (n : Nat), cntU l n ≤ n
  | 0 => Nat.le_refl _
  | n + 1 => by
    have := cntU_le (l := l) n
    simp only [cntU]
    split <;> omega

section
variable {E : Env} {base : Nat} {w0 : World} {S0 : Nat → Nat → Prop} {r : Evs} {ops : Array Oper}

theorem ready_none (hst : drawStatic ops = true) {listed : Array Bool} (hsz : listed.size = ops.size) (h : Region.ready .any ops listed = []) : ∀ (i : Nat), i < ops.size → listed.getD i false = true := by
  intro i
  induction i using Nat.strongRecOn with
  | _ i ih =>
    intro hi
    cases hl : listed.getD i false with
    | true => rfl
    | false =>
      exfalso
      have ho : ops[i]? = some ops[i] := Array.getElem?_eq_getElem hi
      have : i ∈ Region.ready .any ops listed := by
        refine mem_ready.2 ⟨?_, _, ho, fun e he hb => ih e.on (static_edge hst ho e (by simpa using he) hb) ?_⟩
        · have hls : i < listed.size := by omega
          have hg : listed[i]? = some listed[i] := Array.getElem?_eq_getElem hls
          simp only [Array.getD_eq_getD_getElem?] at hl ⊢
          rw [hg] at hl ⊢; exact hl
        · have := static_edge hst ho e (by simpa using he) hb
          omega
      rw [h] at this; cases this

theorem any_inv (hE : EnvOK E) (hr : CallOK E r) {tr : List Ent} {fa fa' : A} {n0 : Nat} {σ0 : St} {g0 : Ghost} {ws : World}
    (hst : drawStatic ops = true) (hord : ordered (masks ops.toList []) (effs tr 0) = true)
    (hlook : looksOK E (masks ops.toList []) (effs tr 0) (epochs σ0 tr) ops.toList tr 0 0 = true)
    (hlen : tr.length = ops.size) (hf0 : frAt fa' tr 0 = fa)
    (hfacts : ∀ (j : Nat) (o : Oper) (x : Ent), ops[j]? = some o → tr[j]? = some x → x.a = frAt fa' tr j ∧ Fact E r ops o x (n0 + j) (stAt σ0 tr j) (frAt fa' tr (j + 1)))
    (hsteady : Steady σ0 tr) {Q : Exit → Act → World → Prop}
    (hQ : ∀ listed act w, Inv E base w0 S0 ops tr fa n0 σ0 g0 ws listed act w → (∀ (i : Nat), i < ops.size → listed.getD i false = true) → Q .normal act w) :
    ∀ (fuel : Nat) (listed : Array Bool) (act : Act) (w : World), Inv E base w0 S0 ops tr fa n0 σ0 g0 ws listed act w → cntU listed ops.size ≤ fuel → wpAny E.P .any ops Q fuel listed act w
  | 0, listed, act, w, hI, hc => by
    have hall := cntU_zero (by omega : cntU listed ops.size = 0)
    refine ⟨?_, hQ listed act w hI hall⟩
    refine List.eq_nil_iff_forall_not_mem.2 fun i hi => ?_
    obtain ⟨hun, o, ho, _⟩ := mem_ready.1 hi
    have hilt : i < ops.size := (Array.getElem?_eq_some_iff.1 ho).1
    have := hall i hilt
    have hls : i < listed.size := by rw [hI.size]; exact hilt
    have hg : listed[i]? = some listed[i] := Array.getElem?_eq_getElem hls
    simp only [Array.getD_eq_getD_getElem?] at hun this
    rw [hg] at hun this
    simp only [Option.getD_some] at hun this
    rw [hun] at this; cases this
  | fuel + 1, listed, act, w, hI, hc => by
    refine ⟨fun h => hQ listed act w hI (ready_none hst hI.size h), fun i hi => ?_⟩
    refine inv_step hE hr hst hord hlook hlen hf0 hfacts hsteady hI hi ?_
    intro act' w' hI'
    refine any_inv hE hr hst hord hlook hlen hf0 hfacts hsteady hQ fuel _ act' w' hI' ?_
    obtain ⟨hun, o, ho, _⟩ := mem_ready.1 hi
    have hilt : i < ops.size := (Array.getElem?_eq_some_iff.1 ho).1
    have hls : i < listed.size := by rw [hI.size]; exact hilt
    have hf : listed.getD i false = false := by
      have hg : listed[i]? = some listed[i] := Array.getElem?_eq_getElem hls
      simp only [Array.getD_eq_getD_getElem?] at hun ⊢
      rw [hg] at hun ⊢; exact hun
    have := (cntU_set hls hf ops.size).1 hilt
    omega

/-- All orders of a region come to what the text's order comes to. -/
theorem draw_sound (hE : EnvOK E) (hr : CallOK E r) {fa fa' : A} {σ0 σ' : St} {tr : List Ent} {n0 : Nat} (h : evOps E r ops ops.toList n0 fa σ0 = .ok (tr, fa', σ'))
    (hst : drawStatic ops = true) (hdyn : drawDyn E ops σ0 tr = true) {g : Ghost} {δ : Nat → Option Nat} {act : Act} {w : World} (hs : SRel E base w0 S0 g δ σ0 w) (ha : ARel g fa act w)
    (hid : ∀ (i : Nat), n0 ≤ i → g.β i = none) (hn : n0 + ops.size ≤ σ0.n) {Q : Exit → Act → World → Prop}
    (hQ : ∀ g' δ' act' w', Le g g' w w' → SRel E base w0 S0 g' δ' σ' w' → ARel g' fa' act' w' → (∀ (b : Nat), b < n0 → g'.β b = g.β b) → Q .normal act' w') (id : Nat) :
    (Code.region id ops true).wp E.P Q act w := by
  refine wp_region_any hE.mixed ?_
  obtain ⟨h1, h2, h3, h4, h5⟩ := evOps_facts _ _ _ _ _ _ _ h
  have hlen : tr.length = ops.size := by simpa using h1
  simp only [drawDyn, Bool.and_eq_true] at hdyn
  have hfacts : ∀ (j : Nat) (o : Oper) (x : Ent), ops[j]? = some o → tr[j]? = some x → x.a = frAt fa' tr j ∧ Fact E r ops o x (n0 + j) (stAt σ0 tr j) (frAt fa' tr (j + 1)) :=
    fun j o x ho hx => h5 j o x (by simpa using ho) hx
  have hsteady : Steady σ0 tr := by
    refine steady_of tr σ0 fun j x hx hc => ?_
    have hj : j < ops.size := by have := (List.getElem?_eq_some_iff.1 hx).1; omega
    obtain ⟨_, hf⟩ := hfacts j _ x (Array.getElem?_eq_getElem hj) hx
    cases hon : x.on with
    | false => exact (hf.off hon).2.2
    | true =>
      rcases evOp_cls (hf.on hon) with h9 | ⟨_, h9, _⟩ | ⟨_, h9, _⟩
      · exact absurd h9 hc
      · exact h9
      · exact h9
  have hfalse : ∀ j, (Array.replicate ops.size false).getD j false = true → False := by
    intro j hj
    rw [Array.getD_eq_getD_getElem?] at hj
    by_cases hjs : j < ops.size
    · simp [hjs] at hj
    · simp [hjs] at hj
  refine any_inv (base := base) (w0 := w0) (S0 := S0) hE hr (fa := fa) (fa' := fa') (tr := tr) (n0 := n0) (σ0 := σ0) (g0 := g) (ws := w) hst hdyn.1 hdyn.2 hlen h3 hfacts hsteady ?_ ops.size _ act _ ?_ (cntU_le _)
  · intro listed act' w' hI hall
    obtain ⟨k, g', δ', τ, hτ, hk, hs', hle, hid', hβ, hn', hnt, hdf, hslot⟩ := hI.ex
    have hk1 : (effs tr 0).length ≤ k := by
      rcases Nat.lt_or_ge k (effs tr 0).length with h' | h'
      · have hf := List.getElem?_eq_getElem h'
        obtain ⟨j, x, q1, q2, _⟩ := effs_is tr 0 k _ hf
        have hj : j < ops.size := by have := (List.getElem?_eq_some_iff.1 q2).1; omega
        have := (hk k _ hf).1 (hall _ (by omega))
        omega
      · exact h'
    have hk2 : k < (epochs σ0 tr).length := (List.getElem?_eq_some_iff.1 hτ).1
    rw [epochs_len, ← effs_len tr 0] at hk2
    have hke : k = cnt tr tr.length := by rw [← effs_len tr 0]; omega
    have hτ2 := epochs_at tr σ0 hsteady tr.length (Nat.le_refl _)
    rw [← hke, hτ] at hτ2
    have h2' : stAt σ0 tr tr.length = σ' := by rw [h1]; exact h2
    rw [h2'] at hτ2
    cases hτ2
    obtain ⟨hfnt, hfr⟩ := fr_slot h3 hlen (fun j o x q1 q2 => by obtain ⟨p1, p2⟩ := hfacts j o x q1 q2; rw [← p1]; exact p2.put) ops.size (Nat.le_refl _)
    have hfa' : frAt fa' tr ops.size = fa' := h4 _ (by simp)
    rw [hfa'] at hfnt hfr
    refine hQ g' δ' act' w' hle hs' ⟨by rw [hnt, hfnt], fun t => ?_, hdf⟩ hβ
    rcases hfr t with ⟨j, oj, xj, q1, q2, q3, q4, q5, q6⟩ | ⟨q1, q2⟩
    · rw [q6]
      rcases hslot t with ⟨j', oj', xj', p1, p2, p3, p4, p5, p6⟩ | ⟨p1, p2⟩
      · have hj' : j' < ops.size := (Array.getElem?_eq_some_iff.1 p1).1
        have : j = j' := by
          rcases Nat.lt_trichotomy j j' with h | h | h
          · exact absurd p4 (q5 j' oj' h hj' p1)
          · exact h
          · exact absurd q4 (p5 j oj h q1 (hall j q3))
        subst this
        rw [q2] at p2; cases p2
        exact p6
      · exact absurd q4 (p1 j oj q1 (hall j q3))
    · rw [q2]
      rcases hslot t with ⟨j', oj', xj', p1, p2, p3, p4, p5, p6⟩ | ⟨p1, p2⟩
      · exact absurd p4 (q1 j' oj' p1 (Array.getElem?_eq_some_iff.1 p1).1)
      · exact p2
  · refine ⟨by simp, fun i hi => (hfalse i hi).elim, 0, g, δ, σ0, ?_, fun t f _ => ⟨fun h => (hfalse f h).elim, fun h => by omega⟩, hs.drew, Le.drew g w, fun i _ _ => hid _ (by omega), fun _ _ => rfl, hn, ha.nt, ha.defers, fun t => .inr ⟨fun i o _ h => (hfalse i h).elim, DRep.mono (Le.drew g w) _ _ (ha.tmps t)⟩⟩
    have := epochs_at tr σ0 hsteady 0 (Nat.zero_le _)
    simpa [cnt, stAt] using this

end

end Go.Vm
