/- How the state's relation passes over a store into a box, an append in place, and what maps do. -/
import Derived.Test.YtogglamgopmpoaaGreatDoorVmState
namespace Go.Vm
open Go.RowKit (Below)

section
variable {E : Env} {base : Nat} {w0 : World} {S0 : Nat → Nat → Prop} {g : Ghost} {δ : Nat → Option Nat} {σ : St} {w : World}

theorem heap_setCells (b : Nat) : ∀ (vs : List Value) (o : Nat) (w : World) (k : Nat), k ≠ b → (w.setCells b o vs).heap[k]? = w.heap[k]?
  | [], _, _, _, _ => rfl
  | v :: r, o, w, k, h => by rw [World.setCells, heap_setCells b r (o + 1) _ k h, Below.heap_setCell _ _ _ _ h]

theorem size_setCells (b : Nat) : ∀ (vs : List Value) (o : Nat) (w : World), (w.setCells b o vs).heap.size = w.heap.size
  | [], _, _ => rfl
  | v :: r, o, w => by rw [World.setCells, size_setCells b r (o + 1)]; simp [World.setCell]

theorem below_setCells {B : Nat} {a : World} (b : Nat) (hb : B ≤ b) : ∀ (vs : List Value) (o : Nat) (w : World), Below B a w → Below B a (w.setCells b o vs)
  | [], _, _, h => h
  | v :: r, o, _, h => below_setCells b hb r (o + 1) _ (h.setCell hb v)

theorem cell_setCells_block (b : Nat) (vs : List Value) (o : Nat) (w : World) (k x : Nat) (h : k ≠ b) : (w.setCells b o vs).cell? ⟨k, x, none⟩ = w.cell? ⟨k, x, none⟩ :=
  World.cell?_setCells_out b vs o w _ (fun h1 _ => absurd h1 h)

theorem setAt_some {cs cs' ds : List D} {off : Nat} (h : setAt cs off ds = some cs') : off + ds.length ≤ cs.length ∧ cs' = cs.take off ++ ds ++ cs.drop (off + ds.length) := by
  unfold setAt at h
  cases hb : Nat.ble (off + ds.length) cs.length with
  | false => rw [hb] at h; cases h
  | true => rw [hb] at h; rw [Nat.ble_eq] at hb; cases h; exact ⟨hb, rfl⟩

theorem setAt_get {cs ds : List D} {off : Nat} (h : off + ds.length ≤ cs.length) (i : Nat) (d : D) (hi : (cs.take off ++ ds ++ cs.drop (off + ds.length))[i]? = some d) :
    (off ≤ i ∧ i < off + ds.length ∧ ds[i - off]? = some d) ∨ ((i < off ∨ off + ds.length ≤ i) ∧ cs[i]? = some d) := by
  have hl : (cs.take off).length = off := by simp; omega
  by_cases h1 : i < off
  · right
    refine ⟨.inl h1, ?_⟩
    rw [List.append_assoc, List.getElem?_append_left (by omega), List.getElem?_take_of_lt h1] at hi
    exact hi
  · by_cases h2 : i < off + ds.length
    · left
      refine ⟨by omega, h2, ?_⟩
      rw [List.append_assoc, List.getElem?_append_right (by omega), hl, List.getElem?_append_left (by omega)] at hi
      exact hi
    · right
      refine ⟨.inr (by omega), ?_⟩
      rw [List.getElem?_append_right (by simp; omega), List.getElem?_drop] at hi
      rw [← hi]; congr 1; simp; omega

theorem SRel.store (hs : SRel E base w0 S0 g δ σ w) {b off : Nat} {cs cs' ds : List D} {vs : List Value} {k : Nat} (hb : σ.box.get b = some cs) (hk : g.β b = some k)
    (hset : setAt cs off ds = some cs') (hall : ds.all cellLike = true) (hr : DReps g w ds vs) :
    (∀ j, j < vs.length → (w.cell? ⟨k, off + j, none⟩).isSome = true) ∧ (∀ j, j < vs.length → w.frozen? ⟨k, off + j, none⟩ = false) ∧
    Le g g w (w.setCells k off vs) ∧ SRel E base w0 S0 g δ { σ with box := σ.box.set b cs' } (w.setCells k off vs) := by
  obtain ⟨hle0, rfl⟩ := setAt_some hset
  have hlen := hr.length
  obtain ⟨k', hk', hbox⟩ := hs.box b cs hb
  rw [hk] at hk'; cases hk'
  have hcellk : ∀ j, j < vs.length → ∃ d, cs[off + j]? = some d := fun j hj => ⟨cs[off + j]'(by omega), List.getElem?_eq_getElem _⟩
  have hsome : ∀ j, j < vs.length → (w.cell? ⟨k, off + j, none⟩).isSome = true := by
    intro j hj
    obtain ⟨d, hd⟩ := hcellk j hj
    obtain ⟨_, v, hv, _⟩ := hbox _ d hd
    rw [hv]; rfl
  have hfroz : ∀ j, j < vs.length → w.frozen? ⟨k, off + j, none⟩ = false := by
    intro j hj
    obtain ⟨d, hd⟩ := hcellk j hj
    obtain ⟨_, v, _, hf, _⟩ := hbox _ d hd
    exact hf
  have hSk : ∀ x, ¬ g.S k x := fun x => hs.boxS b k x hk
  have hle : Le g g w (w.setCells k off vs) := ⟨fun _ _ h => h, fun b' x h => cell_setCells_block k vs off w b' x (by rintro rfl; exact hSk x h), fun _ _ h => h, fun _ _ _ h => h, fun _ _ h => h⟩
  have hbk := hs.boxlt b k hk
  refine ⟨hsome, hfroz, hle, ?_⟩
  constructor
  · exact below_setCells k hbk.2.1 vs off w hs.below
  · exact hs.base_le
  · exact hs.lo
  · exact hs.fact
  · exact hs.s0
  · exact hs.s1
  · intro b' x h
    obtain ⟨v, hv⟩ := hs.live b' x h
    exact ⟨v, by rw [hle.w b' x h]; exact hv⟩
  · exact fun q c h => (hs.glob q c h).mono hle.S hle.w
  · intro b' k' h
    rw [size_setCells]; exact hs.boxlt b' k' h
  · exact hs.boxinj
  · exact hs.boxS
  · intro b' es h
    simp only at h
    by_cases hbb : b' = b
    · subst hbb
      rw [Tr.get_set_same] at h
      cases h
      refine ⟨k, hk, fun i d hi => ?_⟩
      rcases setAt_get hle0 i d hi with ⟨h1, h2, h3⟩ | ⟨h1, h3⟩
      · obtain ⟨v, hv, hd⟩ := hr.at _ d h3
        refine ⟨List.all_eq_true.1 hall d (List.mem_of_getElem? h3), v, ?_, ?_, DRep.mono hle _ _ hd⟩
        · have hj : i - off < vs.length := (List.getElem?_eq_some_iff.1 hv).1
          have := World.cell?_setCells_in k vs off w hsome (i - off) hj
          rw [show off + (i - off) = i by omega] at this
          rw [this, ← hv, List.getElem?_eq_getElem hj]
        · have hj : i - off < vs.length := (List.getElem?_eq_some_iff.1 hv).1
          rw [World.frozen?_setCells]
          have := hfroz (i - off) hj
          rwa [show off + (i - off) = i by omega] at this
      · obtain ⟨h4, v, h5, h6, h7⟩ := hbox i d h3
        exact ⟨h4, v, by rw [World.cell?_setCells_out k vs off w _ (fun _ _ => by simp only; omega)]; exact h5, by rw [World.frozen?_setCells]; exact h6, DRep.mono hle _ _ h7⟩
    · rw [Tr.get_set_other _ _ _ _ hbb] at h
      obtain ⟨k', hk', ha⟩ := hs.box b' es h
      have hne : k' ≠ k := by rintro rfl; exact hbb (hs.boxinj _ _ _ hk' hk)
      refine ⟨k', hk', fun i d hi => ?_⟩
      obtain ⟨h4, v, h5, h6, h7⟩ := ha i d hi
      exact ⟨h4, v, by rw [cell_setCells_block _ _ _ _ _ _ hne]; exact h5, by rw [World.frozen?_setCells]; exact h6, DRep.mono hle _ _ h7⟩
  · exact hs.tokγ
  · intro t p h
    obtain ⟨h1, v, h2, h3⟩ := hs.tok t p h
    obtain ⟨b', o, cap, h4, h5, h6, h7, h8⟩ := h3.is
    have hne : b' ≠ k := by rintro rfl; exact (hs.tokδ t _ h6).2.2.2 b hk
    refine ⟨h1, v, h2, ⟨b', o, cap, h4, h5, h6, h7, fun x hx hx' => ?_⟩⟩
    obtain ⟨⟨u, hu⟩, hf, hns⟩ := h8 x hx hx'
    exact ⟨⟨u, by rw [cell_setCells_block _ _ _ _ _ _ hne]; exact hu⟩, by rw [World.frozen?_setCells]; exact hf, hns⟩
  · intro t b' h
    rw [size_setCells]; exact hs.tokδ t b' h
  · exact hs.tokinj
  · intro m q h
    rw [size_setCells]; exact hs.mapμ m q h
  · exact hs.mapinj
  · intro m es h
    obtain ⟨q, hq, l, clock, h1, h2, h3⟩ := hs.map m es h
    have hne : q ≠ k := by rintro rfl; exact (hs.mapμ m _ hq).2.2.2.2.1 b hk
    exact ⟨q, hq, l, clock, by rw [heap_setCells _ _ _ _ _ hne]; exact h1, h2, fun i x p hx hp => ⟨(h3 i x p hx hp).1, DRep.mono hle _ _ (h3 i x p hx hp).2⟩⟩

/-- An append that finds room. -/
theorem SRel.room (hs : SRel E base w0 S0 g δ σ w) {t n k m b o cap : Nat} {vs : List Value} (ht : σ.tok.get t = some (n, k)) (hγ : g.γ t n = some (.slice (some ⟨b, o, none⟩) n cap))
    (hm : 0 < m) (hroom : n + m ≤ cap) (hvs : vs.length = m * k) :
    (∀ j, j < vs.length → (w.cell? ⟨b, o + n * k + j, none⟩).isSome = true) ∧ (∀ j, j < vs.length → w.frozen? ⟨b, o + n * k + j, none⟩ = false) ∧
    Le g { g with S := fun b' x => g.S b' x ∨ (b' = b ∧ o + n * k ≤ x ∧ x < o + (n + m) * k), γ := fun t' n' => if t' = t ∧ n' = n + m then some (.slice (some ⟨b, o, none⟩) (n + m) cap) else g.γ t' n' }
      w (w.setCells b (o + n * k) vs) ∧
    SRel E base w0 S0 { g with S := fun b' x => g.S b' x ∨ (b' = b ∧ o + n * k ≤ x ∧ x < o + (n + m) * k), γ := fun t' n' => if t' = t ∧ n' = n + m then some (.slice (some ⟨b, o, none⟩) (n + m) cap) else g.γ t' n' }
      δ { σ with tok := σ.tok.set t (n + m, k) } (w.setCells b (o + n * k) vs) := by
  obtain ⟨htn, v, hv, hsp⟩ := hs.tok t _ ht
  simp only at hv
  rw [hγ] at hv; cases hv
  obtain ⟨b', o', cap', h4, h5, h6, h7, h8⟩ := hsp.is
  cases h4
  simp only at h5 h7 h8
  have hnm : (n + m) * k = n * k + m * k := Nat.add_mul _ _ _
  have hcapk : (n + m) * k ≤ cap * k := Nat.mul_le_mul_right _ hroom
  have hin : ∀ j, j < vs.length → o + n * k ≤ o + n * k + j ∧ o + n * k + j < o + cap * k := fun j hj => by omega
  have hsome : ∀ j, j < vs.length → (w.cell? ⟨b, o + n * k + j, none⟩).isSome = true := by
    intro j hj
    obtain ⟨⟨u, hu⟩, _⟩ := h8 _ (hin j hj).1 (hin j hj).2
    rw [hu]; rfl
  have hfroz : ∀ j, j < vs.length → w.frozen? ⟨b, o + n * k + j, none⟩ = false := fun j hj => (h8 _ (hin j hj).1 (hin j hj).2).2.1
  have hγn : g.γ t (n + m) = none := by
    cases hg : g.γ t (n + m) with
    | none => rfl
    | some v =>
      obtain ⟨_, p, h2, h3⟩ := hs.tokγ t _ v hg
      rw [ht] at h2; cases h2; simp only at h3; omega
  have hout : ∀ b' x, g.S b' x → (w.setCells b (o + n * k) vs).cell? ⟨b', x, none⟩ = w.cell? ⟨b', x, none⟩ := by
    intro b' x h
    refine World.cell?_setCells_out b vs _ w _ (fun h1 _ => ?_)
    simp only at h1
    subst h1
    simp only
    by_cases h9 : o + n * k ≤ x ∧ x < o + n * k + vs.length
    · exact absurd h (h8 x h9.1 (by omega)).2.2
    · omega
  have hle : Le g { g with S := fun b' x => g.S b' x ∨ (b' = b ∧ o + n * k ≤ x ∧ x < o + (n + m) * k), γ := fun t' n' => if t' = t ∧ n' = n + m then some (.slice (some ⟨b, o, none⟩) (n + m) cap) else g.γ t' n' }
      w (w.setCells b (o + n * k) vs) := by
    refine ⟨fun _ _ h => .inl h, hout, fun _ _ h => h, fun t' n' v h => ?_, fun _ _ h => h⟩
    simp only
    rw [if_neg (by rintro ⟨rfl, rfl⟩; rw [hγn] at h; cases h)]; exact h
  have hδ := hs.tokδ t b h6
  refine ⟨hsome, hfroz, hle, ?_⟩
  constructor
  · exact below_setCells b hδ.2.1 vs _ w hs.below
  · exact hs.base_le
  · exact hs.lo
  · exact hs.fact
  · exact fun b' x h => .inl (hs.s0 b' x h)
  · rintro b' x (h | ⟨rfl, _⟩)
    · exact hs.s1 b' x h
    · exact .inr hδ.2.1
  · rintro b' x (h | ⟨rfl, h, h'⟩)
    · obtain ⟨v, hv⟩ := hs.live b' x h
      exact ⟨v, by rw [hout b' x h]; exact hv⟩
    · have hj : x - (o + n * k) < vs.length := by omega
      have := World.cell?_setCells_in b' vs (o + n * k) w hsome (x - (o + n * k)) hj
      rw [show o + n * k + (x - (o + n * k)) = x by omega] at this
      exact ⟨_, this⟩
  · exact fun q c h => (hs.glob q c h).mono hle.S hle.w
  · intro b' k' h
    rw [size_setCells]; exact hs.boxlt b' k' h
  · exact hs.boxinj
  · rintro b' k' x h (h2 | ⟨rfl, _⟩)
    · exact hs.boxS b' k' x h h2
    · exact hδ.2.2.2 b' h
  · intro b' cs h
    obtain ⟨k', hk', ha⟩ := hs.box b' cs h
    have hne : k' ≠ b := by rintro rfl; exact hδ.2.2.2 b' hk'
    refine ⟨k', hk', fun i d hi => ?_⟩
    obtain ⟨h9, v, h10, h11, h12⟩ := ha i d hi
    exact ⟨h9, v, by rw [cell_setCells_block _ _ _ _ _ _ hne]; exact h10, by rw [World.frozen?_setCells]; exact h11, DRep.mono hle _ _ h12⟩
  · intro t' n' v h
    simp only at h ⊢
    by_cases h9 : t' = t ∧ n' = n + m
    · obtain ⟨rfl, rfl⟩ := h9
      exact ⟨htn, (n + m, k), Tr.get_set_same _ _ _, Nat.le_refl _⟩
    · rw [if_neg h9] at h
      obtain ⟨h1, p, h2, h3⟩ := hs.tokγ t' n' v h
      refine ⟨h1, ?_⟩
      by_cases h10 : t' = t
      · subst h10
        rw [ht] at h2; cases h2
        exact ⟨(n + m, k), Tr.get_set_same _ _ _, by simp only at h3 ⊢; omega⟩
      · exact ⟨p, by rw [Tr.get_set_other _ _ _ _ h10]; exact h2, h3⟩
  · intro t' p h
    simp only at h ⊢
    by_cases h10 : t' = t
    · subst h10
      rw [Tr.get_set_same] at h
      cases h
      refine ⟨htn, _, by simp, ⟨b, o, cap, rfl, hroom, h6, h7, fun x hx hx' => ?_⟩⟩
      obtain ⟨⟨u, hu⟩, hf, hns⟩ := h8 x (by simp only at hx; omega) hx'
      refine ⟨⟨u, ?_⟩, by rw [World.frozen?_setCells]; exact hf, ?_⟩
      · rw [World.cell?_setCells_out b vs _ w _ (fun _ _ => by simp only at hx ⊢; omega)]; exact hu
      · rintro (h9 | ⟨_, _, h9⟩)
        · exact hns h9
        · simp only at hx; omega
    · rw [Tr.get_set_other _ _ _ _ h10] at h
      obtain ⟨h1, v, h2, h3⟩ := hs.tok t' p h
      obtain ⟨b', o', cap', q4, q5, q6, q7, q8⟩ := h3.is
      have hne : b' ≠ b := by rintro rfl; exact h10 (hs.tokinj _ _ _ q6 h6)
      refine ⟨h1, v, by rw [if_neg (by rintro ⟨h9, _⟩; exact h10 h9)]; exact h2, ⟨b', o', cap', q4, q5, q6, q7, fun x hx hx' => ?_⟩⟩
      obtain ⟨⟨u, hu⟩, hf, hns⟩ := q8 x hx hx'
      exact ⟨⟨u, by rw [cell_setCells_block _ _ _ _ _ _ hne]; exact hu⟩, by rw [World.frozen?_setCells]; exact hf, by rintro (h9 | ⟨rfl, _⟩); exact hns h9; exact hne rfl⟩
  · intro t' b' h
    rw [size_setCells]; exact hs.tokδ t' b' h
  · exact hs.tokinj
  · intro m' q h
    obtain ⟨h1, h2, h3, q4, q5, q6⟩ := hs.mapμ m' q h
    exact ⟨h1, h2, by rw [size_setCells]; exact h3, (by rintro x (h9 | ⟨rfl, _⟩); exact q4 x h9; exact q6 t h6), q5, q6⟩
  · exact hs.mapinj
  · intro m' es h
    obtain ⟨q, hq, l, clock, h1, h2, h3⟩ := hs.map m' es h
    have hne : q ≠ b := by rintro rfl; exact (hs.mapμ m' _ hq).2.2.2.2.2 t h6
    exact ⟨q, hq, l, clock, by rw [heap_setCells _ _ _ _ _ hne]; exact h1, h2, fun i x p hx hp => ⟨(h3 i x p hx hp).1, DRep.mono hle _ _ (h3 i x p hx hp).2⟩⟩

/-- A new map. -/
theorem SRel.newMap (hs : SRel E base w0 S0 g δ σ w) :
    Le g { g with μ := fun m => if m = σ.mn then some w.heap.size else g.μ m } w (w.alloc (.map #[] 0)) ∧
    SRel E base w0 S0 { g with μ := fun m => if m = σ.mn then some w.heap.size else g.μ m } δ { σ with mn := σ.mn + 1, mp := σ.mp.set σ.mn [] } (w.alloc (.map #[] 0)) := by
  have hnone : g.μ σ.mn = none := by
    cases h : g.μ σ.mn with
    | none => rfl
    | some k => have := (hs.mapμ _ k h).1; omega
  have hle : Le g { g with μ := fun m => if m = σ.mn then some w.heap.size else g.μ m } w (w.alloc (.map #[] 0)) := by
    refine Le.alloc hs _ _ (fun _ _ h => h) (fun _ _ h => h) (fun _ _ _ h => h) (fun m k h => ?_)
    simp only
    rw [if_neg (by rintro rfl; rw [hnone] at h; cases h)]; exact h
  have hsz := size_alloc w (.map #[] 0)
  have hb := hs.le_size
  have hμ : ∀ m k, (if m = σ.mn then some w.heap.size else g.μ m) = some k → (m = σ.mn ∧ k = w.heap.size) ∨ (m ≠ σ.mn ∧ g.μ m = some k) := by
    intro m k h
    by_cases hi : m = σ.mn
    · rw [if_pos hi] at h; cases h; exact .inl ⟨hi, rfl⟩
    · rw [if_neg hi] at h; exact .inr ⟨hi, h⟩
  refine ⟨hle, ?_⟩
  constructor
  · exact hs.below.alloc hb _
  · exact hs.base_le
  · exact hs.lo
  · exact hs.fact
  · exact hs.s0
  · exact hs.s1
  · intro b x h
    obtain ⟨v, hv⟩ := hs.live b x h
    exact ⟨v, by rw [cell_alloc w _ b x (cell_lt hv)]; exact hv⟩
  · exact fun q c h => (hs.glob q c h).mono hle.S hle.w
  · exact fun b k h => ⟨(hs.boxlt b k h).1, (hs.boxlt b k h).2.1, by rw [hsz]; have := (hs.boxlt b k h).2.2; omega⟩
  · exact hs.boxinj
  · exact hs.boxS
  · intro b cs h
    obtain ⟨k, hk, ha⟩ := hs.box b cs h
    have hlt := (hs.boxlt b k hk).2.2
    refine ⟨k, hk, fun i d hi => ?_⟩
    obtain ⟨h1, v, h2, h3, h4⟩ := ha i d hi
    exact ⟨h1, v, by rw [cell_alloc w _ _ _ hlt]; exact h2, by rw [froz_alloc w _ _ _ hlt]; exact h3, DRep.mono hle _ _ h4⟩
  · exact hs.tokγ
  · intro t p h
    obtain ⟨h1, v, h2, h3⟩ := hs.tok t p h
    obtain ⟨b, o, cap, h4, h5, h6, h7, h8⟩ := h3.is
    have hlt := (hs.tokδ t b h6).2.2.1
    refine ⟨h1, v, h2, ⟨b, o, cap, h4, h5, h6, h7, fun x hx hx' => ?_⟩⟩
    obtain ⟨⟨u, hu⟩, hf, hns⟩ := h8 x hx hx'
    exact ⟨⟨u, by rw [cell_alloc w _ _ _ hlt]; exact hu⟩, by rw [froz_alloc w _ _ _ hlt]; exact hf, hns⟩
  · intro t b h
    obtain ⟨h1, h2, h3, h4⟩ := hs.tokδ t b h
    exact ⟨h1, h2, by rw [hsz]; omega, h4⟩
  · exact hs.tokinj
  · intro m k h
    rcases hμ m k h with ⟨rfl, rfl⟩ | ⟨_, h⟩
    · refine ⟨by simp, hb, by rw [hsz]; omega, fun x h9 => ?_, fun i h9 => ?_, fun t h9 => ?_⟩
      · obtain ⟨v, hv⟩ := hs.live _ x h9
        have := cell_lt hv; omega
      · have := (hs.boxlt i _ h9).2.2; omega
      · have := (hs.tokδ t _ h9).2.2.1; omega
    · obtain ⟨h1, h2, h3, h4, h5, h6⟩ := hs.mapμ m k h
      exact ⟨by simp only; omega, h2, by rw [hsz]; omega, h4, h5, h6⟩
  · intro m m' k h h'
    rcases hμ m k h with ⟨h1, h2⟩ | ⟨_, h2⟩ <;> rcases hμ m' k h' with ⟨h3, h4⟩ | ⟨_, h4⟩
    · rw [h1, h3]
    · have := (hs.mapμ m' _ h4).2.2.1; omega
    · have := (hs.mapμ m _ h2).2.2.1; omega
    · exact hs.mapinj m m' k h2 h4
  · intro m es h
    simp only at h ⊢
    by_cases hm : m = σ.mn
    · subst hm
      rw [Tr.get_set_same] at h
      cases h
      refine ⟨w.heap.size, by simp, [], 0, ?_, rfl, fun i x p hx _ => by simp at hx⟩
      show (w.heap.push _)[w.heap.size]? = _
      rw [Array.getElem?_push_size]
    · rw [Tr.get_set_other _ _ _ _ hm] at h
      obtain ⟨k, hk, l, clock, h1, h2, h3⟩ := hs.map m es h
      exact ⟨k, hle.μ _ _ hk, l, clock, by rw [heap_alloc w _ k (hs.mapμ m k hk).2.2.1]; exact h1, h2, fun i x p hx hp => ⟨(h3 i x p hx hp).1, DRep.mono hle _ _ (h3 i x p hx hp).2⟩⟩

/-- The world with another object at a place. -/
def withObj (w : World) (k : Nat) (o : Obj) : World := { w with heap := w.heap.setIfInBounds k o }

theorem withObj_heap (w : World) (k : Nat) (o : Obj) (j : Nat) (h : j ≠ k) : (withObj w k o).heap[j]? = w.heap[j]? := by
  show (w.heap.setIfInBounds k o)[j]? = _
  rw [Array.getElem?_setIfInBounds_ne (by omega)]

theorem withObj_cell (w : World) (k : Nat) (o : Obj) (b x : Nat) (h : b ≠ k) : (withObj w k o).cell? ⟨b, x, none⟩ = w.cell? ⟨b, x, none⟩ :=
  World.cell?_of_block (w := w) (withObj_heap w k o b h)
theorem withObj_froz (w : World) (k : Nat) (o : Obj) (b x : Nat) (h : b ≠ k) : (withObj w k o).frozen? ⟨b, x, none⟩ = w.frozen? ⟨b, x, none⟩ :=
  World.frozen?_of_block (w := w) (withObj_heap w k o b h)
theorem withObj_size (w : World) (k : Nat) (o : Obj) : (withObj w k o).heap.size = w.heap.size := by
  show (w.heap.setIfInBounds k o).size = _
  simp

/-- A new entry of a map. -/
theorem SRel.entry (hs : SRel E base w0 S0 g δ σ w) {m k clock : Nat} {es : List (ByteArray × D)} {l : List MapEntry} (hk : g.μ m = some k) (hkl : k < w.heap.size)
    (key : ByteArray) (d : D) (v : Value) (hd : DRep g w d v)
    (hl : l.length = es.length) (hent : ∀ (i : Nat) (x : MapEntry) (p : ByteArray × D), l[i]? = some x → es[i]? = some p → x.key = .string p.1 ∧ DRep g w p.2 x.val) (x : MapEntry) (hx1 : x.key = .string key) (hx2 : x.val = v) :
    Le g g w (withObj w k (.map ((⟨l⟩ : Array MapEntry).push x) (clock + 1))) ∧
    SRel E base w0 S0 g δ { σ with mp := σ.mp.set m (es ++ [(key, d)]) } (withObj w k (.map ((⟨l⟩ : Array MapEntry).push x) (clock + 1))) := by
  obtain ⟨hm1, hm2, hm3, hm4, hm5, hm6⟩ := hs.mapμ m k hk
  have hle : Le g g w (withObj w k (.map ((⟨l⟩ : Array MapEntry).push x) (clock + 1))) :=
    ⟨fun _ _ h => h, fun b x h => withObj_cell _ _ _ _ _ (by rintro rfl; exact hm4 x h), fun _ _ h => h, fun _ _ _ h => h, fun _ _ h => h⟩
  refine ⟨hle, ?_⟩
  constructor
  · exact hs.below.trans ⟨rfl, rfl, rfl, by rw [withObj_size]; exact Nat.le_refl _, fun j hj => withObj_heap _ _ _ _ (by omega)⟩
  · exact hs.base_le
  · exact hs.lo
  · exact hs.fact
  · exact hs.s0
  · exact hs.s1
  · intro b x h
    obtain ⟨v, hv⟩ := hs.live b x h
    exact ⟨v, by rw [hle.w b x h]; exact hv⟩
  · exact fun q c h => (hs.glob q c h).mono hle.S hle.w
  · intro b q h; rw [withObj_size]; exact hs.boxlt b q h
  · exact hs.boxinj
  · exact hs.boxS
  · intro b cs h
    obtain ⟨q, hq, ha⟩ := hs.box b cs h
    have hne : q ≠ k := by rintro rfl; exact hm5 b hq
    refine ⟨q, hq, fun i d hi => ?_⟩
    obtain ⟨h9, v, h10, h11, h12⟩ := ha i d hi
    exact ⟨h9, v, by rw [withObj_cell _ _ _ _ _ hne]; exact h10, by rw [withObj_froz _ _ _ _ _ hne]; exact h11, DRep.mono hle _ _ h12⟩
  · exact hs.tokγ
  · intro t p h
    obtain ⟨h1, v, h2, h3⟩ := hs.tok t p h
    obtain ⟨b, o, cap, h4, h5, h6, h7, h8⟩ := h3.is
    have hne : b ≠ k := by rintro rfl; exact hm6 t h6
    refine ⟨h1, v, h2, ⟨b, o, cap, h4, h5, h6, h7, fun x hx hx' => ?_⟩⟩
    obtain ⟨⟨u, hu⟩, hf, hns⟩ := h8 x hx hx'
    exact ⟨⟨u, by rw [withObj_cell _ _ _ _ _ hne]; exact hu⟩, by rw [withObj_froz _ _ _ _ _ hne]; exact hf, hns⟩
  · intro t b h; rw [withObj_size]; exact hs.tokδ t b h
  · exact hs.tokinj
  · intro m' q h; rw [withObj_size]; exact hs.mapμ m' q h
  · exact hs.mapinj
  · intro m' es' h
    simp only at h
    by_cases hmm : m' = m
    · subst hmm
      rw [Tr.get_set_same] at h
      cases h
      refine ⟨k, hk, l ++ [x], clock + 1, ?_, by simp [hl], fun i y p hy hp => ?_⟩
      · show (w.heap.setIfInBounds k _)[k]? = _
        rw [Array.getElem?_setIfInBounds_self_of_lt hkl]
        simp
      · by_cases hi : i < l.length
        · rw [List.getElem?_append_left hi] at hy
          rw [List.getElem?_append_left (by omega)] at hp
          exact ⟨(hent i y p hy hp).1, DRep.mono hle _ _ (hent i y p hy hp).2⟩
        · rw [List.getElem?_append_right (by omega)] at hy
          rw [List.getElem?_append_right (by omega)] at hp
          have h0 : i - l.length = 0 := by
            have := (List.getElem?_eq_some_iff.1 hy).1; simp at this; omega
          rw [h0] at hy
          rw [show i - es.length = 0 by omega] at hp
          simp only [List.getElem?_cons_zero, Option.some.injEq] at hy hp
          subst hy; subst hp
          exact ⟨hx1, by rw [hx2]; exact DRep.mono hle _ _ hd⟩
    · rw [Tr.get_set_other _ _ _ _ hmm] at h
      obtain ⟨q, hq, l', clock', h1, h2, h3⟩ := hs.map m' es' h
      have hne : q ≠ k := by rintro rfl; exact hmm (hs.mapinj _ _ _ hq hk)
      exact ⟨q, hq, l', clock', by rw [withObj_heap _ _ _ _ hne]; exact h1, h2, fun i x p hx hp => ⟨(h3 i x p hx hp).1, DRep.mono hle _ _ (h3 i x p hx hp).2⟩⟩

end

end Go.Vm
