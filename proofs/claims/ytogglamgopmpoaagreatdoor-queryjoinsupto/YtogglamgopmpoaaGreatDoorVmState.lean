/- How the state's relation passes over a draw, a new block, a store. -/
import Derived.Test.YtogglamgopmpoaaGreatDoorVmOps
namespace Go.Vm
open Go.RowKit (Below)

section
variable {E : Env} {base : Nat} {w0 : World} {S0 : Nat → Nat → Prop} {g : Ghost} {δ : Nat → Option Nat} {σ : St} {w : World}

theorem cell_lt {w : World} {b x : Nat} {v : Value} (h : w.cell? ⟨b, x, none⟩ = some v) : b < w.heap.size := by
  unfold World.cell? at h
  cases hb : w.heap[b]? with
  | none => simp [hb] at h
  | some o => exact (Array.getElem?_eq_some_iff.1 hb).1

theorem cell_alloc (w : World) (o : Obj) (b x : Nat) (h : b < w.heap.size) : (w.alloc o).cell? ⟨b, x, none⟩ = w.cell? ⟨b, x, none⟩ :=
  World.cell?_alloc_lt w o _ h
theorem froz_alloc (w : World) (o : Obj) (b x : Nat) (h : b < w.heap.size) : (w.alloc o).frozen? ⟨b, x, none⟩ = w.frozen? ⟨b, x, none⟩ :=
  World.frozen?_alloc_old w o _ (Nat.ne_of_lt h)
theorem size_alloc (w : World) (o : Obj) : (w.alloc o).heap.size = w.heap.size + 1 := Array.size_push _
theorem heap_alloc (w : World) (o : Obj) (k : Nat) (h : k < w.heap.size) : (w.alloc o).heap[k]? = w.heap[k]? := Below.heap_alloc w o k h

theorem SRel.le_size (hs : SRel E base w0 S0 g δ σ w) : base ≤ w.heap.size := Nat.le_trans hs.base_le hs.below.size

theorem Le.drew (g : Ghost) (w : World) : Le g g w w.drew := ⟨fun _ _ h => h, fun _ _ _ => rfl, fun _ _ h => h, fun _ _ _ h => h, fun _ _ h => h⟩

theorem SRel.drew (hs : SRel E base w0 S0 g δ σ w) : SRel E base w0 S0 g δ σ w.drew where
  below := hs.below.drew
  base_le := hs.base_le
  lo := hs.lo
  fact := hs.fact
  s0 := hs.s0
  s1 := hs.s1
  live := hs.live
  glob q c h := CRep.mono (w := w) (w' := w.drew) (fun _ _ h => h) (fun _ _ _ => rfl) (hs.glob q c h)
  boxlt := hs.boxlt
  boxinj := hs.boxinj
  boxS := hs.boxS
  box b cs h := by
    obtain ⟨k, hk, ha⟩ := hs.box b cs h
    refine ⟨k, hk, fun i d hi => ?_⟩
    obtain ⟨h1, v, h2, h3, h4⟩ := ha i d hi
    exact ⟨h1, v, h2, h3, DRep.mono (Le.drew g w) _ _ h4⟩
  tokγ := hs.tokγ
  tok t p h := by
    obtain ⟨h1, v, h2, h3⟩ := hs.tok t p h
    obtain ⟨b, o, cap, h4, h5, h6, h7, h8⟩ := h3.is
    exact ⟨h1, v, h2, ⟨b, o, cap, h4, h5, h6, h7, h8⟩⟩
  tokδ := hs.tokδ
  tokinj := hs.tokinj
  mapμ := hs.mapμ
  mapinj := hs.mapinj
  map m es h := by
    obtain ⟨k, hk, l, clock, h1, h2, h3⟩ := hs.map m es h
    exact ⟨k, hk, l, clock, h1, h2, fun i x p hx hp => ⟨(h3 i x p hx hp).1, DRep.mono (Le.drew g w) _ _ (h3 i x p hx hp).2⟩⟩

/-- More boxes may be numbered. -/
theorem SRel.more (hs : SRel E base w0 S0 g δ σ w) (n : Nat) (hn : σ.n ≤ n) : SRel E base w0 S0 g δ { σ with n := n } w :=
  { hs with boxlt := fun b k h => ⟨Nat.lt_of_lt_of_le (hs.boxlt b k h).1 hn, (hs.boxlt b k h).2⟩ }

/-- What a new block adds to what is told. -/
theorem Le.alloc (hs : SRel E base w0 S0 g δ σ w) (o : Obj) (g' : Ghost) (hS : ∀ b x, g.S b x → g'.S b x) (hβ : ∀ b k, g.β b = some k → g'.β b = some k)
    (hγ : ∀ t n v, g.γ t n = some v → g'.γ t n = some v) (hμ : ∀ m k, g.μ m = some k → g'.μ m = some k) : Le g g' w (w.alloc o) :=
  ⟨hS, fun b x h => by obtain ⟨v, hv⟩ := hs.live b x h; exact cell_alloc w o b x (cell_lt hv), hβ, hγ, hμ⟩

/-- A new row of cells that nobody writes any more. -/
theorem SRel.allocRow (hs : SRel E base w0 S0 g δ σ w) (arr : Array Value) (el : TypeId) (n : Nat) (hn : n ≤ arr.size) :
    Le g { g with S := fun b x => g.S b x ∨ (b = w.heap.size ∧ x < n) } w (w.alloc (.cells arr el)) ∧
    SRel E base w0 S0 { g with S := fun b x => g.S b x ∨ (b = w.heap.size ∧ x < n) } δ σ (w.alloc (.cells arr el)) := by
  have hle : Le g { g with S := fun b x => g.S b x ∨ (b = w.heap.size ∧ x < n) } w (w.alloc (.cells arr el)) :=
    Le.alloc hs _ _ (fun _ _ h => .inl h) (fun _ _ h => h) (fun _ _ _ h => h) (fun _ _ h => h)
  have hsz := size_alloc w (.cells arr el)
  have hb := hs.le_size
  refine ⟨hle, ?_⟩
  constructor
  · exact hs.below.alloc hb _
  · exact hs.base_le
  · exact hs.lo
  · exact hs.fact
  · exact fun b x h => .inl (hs.s0 b x h)
  · rintro b x (h | ⟨rfl, _⟩)
    · exact hs.s1 b x h
    · exact .inr hb
  · rintro b x (h | ⟨rfl, h⟩)
    · obtain ⟨v, hv⟩ := hs.live b x h
      exact ⟨v, by rw [cell_alloc w _ b x (cell_lt hv)]; exact hv⟩
    · exact ⟨arr[x]'(by omega), by rw [World.cell?_alloc_new]; exact Array.getElem?_eq_getElem _⟩
  · exact fun q c h => (hs.glob q c h).mono hle.S hle.w
  · exact fun b k h => ⟨(hs.boxlt b k h).1, (hs.boxlt b k h).2.1, by rw [hsz]; have := (hs.boxlt b k h).2.2; omega⟩
  · exact hs.boxinj
  · rintro b k x h (h2 | ⟨rfl, _⟩)
    · exact hs.boxS b k x h h2
    · have := (hs.boxlt b _ h).2.2; omega
  · intro b cs h
    obtain ⟨k, hk, ha⟩ := hs.box b cs h
    have hlt := (hs.boxlt b k hk).2.2
    refine ⟨k, hk, fun i d hi => ?_⟩
    obtain ⟨h1, v, h2, h3, h4⟩ := ha i d hi
    exact ⟨h1, v, by rw [cell_alloc w _ _ _ hlt]; exact h2, by rw [froz_alloc w _ _ _ hlt]; exact h3, DRep.mono hle _ _ h4⟩
  · exact hs.tokγ
  · intro t p h
    obtain ⟨h1, v, h2, h3⟩ := hs.tok t p h
    obtain ⟨b, o, cap, h4, h5, h6, h7, h8⟩ := h3.is
    have hlt := (hs.tokδ t b h6).2.2.1
    refine ⟨h1, v, h2, ⟨b, o, cap, h4, h5, h6, h7, fun x hx hx' => ?_⟩⟩
    obtain ⟨⟨u, hu⟩, hf, hns⟩ := h8 x hx hx'
    exact ⟨⟨u, by rw [cell_alloc w _ _ _ hlt]; exact hu⟩, by rw [froz_alloc w _ _ _ hlt]; exact hf, by rintro (h9 | ⟨rfl, _⟩); exact hns h9; omega⟩
  · exact fun t b h => ⟨(hs.tokδ t b h).1, (hs.tokδ t b h).2.1, by rw [hsz]; have := (hs.tokδ t b h).2.2.1; omega, (hs.tokδ t b h).2.2.2⟩
  · exact hs.tokinj
  · intro m k h
    obtain ⟨h1, h2, h3, h4, h5, h6⟩ := hs.mapμ m k h
    exact ⟨h1, h2, by rw [hsz]; omega, (by rintro x (h9 | ⟨rfl, _⟩); exact h4 x h9; omega), h5, h6⟩
  · exact hs.mapinj
  · intro m es h
    obtain ⟨k, hk, l, clock, h1, h2, h3⟩ := hs.map m es h
    exact ⟨k, hk, l, clock, by rw [heap_alloc w _ k (hs.mapμ m k hk).2.2.1]; exact h1, h2, fun i x p hx hp => ⟨(h3 i x p hx hp).1, DRep.mono hle _ _ (h3 i x p hx hp).2⟩⟩

/-- A new box. -/
theorem SRel.allocBox (hs : SRel E base w0 S0 g δ σ w) (arr : Array Value) (el : TypeId) (id : Nat) (ds : List D) (hid : g.β id = none) (hlt : id < σ.n)
    (hall : ds.all cellLike = true) (hr : DReps g w ds arr.toList) :
    Le g { g with β := fun i => if i = id then some w.heap.size else g.β i } w (w.alloc (.cells arr el)) ∧
    SRel E base w0 S0 { g with β := fun i => if i = id then some w.heap.size else g.β i } δ { σ with box := σ.box.set id ds } (w.alloc (.cells arr el)) := by
  have hle : Le g { g with β := fun i => if i = id then some w.heap.size else g.β i } w (w.alloc (.cells arr el)) := by
    refine Le.alloc hs _ _ (fun _ _ h => h) (fun b k h => ?_) (fun _ _ _ h => h) (fun _ _ h => h)
    simp only
    rw [if_neg (by rintro rfl; rw [hid] at h; cases h)]; exact h
  have hsz := size_alloc w (.cells arr el)
  have hb := hs.le_size
  have hβ : ∀ i k, (if i = id then some w.heap.size else g.β i) = some k → (i = id ∧ k = w.heap.size) ∨ (i ≠ id ∧ g.β i = some k) := by
    intro i k h
    by_cases hi : i = id
    · rw [if_pos hi] at h; cases h; exact .inl ⟨hi, rfl⟩
    · rw [if_neg hi] at h; exact .inr ⟨hi, h⟩
  refine ⟨hle, ?_⟩
  constructor
  · exact hs.below.alloc hb _
  · exact hs.base_le
  · exact hs.lo
  · exact hs.fact
  · exact hs.s0
  · exact hs.s1
  · intro b x h
    obtain ⟨v, hv⟩ := hs.live b x h
    exact ⟨v, by rw [cell_alloc w _ b x (cell_lt hv)]; exact hv⟩
  · exact fun q c h => (hs.glob q c h).mono hle.S hle.w
  · intro b k h
    rcases hβ b k h with ⟨rfl, rfl⟩ | ⟨_, h⟩
    · exact ⟨hlt, hb, by rw [hsz]; omega⟩
    · exact ⟨(hs.boxlt b k h).1, (hs.boxlt b k h).2.1, by rw [hsz]; have := (hs.boxlt b k h).2.2; omega⟩
  · intro b b' k h h'
    rcases hβ b k h with ⟨h1, h2⟩ | ⟨_, h2⟩ <;> rcases hβ b' _ h' with ⟨h3, h4⟩ | ⟨_, h4⟩
    · rw [h1, h3]
    · have := (hs.boxlt b' _ h4).2.2; omega
    · have := (hs.boxlt b _ h2).2.2; omega
    · exact hs.boxinj b b' k h2 h4
  · intro b k x h h2
    rcases hβ b k h with ⟨rfl, rfl⟩ | ⟨_, h⟩
    · obtain ⟨v, hv⟩ := hs.live _ x h2
      have := cell_lt hv; omega
    · exact hs.boxS b k x h h2
  · intro b cs h
    by_cases hbi : b = id
    · subst hbi
      simp only [Tr.get_set_same, Option.some.injEq] at h
      subst h
      refine ⟨w.heap.size, by simp, fun i d hi => ?_⟩
      obtain ⟨v, hv, hd⟩ := hr.at i d hi
      refine ⟨List.all_eq_true.1 hall d (List.mem_of_getElem? hi), v, ?_, ?_, DRep.mono hle _ _ hd⟩
      · rw [World.cell?_alloc_new]; simpa using hv
      · exact World.frozen?_alloc_new w arr el i
    · simp only [Tr.get_set_other _ _ _ _ hbi] at h
      obtain ⟨k, hk, ha⟩ := hs.box b cs h
      have hlt := (hs.boxlt b k hk).2.2
      refine ⟨k, hle.β _ _ hk, fun i d hi => ?_⟩
      obtain ⟨h1, v, h2, h3, h4⟩ := ha i d hi
      exact ⟨h1, v, by rw [cell_alloc w _ _ _ hlt]; exact h2, by rw [froz_alloc w _ _ _ hlt]; exact h3, DRep.mono hle _ _ h4⟩
  · exact hs.tokγ
  · intro t p h
    obtain ⟨h1, v, h2, h3⟩ := hs.tok t p h
    obtain ⟨b, o, cap, h4, h5, h6, h7, h8⟩ := h3.is
    have hlt := (hs.tokδ t b h6).2.2.1
    refine ⟨h1, v, h2, ⟨b, o, cap, h4, h5, h6, h7, fun x hx hx' => ?_⟩⟩
    obtain ⟨⟨u, hu⟩, hf, hns⟩ := h8 x hx hx'
    exact ⟨⟨u, by rw [cell_alloc w _ _ _ hlt]; exact hu⟩, by rw [froz_alloc w _ _ _ hlt]; exact hf, hns⟩
  · intro t b h
    obtain ⟨h1, h2, h3, h4⟩ := hs.tokδ t b h
    refine ⟨h1, h2, by rw [hsz]; omega, fun i h9 => ?_⟩
    rcases hβ i b h9 with ⟨rfl, rfl⟩ | ⟨_, h9⟩
    · omega
    · exact h4 i h9
  · exact hs.tokinj
  · intro m k h
    obtain ⟨h1, h2, h3, h4, h5, h6⟩ := hs.mapμ m k h
    refine ⟨h1, h2, by rw [hsz]; omega, h4, fun i h9 => ?_, h6⟩
    rcases hβ i k h9 with ⟨rfl, rfl⟩ | ⟨_, h9⟩
    · omega
    · exact h5 i h9
  · exact hs.mapinj
  · intro m es h
    obtain ⟨k, hk, l, clock, h1, h2, h3⟩ := hs.map m es h
    exact ⟨k, hk, l, clock, by rw [heap_alloc w _ k (hs.mapμ m k hk).2.2.1]; exact h1, h2, fun i x p hx hp => ⟨(h3 i x p hx hp).1, DRep.mono hle _ _ (h3 i x p hx hp).2⟩⟩

/-- A token's new block: its first n rows of k cells are told, the rest is spare. -/
theorem SRel.allocTok (hs : SRel E base w0 S0 g δ σ w) (arr : Array Value) (el : TypeId) (fr : Nat × Nat) (t n k cap : Nat) (hk : 0 < k) (hcap : n ≤ cap) (harr : arr.size = cap * k)
    (hfr : fr = (0, 0) ∨ fr.1 = arr.size)
    (ht : (t = σ.tn) ∨ (t < σ.tn ∧ ∃ m, σ.tok.get t = some (m, k) ∧ m < n)) :
    Le g { g with S := fun b x => g.S b x ∨ (b = w.heap.size ∧ x < n * k), γ := fun t' n' => if t' = t ∧ n' = n then some (.slice (some ⟨w.heap.size, 0, none⟩) n cap) else g.γ t' n' } w (w.alloc (.cells arr el fr)) ∧
    SRel E base w0 S0 { g with S := fun b x => g.S b x ∨ (b = w.heap.size ∧ x < n * k), γ := fun t' n' => if t' = t ∧ n' = n then some (.slice (some ⟨w.heap.size, 0, none⟩) n cap) else g.γ t' n' }
      (fun t' => if t' = t then some w.heap.size else δ t') { σ with tn := max σ.tn (t + 1), tok := σ.tok.set t (n, k) } (w.alloc (.cells arr el fr)) := by
  have hγn : g.γ t n = none := by
    cases hg : g.γ t n with
    | none => rfl
    | some v =>
      obtain ⟨h1, p, h2, h3⟩ := hs.tokγ t n v hg
      rcases ht with rfl | ⟨_, m, hm, hlt⟩
      · omega
      · rw [hm] at h2; cases h2; simp only at h3; omega
  have hle : Le g { g with S := fun b x => g.S b x ∨ (b = w.heap.size ∧ x < n * k), γ := fun t' n' => if t' = t ∧ n' = n then some (.slice (some ⟨w.heap.size, 0, none⟩) n cap) else g.γ t' n' } w (w.alloc (.cells arr el fr)) := by
    refine Le.alloc hs _ _ (fun _ _ h => .inl h) (fun _ _ h => h) (fun t' n' v h => ?_) (fun _ _ h => h)
    simp only
    rw [if_neg (by rintro ⟨rfl, rfl⟩; rw [hγn] at h; cases h)]; exact h
  have hsz := size_alloc w (.cells arr el fr)
  have hb := hs.le_size
  have hnk : n * k ≤ cap * k := Nat.mul_le_mul_right _ hcap
  have hcellnew : ∀ x, x < arr.size → (w.alloc (.cells arr el fr)).cell? ⟨w.heap.size, x, none⟩ = some arr[x]! := by
    intro x hx
    rw [World.cell?_alloc_mark]; simp [hx]
  have hfroznew : ∀ x, x < arr.size → (w.alloc (.cells arr el fr)).frozen? ⟨w.heap.size, x, none⟩ = false := by
    intro x hx
    obtain ⟨lo, hi⟩ := fr
    rw [World.frozen?_alloc_mark]
    rcases hfr with h | h
    · simp only [Prod.mk.injEq] at h; obtain ⟨rfl, rfl⟩ := h; simp
    · simp only at h; subst h; simp; omega
  refine ⟨hle, ?_⟩
  constructor
  · exact hs.below.alloc hb _
  · exact hs.base_le
  · exact hs.lo
  · exact hs.fact
  · exact fun b x h => .inl (hs.s0 b x h)
  · rintro b x (h | ⟨rfl, _⟩)
    · exact hs.s1 b x h
    · exact .inr hb
  · rintro b x (h | ⟨rfl, h⟩)
    · obtain ⟨v, hv⟩ := hs.live b x h
      exact ⟨v, by rw [cell_alloc w _ b x (cell_lt hv)]; exact hv⟩
    · exact ⟨_, hcellnew x (by omega)⟩
  · exact fun q c h => (hs.glob q c h).mono hle.S hle.w
  · exact fun b k h => ⟨(hs.boxlt b k h).1, (hs.boxlt b k h).2.1, by rw [hsz]; have := (hs.boxlt b k h).2.2; omega⟩
  · exact hs.boxinj
  · rintro b k x h (h2 | ⟨rfl, _⟩)
    · exact hs.boxS b k x h h2
    · have := (hs.boxlt b _ h).2.2; omega
  · intro b cs h
    obtain ⟨k, hk, ha⟩ := hs.box b cs h
    have hlt := (hs.boxlt b k hk).2.2
    refine ⟨k, hk, fun i d hi => ?_⟩
    obtain ⟨h1, v, h2, h3, h4⟩ := ha i d hi
    exact ⟨h1, v, by rw [cell_alloc w _ _ _ hlt]; exact h2, by rw [froz_alloc w _ _ _ hlt]; exact h3, DRep.mono hle _ _ h4⟩
  · intro t' n' v h
    simp only at h ⊢
    by_cases h9 : t' = t ∧ n' = n
    · obtain ⟨rfl, rfl⟩ := h9
      exact ⟨by omega, (n', k), Tr.get_set_same _ _ _, Nat.le_refl _⟩
    · rw [if_neg h9] at h
      obtain ⟨h1, p, h2, h3⟩ := hs.tokγ t' n' v h
      refine ⟨by omega, ?_⟩
      by_cases h8 : t' = t
      · subst h8
        rcases ht with rfl | ⟨_, m, hm, hlt⟩
        · omega
        · rw [hm] at h2; cases h2
          exact ⟨(n, k), Tr.get_set_same _ _ _, by simp only at h3 ⊢; omega⟩
      · exact ⟨p, by rw [Tr.get_set_other _ _ _ _ h8]; exact h2, h3⟩
  · intro t' p h
    simp only at h ⊢
    by_cases h8 : t' = t
    · subst h8
      rw [Tr.get_set_same] at h
      cases h
      refine ⟨by omega, _, by simp, ⟨w.heap.size, 0, cap, rfl, hcap, by simp, hk, fun x hx hx' => ?_⟩⟩
      have hxa : x < arr.size := by rw [harr]; simpa using hx'
      refine ⟨⟨_, hcellnew x hxa⟩, hfroznew x hxa, ?_⟩
      rintro (h9 | ⟨_, h9⟩)
      · obtain ⟨v, hv⟩ := hs.live _ x h9
        have := cell_lt hv; omega
      · simp only at hx; omega
    · rw [Tr.get_set_other _ _ _ _ h8] at h
      obtain ⟨h1, v, h2, h3⟩ := hs.tok t' p h
      obtain ⟨b, o, cap', h4, h5, h6, h7, h10⟩ := h3.is
      have hlt := (hs.tokδ t' b h6).2.2.1
      refine ⟨by omega, v, by rw [if_neg (by rintro ⟨h9, _⟩; exact h8 h9)]; exact h2, ⟨b, o, cap', h4, h5, by rw [if_neg h8]; exact h6, h7, fun x hx hx' => ?_⟩⟩
      obtain ⟨⟨u, hu⟩, hf, hns⟩ := h10 x hx hx'
      exact ⟨⟨u, by rw [cell_alloc w _ _ _ hlt]; exact hu⟩, by rw [froz_alloc w _ _ _ hlt]; exact hf, by rintro (h9 | ⟨rfl, _⟩); exact hns h9; omega⟩
  · intro t' b h
    simp only at h ⊢
    by_cases h8 : t' = t
    · rw [if_pos h8] at h; cases h
      refine ⟨by omega, hb, by rw [hsz]; omega, fun i h9 => ?_⟩
      have := (hs.boxlt i _ h9).2.2; omega
    · rw [if_neg h8] at h
      obtain ⟨h1, h2, h3, h4⟩ := hs.tokδ t' b h
      exact ⟨by omega, h2, by rw [hsz]; omega, h4⟩
  · intro t1 t2 b h h'
    by_cases h8 : t1 = t <;> by_cases h9 : t2 = t
    · rw [h8, h9]
    · rw [if_pos h8] at h; rw [if_neg h9] at h'; cases h
      have := (hs.tokδ t2 _ h').2.2.1; omega
    · rw [if_neg h8] at h; rw [if_pos h9] at h'; cases h'
      have := (hs.tokδ t1 _ h).2.2.1; omega
    · rw [if_neg h8] at h; rw [if_neg h9] at h'
      exact hs.tokinj t1 t2 b h h'
  · intro m q h
    obtain ⟨h1, h2, h3, h4, h5, h6⟩ := hs.mapμ m q h
    refine ⟨h1, h2, by rw [hsz]; omega, (by rintro x (h9 | ⟨rfl, _⟩); exact h4 x h9; omega), h5, fun t' h9 => ?_⟩
    by_cases h8 : t' = t
    · rw [if_pos h8] at h9; cases h9; omega
    · rw [if_neg h8] at h9; exact h6 t' h9
  · exact hs.mapinj
  · intro m es h
    obtain ⟨k, hk, l, clock, h1, h2, h3⟩ := hs.map m es h
    exact ⟨k, hk, l, clock, by rw [heap_alloc w _ k (hs.mapμ m k hk).2.2.1]; exact h1, h2, fun i x p hx hp => ⟨(h3 i x p hx hp).1, DRep.mono hle _ _ (h3 i x p hx hp).2⟩⟩

end

end Go.Vm
