/- How the interpreter's values and states stand to the machine's, and what keeps that. -/
import Derived.Test.YtogglamgopmpoaaGreatDoorVm
import Derived.LoopN
import Derived.Laws.World
import Derived.Laws.Append
import Derived.Laws.Cells
import Derived.Laws.NewBlocks
import Derived.Laws.IdiomStrings
import Derived.Laws.IdiomCopy
import Derived.Carry
namespace Go.Vm
open Go.RowKit (Below)

theorem mapO_some {α β : Type} {f : α → Option β} : ∀ {l : List α} {r : List β}, mapO f l = some r → r.length = l.length ∧ ∀ (i : Nat) (x : α), l[i]? = some x → ∃ y, f x = some y ∧ r[i]? = some y
  | [], r, h => by
    simp only [mapO, Option.some.injEq] at h
    subst h
    exact ⟨rfl, fun i x hx => by simp at hx⟩
  | a :: l, r, h => by
    simp only [mapO] at h
    cases ha : f a with
    | none => rw [ha] at h; cases h
    | some y =>
      rw [ha] at h
      cases hl : mapO f l with
      | none => simp [hl] at h
      | some ys =>
        simp only [hl, Option.some.injEq] at h
        subst h
        obtain ⟨h1, h2⟩ := mapO_some hl
        refine ⟨by simp [h1], fun i x hx => ?_⟩
        cases i with
        | zero => simp only [List.getElem?_cons_zero, Option.some.injEq] at hx; subst hx; exact ⟨y, ha, by simp⟩
        | succ i => simp only [List.getElem?_cons_succ] at hx ⊢; exact h2 i x hx

theorem Tr.get_leaf {α : Type} (i : Nat) : (Tr.leaf : Tr α).get i = none := rfl

theorem Tr.get_node {α : Type} (l : Tr α) (v : Option α) (r : Tr α) (i : Nat) :
    (Tr.node l v r).get i = if i = 0 then v else if i % 2 = 1 then l.get (i / 2) else r.get (i / 2 - 1) := by
  rw [Tr.get]
  by_cases h : i = 0
  · subst h; rfl
  · have h1 : Nat.beq i 0 = false := by rw [← Bool.not_eq_true, Nat.beq_eq]; exact h
    rw [h1, if_neg h]
    by_cases h2 : i % 2 = 1
    · have h3 : Nat.beq (i % 2) 1 = true := by rw [Nat.beq_eq]; exact h2
      rw [h3, if_pos h2]; rfl
    · have h3 : Nat.beq (i % 2) 1 = false := by rw [← Bool.not_eq_true, Nat.beq_eq]; exact h2
      rw [h3, if_neg h2]; rfl

theorem Tr.put_node {α : Type} (f : Nat) (l : Tr α) (v : Option α) (r : Tr α) (i : Nat) (x : α) :
    Tr.put (f + 1) (.node l v r) i x = if i = 0 then .node l (some x) r else if i % 2 = 1 then .node (Tr.put f l (i / 2) x) v r else .node l v (Tr.put f r (i / 2 - 1) x) := by
  rw [Tr.put]
  by_cases h : i = 0
  · subst h; rfl
  · have h1 : Nat.beq i 0 = false := by rw [← Bool.not_eq_true, Nat.beq_eq]; exact h
    rw [h1, if_neg h]
    by_cases h2 : i % 2 = 1
    · have h3 : Nat.beq (i % 2) 1 = true := by rw [Nat.beq_eq]; exact h2
      rw [h3, if_pos h2]; rfl
    · have h3 : Nat.beq (i % 2) 1 = false := by rw [← Bool.not_eq_true, Nat.beq_eq]; exact h2
      rw [h3, if_neg h2]; rfl

theorem Tr.put_leaf {α : Type} (f : Nat) (i : Nat) (x : α) : Tr.put (f + 1) .leaf i x = Tr.put (f + 1) (.node .leaf none .leaf) i x := by
  rw [Tr.put, Tr.put]

/-- Past the fuel nothing is put. -/
theorem Tr.get_put_node {α : Type} (f : Nat) (l : Tr α) (v : Option α) (r : Tr α) (i : Nat) (x : α) (j : Nat)
    (hl : ∀ i x j, (Tr.put f l i x).get j = if j = i then (if i + 1 < 2 ^ f then some x else (Tr.put f l i x).get j) else l.get j)
    (hr : ∀ i x j, (Tr.put f r i x).get j = if j = i then (if i + 1 < 2 ^ f then some x else (Tr.put f r i x).get j) else r.get j) :
    (Tr.put (f + 1) (.node l v r) i x).get j = if j = i then (if i + 1 < 2 ^ (f + 1) then some x else (Tr.put (f + 1) (.node l v r) i x).get j) else (Tr.node l v r).get j := by
  by_cases hj : j = i
  · subst hj
    rw [if_pos rfl]
    by_cases hs : j + 1 < 2 ^ (f + 1)
    · rw [if_pos hs, Tr.put_node]
      have hp : 2 ^ (f + 1) = 2 * 2 ^ f := by rw [Nat.pow_succ]; omega
      by_cases h0 : j = 0
      · rw [if_pos h0, Tr.get_node, if_pos h0]
      · rw [if_neg h0]
        by_cases h1 : j % 2 = 1
        · rw [if_pos h1, Tr.get_node, if_neg h0, if_pos h1, hl, if_pos rfl, if_pos (by omega)]
        · rw [if_neg h1, Tr.get_node, if_neg h0, if_neg h1, hr, if_pos rfl, if_pos (by omega)]
    · rw [if_neg hs]
  · rw [if_neg hj, Tr.put_node]
    by_cases h0 : i = 0
    · rw [if_pos h0, Tr.get_node, Tr.get_node, if_neg (show ¬ j = 0 by omega), if_neg (show ¬ j = 0 by omega)]
    · rw [if_neg h0]
      by_cases h1 : i % 2 = 1
      · rw [if_pos h1, Tr.get_node, Tr.get_node, hl]
        by_cases hj0 : j = 0
        · rw [if_pos hj0, if_pos hj0]
        · rw [if_neg hj0, if_neg hj0]
          by_cases hj1 : j % 2 = 1
          · rw [if_pos hj1, if_pos hj1, if_neg (show ¬ j / 2 = i / 2 by omega)]
          · rw [if_neg hj1, if_neg hj1]
      · rw [if_neg h1, Tr.get_node, Tr.get_node, hr]
        by_cases hj0 : j = 0
        · rw [if_pos hj0, if_pos hj0]
        · rw [if_neg hj0, if_neg hj0]
          by_cases hj1 : j % 2 = 1
          · rw [if_pos hj1, if_pos hj1]
          · rw [if_neg hj1, if_neg hj1, if_neg (show ¬ j / 2 - 1 = i / 2 - 1 by omega)]

theorem Tr.get_put {α : Type} : ∀ (f : Nat) (t : Tr α) (i : Nat) (x : α) (j : Nat), (Tr.put f t i x).get j = if j = i then (if i + 1 < 2 ^ f then some x else (Tr.put f t i x).get j) else t.get j
  | 0, t, i, x, j => by
    have : ¬ (i + 1 < 2 ^ 0) := by simp
    simp only [Tr.put, this, if_false, ite_self]
  | f + 1, .leaf, i, x, j => by
    rw [Tr.put_leaf, Tr.get_put_node f .leaf none .leaf i x j (get_put f .leaf) (get_put f .leaf)]
    simp only [Tr.get_node, Tr.get_leaf, ite_self]
    by_cases h : j = i
    · simp only [if_pos h]; by_cases h2 : i + 1 < 2 ^ (f + 1)
      · simp only [if_pos h2]
      · simp only [if_neg h2]
    · simp only [if_neg h]
  | f + 1, .node l v r, i, x, j => Tr.get_put_node f l v r i x j (get_put f l) (get_put f r)

theorem Tr.get_set_other {α : Type} (t : Tr α) (i j : Nat) (x : α) (h : j ≠ i) : (t.set i x).get j = t.get j := by
  rw [Tr.set, Tr.get_put, if_neg h]

theorem Tr.get_set_same {α : Type} (t : Tr α) (i : Nat) (x : α) : (t.set i x).get i = some x := by
  rw [Tr.set, Tr.get_put, if_pos rfl, if_pos (Nat.lt_two_pow_self)]

/-! ## What stands in memory -/

structure Ghost where
  S : Nat → Nat → Prop
  β : Nat → Option Nat
  γ : Nat → Nat → Option Value
  μ : Nat → Option Nat

inductive CRep (S : Nat → Nat → Prop) (w : World) : C → Value → Prop where
  | bool (b : Bool) : CRep S w (.bool b) (.bool b)
  | int (k : IntKind) (n : Int) : CRep S w (.int k n) (.int k n)
  | float (k : FloatKind) (n : Nat) : CRep S w (.float k n) (.float k n)
  | str (s : ByteArray) : CRep S w (.str s) (.string s)
  | nilp : CRep S w .nilp (.pointer none)
  | nili : CRep S w .nili .nilIface
  | nilf : CRep S w .nilf .nilFunc
  | nilm : CRep S w .nilm (.map none)
  | slNone (f : Bool) (p : Option Addr) (cap : Nat) (h : f = true → cap = 0) : CRep S w (.sl f []) (.slice p 0 cap)
  | sl (f : Bool) (xs : List (List C)) (b o k cap : Nat) (u : Nat → Nat → Value) (hc : xs.length ≤ cap) (hf : f = true → cap = xs.length)
      (hk : ∀ (i : Nat) (r : List C), xs[i]? = some r → r.length = k)
      (hcell : ∀ (i : Nat) (r : List C) (j : Nat) (c : C), xs[i]? = some r → r[j]? = some c → S b (o + i * k + j) ∧ w.cell? ⟨b, o + i * k + j, none⟩ = some (u i j))
      (hrec : ∀ (i : Nat) (r : List C) (j : Nat) (c : C), xs[i]? = some r → r[j]? = some c → CRep S w c (u i j)) :
      CRep S w (.sl f xs) (.slice (some ⟨b, o, none⟩) xs.length cap)
  | rp (xs : List (List C)) (i off : Nat) (b o k : Nat) (u : Nat → Nat → Value)
      (hk : ∀ (i : Nat) (r : List C), xs[i]? = some r → r.length = k)
      (hcell : ∀ (i : Nat) (r : List C) (j : Nat) (c : C), xs[i]? = some r → r[j]? = some c → S b (o + i * k + j) ∧ w.cell? ⟨b, o + i * k + j, none⟩ = some (u i j))
      (hrec : ∀ (i : Nat) (r : List C) (j : Nat) (c : C), xs[i]? = some r → r[j]? = some c → CRep S w c (u i j)) :
      CRep S w (.rp xs i off) (.pointer (some ⟨b, o + i * k + off, none⟩))

theorem CRep.mono {S S' : Nat → Nat → Prop} {w w' : World} (hS : ∀ b x, S b x → S' b x) (hw : ∀ b x, S b x → w'.cell? ⟨b, x, none⟩ = w.cell? ⟨b, x, none⟩)
    {c : C} {v : Value} (h : CRep S w c v) : CRep S' w' c v := by
  induction h with
  | bool b => exact .bool b
  | int k n => exact .int k n
  | float k n => exact .float k n
  | str s => exact .str s
  | nilp => exact .nilp
  | nili => exact .nili
  | nilf => exact .nilf
  | nilm => exact .nilm
  | slNone f p cap h => exact .slNone f p cap h
  | sl f xs b o k cap u hc hf hk hcell _ ih =>
    exact .sl f xs b o k cap u hc hf hk (fun i r j c hi hj => ⟨hS _ _ (hcell i r j c hi hj).1, by rw [hw _ _ (hcell i r j c hi hj).1]; exact (hcell i r j c hi hj).2⟩) ih
  | rp xs i off b o k u hk hcell _ ih =>
    exact .rp xs i off b o k u hk (fun i r j c hi hj => ⟨hS _ _ (hcell i r j c hi hj).1, by rw [hw _ _ (hcell i r j c hi hj).1]; exact (hcell i r j c hi hj).2⟩) ih

theorem CRep.unfull {S : Nat → Nat → Prop} {w : World} {f : Bool} {xs : List (List C)} {v : Value} (h : CRep S w (.sl f xs) v) : CRep S w (.sl false xs) v := by
  cases h with
  | slNone f p cap h => exact .slNone false p cap (by simp)
  | sl f xs b o k cap u hc hf hk hcell hrec => exact .sl false xs b o k cap u hc (by simp) hk hcell hrec

theorem CRep.oneCell {S : Nat → Nat → Prop} {w : World} {c : C} {v : Value} (h : CRep S w c v) : v.oneCell' = true := by
  cases h <;> rfl

mutual
def DRep (g : Ghost) (w : World) : D → Value → Prop
  | .c c, v => CRep g.S w c v
  | .own t xs, v => CRep g.S w (.sl false xs) v ∧ g.γ t xs.length = some v
  | .ptr b off, v => ∃ k, g.β b = some k ∧ v = .pointer (some ⟨k, off, none⟩)
  | .fn f first cap, v => ∃ fs cs, v = .func (.func f) ⟨fs⟩ ⟨cs⟩ ∧ DReps g w first fs ∧ DReps g w cap cs
  | .map m, v => ∃ k, g.μ m = some k ∧ v = .map (some k)
  | .agg ds, v => ds.all cellLike = true ∧ ∃ vs, v = .agg ⟨vs⟩ ∧ DReps g w ds vs
  | .tup ds, v => ∃ vs, v = .tuple ⟨vs⟩ ∧ DReps g w ds vs
def DReps (g : Ghost) (w : World) : List D → List Value → Prop
  | [], vs => vs = []
  | d :: ds, vs => ∃ v vs', vs = v :: vs' ∧ DRep g w d v ∧ DReps g w ds vs'
end

/-- What was told stays. -/
structure Le (g g' : Ghost) (w w' : World) : Prop where
  S : ∀ b x, g.S b x → g'.S b x
  w : ∀ b x, g.S b x → w'.cell? ⟨b, x, none⟩ = w.cell? ⟨b, x, none⟩
  β : ∀ b k, g.β b = some k → g'.β b = some k
  γ : ∀ t n v, g.γ t n = some v → g'.γ t n = some v
  μ : ∀ m k, g.μ m = some k → g'.μ m = some k

theorem Le.refl (g : Ghost) (w : World) : Le g g w w := ⟨fun _ _ h => h, fun _ _ _ => rfl, fun _ _ h => h, fun _ _ _ h => h, fun _ _ h => h⟩

theorem Le.trans {g1 g2 g3 : Ghost} {w1 w2 w3 : World} (h : Le g1 g2 w1 w2) (h' : Le g2 g3 w2 w3) : Le g1 g3 w1 w3 :=
  ⟨fun b x k => h'.S b x (h.S b x k), fun b x k => (h'.w b x (h.S b x k)).trans (h.w b x k), fun b k q => h'.β b k (h.β b k q),
   fun t n v q => h'.γ t n v (h.γ t n v q), fun m k q => h'.μ m k (h.μ m k q)⟩

mutual
theorem DRep.mono {g g' : Ghost} {w w' : World} (h : Le g g' w w') : ∀ (d : D) (v : Value), DRep g w d v → DRep g' w' d v
  | .c c, v, hd => by simp only [DRep] at hd ⊢; exact hd.mono h.S h.w
  | .own t xs, v, hd => by simp only [DRep] at hd ⊢; exact ⟨hd.1.mono h.S h.w, h.γ _ _ _ hd.2⟩
  | .ptr b off, v, hd => by
    simp only [DRep] at hd ⊢
    obtain ⟨k, hk, hv⟩ := hd
    exact ⟨k, h.β _ _ hk, hv⟩
  | .fn f first cap, v, hd => by
    simp only [DRep] at hd ⊢
    obtain ⟨fs, cs, hv, h1, h2⟩ := hd
    exact ⟨fs, cs, hv, DReps.mono h _ _ h1, DReps.mono h _ _ h2⟩
  | .map m, v, hd => by
    simp only [DRep] at hd ⊢
    obtain ⟨k, hk, hv⟩ := hd
    exact ⟨k, h.μ _ _ hk, hv⟩
  | .agg ds, v, hd => by
    simp only [DRep] at hd ⊢
    obtain ⟨hc, vs, hv, h1⟩ := hd
    exact ⟨hc, vs, hv, DReps.mono h _ _ h1⟩
  | .tup ds, v, hd => by
    simp only [DRep] at hd ⊢
    obtain ⟨vs, hv, h1⟩ := hd
    exact ⟨vs, hv, DReps.mono h _ _ h1⟩
theorem DReps.mono {g g' : Ghost} {w w' : World} (h : Le g g' w w') : ∀ (ds : List D) (vs : List Value), DReps g w ds vs → DReps g' w' ds vs
  | [], vs, hd => by simp only [DReps] at hd ⊢; exact hd
  | d :: ds, vs, hd => by
    simp only [DReps] at hd ⊢
    obtain ⟨v, vs', hv, h1, h2⟩ := hd
    exact ⟨v, vs', hv, DRep.mono h d v h1, DReps.mono h ds vs' h2⟩
end

theorem DReps.length {g : Ghost} {w : World} : ∀ {ds : List D} {vs : List Value}, DReps g w ds vs → vs.length = ds.length
  | [], vs, h => by simp only [DReps] at h; subst h; rfl
  | d :: ds, vs, h => by
    simp only [DReps] at h
    obtain ⟨v, vs', rfl, _, h2⟩ := h
    simp [DReps.length h2]

theorem DReps.at {g : Ghost} {w : World} : ∀ {ds : List D} {vs : List Value}, DReps g w ds vs → ∀ (i : Nat) (d : D), ds[i]? = some d → ∃ v, vs[i]? = some v ∧ DRep g w d v
  | [], vs, h, i, d, hi => by simp at hi
  | d :: ds, vs, h, i, d', hi => by
    simp only [DReps] at h
    obtain ⟨v, vs', rfl, h1, h2⟩ := h
    cases i with
    | zero => simp only [List.getElem?_cons_zero, Option.some.injEq] at hi; subst hi; exact ⟨v, by simp, h1⟩
    | succ i => simp only [List.getElem?_cons_succ] at hi ⊢; exact DReps.at h2 i d' hi

theorem DReps.of {g : Ghost} {w : World} : ∀ {ds : List D} {vs : List Value}, vs.length = ds.length → (∀ (i : Nat) (d : D) (v : Value), ds[i]? = some d → vs[i]? = some v → DRep g w d v) → DReps g w ds vs
  | [], vs, hl, h => by simp only [DReps]; exact List.length_eq_zero_iff.1 (by simpa using hl)
  | d :: ds, [], hl, h => by simp at hl
  | d :: ds, v :: vs, hl, h => by
    simp only [DReps]
    exact ⟨v, vs, rfl, h 0 d v (by simp) (by simp), DReps.of (by simpa using hl) fun i d' v' hd hv => h (i + 1) d' v' (by simpa using hd) (by simpa using hv)⟩

theorem DReps.append {g : Ghost} {w : World} : ∀ {ds es : List D} {vs us : List Value}, DReps g w ds vs → DReps g w es us → DReps g w (ds ++ es) (vs ++ us)
  | [], es, vs, us, h, k => by simp only [DReps] at h; subst h; simpa using k
  | d :: ds, es, vs, us, h, k => by
    simp only [DReps] at h
    obtain ⟨v, vs', rfl, h1, h2⟩ := h
    simp only [List.cons_append, DReps]
    exact ⟨v, vs' ++ us, rfl, h1, DReps.append h2 k⟩

theorem DReps.take {g : Ghost} {w : World} : ∀ {ds : List D} {vs : List Value} (n : Nat), DReps g w ds vs → DReps g w (ds.take n) (vs.take n)
  | [], vs, n, h => by simp only [DReps] at h; subst h; simp [DReps]
  | d :: ds, vs, 0, h => by simp [DReps]
  | d :: ds, vs, n + 1, h => by
    simp only [DReps] at h
    obtain ⟨v, vs', rfl, h1, h2⟩ := h
    simp only [List.take_succ_cons, DReps]
    exact ⟨v, vs'.take n, rfl, h1, DReps.take n h2⟩

theorem DReps.drop {g : Ghost} {w : World} : ∀ {ds : List D} {vs : List Value} (n : Nat), DReps g w ds vs → DReps g w (ds.drop n) (vs.drop n)
  | [], vs, n, h => by simp only [DReps] at h; subst h; simp [DReps]
  | d :: ds, vs, 0, h => by simpa using h
  | d :: ds, vs, n + 1, h => by
    simp only [DReps] at h
    obtain ⟨v, vs', rfl, h1, h2⟩ := h
    simpa using DReps.drop n h2

theorem DRep.oneCell {g : Ghost} {w : World} {d : D} {v : Value} (h : DRep g w d v) (hc : cellLike d = true) : v.oneCell' = true := by
  cases d with
  | c c => simp only [DRep] at h; exact h.oneCell
  | own t xs => simp only [DRep] at h; exact h.1.oneCell
  | ptr b off => simp only [DRep] at h; obtain ⟨k, _, rfl⟩ := h; rfl
  | fn f first cap => simp only [DRep] at h; obtain ⟨fs, cs, rfl, _⟩ := h; rfl
  | map m => simp only [DRep] at h; obtain ⟨k, _, rfl⟩ := h; rfl
  | agg ds => cases hc
  | tup ds => cases hc

/-- The cells of a value. -/
theorem DRep.cells {g : Ghost} {w : World} {d : D} {v : Value} (h : DRep g w d v) : DReps g w d.cells v.cells.toList := by
  have one : v.oneCell' = true ∨ (∃ vs, v = .tuple vs) → DRep g w d v → DReps g w [d] v.cells.toList := by
    intro hv h
    have : v.cells = #[v] := by
      rcases hv with hv | ⟨vs, rfl⟩
      · cases v <;> simp_all [Value.cells, Value.oneCell']
      · rfl
    rw [this]
    simp only [DReps]
    exact ⟨v, [], rfl, h, rfl⟩
  cases d with
  | agg ds =>
    simp only [DRep] at h
    obtain ⟨_, vs, rfl, h1⟩ := h
    exact h1
  | tup ds =>
    refine one (.inr ?_) h
    simp only [DRep] at h
    obtain ⟨vs, rfl, _⟩ := h
    exact ⟨_, rfl⟩
  | c c => exact one (.inl (DRep.oneCell h rfl)) h
  | own t xs => exact one (.inl (DRep.oneCell h rfl)) h
  | ptr b off => exact one (.inl (DRep.oneCell h rfl)) h
  | fn f first cap => exact one (.inl (DRep.oneCell h rfl)) h
  | map m => exact one (.inl (DRep.oneCell h rfl)) h

/-! ## The state -/

structure Spare (base : Nat) (g : Ghost) (δ : Nat → Option Nat) (w : World) (t n k : Nat) (v : Value) : Prop where
  is : ∃ b o cap, v = .slice (some ⟨b, o, none⟩) n cap ∧ n ≤ cap ∧ δ t = some b ∧ 0 < k ∧
    ∀ x, o + n * k ≤ x → x < o + cap * k → (∃ u, w.cell? ⟨b, x, none⟩ = some u) ∧ w.frozen? ⟨b, x, none⟩ = false ∧ ¬ g.S b x

structure SRel (E : Env) (base : Nat) (w0 : World) (S0 : Nat → Nat → Prop) (g : Ghost) (δ : Nat → Option Nat) (σ : St) (w : World) : Prop where
  below : Below base w0 w
  base_le : base ≤ w0.heap.size
  lo : E.lo ≤ base
  fact : E.F w0
  s0 : ∀ b x, S0 b x → g.S b x
  s1 : ∀ b x, g.S b x → S0 b x ∨ base ≤ b
  live : ∀ b x, g.S b x → ∃ v, w.cell? ⟨b, x, none⟩ = some v
  glob : ∀ q c, E.G q = some c → CRep g.S w (.rp [[c]] 0 0) (.pointer (some ⟨q, 0, none⟩))
  boxlt : ∀ b k, g.β b = some k → b < σ.n ∧ base ≤ k ∧ k < w.heap.size
  boxinj : ∀ b b' k, g.β b = some k → g.β b' = some k → b = b'
  boxS : ∀ b k x, g.β b = some k → ¬ g.S k x
  box : ∀ b cs, σ.box.get b = some cs → ∃ k, g.β b = some k ∧ ∀ (i : Nat) (d : D), cs[i]? = some d → cellLike d = true ∧
    ∃ v, w.cell? ⟨k, i, none⟩ = some v ∧ w.frozen? ⟨k, i, none⟩ = false ∧ DRep g w d v
  tokγ : ∀ t n v, g.γ t n = some v → t < σ.tn ∧ ∃ p, σ.tok.get t = some p ∧ n ≤ p.1
  tok : ∀ t p, σ.tok.get t = some p → t < σ.tn ∧ ∃ v, g.γ t p.1 = some v ∧ Spare base g δ w t p.1 p.2 v
  tokδ : ∀ t b, δ t = some b → t < σ.tn ∧ base ≤ b ∧ b < w.heap.size ∧ ∀ i, g.β i ≠ some b
  tokinj : ∀ t t' b, δ t = some b → δ t' = some b → t = t'
  mapμ : ∀ m k, g.μ m = some k → m < σ.mn ∧ base ≤ k ∧ k < w.heap.size ∧ (∀ x, ¬ g.S k x) ∧ (∀ i, g.β i ≠ some k) ∧ ∀ t, δ t ≠ some k
  mapinj : ∀ m m' k, g.μ m = some k → g.μ m' = some k → m = m'
  map : ∀ m es, σ.mp.get m = some es → ∃ k, g.μ m = some k ∧ ∃ (l : List MapEntry) (clock : Nat), w.heap[k]? = some (.map ⟨l⟩ clock) ∧
    l.length = es.length ∧ ∀ (i : Nat) (x : MapEntry) (p : ByteArray × D), l[i]? = some x → es[i]? = some p → x.key = .string p.1 ∧ DRep g w p.2 x.val

structure ARel (g : Ghost) (a : A) (act : Act) (w : World) : Prop where
  nt : act.tmps.size = a.nt
  tmps : ∀ t, DRep g w (a.get t) (act.tmps.getD t undef)
  defers : act.defers = []

theorem ARel.mono {g g' : Ghost} {w w' : World} {a : A} {act : Act} (h : ARel g a act w) (hl : Le g g' w w') : ARel g' a act w' :=
  ⟨h.nt, fun t => DRep.mono hl _ _ (h.tmps t), h.defers⟩

end Go.Vm
