/- Out of a row's listed variables: slices of strings. Contracts of package strings. -/
import Derived.Test.YtogglamgopmpoaaGreatDoorVmTop
import Derived.SliceStrings
import Derived.Lib.LaidU8
namespace Go.Vm
open Go.RowKit (Below)

/-- Every cell there is. -/
def Alive (w : World) : Nat → Nat → Prop := fun b x => ∃ v, w.cell? ⟨b, x, none⟩ = some v

def strRows (ss : List (List UInt8)) : List (List C) := ss.map fun s => [.str ⟨s.toArray⟩]

theorem var_cell {P : Program} {w : World} {n : String} {g : Nat} {cs : Array Value} (hg : P.globalNamed n = some g) (h : w.var? P n = some cs) (i : Nat) : w.cell? ⟨g, i, none⟩ = cs[i]? := by
  unfold World.var? at h
  rw [hg] at h
  simp only [Option.bind_some] at h
  unfold World.cell?
  split at h
  · rename_i c t f hh
    cases h
    simp only [hh]
    rfl
  · cases h

theorem addr_add {a : Addr} (h : a.spot = none) (i : Nat) : a.add i = ⟨a.block, a.off + i, none⟩ := by
  unfold Addr.add
  split
  · subst_vars; cases a; simp_all
  · rfl

/-- A listed variable that is a slice of strings. -/
theorem str_glob {P : Program} {w : World} {n : String} {g t e : Nat} {ss : List (List UInt8)} (hr : Lib.VarReads P w n (.slice (ss.map fun s => .lit (.string s)) [])) (hg : P.globalNamed n = some g)
    (hgt : (P.globals[g]?).map (·.type) = some t) (ht : P.underlying t = some (.slice e)) (he : P.underlying e = some .string) (hc : P.cellsOf e = 1) :
    CRep (Alive w) w (.rp [[.sl true (strRows ss)]] 0 0) (.pointer (some ⟨g, 0, none⟩)) := by
  obtain ⟨g', t', cs, fuel, p, h1, h2, h3, h4⟩ := hr
  rw [hg] at h1; cases h1
  rw [hgt] at h2; cases h2
  have hcell := var_cell hg h3
  have hsl : ∃ v, cs.toList = [v] ∧ CRep (Alive w) w (.sl true (strRows ss)) v := by
    rcases ChangeShapes.open_strings ht he hc h4 with ⟨_, hx⟩ | ⟨a, len, cap, xs, hcs, _, hl, hm, hz, hx, hcl, hsz⟩
    · cases hx
    · refine ⟨_, hcs, ?_⟩
      simp only [if_true] at hz
      have hx1 := congrArg Prod.fst hx
      simp only [DataW.slice.injEq] at hx1
      have hd : xs.drop len = [] := by
        have := hx1.2
        unfold ChangeShapes.strs at this
        exact List.map_eq_nil_iff.1 this.symm
      have hlen : len = xs.length := by
        have := List.drop_eq_nil_iff.1 hd
        omega
      have ht : xs.take len = xs := by rw [hlen, List.take_length]
      rw [ht] at hx1
      have hxs : ss.map (fun s => (DataW.lit (.string s) : DataW Unit)) = xs.map fun s => .lit (.string s.data.toList) := hx1.1
      have hl2 : ss.length = xs.length := by simpa using congrArg List.length hxs
      have hat : ∀ (i : Nat) (s : List UInt8), ss[i]? = some s → xs.getD i ByteArray.empty = ⟨s.toArray⟩ ∧ i < xs.length := by
        intro i s hi
        have hlt : i < xs.length := by rw [← hl2]; exact (List.getElem?_eq_some_iff.1 hi).1
        have h9 := congrArg (fun l => l[i]?) hxs
        simp only [List.getElem?_map, hi, List.getElem?_eq_getElem hlt, Option.map_some, Option.some.injEq, DataW.lit.injEq, Lit.string.injEq] at h9
        refine ⟨?_, hlt⟩
        rw [List.getD, List.getElem?_eq_getElem hlt, Option.getD_some]
        rw [h9]
      by_cases h0 : ss = []
      · subst h0
        have hx0 : xs.length = 0 := by rw [← hl2]; rfl
        have e1 : len = 0 := by omega
        have e2 : cap = 0 := by omega
        subst e1; subst e2
        exact .slNone true _ 0 (fun _ => rfl)
      · have hpos : 0 < xs.length := by rw [← hl2]; exact List.length_pos_iff.2 h0
        have hspot : a.spot = none := by
          have := hcl 0 hpos
          cases hs : a.spot with
          | none => rfl
          | some q =>
            simp only [Addr.add, if_true, World.cell?] at this
            split at this
            · rw [hs] at this; simp at this
            · cases this
        have e2 : cap = len := by omega
        subst e2
        have : cap = (strRows ss).length := by simp [strRows]; omega
        obtain ⟨ab, ao, asp⟩ := a
        simp only at hspot
        subst hspot
        have key : ∀ (i : Nat) (r : List C) (j : Nat) (c : C), (strRows ss)[i]? = some r → r[j]? = some c → j = 0 ∧ ∃ s, ss[i]? = some s ∧ c = .str ⟨s.toArray⟩ := by
          intro i r j c hi hj
          unfold strRows at hi
          rw [List.getElem?_map] at hi
          cases hss : ss[i]? with
          | none => rw [hss] at hi; cases hi
          | some s =>
            rw [hss] at hi
            simp only [Option.map_some, Option.some.injEq] at hi
            subst hi
            cases j with
            | zero => simp only [List.getElem?_cons_zero, Option.some.injEq] at hj; exact ⟨rfl, s, rfl, hj.symm⟩
            | succ j => simp at hj
        rw [this]
        refine CRep.sl true (strRows ss) ab ao 1 (strRows ss).length (fun i _ => .string (xs.getD i ByteArray.empty)) (Nat.le_refl _) (fun _ => rfl) ?_ ?_ ?_
        · intro i r hi
          unfold strRows at hi
          rw [List.getElem?_map] at hi
          cases hss : ss[i]? with
          | none => rw [hss] at hi; cases hi
          | some s => rw [hss] at hi; simp only [Option.map_some, Option.some.injEq] at hi; subst hi; rfl
        · intro i r j c hi hj
          obtain ⟨rfl, s, hs, rfl⟩ := key i r j c hi hj
          have := hcl i (hat i s hs).2
          rw [addr_add rfl] at this
          simp only [Nat.mul_one, Nat.add_zero]
          exact ⟨⟨_, this⟩, this⟩
        · intro i r j c hi hj
          obtain ⟨rfl, s, hs, rfl⟩ := key i r j c hi hj
          rw [(hat i s hs).1]
          exact .str _
  obtain ⟨v, hv, hrep⟩ := hsl
  have h0 : w.cell? ⟨g, 0, none⟩ = some v := by
    rw [hcell 0]
    have := congrArg (fun l => l[0]?) hv
    simpa using this
  have := CRep.rp (S := Alive w) (w := w) [[.sl true (strRows ss)]] 0 0 g 0 1 (fun _ _ => v) (by
      intro i r hi
      cases i with
      | zero => simp only [List.getElem?_cons_zero, Option.some.injEq] at hi; subst hi; rfl
      | succ i => simp at hi) (by
      intro i r j c hi hj
      cases i with
      | zero =>
        simp only [List.getElem?_cons_zero, Option.some.injEq] at hi
        subst hi
        cases j with
        | zero => exact ⟨⟨v, h0⟩, h0⟩
        | succ j => simp at hj
      | succ i => simp at hi) (by
      intro i r j c hi hj
      cases i with
      | zero =>
        simp only [List.getElem?_cons_zero, Option.some.injEq] at hi
        subst hi
        cases j with
        | zero =>
          simp only [List.getElem?_cons_zero, Option.some.injEq] at hj
          subst hj
          exact hrep
        | succ j => simp at hj
      | succ i => simp at hi)
  simpa using this

/-- A contract whose answer holds no memory. -/
theorem sums_of_calls {E : Env} {f : Nat} {args : List D} {c : C} {v : Value} (hc : ∀ S w, CRep S w c v)
    (h : ∀ (_ : Nat → Nat → Prop) (g : Ghost) (w : World) (vs : List Value), E.F w → DReps g w args vs → Calls E.P f ⟨vs⟩ w fun e w' => e = .returned v ∧ Below w.heap.size w w') : Sums E f args (.c c) := by
  intro S g w vs hgS hlo hF hlive hglob hargs
  refine (h S g w vs hF hargs).mono ?_
  rintro e w' ⟨rfl, hb⟩
  refine ⟨v, S, rfl, hb, fun _ _ h => h, fun _ _ h => .inl h, fun b x hx => ?_, ?_⟩
  · obtain ⟨u, hu⟩ := hlive b x hx
    exact ⟨u, by rw [hb.cell (p := ⟨b, x, none⟩) (cell_lt hu)]; exact hu⟩
  · simp only [DRep]
    exact hc _ _

theorem reps2 {g : Ghost} {w : World} {a b : C} {vs : List Value} (h : DReps g w [.c a, .c b] vs) : ∃ u v, vs = [u, v] ∧ CRep g.S w a u ∧ CRep g.S w b v := by
  simp only [DReps, DRep] at h
  obtain ⟨u, _, rfl, h1, v, _, rfl, h2, rfl⟩ := h
  exact ⟨u, v, rfl, h1, h2⟩

end Go.Vm
