/- Contracts out of the interpreter's own answers, and an answer at the top. -/
import Derived.Test.YtogglamgopmpoaaGreatDoorVmCode
namespace Go.Vm
open Go.RowKit (Below)

section
variable {E : Env}

/-- What the interpreter answers in a heap of its own is a contract. -/
theorem sums_of_call (hE : EnvOK E) {n f : Nat} {args : List D} {d : D} {σ' : St} (h : (evs E n).call f (args.map strip1) St.empty = .ok (d, σ')) (ha : args.all plain1 = true) (hd : plain d = true) :
    Sums E f args (strip d) := by
  intro S g w vs hgS hlo hF hlive hglob hargs
  subst hgS
  obtain ⟨_, _, hC⟩ := (evs_ok hE n).1 _ _ _ _ _ h
  have hs : SRel E w.heap.size w g.S { S := g.S, β := fun _ => none, γ := fun _ _ => none, μ := fun _ => none } (fun _ => none) St.empty w := by
    constructor
    · exact Below.refl _ _
    · exact Nat.le_refl _
    · exact hlo
    · exact hF
    · exact fun _ _ h => h
    · exact fun _ _ h => .inl h
    · exact hlive
    · exact hglob
    · intro b k h; cases h
    · intro b b' k h; cases h
    · intro b k x h; cases h
    · intro b cs h; cases h
    · intro t n v h; cases h
    · intro t p h; cases h
    · intro t b h; cases h
    · intro t t' b h; cases h
    · intro m k h; cases h
    · intro m m' k h; cases h
    · intro m es h; cases h
  refine (hC _ _ _ _ _ _ vs hs (plains_rep ha hargs _ rfl)).mono ?_
  rintro en w' ⟨v, g', δ', rfl, hle', hs', hd', _⟩
  exact ⟨v, g'.S, rfl, hs'.below, hle'.S, hs'.s1, hs'.live, plain_rep hd hd' { g with S := g'.S } rfl⟩

/-- One contract more. -/
def Env.more (E : Env) (f : Nat) (h : List D → R D) : Env := { E with sum := fun x => bif Nat.beq x f then some h else E.sum x }

theorem EnvOK.more (hE : EnvOK E) {f : Nat} {h : List D → R D} (hb : ∃ fn, E.P.funcs[f]? = some fn ∧ fn.body.isNone = false) (hs : ∀ args d, h args = .ok d → Sums E f args d) : EnvOK (E.more f h) where
  names := hE.names
  keep := hE.keep
  ext := hE.ext
  sum := by
    intro x k hx
    simp only [Env.more] at hx
    cases hxf : Nat.beq x f with
    | true =>
      rw [hxf] at hx
      simp only [cond_true, Option.some.injEq] at hx
      have : x = f := Nat.beq_eq ▸ hxf
      subst this; subst hx
      exact ⟨hb, fun args d hd => hs args d hd⟩
    | false =>
      rw [hxf] at hx
      obtain ⟨h1, h2⟩ := hE.sum x k hx
      exact ⟨h1, fun args d hd => h2 args d hd⟩
  mixed := hE.mixed

/-- What a contract says of a call from outside. -/
theorem Sums.calls {f : Nat} {args : List D} {d : D} (h : Sums E f args d) {w : World} {vs : List Value} (hlo : E.lo ≤ w.heap.size) (hF : E.F w)
    (hglob : ∀ q c, E.G q = some c → CRep (fun b x => ∃ v, w.cell? ⟨b, x, none⟩ = some v) w (.rp [[c]] 0 0) (.pointer (some ⟨q, 0, none⟩)))
    (hargs : DReps { S := fun b x => ∃ v, w.cell? ⟨b, x, none⟩ = some v, β := fun _ => none, γ := fun _ _ => none, μ := fun _ => none } w args vs) :
    Calls E.P f ⟨vs⟩ w fun en w' => ∃ v g', en = .returned v ∧ Below w.heap.size w w' ∧ DRep g' w' d v := by
  refine (h _ _ w vs rfl hlo hF (fun _ _ h => h) hglob hargs).mono ?_
  rintro en w' ⟨v, S', h1, h2, h3, h4, h5, h6⟩
  exact ⟨v, _, h1, h2, h6⟩

end

end Go.Vm
