/- A slice of strings among the arguments, as the interpreter's value; its bulk. -/
import Derived.Test.YtogglamgopmpoaaGreatDoorLaw
import Derived.Test.YtogglamgopmpoaaGreatDoorVmLaid
namespace Go.Vm
open Go.Proofs

theorem strRows_at (ss : List (List UInt8)) (i : Nat) (r : List C) (h : (strRows ss)[i]? = some r) : ∃ s, ss[i]? = some s ∧ r = [.str ⟨s.toArray⟩] := by
  unfold strRows at h
  rw [List.getElem?_map] at h
  cases hs : ss[i]? with
  | none => rw [hs] at h; cases h
  | some s => rw [hs] at h; simp only [Option.map_some, Option.some.injEq] at h; exact ⟨s, rfl, h.symm⟩

/-- The strings of a slice that was handed in. -/
theorem strs_arg {w : World} {a : Addr} {len cap : Nat} {xs : List ByteArray} (hl : len ≤ cap) (hx : len ≤ xs.length)
    (hcell : ∀ i, i < xs.length → w.cell? (a.add i) = some (.string (xs.getD i ByteArray.empty))) :
    CRep (Alive w) w (.sl false (strRows ((xs.take len).map (·.data.toList)))) (.slice (some a) len cap) := by
  by_cases h0 : len = 0
  · subst h0
    simp only [List.take_zero, List.map_nil]
    exact .slNone false _ cap (by simp)
  · have hspot : a.spot = none := by
      have := hcell 0 (by omega)
      cases hs : a.spot with
      | none => rfl
      | some q =>
        simp only [Addr.add, if_true, World.cell?] at this
        split at this
        · rw [hs] at this; simp at this
        · cases this
    obtain ⟨ab, ao, asp⟩ := a
    simp only at hspot
    subst hspot
    have hlen : len = (strRows ((xs.take len).map (·.data.toList))).length := by simp [strRows]; omega
    have key : ∀ (i : Nat) (r : List C) (j : Nat) (c : C), (strRows ((xs.take len).map (·.data.toList)))[i]? = some r → r[j]? = some c → j = 0 ∧ i < xs.length ∧ c = .str (xs.getD i ByteArray.empty) := by
      intro i r j c hi hj
      obtain ⟨s, hs, rfl⟩ := strRows_at _ _ _ hi
      rw [List.getElem?_map] at hs
      cases hxs : (xs.take len)[i]? with
      | none => rw [hxs] at hs; cases hs
      | some b =>
        rw [hxs] at hs
        simp only [Option.map_some, Option.some.injEq] at hs
        subst hs
        have hlt : i < len := by
          have := (List.getElem?_eq_some_iff.1 hxs).1
          simp only [List.length_take] at this
          omega
        rw [List.getElem?_take_of_lt hlt] at hxs
        cases j with
        | zero =>
          simp only [List.getElem?_cons_zero, Option.some.injEq] at hj
          refine ⟨rfl, by omega, ?_⟩
          rw [← hj, List.getD, hxs, Option.getD_some]
        | succ j => simp at hj
    have main := CRep.sl (S := Alive w) (w := w) false (strRows ((xs.take len).map (·.data.toList))) ab ao 1 cap (fun i _ => .string (xs.getD i ByteArray.empty)) (by omega) (by simp)
      (fun i r hi => by obtain ⟨s, _, rfl⟩ := strRows_at _ _ _ hi; rfl)
      (fun i r j c hi hj => by
        obtain ⟨rfl, hlt, rfl⟩ := key i r j c hi hj
        have := hcell i hlt
        rw [addr_add rfl] at this
        simp only [Nat.mul_one, Nat.add_zero]
        exact ⟨⟨_, this⟩, this⟩)
      (fun i r j c hi hj => by obtain ⟨rfl, hlt, rfl⟩ := key i r j c hi hj; exact .str _)
    rw [← hlen] at main
    exact main

end Go.Vm
