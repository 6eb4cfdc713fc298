/- The contracts one upon the other, and the law's answer. -/
import Derived.Test.YtogglamgopmpoaaGreatDoorEnvOK
import Derived.Test.YtogglamgopmpoaaGreatDoorBlank
import Derived.Test.YtogglamgopmpoaaGreatDoorStrings
namespace Go.Vm
open Go.Proofs
open Go.RowKit (Below)

theorem Sums.weak {E : Env} {f : Nat} {args : List D} {d d' : D} (h : Sums E f args d) (hd : ∀ g w v, DRep g w d v → DRep g w d' v) : Sums E f args d' := by
  intro S g w vs h1 h2 h3 h4 h5 h6
  refine (h S g w vs h1 h2 h3 h4 h5 h6).mono ?_
  rintro en w' ⟨v, S', q1, q2, q3, q4, q5, q6⟩
  exact ⟨v, S', q1, q2, q3, q4, q5, hd _ _ _ q6⟩

def awakeH : List D → R D
  | [] => .ok (.c (.bool true))
  | _ => .er 930

def splitH : List D → R D
  | [.c (.str s)] => if s.size ≤ 1048576 then .ok (.tup [.c (.sl false (strRows (splitM s.data.toList).1)), .c (.str ⟨(splitM s.data.toList).2.toArray⟩)]) else .er 931
  | _ => .er 932

noncomputable def env1 : Env := env0.more 8 awakeH
noncomputable def env2 : Env := env1.more 10 trimH
noncomputable def env3 : Env := env2.more 13 blankH
noncomputable def env4 : Env := env3.more 9 trimmedH
noncomputable def env5 : Env := env4.more 5 splitH
noncomputable def env6 : Env := env5.more 4 splitH
noncomputable def env7 : Env := env6.more 7 stringsH

theorem env1_ok : EnvOK env1 := by
  refine env0_ok.more ⟨Tryz.f8, Tryz.func8, by kernel_rfl⟩ fun args d h => ?_
  unfold awakeH at h
  split at h
  · cases h; exact awake_sums
  · cases h

theorem env2_ok : EnvOK env2 := env1_ok.more ⟨Tryz.f10, Tryz.func10, by kernel_rfl⟩ trim_sums

theorem env3_ok : EnvOK env3 := by
  refine env2_ok.more ⟨Tryz.f13, Tryz.func13, by kernel_rfl⟩ fun args d h => ?_
  unfold blankH at h
  split at h
  · rename_i n
    cases h
    obtain ⟨d, σ', hev, rfl⟩ := blank_ev (E := env2) rfl n
    exact hev.sums (args := [.c (.int .u8 n)]) env2_ok rfl rfl
  · cases h

theorem told9 : Told9 env3 := ⟨rfl, rfl⟩

theorem env4_ok : EnvOK env4 := by
  refine env3_ok.more ⟨Tryz.f9, Tryz.func9, by kernel_rfl⟩ fun args d h => ?_
  unfold trimmedH at h
  split at h
  · rename_i s
    split at h
    · rename_i hs
      cases h
      obtain ⟨d, σ', hev, rfl⟩ := trimmed_ev told9 s hs
      exact hev.sums (args := [.c (.str s)]) env3_ok rfl rfl
    · cases h
  · cases h

theorem told4 : Told env4 := ⟨rfl, rfl⟩
theorem told5 : Told5 env5 := ⟨rfl, rfl⟩

theorem split_sums {E : Env} (hE : EnvOK E) {f : Nat} (hev : ∀ s : ByteArray, s.size ≤ 1048576 → ∃ d σ', Ev E f [.c (.str s)] St.empty d σ' ∧ SplitAns s d) (args : List D) (d : D) (h : splitH args = .ok d) : Sums E f args d := by
  unfold splitH at h
  split at h
  · rename_i s
    split at h
    · rename_i hs
      cases h
      obtain ⟨d, σ', hv, d0, rfl, hd0⟩ := hev s hs
      rcases hd0 with ⟨rfl, h0⟩ | ⟨t, rfl⟩
      · refine (hv.sums (args := [.c (.str s)]) hE rfl rfl).weak fun g w v hd => ?_
        rw [h0]
        simp only [strip, strip1, stripC, List.map_cons, List.map_nil, DRep, DReps] at hd ⊢
        obtain ⟨vs, rfl, u, us, rfl, h1, h2⟩ := hd
        exact ⟨_, rfl, u, us, rfl, h1.unfull, h2⟩
      · exact hv.sums (args := [.c (.str s)]) hE rfl rfl
    · cases h
  · cases h

theorem env5_ok : EnvOK env5 := env4_ok.more ⟨Tryz.f5, Tryz.func5, by kernel_rfl⟩ (split_sums env4_ok (split4_ev told4))
theorem env6_ok : EnvOK env6 := env5_ok.more ⟨Tryz.f4, Tryz.func4, by kernel_rfl⟩ (split_sums env5_ok (split5_ev told5))

theorem env7_ok : EnvOK env7 := by
  refine env6_ok.more ⟨Tryz.f7, Tryz.func7, by kernel_rfl⟩ fun args d h => ?_
  unfold stringsH at h
  split at h
  · rename_i f xs f' ys
    obtain ⟨hc, h⟩ := cond_ok h
    cases h
    simp only [Bool.and_eq_true, Nat.ble_eq] at hc
    have : xs = ys := sameRows_eq _ _ hc.1.1
    subst this
    obtain ⟨d, σ', hev, rfl⟩ := strings_ev (E := env6) rfl f f' xs (fun r hr => List.all_eq_true.1 hc.1.2 r hr) hc.2
    exact hev.sums (args := [.c (.sl f xs), .c (.sl f' xs)]) env6_ok rfl rfl
  · cases h

theorem sameC_str (s : ByteArray) : sameC (.str s) (.str s) = true := by simp [sameC]
theorem sameRows_strs : ∀ (out : List (List UInt8)), sameRows (strRows out) (strRows out) = true
  | [] => rfl
  | s :: out => by
    have := sameRows_strs out
    simp only [strRows] at this
    simp only [strRows, List.map_cons, sameRows, sameRow, sameC_str, this, Bool.and_self]

theorem strings_same (out : List (List UInt8)) (h : out.length ≤ 1048576) : stringsH [.c (.sl false (strRows out)), .c (.sl false (strRows out))] = .ok (.c (.bool true)) := by
  have e1 : (strRows out).all isStrRow = true := by
    rw [List.all_eq_true]
    intro r hr
    unfold strRows at hr
    obtain ⟨s, _, rfl⟩ := List.mem_map.1 hr
    rfl
  have e2 : Nat.ble (strRows out).length 1048576 = true := by rw [Nat.ble_eq]; simpa [strRows] using h
  simp only [stringsH, sameRows_strs, e1, e2, Bool.and_self, cond_true]

end Go.Vm
