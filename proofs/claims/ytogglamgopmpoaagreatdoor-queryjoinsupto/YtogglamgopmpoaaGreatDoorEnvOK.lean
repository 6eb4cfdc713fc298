/- What the interpreter was told is so. -/
import Derived.Test.YtogglamgopmpoaaGreatDoorEnv
namespace Go.Vm
open Go.Proofs
open Go.RowKit (Below)

theorem names_all : (Tryz.prog.funcs.toList.all fun fn => !(fn.name == "runtime.NumGoroutine")) = true := by kernel_rfl

theorem contains_sums (args : List D) (d : D) (h : containsH args = .ok d) : Sums env0 137 args d := by
  unfold containsH at h
  split at h
  · rename_i s t
    split at h
    · rename_i hs
      cases h
      refine sums_of_calls (v := .bool _) (fun _ _ => .bool _) ?_
      intro S g w vs hF hargs
      obtain ⟨u, v, rfl, h1, h2⟩ := reps2 hargs
      cases h1; cases h2
      obtain ⟨m, hm⟩ := hF
      exact (Any.strings_Contains { Tryz.laysContains with } s t m w hs hm).mono (fun e w' ⟨he, hw⟩ => ⟨he, hw ▸ Below.refl _ _⟩)
    · cases h
  · cases h

theorem trim_sums (args : List D) (d : D) (h : trimH args = .ok d) : Sums env0 10 args d := by
  unfold trimH at h
  split at h
  · rename_i s t
    split at h
    · rename_i hs
      cases h
      refine sums_of_calls (v := .string _) (fun _ _ => .str _) ?_
      intro S g w vs hF hargs
      obtain ⟨u, v, rfl, h1, h2⟩ := reps2 hargs
      cases h1; cases h2
      exact Any.strings_Trim_laid Tryz.laysTrim (by kernel_rfl) s t w hs.1 hs.2.1 (ascii_of_all hs.2.2)
    · cases h
  · cases h

theorem bits_ext (args : List D) (d : D) (h : bitsH args = .ok d) (g : Ghost) (w : World) (vs : List Value) (hr : DReps g w args vs) :
    ∃ v, (callFunc 157 ⟨vs⟩).run Tryz.prog w = .ok (.value v) w ∧ DRep g w d v := by
  unfold bitsH at h
  split at h
  · rename_i n
    cases h
    simp only [DReps, DRep] at hr
    obtain ⟨u, _, rfl, h1, rfl⟩ := hr
    cases h1
    refine ⟨.int .u64 n, ?_, by simp only [DRep]; exact .int _ _⟩
    rw [run_callFunc_extern (P := Tryz.prog) (f := 157) (fn := Tryz.f157) (e := Extern.MathFloatBits.float64bits) Tryz.func157 (by kernel_rfl) (by kernel_rfl) (by kernel_rfl) (by kernel_rfl)]
    rfl
  · cases h

theorem index_ext (args : List D) (d : D) (h : indexH args = .ok d) (g : Ghost) (w : World) (vs : List Value) (hr : DReps g w args vs) :
    ∃ v, (callFunc 140 ⟨vs⟩).run Tryz.prog w = .ok (.value v) w ∧ DRep g w d v := by
  unfold indexH at h
  split at h
  · rename_i s c
    cases h
    obtain ⟨u, v, rfl, h1, h2⟩ := reps2 hr
    cases h1; cases h2
    refine ⟨.int .i64 (firstIdx s c.toNat.toUInt8), ?_, by simp only [DRep]; exact .int _ _⟩
    rw [run_callFunc_extern (P := Tryz.prog) (f := 140) (fn := Tryz.f140) (e := Extern.BytealgIndexByte.indexByte) Tryz.func140 (by kernel_rfl) (by kernel_rfl) (by kernel_rfl) (by kernel_rfl)]
    rw [show (Extern.BytealgIndexByte.indexByte #[.string s, .int .u8 c]).run Tryz.prog w = _ from run_indexByte_string s c w]
    rfl
  · cases h

theorem env0_ok : EnvOK env0 where
  names := by
    intro f fn hf
    have hf : Tryz.prog.funcs[f]? = some fn := hf
    have := List.all_eq_true.1 names_all fn (by simpa using Array.mem_of_getElem? hf)
    simpa using this
  keep := by
    rintro w w' ⟨m, hm⟩ hb
    exact ⟨m, by rw [hb.cell (p := ⟨6, 0, none⟩) (show 6 < 7 by decide)]; exact hm⟩
  ext := by
    intro f h hf args d hd g w vs hr
    simp only [env0] at hf
    cases h1 : Nat.beq f 157 with
    | true =>
      rw [h1] at hf
      cases hf
      have : f = 157 := Nat.beq_eq ▸ h1
      subst this
      exact bits_ext args d hd g w vs hr
    | false =>
      rw [h1] at hf
      simp only [cond_false] at hf
      cases h2 : Nat.beq f 140 with
      | true =>
        rw [h2] at hf
        cases hf
        have : f = 140 := Nat.beq_eq ▸ h2
        subst this
        exact index_ext args d hd g w vs hr
      | false => rw [h2] at hf; cases hf
  sum := by
    intro f h hf
    simp only [env0] at hf
    cases h1 : Nat.beq f 137 with
    | true =>
      rw [h1] at hf
      cases hf
      have : f = 137 := Nat.beq_eq ▸ h1
      subst this
      exact ⟨⟨Tryz.f137, Tryz.func137, by kernel_rfl⟩, contains_sums⟩
    | false => rw [h1] at hf; cases hf
  mixed := by kernel_rfl

/-- The layer answers: run by the kernel. -/
def isTrue : R (D × St) → Bool
  | .ok (.c (.bool true), _) => true
  | _ => false
theorem awake_runs : isTrue ((evs env0 1000).call 8 [] St.empty) = true := by kernel_rfl

theorem awake_sums : Sums env0 8 [] (.c (.bool true)) := by
  have h := awake_runs
  generalize hx : (evs env0 1000).call 8 [] St.empty = x at h
  unfold isTrue at h
  split at h
  · rename_i σ'
    exact sums_of_call (args := []) env0_ok hx rfl rfl
  · cases h

end Go.Vm
