/- The row of QueryJoins in its second form, and its card. -/
import Derived.Test.YtogglamgopmpoaaGreatDoorCards
import Derived.Test.YtogglamgopmpoaaGreatDoorTie
import Derived.Test.YtogglamgopmpoaaGreatDoorTop
import Derived.Test.YtogglamgopmpoaaGreatDoorOpen
import Derived.Test.YtogglamgopmpoaaGreatDoorClosed
import Derived.WalkKit
import Derived.ProofKit
import Derived.OpenShut
import Derived.Deep.DeepHandedRow
import Derived.MakeChecks
import Derived.Lay
import Derived.SevenTiedAt
import Derived.Carry
namespace Go.Proofs.YtogglamgopmpoaaGreatDoor.queryJoins
open Go.ChangeShapes Go.WideShapes Go.ChangeAt Go.RowKit Go.Vm

theorem own : ownKnob Tryz.prog.godebug = none := by kernel_rfl
theorem g2 : Tryz.prog.globalNamed "vellum/query.signs" = some 2 := by kernel_rfl
theorem g8 : Tryz.prog.globalNamed "vellum/pred.unaries" = some 8 := by kernel_rfl
theorem g9 : Tryz.prog.globalNamed "vellum/pred.arithmetic" = some 9 := by kernel_rfl
theorem g10 : Tryz.prog.globalNamed "vellum/pred.comparisons" = some 10 := by kernel_rfl
theorem t2 : (Tryz.prog.globals[2]?).map (·.type) = some 22 := by kernel_rfl
theorem t8 : (Tryz.prog.globals[8]?).map (·.type) = some 22 := by kernel_rfl
theorem t9 : (Tryz.prog.globals[9]?).map (·.type) = some 22 := by kernel_rfl
theorem t10 : (Tryz.prog.globals[10]?).map (·.type) = some 22 := by kernel_rfl
theorem c9 : Tryz.prog.cellsOf 9 = 1 := by kernel_rfl
theorem laidP : laidOutB Tryz.prog = true := fact2
theorem plainLaid : (Rows.queryJoinsUptoRow.laid.all fun x => x.2.handleName?.isNone) = true := by kernel_rfl

theorem globs_of {W : World} (h : laidMet Tryz.prog Rows.queryJoinsUptoRow.laid W) : ∀ q c, globs q = some c → CRep (Alive W) W (.rp [[c]] 0 0) (.pointer (some ⟨q, 0, none⟩)) := by
  intro q c hq
  unfold globs at hq
  split at hq
  · cases hq
    exact str_glob (ss := signs) (Lib.laidMet.reads h (by simp [Rows.queryJoinsUptoRow, Rows.laid_vellum_query_signs, signs])) g2 t2 Tryz.underlying22 Tryz.underlying9 c9
  · cases hq
    exact str_glob (ss := unaries) (Lib.laidMet.reads h (by simp [Rows.queryJoinsUptoRow, Rows.laid_vellum_pred_unaries, unaries])) g8 t8 Tryz.underlying22 Tryz.underlying9 c9
  · cases hq
    exact str_glob (ss := arithmetic) (Lib.laidMet.reads h (by simp [Rows.queryJoinsUptoRow, Rows.laid_vellum_pred_arithmetic, arithmetic])) g9 t9 Tryz.underlying22 Tryz.underlying9 c9
  · cases hq
    exact str_glob (ss := comparisons) (Lib.laidMet.reads h (by simp [Rows.queryJoinsUptoRow, Rows.laid_vellum_pred_comparisons, comparisons])) g10 t10 Tryz.underlying22 Tryz.underlying9 c9
  · cases hq

theorem bulk_strs {H : Type} : ∀ xs : List ByteArray, Rows.uptoBulkAll (strs (H := H) xs) = bulk (xs.map (·.data.toList))
  | [] => rfl
  | x :: xs => by
    have := bulk_strs (H := H) xs
    simp only [strs, List.map_cons, Rows.uptoBulkAll, Rows.uptoBulk, bulk] at this ⊢
    omega

/-- What the bound gives. -/
theorem short {H : Type} {d : DataW H} (hk : Rows.uptoSmall H [d] = true) : Rows.uptoBulk d ≤ 1048576 := by
  have h : Rows.uptoBulkAll [d] ≤ 1048576 := of_decide_eq_true hk
  simp only [Rows.uptoBulkAll] at h
  omega

set_option maxRecDepth 100000 in
theorem opened {H : Type} {enc : TypeId × Value → H} {W : World} {fuel : Nat} {a0 : Option Addr} {len cap : Nat} {d : DataW H} {p : List MemPlace}
    (hf : DataW.trod enc Tryz.prog W 0 (fun _ => true) true fuel 22 (Value.slice a0 len cap).cells.toList = some (d, p)) (hk : Rows.uptoBulk d ≤ 1048576) :
    ∃ ss, CRep (Alive W) W (.sl false (strRows ss)) (.slice a0 len cap) ∧ bulk ss ≤ 1048575 := by
  rcases open_strings Tryz.underlying22 Tryz.underlying9 c9 hf with ⟨hcs, hx⟩ | ⟨a, len', cap', xs, hcs, _, hl, hm, hz, hx, hcell, hsz⟩
  · have e : Value.slice a0 len cap = .slice none 0 0 := by simpa [Value.cells] using hcs
    cases e
    exact ⟨[], .slNone false _ _ (by simp), by decide⟩
  · have e : Value.slice a0 len cap = .slice (some a) len' cap' := by simpa [Value.cells] using hcs
    cases e
    simp only [if_true] at hz
    simp only [Prod.mk.injEq] at hx
    obtain ⟨rfl, _⟩ := hx
    refine ⟨_, strs_arg hl (by omega) hcell, ?_⟩
    simp only [Rows.uptoBulk, bulk_strs] at hk
    omega

set_option maxRecDepth 100000 in
theorem contract (H : Type) (enc : TypeId × Value → H) (W : World) (base : Nat) (args : Array Value) (ds gs : List (DataW H)) (before : List MemPlace)
    (hval : ∀ (j : Nat) t v, Tryz.f3.params[j]? = some t → args[j]? = some v → Value.okWide Tryz.prog W .any base t v)
    (hW : DataW.Whole enc Tryz.prog Tryz.f3.params.toList Rows.queryJoinsSpec.vars false W args.toList ds gs before) (hk : Rows.uptoSmall H (ds ++ gs) = true)
    (hL : laidMetH Tryz.prog Rows.queryJoinsUptoRow.laid W) (hS : W.ShapedOpen Tryz.prog) :
    Calls Tryz.prog 3 args W fun e W' => ∃ v, e = .returned v ∧ Rows.queryJoinsSpec.post enc Tryz.prog Tryz.f3 false true false false W args v W' := by
  have hW' := hW
  obtain ⟨p, q, hA0, hV, rfl, hfz, hnd⟩ := hW
  have hA : DataW.TrodAll enc Tryz.prog W 0 (fun _ => true) true Tryz.f3.params.toList args.toList ds p := hA0
  rw [Tryz.params3] at hA hval
  obtain ⟨v0, vs0, d0, ds0, p0, q0, hargs, rfl, rfl, h0, r0⟩ := trodAll_cons hA
  obtain ⟨rfl, rfl, rfl⟩ := trodAll_nil r0
  obtain rfl : args = #[v0] := by cases args; simp_all
  obtain ⟨rfl, rfl⟩ := trodVars_none hV
  have h0k := h0
  obtain ⟨a0, len, cap, rfl⟩ := okWide_slice Tryz.underlying22 (hval 0 22 v0 rfl rfl)
  obtain ⟨fuel, hf⟩ := h0
  clear hA0
  simp only [List.append_nil] at hW' hk
  rw [MakeChecks.laidMetH_plain _ _ _ plainLaid] at hL
  have hglob := globs_of hL
  obtain ⟨m, hm⟩ := Tryz.laysContains.s1_3 W hS
  have hm' : W.cell? ⟨6, 0, none⟩ = some (.int .i64 m) := hm
  have hsize : 7 ≤ W.heap.size := cell_lt hm'
  have hlt : ∀ x ∈ p0, x.block < W.heap.size := fun x hx => hW'.lt x hx
  obtain ⟨ss, hrep, hbulk⟩ := opened hf (short hk)
  refine (law_calls ss hbulk hrep hsize ⟨m, hm'⟩ hglob).mono fun e W' ⟨he, hb⟩ => ?_
  subst he
  exact ⟨_, rfl, _, _, _, [], p0, [], hW', trodAll_mk1 (shut_bool Tryz.underlying4 _), trodAll_mk1 (Below.trod laidP (by kernel_rfl) (of_decide_eq_true (by kernel_rfl)) h0k hb hlt), rfl, hb.frame _, fun h => by cases h⟩

/-- A world for the witness: what the row lists is laid. -/
noncomputable def theWorld (os : Os) : World := World.laidAll Tryz.prog os Rows.queryJoinsUptoRow.laid
theorem laid_met (os : Os) : laidMetH Tryz.prog Rows.queryJoinsUptoRow.laid ((theWorld os).forCall (fun _ _ => 0) ⟨#[], #[.slice none 0 0], []⟩).memory := by
  rw [MakeChecks.laidMetH_plain _ _ _ plainLaid]
  exact laidMet_laidAll _ (by kernel_rfl) (by kernel_rfl)
theorem reads (os : Os) {H : Type} (enc : TypeId × Value → H) : ∃ places, DataW.whole enc Tryz.prog ((theWorld os).forCall (fun _ _ => 0) ⟨#[], #[.slice none 0 0], []⟩).memory Tryz.f3.params.toList Rows.queryJoinsSpec.vars false #[Value.slice none 0 0].toList 8 = some ([.nil], [], places) :=
  ⟨[], by kernel_rfl⟩

set_option maxRecDepth 100000 in
/-- The second form's step. -/
theorem liftedUpto (os : Os) (started : os.Started) (H : Type) (enc : TypeId × Value → H) (F : Stop.Interp) :
    ReturnsInHanded {} Tryz.checked os 3 .any ((Rows.OpenSpec.upto Rows.queryJoinsSpec).preRow enc Tryz.prog Tryz.f3 Rows.queryJoinsUptoRow.domain false Rows.queryJoinsUptoRow.laid) (((Rows.OpenSpec.upto Rows.queryJoinsSpec).at F).post enc Tryz.prog Tryz.f3 false true false false) := by
  obtain ⟨places, hx⟩ := reads os enc
  have hok : Input.okWideB Tryz.prog ((theWorld os).forCall (fun _ _ => 0) ⟨#[], #[.slice none 0 0], []⟩) 3 ⟨#[], #[.slice none 0 0], []⟩ = true := by kernel_rfl
  refine returnsInHanded_of_row (C := Tryz.checked) (s := Rows.OpenSpec.upto Rows.queryJoinsSpec) own started (by kernel_rfl) Tryz.func3
    ⟨theWorld os, fun _ _ => 0, ⟨#[], #[.slice none 0 0], []⟩, World.laidAll_os _ _ _, World.shaped_of_ZipB (by kernel_rfl) (by kernel_rfl), (Input.okWide_of_okWideB (base := 0) hok).1, (Input.okWide_of_okWideB hok).2,
      OpenSpec.preRow_of_cond 8 hx (by kernel_rfl) (fun k hk => by cases hk; kernel_rfl) (by kernel_rfl) (laid_met os), by
        simp only [Assume.holds]
        exact ⟨by simp, by simp, fun _ => Modest.zero, by simp, by simp⟩⟩ ?_
  intro W base args ds gs before hval hW _ hcond _ hL hS _
  exact contract H enc W base args ds gs before hval hW (hcond _ rfl) hL hS

theorem saidUpto : Rows.QueryJoinsUptoSaid :=
  OpenClaim.holds_of_cond 3 Tryz.f3 rfl rfl rfl rfl rfl rfl rfl ⟨rfl, rfl, rfl, rfl, rfl⟩ rfl rfl rfl rfl rfl (by kernel_rfl) Tryz.func3 closed
    (of_decide_eq_true (by kernel_rfl)) (by unfold Func.isWrapper; first | (rw [if_pos (by decide +kernel)]; kernel_rfl) | (rw [if_neg (by decide +kernel)]; exact ⟨rfl, rfl⟩))
    (fun os started H enc _ F => by rw [OpenClaim.pre_eq_preRow]; exact liftedUpto os started H enc F)

/-- No parameter wants a stand-in; the program's own looks are what the card says. -/
theorem plain (f : FuncId) (fn : Func) (hf : Tryz.pinned.checked.prog.funcNamed "vellum/vellumlaw25.QueryJoins" = some f) (hfn : Tryz.pinned.checked.prog.funcs[f]? = some fn) :
    true = Tryz.pinned.checked.prog.looks [] ∧ ∀ (j : Nat) t, fn.params[j]? = some t → Tryz.pinned.checked.prog.wantsStandIn t = false := by
  obtain rfl : f = 3 := Option.some.inj ((show Tryz.prog.funcNamed "vellum/vellumlaw25.QueryJoins" = some 3 by kernel_rfl).symm.trans hf) |>.symm
  obtain rfl : fn = Tryz.f3 := (Option.some.inj (Tryz.func3.symm.trans hfn)).symm
  refine ⟨by kernel_rfl, fun j t ht => ?_⟩
  rw [Tryz.params3] at ht
  obtain rfl : t = 22 := by simpa using Array.mem_of_getElem? ht
  exact (show Tryz.prog.wantsStandIn 22 = false by kernel_rfl)

/-- The second form's card. -/
theorem cardUpto : Rows.QueryJoinsUptoCardSaid :=
  Claim7.holds_tied_plain_at .later [] _ _ _ _ saidUpto (fun _ h => by cases h) (by kernel_rfl) (fun _ h => by cases h) queryJoinsUpto_row_tie rfl ⟨rfl, rfl⟩ (by kernel_rfl) rfl plain (by kernel_rfl)
#print axioms cardUpto

end Go.Proofs.YtogglamgopmpoaaGreatDoor.queryJoins
