/- The row of QuerySplits in its second form, and its card. -/
import Derived.Test.YtapckolomhoheaaGreatDoorCards
import Derived.Test.YtapckolomhoheaaGreatDoorTie
import Derived.Test.YtapckolomhoheaaGreatDoorTop
import Derived.Test.YtapckolomhoheaaGreatDoorClosed
import Derived.WalkKit
import Derived.ProofKit
import Derived.OpenShut
import Derived.Deep.DeepHandedRow
import Derived.MakeChecks
import Derived.Lay
import Derived.SevenTiedAt
namespace Go.Proofs.YtapckolomhoheaaGreatDoor.querySplits
open Go.ChangeShapes Go.WideShapes Go.ChangeAt Go.RowKit Go.Vm
open Go.ChangeMaps (open_string shut_string)

theorem own : ownKnob Tryz.prog.godebug = none := by kernel_rfl
theorem g2 : Tryz.prog.globalNamed "vellum/query.signs" = some 2 := by kernel_rfl
theorem g8 : Tryz.prog.globalNamed "vellum/pred.unaries" = some 8 := by kernel_rfl
theorem g9 : Tryz.prog.globalNamed "vellum/pred.arithmetic" = some 9 := by kernel_rfl
theorem g10 : Tryz.prog.globalNamed "vellum/pred.comparisons" = some 10 := by kernel_rfl
theorem t2 : (Tryz.prog.globals[2]?).map (·.type) = some 22 := by kernel_rfl
theorem t8 : (Tryz.prog.globals[8]?).map (·.type) = some 22 := by kernel_rfl
theorem t9 : (Tryz.prog.globals[9]?).map (·.type) = some 22 := by kernel_rfl
theorem t10 : (Tryz.prog.globals[10]?).map (·.type) = some 22 := by kernel_rfl
theorem c9 : Tryz.prog.cellsOf 9 = 1 := by kernel_rfl
theorem plainLaid : (Rows.querySplitsUptoRow.laid.all fun x => x.2.handleName?.isNone) = true := by kernel_rfl

theorem globs_of {W : World} (h : laidMet Tryz.prog Rows.querySplitsUptoRow.laid W) : ∀ q c, globs q = some c → CRep (Alive W) W (.rp [[c]] 0 0) (.pointer (some ⟨q, 0, none⟩)) := by
  intro q c hq
  unfold globs at hq
  split at hq
  · cases hq
    exact str_glob (ss := signs) (Lib.laidMet.reads h (by simp [Rows.querySplitsUptoRow, Rows.laid_vellum_query_signs, signs])) g2 t2 Tryz.underlying22 Tryz.underlying9 c9
  · cases hq
    exact str_glob (ss := unaries) (Lib.laidMet.reads h (by simp [Rows.querySplitsUptoRow, Rows.laid_vellum_pred_unaries, unaries])) g8 t8 Tryz.underlying22 Tryz.underlying9 c9
  · cases hq
    exact str_glob (ss := arithmetic) (Lib.laidMet.reads h (by simp [Rows.querySplitsUptoRow, Rows.laid_vellum_pred_arithmetic, arithmetic])) g9 t9 Tryz.underlying22 Tryz.underlying9 c9
  · cases hq
    exact str_glob (ss := comparisons) (Lib.laidMet.reads h (by simp [Rows.querySplitsUptoRow, Rows.laid_vellum_pred_comparisons, comparisons])) g10 t10 Tryz.underlying22 Tryz.underlying9 c9
  · cases hq

set_option maxRecDepth 100000 in
/-- What the bound gives: the text's length. -/
theorem short {H : Type} {s : ByteArray} (hk : Rows.uptoSmall H [.lit (.string s.data.toList)] = true) : s.size ≤ 1048576 := by
  have h : Rows.uptoBulkAll [DataW.lit (H := H) (.string s.data.toList)] ≤ 1048576 := of_decide_eq_true hk
  simp only [Rows.uptoBulkAll, Rows.uptoBulk] at h
  have e : s.data.toList.length = s.size := by rw [Array.length_toList]; rfl
  omega

set_option maxRecDepth 100000 in
theorem contract (H : Type) (enc : TypeId × Value → H) (W : World) (base : Nat) (args : Array Value) (ds gs : List (DataW H)) (before : List MemPlace)
    (hval : ∀ (j : Nat) t v, Tryz.f3.params[j]? = some t → args[j]? = some v → Value.okWide Tryz.prog W .any base t v)
    (hW : DataW.Whole enc Tryz.prog Tryz.f3.params.toList Rows.querySplitsSpec.vars false W args.toList ds gs before) (hk : Rows.uptoSmall H (ds ++ gs) = true)
    (hL : laidMetH Tryz.prog Rows.querySplitsUptoRow.laid W) (hS : W.ShapedOpen Tryz.prog) :
    Calls Tryz.prog 3 args W fun e W' => ∃ v, e = .returned v ∧ Rows.querySplitsSpec.post enc Tryz.prog Tryz.f3 false true false false W args v W' := by
  have hW' := hW
  obtain ⟨p, q, hA0, hV, rfl, hfz, hnd⟩ := hW
  have hA : DataW.TrodAll enc Tryz.prog W 0 (fun _ => true) true Tryz.f3.params.toList args.toList ds p := hA0
  rw [Tryz.params3] at hA hval
  obtain ⟨v0, vs0, d0, ds0, p0, q0, hargs, rfl, rfl, h0, r0⟩ := trodAll_cons hA
  obtain ⟨rfl, rfl, rfl⟩ := trodAll_nil r0
  obtain rfl : args = #[v0] := by cases args; simp_all
  obtain ⟨rfl, rfl⟩ := trodVars_none hV
  obtain ⟨s, rfl, rfl, rfl, hmax⟩ := open_string Tryz.underlying9 (hval 0 9 v0 rfl rfl) h0
  clear hA0
  simp only [List.append_nil] at hW' hk
  rw [MakeChecks.laidMetH_plain _ _ _ plainLaid] at hL
  have hglob := globs_of hL
  obtain ⟨m, hm⟩ := Tryz.laysContains.s1_3 W hS
  have hm' : W.cell? ⟨6, 0, none⟩ = some (.int .i64 m) := hm
  have hsize : 7 ≤ W.heap.size := cell_lt hm'
  refine (law_calls s (short hk) hsize ⟨m, hm'⟩ hglob).mono fun e W' ⟨he, hb⟩ => ?_
  subst he
  exact ⟨_, rfl, _, _, _, [], [], [], hW', trodAll_mk1 (shut_bool Tryz.underlying4 _), trodAll_mk1 (shut_string Tryz.underlying9 hmax), rfl, hb.frame _, fun h => by cases h⟩

/-- A world for the witness: what the row lists is laid. -/
noncomputable def theWorld (os : Os) : World := World.laidAll Tryz.prog os Rows.querySplitsUptoRow.laid
theorem laid_met (os : Os) : laidMetH Tryz.prog Rows.querySplitsUptoRow.laid ((theWorld os).forCall (fun _ _ => 0) ⟨#[], #[.string .empty], []⟩).memory := by
  rw [MakeChecks.laidMetH_plain _ _ _ plainLaid]
  exact laidMet_laidAll _ (by kernel_rfl) (by kernel_rfl)
theorem reads (os : Os) {H : Type} (enc : TypeId × Value → H) : ∃ places, DataW.whole enc Tryz.prog ((theWorld os).forCall (fun _ _ => 0) ⟨#[], #[.string .empty], []⟩).memory Tryz.f3.params.toList Rows.querySplitsSpec.vars false #[Value.string .empty].toList 8 = some ([.lit (.string [])], [], places) :=
  ⟨[], by kernel_rfl⟩

set_option maxRecDepth 100000 in
/-- The second form's step. -/
theorem liftedUpto (os : Os) (started : os.Started) (H : Type) (enc : TypeId × Value → H) (F : Stop.Interp) :
    ReturnsInHanded {} Tryz.checked os 3 .any ((Rows.OpenSpec.upto Rows.querySplitsSpec).preRow enc Tryz.prog Tryz.f3 Rows.querySplitsUptoRow.domain false Rows.querySplitsUptoRow.laid) (((Rows.OpenSpec.upto Rows.querySplitsSpec).at F).post enc Tryz.prog Tryz.f3 false true false false) := by
  obtain ⟨places, hx⟩ := reads os enc
  have hok : Input.okWideB Tryz.prog ((theWorld os).forCall (fun _ _ => 0) ⟨#[], #[.string .empty], []⟩) 3 ⟨#[], #[.string .empty], []⟩ = true := by kernel_rfl
  refine returnsInHanded_of_row (C := Tryz.checked) (s := Rows.OpenSpec.upto Rows.querySplitsSpec) own started (by kernel_rfl) Tryz.func3
    ⟨theWorld os, fun _ _ => 0, ⟨#[], #[.string .empty], []⟩, World.laidAll_os _ _ _, World.shaped_of_ZipB (by kernel_rfl) (by kernel_rfl), (Input.okWide_of_okWideB (base := 0) hok).1, (Input.okWide_of_okWideB hok).2,
      OpenSpec.preRow_of_cond 8 hx (by kernel_rfl) (fun k hk => by cases hk; kernel_rfl) (by kernel_rfl) (laid_met os), by
        simp only [Assume.holds]
        exact ⟨by simp, by simp, fun _ => Modest.zero, by simp, by simp⟩⟩ ?_
  intro W base args ds gs before hval hW _ hcond _ hL hS _
  exact contract H enc W base args ds gs before hval hW (hcond _ rfl) hL hS

theorem saidUpto : Rows.QuerySplitsUptoSaid :=
  OpenClaim.holds_of_cond 3 Tryz.f3 rfl rfl rfl rfl rfl rfl rfl ⟨rfl, rfl, rfl, rfl, rfl⟩ rfl rfl rfl rfl rfl (by kernel_rfl) Tryz.func3 closed
    (of_decide_eq_true (by kernel_rfl)) (by unfold Func.isWrapper; first | (rw [if_pos (by decide +kernel)]; kernel_rfl) | (rw [if_neg (by decide +kernel)]; exact ⟨rfl, rfl⟩))
    (fun os started H enc _ F => by rw [OpenClaim.pre_eq_preRow]; exact liftedUpto os started H enc F)

/-- No parameter wants a stand-in; the program's own looks are what the card says. -/
theorem plain (f : FuncId) (fn : Func) (hf : Tryz.pinned.checked.prog.funcNamed "vellum/vellumlaw25.QuerySplits" = some f) (hfn : Tryz.pinned.checked.prog.funcs[f]? = some fn) :
    true = Tryz.pinned.checked.prog.looks [] ∧ ∀ (j : Nat) t, fn.params[j]? = some t → Tryz.pinned.checked.prog.wantsStandIn t = false := by
  obtain rfl : f = 3 := Option.some.inj ((show Tryz.prog.funcNamed "vellum/vellumlaw25.QuerySplits" = some 3 by kernel_rfl).symm.trans hf) |>.symm
  obtain rfl : fn = Tryz.f3 := (Option.some.inj (Tryz.func3.symm.trans hfn)).symm
  refine ⟨by kernel_rfl, fun j t ht => ?_⟩
  rw [Tryz.params3] at ht
  obtain rfl : t = 9 := by simpa using Array.mem_of_getElem? ht
  exact (show Tryz.prog.wantsStandIn 9 = false by kernel_rfl)

/-- The second form's card. -/
theorem cardUpto : Rows.QuerySplitsUptoCardSaid :=
  Claim7.holds_tied_plain_at .later [] _ _ _ _ saidUpto (fun _ h => by cases h) (by kernel_rfl) (fun _ h => by cases h) querySplitsUpto_row_tie rfl ⟨rfl, rfl⟩ (by kernel_rfl) rfl plain (by kernel_rfl)
#print axioms cardUpto

end Go.Proofs.YtapckolomhoheaaGreatDoor.querySplits
