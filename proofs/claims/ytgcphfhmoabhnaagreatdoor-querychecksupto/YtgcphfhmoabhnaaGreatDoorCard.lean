/- QueryChecks, second form: of every input of bulk at most 1048576 the law returns true and the input reads as it did; the listed variables read as the program's text lays them (tied). -/
import Derived.Test.YtgcphfhmoabhnaaGreatDoorCards
import Derived.Test.YtgcphfhmoabhnaaGreatDoorTie
import Derived.Test.YtgcphfhmoabhnaaGreatDoorOpen
import Derived.Test.YtgcphfhmoabhnaaGreatDoorFacts
import Derived.Test.YtgcphfhmoabhnaaGreatDoorChain
import Derived.Test.YtgcphfhmoabhnaaGreatDoorLaw
import Derived.WalkKit
import Derived.ProofKit
import Derived.OpenShut
import Derived.Deep.DeepHandedRow
import Derived.MakeChecks
import Derived.Lay
import Derived.SevenTiedAt
import Derived.Carry
import Derived.Lib.LaidU8T
import Derived.PinnedBridge
set_option linter.unusedVariables false
namespace Go.Proofs.YtgcphfhmoabhnaaGreatDoor.queryChecks
open Go.ChangeShapes Go.WideShapes Go.ChangeAt Go.RowKit Go.Vm
theorem own : ownKnob Tryz.prog.godebug = none := by kernel_rfl
theorem g6 : Tryz.prog.globalNamed "vellum/query.signs" = some 6 := by kernel_rfl
theorem t6 : (Tryz.prog.globals[6]?).map (·.type) = some 97 := by kernel_rfl
theorem g3 : Tryz.prog.globalNamed "vellum/pred.unaries" = some 3 := by kernel_rfl
theorem t3 : (Tryz.prog.globals[3]?).map (·.type) = some 97 := by kernel_rfl
theorem g4 : Tryz.prog.globalNamed "vellum/pred.arithmetic" = some 4 := by kernel_rfl
theorem t4 : (Tryz.prog.globals[4]?).map (·.type) = some 97 := by kernel_rfl
theorem g5 : Tryz.prog.globalNamed "vellum/pred.comparisons" = some 5 := by kernel_rfl
theorem t5 : (Tryz.prog.globals[5]?).map (·.type) = some 97 := by kernel_rfl
theorem c9 : Tryz.prog.cellsOf 9 = 1 := by kernel_rfl
theorem laidP : laidOutB Tryz.prog = true := fact2
theorem plainLaid : (Rows.queryChecksUptoRow.laid.all fun x => x.2.handleName?.isNone) = true := by kernel_rfl
theorem globs_of {W : World} (h : laidMet Tryz.prog Rows.queryChecksUptoRow.laid W) : ∀ q c, globs q = some c → CRep (Alive W) W (.rp [[c]] 0 0) (.pointer (some ⟨q, 0, none⟩)) := by
  intro q c hq
  unfold globs at hq
  split at hq
  · cases hq
    exact str_glob (ss := signs) (Lib.laidMet.reads h (by simp [Rows.queryChecksUptoRow, Rows.laid_vellum_query_signs, signs])) g6 t6 Tryz.underlying97 Tryz.underlying9 c9
  · cases hq
    exact str_glob (ss := unaries) (Lib.laidMet.reads h (by simp [Rows.queryChecksUptoRow, Rows.laid_vellum_pred_unaries, unaries])) g3 t3 Tryz.underlying97 Tryz.underlying9 c9
  · cases hq
    exact str_glob (ss := arithmetic) (Lib.laidMet.reads h (by simp [Rows.queryChecksUptoRow, Rows.laid_vellum_pred_arithmetic, arithmetic])) g4 t4 Tryz.underlying97 Tryz.underlying9 c9
  · cases hq
    exact str_glob (ss := comparisons) (Lib.laidMet.reads h (by simp [Rows.queryChecksUptoRow, Rows.laid_vellum_pred_comparisons, comparisons])) g5 t5 Tryz.underlying97 Tryz.underlying9 c9
  · cases hq
theorem tabs_of {W : World} (h : laidMet Tryz.prog Rows.queryChecksUptoRow.laid W) : Lib.Utf8Tabs 7 8 W := by
  refine utf8Tabs_of_readsT (ρ := Tryz.laysValid_ren) (U8Types.of196 Tryz.laysValid) ⟨by kernel_rfl, by kernel_rfl, by kernel_rfl, by kernel_rfl, by kernel_rfl, by kernel_rfl, by kernel_rfl⟩ ?_ ?_
  · refine Lib.laidMet.reads h ?_
    rw [← Pinned.utf8First_eq]
    simp [Rows.queryChecksUptoRow, Rows.laid_unicode_utf8_first]
  · refine Lib.laidMet.reads h ?_
    rw [show Lib.acceptData = Rows.laid_unicode_utf8_acceptRanges by kernel_rfl]
    simp [Rows.queryChecksUptoRow]
theorem short {H : Type} {d d' : DataW H} (hk : Rows.uptoSmall H [d, d'] = true) : Rows.uptoBulk d ≤ 1048576 ∧ Rows.uptoBulk d' ≤ 1048576 := by
  have h : Rows.uptoBulkAll [d, d'] ≤ 1048576 := of_decide_eq_true hk
  simp only [Rows.uptoBulkAll] at h
  omega
theorem law_calls (l : List Tbl) (q : Qry) (h_l : okL Tbl.ok l) (h_q : Qry.ok q) {w : World} {v u : Value} (hv : CRep (Alive w) w (.sl false (l.map Tbl.enc)) v) (hu : DRep (gA w) w (D.agg ((Qry.enc q).map D.c)) u) (hlo : 11 ≤ w.heap.size) (hF : (∃ m, w.cell? ⟨10, 0, none⟩ = some (.int .i64 m)) ∧ Lib.Utf8Tabs 7 8 w)
    (hglob : ∀ q c, globs q = some c → CRep (Alive w) w (.rp [[c]] 0 0) (.pointer (some ⟨q, 0, none⟩))) :
    Calls Tryz.prog 3 #[v, u] w fun e w' => e = .returned (.bool true) ∧ Below w.heap.size w w' := by
  obtain ⟨d, σ', hev, hpl, hst⟩ := law_ev l q h_l h_q
  have hs := Ev.sums okZ (args := [D.c (.sl false (l.map Tbl.enc)), D.agg ((Qry.enc q).map D.c)]) hev rfl hpl
  rw [hst, m3_true] at hs
  refine (hs.calls (w := w) (vs := [v, u]) hlo hF hglob ?_).mono ?_
  · have h1 : DRep (gA w) w (D.c (.sl false (l.map Tbl.enc))) v := by simp only [DRep]; exact hv
    simp only [DReps]
    exact ⟨v, [u], rfl, h1, u, [], rfl, hu, rfl⟩
  · rintro e w' ⟨v, g', rfl, hb, hd⟩
    simp only [DRep] at hd
    cases hd
    exact ⟨rfl, hb⟩
set_option maxRecDepth 100000 in
theorem contract (H : Type) (enc : TypeId × Value → H) (W : World) (base : Nat) (args : Array Value) (ds gs : List (DataW H)) (before : List MemPlace)
    (hval : ∀ (j : Nat) t v, Tryz.f3.params[j]? = some t → args[j]? = some v → Value.okWide Tryz.prog W .any base t v)
    (hW : DataW.Whole enc Tryz.prog Tryz.f3.params.toList Rows.queryChecksSpec.vars false W args.toList ds gs before) (hk : Rows.uptoSmall H (ds ++ gs) = true)
    (hL : laidMetH Tryz.prog Rows.queryChecksUptoRow.laid W) (hS : W.ShapedOpen Tryz.prog) :
    Calls Tryz.prog 3 args W fun e W' => ∃ v, e = .returned v ∧ Rows.queryChecksSpec.post enc Tryz.prog Tryz.f3 false true false false W args v W' := by
  have hW' := hW
  obtain ⟨p, q, hA0, hV, rfl, hfz, hnd⟩ := hW
  have hA : DataW.TrodAll enc Tryz.prog W 0 (fun _ => true) true Tryz.f3.params.toList args.toList ds p := hA0
  rw [Tryz.params3] at hA hval
  obtain ⟨v0, vs0, d0, ds0, p0, q0, hargs, rfl, rfl, h0, r0⟩ := trodAll_cons hA
  obtain ⟨v1, vs1, d1, ds1, p1, q1, rfl, rfl, rfl, h1, r1⟩ := trodAll_cons r0
  obtain ⟨rfl, rfl, rfl⟩ := trodAll_nil r1
  obtain rfl : args = #[v0, v1] := by cases args; simp_all
  obtain ⟨rfl, rfl⟩ := trodVars_none hV
  have h0k := h0
  have h1k := h1
  obtain ⟨a0, len, cap, rfl⟩ := okWide_slice Tryz.underlying22 (hval 0 22 v0 rfl rfl)
  obtain ⟨cs1, rfl, _⟩ := okWide_struct Tryz.underlying41 (hval 1 41 v1 rfl rfl)
  obtain ⟨fuel, hf⟩ := h0
  obtain ⟨fuel1, hf1⟩ := h1
  clear hA0
  simp only [List.append_nil] at hW' hk
  obtain ⟨hk0, hk1⟩ := short hk
  rw [MakeChecks.laidMetH_plain _ _ _ plainLaid] at hL
  have hglob := globs_of hL
  obtain ⟨m, hm⟩ := Tryz.laysContains.s1_3 W hS
  have hm' : W.cell? ⟨10, 0, none⟩ = some (.int .i64 m) := hm
  have hsize : 11 ≤ W.heap.size := cell_lt hm'
  have hlt : ∀ x ∈ p0 ++ p1, x.block < W.heap.size := fun x hx => hW'.lt x hx
  obtain ⟨l, hl, hls⟩ := (open_slice (k := 5) (en := Tbl.enc) (sz := Tbl.sz) bulkOf Tryz.underlying22 (by kernel_rfl) (by decide) (fun _ => rfl) (fun m _ => open_Tbl m)) _ _ _ hf
  obtain ⟨qy, hq, hqs⟩ := open_Qry _ _ _ _ hf1
  have hv : CRep (Alive W) W (.sl false (l.map Tbl.enc)) (.slice a0 len cap) := by
    have : (Value.slice a0 len cap).cells.toList = [Value.slice a0 len cap] := rfl
    rw [this] at hl
    simp only [List.map_cons, List.map_nil, DReps, DRep] at hl
    obtain ⟨v, _, e, h2, rfl⟩ := hl
    cases e
    exact h2
  have hu : DRep (gA W) W (D.agg ((Qry.enc qy).map D.c)) (.agg cs1) := by
    have hq' : DReps (gA W) W ((Qry.enc qy).map D.c) cs1.toList := hq
    simp only [DRep]
    exact ⟨rfl, cs1.toList, rfl, hq'⟩
  refine (law_calls l qy (okL_sz Tbl.sz_one Tbl.ok_sz (by dsimp only at hls; omega)) (Qry.ok_sz _ (by omega)) hv hu hsize ⟨⟨m, hm'⟩, tabs_of hL⟩ hglob).mono fun e W' ⟨he, hb⟩ => ?_
  subst he
  have k0 := Below.trod laidP (by kernel_rfl) (of_decide_eq_true (by kernel_rfl)) h0k hb (fun x hx => hlt x (List.mem_append.2 (.inl hx)))
  have k1 := Below.trod laidP (by kernel_rfl) (of_decide_eq_true (by kernel_rfl)) h1k hb (fun x hx => hlt x (List.mem_append.2 (.inr hx)))
  exact ⟨_, rfl, _, _, _, [], p0 ++ p1, [], hW', trodAll_mk1 (shut_bool Tryz.underlying4 _), trodAll_mk2 k0 k1, rfl, hb.frame _, fun h => by cases h⟩
noncomputable def theWorld (os : Os) : World := World.laidAll Tryz.prog os Rows.queryChecksUptoRow.laid
def noQuery : Value := .agg #[.int .i64 0, .int .i64 0, .slice none 0 0, .slice none 0 0, .slice none 0 0, .slice none 0 0, .int .i64 0, .string ⟨#[]⟩, .int .i64 0, .int .i64 0, .int .i64 0, .float .f64 0, .string ⟨#[]⟩, .slice none 0 0, .slice none 0 0, .slice none 0 0, .int .i64 0, .int .i64 0, .int .u64 0, .string ⟨#[]⟩, .string ⟨#[]⟩, .slice none 0 0, .slice none 0 0, .slice none 0 0, .slice none 0 0]
def noData {H : Type} : DataW H := .agg [.lit (.int .i64 0), .lit (.int .i64 0), .nil, .nil, .nil, .nil, .agg [.lit (.int .i64 0), .lit (.string []), .lit (.int .i64 0), .agg [.lit (.int .i64 0), .lit (.int .i64 0), .lit (.float .f64 0), .lit (.string [])], .nil], .nil, .nil, .lit (.int .i64 0), .lit (.int .i64 0), .lit (.int .u64 0), .lit (.string []), .agg [.lit (.string []), .nil, .nil, .nil, .nil]]
theorem laid_met (os : Os) : laidMetH Tryz.prog Rows.queryChecksUptoRow.laid ((theWorld os).forCall (fun _ _ => 0) ⟨#[], #[.slice none 0 0, noQuery], []⟩).memory := by
  rw [MakeChecks.laidMetH_plain _ _ _ plainLaid]
  exact laidMet_laidAll _ (by kernel_rfl) (by kernel_rfl)
theorem reads (os : Os) {H : Type} (enc : TypeId × Value → H) : ∃ places, DataW.whole enc Tryz.prog ((theWorld os).forCall (fun _ _ => 0) ⟨#[], #[.slice none 0 0, noQuery], []⟩).memory Tryz.f3.params.toList Rows.queryChecksSpec.vars false #[Value.slice none 0 0, noQuery].toList 8 = some ([.nil, noData], [], places) :=
  ⟨[], by kernel_rfl⟩
set_option maxRecDepth 100000 in
theorem liftedUpto (os : Os) (started : os.Started) (H : Type) (enc : TypeId × Value → H) (F : Stop.Interp) :
    ReturnsInHanded {} Tryz.checked os 3 .any ((Rows.OpenSpec.upto Rows.queryChecksSpec).preRow enc Tryz.prog Tryz.f3 Rows.queryChecksUptoRow.domain false Rows.queryChecksUptoRow.laid) (((Rows.OpenSpec.upto Rows.queryChecksSpec).at F).post enc Tryz.prog Tryz.f3 false true false false) := by
  obtain ⟨places, hx⟩ := reads os enc
  have hok : Input.okWideB Tryz.prog ((theWorld os).forCall (fun _ _ => 0) ⟨#[], #[.slice none 0 0, noQuery], []⟩) 3 ⟨#[], #[.slice none 0 0, noQuery], []⟩ = true := by kernel_rfl
  refine returnsInHanded_of_row (C := Tryz.checked) (s := Rows.OpenSpec.upto Rows.queryChecksSpec) own started (by kernel_rfl) Tryz.func3
    ⟨theWorld os, fun _ _ => 0, ⟨#[], #[.slice none 0 0, noQuery], []⟩, World.laidAll_os _ _ _, World.shaped_of_ZipB (by kernel_rfl) (by kernel_rfl), (Input.okWide_of_okWideB (base := 0) hok).1, (Input.okWide_of_okWideB hok).2,
      OpenSpec.preRow_of_cond 8 hx (by kernel_rfl) (fun k hk => by cases hk; kernel_rfl) (by kernel_rfl) (laid_met os), by
        simp only [Assume.holds]
        exact ⟨by simp, by simp, fun _ => Modest.zero, by simp, by simp⟩⟩ ?_
  intro W base args ds gs before hval hW _ hcond _ hL hS _
  exact contract H enc W base args ds gs before hval hW (hcond _ rfl) hL hS
theorem saidUpto : Rows.QueryChecksUptoSaid :=
  OpenClaim.holds_of_cond 3 Tryz.f3 rfl rfl rfl rfl rfl rfl rfl ⟨rfl, rfl, rfl, rfl, rfl⟩ rfl rfl rfl rfl rfl (by kernel_rfl) Tryz.func3 closed
    (of_decide_eq_true (by kernel_rfl)) (by unfold Func.isWrapper; first | (rw [if_pos (by decide +kernel)]; kernel_rfl) | (rw [if_neg (by decide +kernel)]; exact ⟨rfl, rfl⟩))
    (fun os started H enc _ F => by rw [OpenClaim.pre_eq_preRow]; exact liftedUpto os started H enc F)
theorem plain (f : FuncId) (fn : Func) (hf : Tryz.pinned.checked.prog.funcNamed "vellum/vellumlaw25.QueryChecks" = some f) (hfn : Tryz.pinned.checked.prog.funcs[f]? = some fn) :
    true = Tryz.pinned.checked.prog.looks [] ∧ ∀ (j : Nat) t, fn.params[j]? = some t → Tryz.pinned.checked.prog.wantsStandIn t = false := by
  obtain rfl : f = 3 := Option.some.inj ((show Tryz.prog.funcNamed "vellum/vellumlaw25.QueryChecks" = some 3 by kernel_rfl).symm.trans hf) |>.symm
  obtain rfl : fn = Tryz.f3 := (Option.some.inj (Tryz.func3.symm.trans hfn)).symm
  refine ⟨by kernel_rfl, fun j t ht => ?_⟩
  rw [Tryz.params3] at ht
  have ht := Array.mem_of_getElem? ht
  simp only [List.mem_toArray, List.mem_cons, List.not_mem_nil, or_false] at ht
  rcases ht with rfl | rfl
  · exact (show Tryz.prog.wantsStandIn 22 = false by kernel_rfl)
  · exact (show Tryz.prog.wantsStandIn 41 = false by kernel_rfl)
theorem noGoes : (Tryz.prog.funcs.toList.all fun fn => !Func.goes fn) = true := by kernel_rfl
theorem goes_none (P : Program) (hg : (P.funcs.toList.all fun fn => !Func.goes fn) = true) (f : FuncId) : P.goes f = false := by
  have h1 : (fun (g : FuncId) => (P.funcs[g]?).any Func.goes) = fun _ => false := by
    funext g
    cases h : P.funcs[g]? with
    | none => rfl
    | some fn =>
      have := List.all_eq_true.1 hg fn (by simpa using Array.mem_of_getElem? h)
      simpa using this
  have h2 : P.funcs.any Func.goes = false := by
    rw [← Array.any_toList, List.any_eq_false]
    intro fn hfn
    have := List.all_eq_true.1 hg fn hfn
    simpa using this
  unfold Program.goes
  rw [h1, h2, Bool.and_false, Bool.or_false]
  simp
theorem goesAt_none (P : Program) (hg : (P.funcs.toList.all fun fn => !Func.goes fn) = true) (func : String) : P.goesAt .entering func = false := by
  unfold Program.goesAt Program.goesFrom
  cases P.funcNamed func with
  | none => rfl
  | some f => simp [goes_none P hg f]
theorem goesRow : false = Rows.queryChecksUptoRow.goesBy Tryz.pinned.checked.prog := (goesAt_none Tryz.prog noGoes "vellum/vellumlaw25.QueryChecks").symm
theorem cardUpto : Rows.QueryChecksUptoCardSaid :=
  Claim7.holds_tied_plain_at .later [] _ _ _ _ saidUpto (fun _ h => by cases h) (by kernel_rfl) (fun _ h => by cases h) queryChecksUpto_row_tie rfl ⟨rfl, rfl⟩ (by kernel_rfl) rfl plain goesRow
#print axioms cardUpto
end Go.Proofs.YtgcphfhmoabhnaaGreatDoor.queryChecks
