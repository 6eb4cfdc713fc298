/- Each function's contract, one onto the others; no condition. -/
import Derived.Test.YtgcphfhmoabhnaaGreatDoorG4
import Derived.Test.YtgcphfhmoabhnaaGreatDoorVmB
import Derived.Test.YtgcphfhmoabhnaaGreatDoorEnv
set_option linter.unusedVariables false
namespace Go.Vm
open Go.Proofs
variable {S : Nat → Option (List D → R D)}
noncomputable def Hc43 (n : Nat) : List D → R D := mkH (L1 (dR Exr.row)) (fun x => Exr.ok x ∧ x.depth < n) (fun x => D.c (.sl false ((Exr.colset x).map encI)))
theorem Hc43_eq {ds : List D} {n : Nat} (x : Exr) (hp : Exr.ok x ∧ x.depth < n) (hx : ds.map normA = L1 (dR Exr.row) x) : Hc43 n ds = .ok (D.c (.sl false ((Exr.colset x).map encI))) := He i43 x hp hx
def own43 (e : Exr) : List Int := if e.kind = 2 then [e.column] else []
theorem own43_len (e : Exr) : (own43 e).length ≤ 1 := by unfold own43; split <;> simp
def at43 (e : Exr) (i : Nat) : List Int := own43 e ++ Exr.colsets (e.kids.take i)
theorem at43_len {e : Exr} (h : Exr.ok e) (i : Nat) : (at43 e i).length ≤ 1048577 := by
  have h1 := own43_len e
  have h2 := Exr.colsets_len (e.kids.take i)
  have h3 := Exr.counts_take e.kids i
  have h4 := Exr.ok_count h
  rw [Exr.count_eq] at h4
  rw [at43, List.length_append]
  omega
theorem at43_zero (e : Exr) : at43 e 0 = own43 e := by rw [at43, List.take_zero, Exr.colsets, List.append_nil]
theorem at43_succ {e : Exr} {i : Nat} (h : i < e.kids.length) : at43 e (i + 1) = at43 e i ++ (e.kids.getD i default).colset := by
  rw [at43, at43, Exr.colsets_at h, List.append_assoc]
theorem at43_end (e : Exr) : Go.Lib.compact (sortI (at43 e e.kids.length)) = e.colset := by
  rw [Exr.colset_eq, at43, List.take_length]; rfl
noncomputable def cm43_l1 : Code := (cl (cr (cl (cr (cr (cr (bodyOf Tryz.f43)))))))
noncomputable def cm43_r : Code := cr (cr (cr (bodyOf Tryz.f43)))
set_option maxHeartbeats 4000000 in
theorem sums43_step (hE : EnvOK (EE S)) {n : Nat} (c43 : S 43 = some (Hc43 n)) (e : Exr) (hd : e.depth < n + 1) (h_e : Exr.ok e) : Sums (EE S) 43 [D.agg ((Exr.row e).map D.c)] (D.c (.sl false (e.colset.map encI))) := by
  refine Sums.ofCm (fn := Tryz.f43) (r := 2) (nt := 30) Tryz.func43 rfl rfl rfl rfl ?_
  rw [show [D.agg ((Exr.row e).map D.c)].map strip1 = [D.agg ((Exr.row e).map D.c)] from rfl]
  have hK : Ko 0 St.empty [] [] := Ko.empty
  refine Cm.seq hE (Cw.regionK hK fun _ _ hK => ?_)
  refine Rw.bx (d := D.agg ((Exr.row e).map D.c)) hK (Nat.le_add_right _ 0) rfl rfl rfl rfl rfl rfl fun b1 _ hK => ?_
  refine Rw.s rfl (fun _ => op_assign_c rfl) ?_
  refine Rw.nilK hK (Nat.add_le_add_left (by decide : 1 ≤ 2) _) fun hK => ⟨rfl, ?_⟩
  refine Cm.seq hE (Cw.regionK hK fun _ _ hK => ?_)
  refine Rw.s rfl (fun _ => op_assign (d := D.c (.sl true (([] : List Int).map encI))) rfl) ?_
  replace hK := hK.newAc (([] : List Int).map encI) 1
  refine Rw.z hK fun hK => ⟨rfl, ?_⟩
  have hrest : ∀ (fr : Nat → D) (σ : St) (dY : D), fr 1 = D.ptr b1 0 → fr 3 = dY → (own43 e ≠ [] → ∃ t, dY = .own t ((own43 e).map encI)) → Ko 0 σ [(b1, (Exr.row e).map D.c)] [(dY, (own43 e).map encI, 1)] →
      Cm (EE S) cm43_r 30 fr σ (TailOf 2 (.sl false (e.colset.map encI))) := by
    intro fr σ dY e1 e3 hown hK
    rw [pin e1, pin e3]
    refine Cm.seq hE ?_
    refine Cw.seq (Cw.regionK hK fun _ _ hK => ?_)
    refine Rw.s rfl (fun _ => op_fp fi32_4 rfl rfl) ?_
    refine Rw.l (k := 0) hK rfl rfl rfl (ty30.ldS rfl) ?_
    refine Rw.s rfl (fun _ => op_lenN (n := e.kids.length) rfl Tryz.underlying30 rfl (List.length_map ..)) ?_
    refine Rw.s rfl (fun _ => op_move_c rfl) ?_
    refine Rw.z hK fun hK => ?_
    refine Cw.block ?_
    have hl1 : ∀ (rem1 i1 : Nat) (dY : D) (fr : Nat → D) (σ : St), i1 + rem1 = e.kids.length → fr 3 = dY → fr 15 = D.c (.sl false (e.kids.map Exr.enc)) → fr 16 = D.c (.int .i64 ((e.kids.length : Nat) : Int)) → fr 17 = D.c (.int .i64 ((i1 : Nat) : Int)) →
        (at43 e i1 ≠ [] → ∃ t, dY = .own t ((at43 e i1).map encI)) → Ko 0 σ [(b1, (Exr.row e).map D.c)] [(dY, (at43 e i1).map encI, 1)] →
        Cw (EE S) cm43_l1 30 fr σ (fun oX gX sX => oX = some (some 0) ∧ ∃ dX, gX 3 = dX ∧ (at43 e e.kids.length ≠ [] → ∃ t, dX = .own t ((at43 e e.kids.length).map encI)) ∧ Ko 0 sX [(b1, (Exr.row e).map D.c)] [(dX, (at43 e e.kids.length).map encI, 1)]) := by
      intro rem1
      induction rem1 with
      | zero =>
        intro i1 dY fr σ hi e3 e15 e16 e17 hown hK
        have hlt1 : decide ((((i1 : Nat) : Int) : Int) < ((e.kids.length : Nat) : Int)) = false := by rw [decide_eq_false_iff_not]; omega
        rw [pin e3, pin e15, pin e16, pin e17]
        refine Cw.loop ?_
        refine Cw.seq (Cw.regionK hK fun _ _ hK => ?_)
        refine Rw.s rfl (fun _ => op_lss_int rfl rfl hlt1) ?_
        refine Rw.z hK fun hK => ?_
        refine Cw.seq ?_
        refine Cw.cond_f rfl ?_
        refine Cw.exit ?_
        rw [show e.kids.length = i1 by omega]
        exact ⟨rfl, dY, rfl, hown, hK⟩
      | succ rem1 ih =>
        intro i1 dY fr σ hi e3 e15 e16 e17 hown hK
        have hlt1 : decide ((((i1 : Nat) : Int) : Int) < ((e.kids.length : Nat) : Int)) = true := by rw [decide_eq_true_eq]; omega
        have hil1 : i1 < e.kids.length := by omega
        have hbq1 := okL_len (Exr.ok_kids h_e)
        rw [pin e3, pin e15, pin e16, pin e17]
        refine Cw.loop ?_
        refine Cw.seq (Cw.regionK hK fun _ _ hK => ?_)
        refine Rw.s rfl (fun _ => op_lss_int rfl rfl hlt1) ?_
        refine Rw.z hK fun hK => ?_
        refine Cw.seq ?_
        refine Cw.cond_t rfl ?_
        refine Cw.skip ?_
        refine Cw.seq ?_
        refine Cw.block ?_
        refine Cw.seq (Cw.regionK hK fun _ _ hK => ?_)
        refine Rw.s rfl (fun _ => op_ix (n := i1) rfl rfl rfl Tryz.underlying30 ty32.hn (at_Exr hil1) rfl) ?_
        refine Rw.s rfl (fun _ => op_ldC (d := D.agg ((Exr.row (e.kids.getD i1 default)).map D.c)) rfl (at_Exr hil1) (ty32.lcA rfl rfl)) ?_
        refine Rw.al (z := zc32) hK (Nat.le_add_right _ 2) rfl rfl rfl (z32 (S := S)) rfl fun b2 _ hK => ?_
        refine Rw.st (k := 0) (cs' := ((Exr.row (e.kids.getD i1 default)).map D.c)) hK (Nat.le_add_right _ 0) rfl rfl rfl rfl rfl ty32.hn rfl rfl rfl fun _ hK => ?_
        refine Rw.nilK hK (Nat.add_le_add_left (by decide : 4 ≤ 4) _) fun hK => ?_
        refine Cw.regionK hK fun _ _ hK => ?_
        refine Rw.s rfl (fun _ => op_move rfl) ?_
        refine Rw.l (k := 0) hK rfl rfl rfl (ty32.ldA rfl rfl) ?_
        refine Rw.s rfl (fun _ => op_call (d := D.c (.sl false ((e.kids.getD i1 default).colset.map encI))) rfl rfl c43 rfl (Hc43_eq (e.kids.getD i1 default) ⟨okL_get (Exr.ok_kids h_e) Exr.zok i1, by have := Exr.depth_kid hil1; omega⟩ rfl)) ?_
        have hlen := at43_len h_e (i1 + 1)
        rw [at43_succ hil1, List.length_append] at hlen
        have hsucc := at43_succ hil1
        by_cases hz : (e.kids.getD i1 default).colset = []
        · rw [hz, List.append_nil] at hsucc
          rw [hz]
          refine Rw.apE (j := 0) hK rfl rfl rfl rfl rfl rfl rfl (room_mk Tryz.underlying23 (if3 (S := S)) (z3 (S := S)) rfl rfl rfl rfl (by simp only [List.length_map, List.length_nil]; omega)) rfl ?_
          refine Rw.s rfl (fun _ => op_assign rfl) ?_
          refine Rw.nilK hK (Nat.add_le_add_left (by decide : 0 ≤ 5) _) fun hK => ?_
          refine Cw.regionK hK fun _ _ hK => ?_
          refine Rw.s rfl (fun _ => op_add_int (v := ((i1 + 1 : Nat) : Int)) rfl rfl (wrap_one (by omega))) ?_
          refine Rw.s rfl (fun _ => op_move_c rfl) ?_
          refine Rw.z hK fun hK => ?_
          refine ih (i1 + 1) dY _ _ (by omega) rfl rfl rfl rfl ?_ ?_
          · rw [hsucc]; exact hown
          · rw [hsucc]; exact hK.dropBox (List.Sublist.cons _ (List.Sublist.refl _))
        · refine Rw.apO (j := 0) (ys := (e.kids.getD i1 default).colset.map encI) hK (Nat.le_add_right _ 3) rfl rfl rfl rfl rfl rfl rfl (by
            cases h : (e.kids.getD i1 default).colset with
            | nil => exact absurd h hz
            | cons a l => rfl) (room_mk Tryz.underlying23 (if3 (S := S)) (z3 (S := S)) rfl rfl rfl (by
              rw [List.all_eq_true]
              intro r hr
              obtain ⟨x, _, rfl⟩ := List.mem_map.1 hr
              rfl) (by simp only [List.length_map]; omega)) (heads_map _ (fun _ => rfl)) rfl fun d1 _ hd1 hK => ?_
          simp only [List.set_cons_zero, ← List.map_append] at hK
          rw [← List.map_append, ← hsucc] at hd1
          rw [← hsucc] at hK
          refine Rw.s rfl (fun _ => op_assign rfl) ?_
          refine Rw.nilK hK (Nat.add_le_add_left (by decide : 4 ≤ 5) _) fun hK => ?_
          refine Cw.regionK hK fun _ _ hK => ?_
          refine Rw.s rfl (fun _ => op_add_int (v := ((i1 + 1 : Nat) : Int)) rfl rfl (wrap_one (by omega))) ?_
          refine Rw.s rfl (fun _ => op_move_c rfl) ?_
          refine Rw.z hK fun hK => ?_
          exact ih (i1 + 1) d1 _ _ (by omega) rfl rfl rfl rfl (fun _ => hd1) (hK.dropBox (List.Sublist.cons _ (List.Sublist.refl _)))
    refine Cw.mono (hl1 e.kids.length 0 dY _ _ (by omega) rfl rfl rfl rfl (by rw [at43_zero]; exact hown) (by rw [at43_zero]; exact hK)) ?_
    rintro oY gY sY ⟨rfl, dX, e3, hown, hK⟩
    refine ⟨rfl, ?_⟩
    rw [← at43_end]
    refine Cm.sorted hE e3 (hK.ac _ (List.mem_of_getElem? (i := 0) rfl)) hown (by have := at43_len h_e e.kids.length; omega) ⟨Tryz.f78, Tryz.func78, by kernel_rfl⟩ ⟨Tryz.f79, Tryz.func79, by kernel_rfl⟩ rfl rfl rfl rfl rfl (by decide) ?_ ?_ ?_ ?_
    · intro blk off cap zs w hH hb hl
      exact calls_of_every_depth fun D => AnyS.slices_Sort_int_alone Tryz.laysSort D blk off cap zs w hH hb hl
    · intro p cap w
      exact calls_of_every_depth fun D => AnyS.slices_Sort_int_none_alone Tryz.laysSort D p cap w
    · intro blk off cap zs w hH hl hc
      exact Any.slices_Compact_int Tryz.laysCompact blk off cap zs w hH hl hc
    · intro p cap w
      exact Any.slices_Compact_int_empty Tryz.laysCompact p cap w
  refine Cm.seq hE ?_
  refine Cw.seq (Cw.regionK hK fun _ _ hK => ?_)
  refine Rw.s rfl (fun _ => op_fp fi32_0 rfl rfl) ?_
  refine Rw.l (k := 0) hK rfl rfl rfl (ty3.ldS rfl) ?_
  refine Rw.s rfl (fun _ => op_eql_int (v := ((e.kind : Int) == 2)) rfl rfl rfl) ?_
  refine Rw.z hK fun hK => ?_
  cases q1 : ((e.kind : Int) == 2) with
  | true =>
    have p1 := eq_of_beq q1
    have ho : own43 e = [e.column] := if_pos p1
    refine Cw.cond_t rfl ?_
    refine Cw.regionK hK fun _ _ hK => ?_
    refine Rw.s rfl (fun _ => op_move rfl) ?_
    refine Rw.s rfl (fun _ => op_fp fi32_2 rfl rfl) ?_
    refine Rw.l (k := 0) hK rfl rfl rfl (ty3.ldS rfl) ?_
    refine Rw.s rfl (fun _ => op_bs (xs := ([e.column] : List Int).map encI) Tryz.underlying23 ty3.hn (z3 (S := S)) rfl rfl rfl rfl rfl) ?_
    refine Rw.apO (j := 0) (ys := ([e.column]).map encI) hK (Nat.le_add_right _ 4) rfl rfl rfl rfl rfl rfl rfl rfl (room_mk Tryz.underlying23 (if3 (S := S)) (z3 (S := S)) rfl rfl rfl rfl (by simp only [List.length_map, List.length_cons, List.length_nil]; omega)) (heads_map _ (fun _ => rfl)) rfl fun d1 _ hd1 hK => ?_
    simp only [List.set_cons_zero, ← List.map_append] at hK
    rw [← List.map_append, List.nil_append] at hd1
    rw [List.nil_append] at hK
    refine Rw.s rfl (fun _ => op_assign rfl) ?_
    refine Rw.nilK hK (Nat.add_le_add_left (by decide : 5 ≤ 6) _) fun hK => ?_
    exact ⟨rfl, hrest _ _ d1 rfl rfl (fun _ => by rw [ho]; exact hd1) (by rw [ho]; exact hK)⟩
  | false =>
    have p1 := ne_of_beqF q1
    have ho : own43 e = [] := if_neg p1
    refine Cw.cond_f rfl ?_
    refine Cw.skip ?_
    exact ⟨rfl, hrest _ _ _ rfl rfl (fun h => absurd ho h) (by rw [ho]; exact hK)⟩
theorem sums43 (hE : EnvOK (EE S)) : ∀ (n : Nat) (e : Exr), Exr.ok e → e.depth < n → Sums (EE S) 43 [D.agg ((Exr.row e).map D.c)] (D.c (.sl false (e.colset.map encI)))
  | 0, e, _, hd => absurd hd (by omega)
  | n + 1, e, h, hd => by
    have hE' : EnvOK (EE (fun x => bif Nat.beq x 43 then some (Hc43 n) else S x)) :=
      EnvOK.more hE (f := 43) (h := Hc43 n) ⟨Tryz.f43, Tryz.func43, by kernel_rfl⟩ (fun args d hd => mkH_ofSums (fun x hx => sums43 hE n x hx.1 hx.2) args d hd)
    exact sums43_step hE' rfl e hd h
theorem H43_sums (hE : EnvOK (EE S)) (args : List D) (d : D) (h : H43 args = .ok d) : Sums (EE S) 43 args d :=
  mkH_ofSums (fun x hx => sums43 hE _ x hx (Nat.lt_succ_self _)) args d h
end Go.Vm
namespace Go.Vm
open Go.Proofs
theorem strongT {P : D → St → Prop} {m : D} (hm : nrmT m = m) (h : ∃ d σ', P d σ' ∧ plain d = true ∧ strip d = m) : ∃ d σ', P d σ' ∧ plain d = true ∧ nrmT (strip d) = m := by
  obtain ⟨d, σ', h1, h2, h3⟩ := h
  exact ⟨d, σ', h1, h2, by rw [h3, hm]⟩
noncomputable def SA : Nat → Option (List D → R D) := envA.sum
theorem okA : EnvOK (EE SA) := envA_ok
noncomputable def S129 : Nat → Option (List D → R D) := fun x => bif Nat.beq x 129 then some H129 else SA x
theorem ok129 : EnvOK (EE S129) := EnvOK.more okA (f := 129) (h := H129) ⟨Tryz.f129, Tryz.func129, by kernel_rfl⟩ (valid_sums)
noncomputable def S29 : Nat → Option (List D → R D) := fun x => bif Nat.beq x 29 then some H29 else S129 x
theorem ok29 : EnvOK (EE S29) := EnvOK.more ok129 (f := 29) (h := H29) ⟨Tryz.f29, Tryz.func29, by kernel_rfl⟩ (mkH_sumsT ok129 (fun _ => rfl) (fun _ => rfl) fun x h => strongT rfl (m29_ev  x h))
noncomputable def S28 : Nat → Option (List D → R D) := fun x => bif Nat.beq x 28 then some H28 else S29 x
theorem ok28 : EnvOK (EE S28) := EnvOK.more ok29 (f := 28) (h := H28) ⟨Tryz.f28, Tryz.func28, by kernel_rfl⟩ (mkH_sumsT ok29 (fun _ => rfl) (fun _ => rfl) fun x h => strongT rfl (m28_ev rfl x h))
noncomputable def S36 : Nat → Option (List D → R D) := fun x => bif Nat.beq x 36 then some H36 else S28 x
theorem ok36 : EnvOK (EE S36) := EnvOK.more ok28 (f := 36) (h := H36) ⟨Tryz.f36, Tryz.func36, by kernel_rfl⟩ (mkH_sumsT ok28 (fun _ => rfl) (fun _ => rfl) fun x _ => strongT rfl (m36_ev  x ))
noncomputable def S38 : Nat → Option (List D → R D) := fun x => bif Nat.beq x 38 then some H38 else S36 x
theorem ok38 : EnvOK (EE S38) := EnvOK.more ok36 (f := 38) (h := H38) ⟨Tryz.f38, Tryz.func38, by kernel_rfl⟩ (mkH_sumsT ok36 (fun _ => rfl) (fun _ => rfl) fun x _ => strongT rfl (m38_ev  x ))
noncomputable def S85 : Nat → Option (List D → R D) := fun x => bif Nat.beq x 85 then some H85 else S38 x
theorem ok85 : EnvOK (EE S85) := EnvOK.more ok38 (f := 85) (h := H85) ⟨Tryz.f85, Tryz.func85, by kernel_rfl⟩ (mkH_sumsT ok38 (fun _ => rfl) (fun _ => rfl) fun x h => strongT rfl (m85_ev  x.1 x.2 h))
noncomputable def S52 : Nat → Option (List D → R D) := fun x => bif Nat.beq x 52 then some H52 else S85 x
theorem ok52 : EnvOK (EE S52) := EnvOK.more ok85 (f := 52) (h := H52) ⟨Tryz.f52, Tryz.func52, by kernel_rfl⟩ (mkH_sumsT ok85 (fun _ => rfl) (fun _ => rfl) fun x h => strongT rfl (m52_ev rfl x.1 x.2 h))
noncomputable def S155 : Nat → Option (List D → R D) := fun x => bif Nat.beq x 155 then some H155 else S52 x
theorem ok155 : EnvOK (EE S155) := EnvOK.more ok52 (f := 155) (h := H155) ⟨Tryz.f155, Tryz.func155, by kernel_rfl⟩ (mkH_sumsT ok52 (fun _ => rfl) (fun _ => rfl) fun x h => strongT rfl (m155_ev  x.1 x.2 h.1 h.2))
noncomputable def S134 : Nat → Option (List D → R D) := fun x => bif Nat.beq x 134 then some H134 else S155 x
theorem ok134 : EnvOK (EE S134) := EnvOK.more ok155 (f := 134) (h := H134) ⟨Tryz.f134, Tryz.func134, by kernel_rfl⟩ (mkH_sumsT ok155 (fun _ => rfl) (fun _ => rfl) fun x h => strongT rfl (m134_ev rfl x.1 x.2 h.1 h.2))
noncomputable def S39 : Nat → Option (List D → R D) := fun x => bif Nat.beq x 39 then some H39 else S134 x
theorem ok39 : EnvOK (EE S39) := EnvOK.more ok134 (f := 39) (h := H39) ⟨Tryz.f39, Tryz.func39, by kernel_rfl⟩ (mkH_sumsT ok134 (fun _ => rfl) (fun _ => rfl) fun x h => strongT rfl (m39_ev rfl x.1 x.2 h.1 h.2))
noncomputable def S31 : Nat → Option (List D → R D) := fun x => bif Nat.beq x 31 then some H31 else S39 x
theorem ok31 : EnvOK (EE S31) := EnvOK.more ok39 (f := 31) (h := H31) ⟨Tryz.f31, Tryz.func31, by kernel_rfl⟩ (mkH_sumsT ok39 (fun _ => rfl) (fun _ => rfl) fun x h => strongT rfl (m31_ev rfl x.1 x.2 h.1 h.2))
noncomputable def S40 : Nat → Option (List D → R D) := fun x => bif Nat.beq x 40 then some H40 else S31 x
theorem ok40 : EnvOK (EE S40) := EnvOK.more ok31 (f := 40) (h := H40) ⟨Tryz.f40, Tryz.func40, by kernel_rfl⟩ (mkH_sumsT ok31 (fun _ => rfl) (fun _ => rfl) fun x h => m40_ev  x.1 x.2 h.1 h.2)
noncomputable def S37 : Nat → Option (List D → R D) := fun x => bif Nat.beq x 37 then some H37 else S40 x
theorem ok37 : EnvOK (EE S37) := EnvOK.more ok40 (f := 37) (h := H37) ⟨Tryz.f37, Tryz.func37, by kernel_rfl⟩ (mkH_sumsT ok40 (fun _ => rfl) (fun _ => rfl) fun x h => strongT rfl (m37_ev rfl x h))
noncomputable def S15 : Nat → Option (List D → R D) := fun x => bif Nat.beq x 15 then some H15 else S37 x
theorem ok15 : EnvOK (EE S15) := EnvOK.more ok37 (f := 15) (h := H15) ⟨Tryz.f15, Tryz.func15, by kernel_rfl⟩ (mkH_sumsT ok37 (fun _ => rfl) (fun _ => rfl) fun x h => strongT rfl (m15_ev rfl rfl rfl x h))
noncomputable def S73 : Nat → Option (List D → R D) := fun x => bif Nat.beq x 73 then some H73 else S15 x
theorem ok73 : EnvOK (EE S73) := EnvOK.more ok15 (f := 73) (h := H73) ⟨Tryz.f73, Tryz.func73, by kernel_rfl⟩ (mkH_sumsT ok15 (fun _ => rfl) (fun _ => rfl) fun x h => strongT rfl (m73_ev rfl rfl x h))
noncomputable def S30 : Nat → Option (List D → R D) := fun x => bif Nat.beq x 30 then some H30 else S73 x
theorem ok30 : EnvOK (EE S30) := EnvOK.more ok73 (f := 30) (h := H30) ⟨Tryz.f30, Tryz.func30, by kernel_rfl⟩ (mkH_sumsT ok73 (fun _ => rfl) (fun _ => rfl) fun x h => strongT rfl (m30_ev rfl rfl rfl rfl rfl x h))
noncomputable def S14 : Nat → Option (List D → R D) := fun x => bif Nat.beq x 14 then some H14 else S30 x
theorem ok14 : EnvOK (EE S14) := EnvOK.more ok30 (f := 14) (h := H14) ⟨Tryz.f14, Tryz.func14, by kernel_rfl⟩ (mkH_sumsT ok30 (fun _ => rfl) (fun _ => rfl) fun x h => strongT rfl (m14_ev rfl rfl rfl rfl rfl rfl rfl rfl rfl x h))
noncomputable def S133 : Nat → Option (List D → R D) := fun x => bif Nat.beq x 133 then some H133 else S14 x
theorem ok133 : EnvOK (EE S133) := EnvOK.more ok14 (f := 133) (h := H133) ⟨Tryz.f133, Tryz.func133, by kernel_rfl⟩ (mkH_sumsT ok14 (fun _ => rfl) (fun _ => rfl) fun x h => strongT rfl (m133_ev rfl x h))
noncomputable def S137 : Nat → Option (List D → R D) := fun x => bif Nat.beq x 137 then some H137 else S133 x
theorem ok137 : EnvOK (EE S137) := EnvOK.more ok133 (f := 137) (h := H137) ⟨Tryz.f137, Tryz.func137, by kernel_rfl⟩ (mkH_sumsT ok133 (fun _ => rfl) (fun _ => rfl) fun x _ => strongT rfl (m137_ev  x ))
noncomputable def S138 : Nat → Option (List D → R D) := fun x => bif Nat.beq x 138 then some H138 else S137 x
theorem ok138 : EnvOK (EE S138) := EnvOK.more ok137 (f := 138) (h := H138) ⟨Tryz.f138, Tryz.func138, by kernel_rfl⟩ (mkH_sumsT ok137 (fun _ => rfl) (fun _ => rfl) fun x _ => strongT rfl (m138_ev  x ))
noncomputable def S136 : Nat → Option (List D → R D) := fun x => bif Nat.beq x 136 then some H136 else S138 x
theorem ok136 : EnvOK (EE S136) := EnvOK.more ok138 (f := 136) (h := H136) ⟨Tryz.f136, Tryz.func136, by kernel_rfl⟩ (mkH_sumsT ok138 (fun _ => rfl) (fun _ => rfl) fun x _ => strongT rfl (m136_ev rfl x.1 x.2 ))
noncomputable def S139 : Nat → Option (List D → R D) := fun x => bif Nat.beq x 139 then some H139 else S136 x
theorem ok139 : EnvOK (EE S139) := EnvOK.more ok136 (f := 139) (h := H139) ⟨Tryz.f139, Tryz.func139, by kernel_rfl⟩ (mkH_sumsT ok136 (fun _ => rfl) (fun _ => rfl) fun x h => strongT rfl (m139_ev rfl x.1 x.2.1 x.2.2 h))
noncomputable def S12 : Nat → Option (List D → R D) := fun x => bif Nat.beq x 12 then some H12 else S139 x
theorem ok12 : EnvOK (EE S12) := EnvOK.more ok139 (f := 12) (h := H12) ⟨Tryz.f12, Tryz.func12, by kernel_rfl⟩ (mkH_sumsT ok139 (fun _ => rfl) (fun _ => rfl) fun x h => strongT rfl (m12_ev rfl x h))
noncomputable def S91 : Nat → Option (List D → R D) := fun x => bif Nat.beq x 91 then some H91 else S12 x
theorem ok91 : EnvOK (EE S91) := EnvOK.more ok12 (f := 91) (h := H91) ⟨Tryz.f91, Tryz.func91, by kernel_rfl⟩ (mkH_sumsT ok12 (fun _ => rfl) (fun _ => rfl) fun x _ => strongT rfl (m91_ev  x ))
noncomputable def S94 : Nat → Option (List D → R D) := fun x => bif Nat.beq x 94 then some H94 else S91 x
theorem ok94 : EnvOK (EE S94) := EnvOK.more ok91 (f := 94) (h := H94) ⟨Tryz.f94, Tryz.func94, by kernel_rfl⟩ (mkH_sumsT ok91 (fun _ => rfl) (fun _ => rfl) fun x _ => strongT rfl (m94_ev  x ))
noncomputable def S93 : Nat → Option (List D → R D) := fun x => bif Nat.beq x 93 then some H93 else S94 x
theorem ok93 : EnvOK (EE S93) := EnvOK.more ok94 (f := 93) (h := H93) ⟨Tryz.f93, Tryz.func93, by kernel_rfl⟩ (mkH_sumsT ok94 (fun _ => rfl) (fun _ => rfl) fun x _ => m93_ev   )
noncomputable def S92 : Nat → Option (List D → R D) := fun x => bif Nat.beq x 92 then some H92 else S93 x
theorem ok92 : EnvOK (EE S92) := EnvOK.more ok93 (f := 92) (h := H92) ⟨Tryz.f92, Tryz.func92, by kernel_rfl⟩ (mkH_sumsT ok93 (fun _ => rfl) (fun _ => rfl) fun x h => strongT rfl (m92_ev  x.1 x.2 h.1 h.2))
noncomputable def S55 : Nat → Option (List D → R D) := fun x => bif Nat.beq x 55 then some H55 else S92 x
theorem ok55 : EnvOK (EE S55) := EnvOK.more ok92 (f := 55) (h := H55) ⟨Tryz.f55, Tryz.func55, by kernel_rfl⟩ (mkH_sumsT ok92 (fun _ => rfl) (fun _ => rfl) fun x h => strongT rfl (m55_ev rfl rfl rfl rfl x h))
noncomputable def S87 : Nat → Option (List D → R D) := fun x => bif Nat.beq x 87 then some H87 else S55 x
theorem ok87 : EnvOK (EE S87) := EnvOK.more ok55 (f := 87) (h := H87) ⟨Tryz.f87, Tryz.func87, by kernel_rfl⟩ (mkH_sumsT ok55 (fun _ => rfl) (fun _ => rfl) fun x h => strongT rfl (m87_ev  x.1 x.2 h.1 h.2))
noncomputable def S141 : Nat → Option (List D → R D) := fun x => bif Nat.beq x 141 then some H141 else S87 x
theorem ok141 : EnvOK (EE S141) := EnvOK.more ok87 (f := 141) (h := H141) ⟨Tryz.f141, Tryz.func141, by kernel_rfl⟩ (mkH_sumsT ok87 (fun _ => rfl) (fun _ => rfl) fun x h => strongT rfl (m141_ev rfl rfl x h))
noncomputable def S144 : Nat → Option (List D → R D) := fun x => bif Nat.beq x 144 then some H144 else S141 x
theorem ok144 : EnvOK (EE S144) := EnvOK.more ok141 (f := 144) (h := H144) ⟨Tryz.f144, Tryz.func144, by kernel_rfl⟩ (mkH_sumsT ok141 (fun _ => rfl) (fun _ => rfl) fun x h => strongT rfl (m144_ev rfl x.1 x.2 h.1 h.2))
noncomputable def S86 : Nat → Option (List D → R D) := fun x => bif Nat.beq x 86 then some H86 else S144 x
theorem ok86 : EnvOK (EE S86) := EnvOK.more ok144 (f := 86) (h := H86) ⟨Tryz.f86, Tryz.func86, by kernel_rfl⟩ (mkH_sumsT ok144 (fun _ => rfl) (fun _ => rfl) fun x h => strongT rfl (m86_ev rfl rfl x h))
noncomputable def S88 : Nat → Option (List D → R D) := fun x => bif Nat.beq x 88 then some H88 else S86 x
theorem ok88 : EnvOK (EE S88) := EnvOK.more ok86 (f := 88) (h := H88) ⟨Tryz.f88, Tryz.func88, by kernel_rfl⟩ (mkH_sumsT ok86 (fun _ => rfl) (fun _ => rfl) fun x h => strongT rfl (m88_ev rfl rfl x h))
noncomputable def S53 : Nat → Option (List D → R D) := fun x => bif Nat.beq x 53 then some H53 else S88 x
theorem ok53 : EnvOK (EE S53) := EnvOK.more ok88 (f := 53) (h := H53) ⟨Tryz.f53, Tryz.func53, by kernel_rfl⟩ (mkH_sumsT ok88 (fun _ => rfl) (fun _ => rfl) fun x h => strongT rfl (m53_ev rfl rfl rfl rfl x h))
noncomputable def S143 : Nat → Option (List D → R D) := fun x => bif Nat.beq x 143 then some H143 else S53 x
theorem ok143 : EnvOK (EE S143) := EnvOK.more ok53 (f := 143) (h := H143) ⟨Tryz.f143, Tryz.func143, by kernel_rfl⟩ (mkH_sumsT ok53 (fun _ => rfl) (fun _ => rfl) fun x h => strongT rfl (m143_ev  x.1 x.2 h.1 h.2))
noncomputable def S90 : Nat → Option (List D → R D) := fun x => bif Nat.beq x 90 then some H90 else S143 x
theorem ok90 : EnvOK (EE S90) := EnvOK.more ok143 (f := 90) (h := H90) ⟨Tryz.f90, Tryz.func90, by kernel_rfl⟩ (mkH_sumsT ok143 (fun _ => rfl) (fun _ => rfl) fun x h => strongT rfl (m90_ev rfl x.1 x.2 h.1 h.2.1 h.2.2))
noncomputable def S20 : Nat → Option (List D → R D) := fun x => bif Nat.beq x 20 then some H20 else S90 x
theorem ok20 : EnvOK (EE S20) := EnvOK.more ok90 (f := 20) (h := H20) ⟨Tryz.f20, Tryz.func20, by kernel_rfl⟩ (mkH_sumsT ok90 (fun _ => rfl) (fun _ => rfl) fun x h => strongT rfl (m20_ev rfl x h))
noncomputable def S9 : Nat → Option (List D → R D) := fun x => bif Nat.beq x 9 then some H9 else S20 x
theorem ok9 : EnvOK (EE S9) := EnvOK.more ok20 (f := 9) (h := H9) ⟨Tryz.f9, Tryz.func9, by kernel_rfl⟩ (mkH_sumsT ok20 (fun _ => rfl) (fun _ => rfl) fun x h => m9_ev  x h)
noncomputable def S95 : Nat → Option (List D → R D) := fun x => bif Nat.beq x 95 then some H95 else S9 x
theorem ok95 : EnvOK (EE S95) := EnvOK.more ok9 (f := 95) (h := H95) ⟨Tryz.f95, Tryz.func95, by kernel_rfl⟩ (mkH_sumsT ok9 (fun _ => rfl) (fun _ => rfl) fun x h => strongT rfl (m95_ev  x.1 x.2 h.1 h.2))
noncomputable def S100 : Nat → Option (List D → R D) := fun x => bif Nat.beq x 100 then some H100 else S95 x
theorem ok100 : EnvOK (EE S100) := EnvOK.more ok95 (f := 100) (h := H100) ⟨Tryz.f100, Tryz.func100, by kernel_rfl⟩ (mkH_sumsT ok95 (fun _ => rfl) (fun _ => rfl) fun x h => strongT rfl (m100_ev  x h))
noncomputable def S101 : Nat → Option (List D → R D) := fun x => bif Nat.beq x 101 then some H101 else S100 x
theorem ok101 : EnvOK (EE S101) := EnvOK.more ok100 (f := 101) (h := H101) ⟨Tryz.f101, Tryz.func101, by kernel_rfl⟩ (mkH_sumsT ok100 (fun _ => rfl) (fun _ => rfl) fun x h => strongT rfl (m101_ev  x.1 x.2 h))
noncomputable def S26 : Nat → Option (List D → R D) := fun x => bif Nat.beq x 26 then some H26 else S101 x
theorem ok26 : EnvOK (EE S26) := EnvOK.more ok101 (f := 26) (h := H26) ⟨Tryz.f26, Tryz.func26, by kernel_rfl⟩ (mkH_sumsT ok101 (fun _ => rfl) (fun _ => rfl) fun x h => m26_ev  x h)
noncomputable def S200 : Nat → Option (List D → R D) := fun x => bif Nat.beq x 200 then some H200 else S26 x
theorem ok200 : EnvOK (EE S200) := EnvOK.more ok26 (f := 200) (h := H200) ⟨Tryz.f200, Tryz.func200, by kernel_rfl⟩ (mkH_sumsT ok26 (fun _ => rfl) (fun _ => rfl) fun x h => strongT rfl (m200_ev  x.1 x.2 h.1 h.2))
noncomputable def S201 : Nat → Option (List D → R D) := fun x => bif Nat.beq x 201 then some H201 else S200 x
theorem ok201 : EnvOK (EE S201) := EnvOK.more ok200 (f := 201) (h := H201) ⟨Tryz.f201, Tryz.func201, by kernel_rfl⟩ (mkH_sumsT ok200 (fun _ => rfl) (fun _ => rfl) fun x _ => m201_ev   )
noncomputable def S202 : Nat → Option (List D → R D) := fun x => bif Nat.beq x 202 then some H202 else S201 x
theorem ok202 : EnvOK (EE S202) := EnvOK.more ok201 (f := 202) (h := H202) ⟨Tryz.f202, Tryz.func202, by kernel_rfl⟩ (mkH_sumsT ok201 (fun _ => rfl) (fun _ => rfl) fun x _ => m202_ev   )
noncomputable def S208 : Nat → Option (List D → R D) := fun x => bif Nat.beq x 208 then some H208 else S202 x
theorem ok208 : EnvOK (EE S208) := EnvOK.more ok202 (f := 208) (h := H208) ⟨Tryz.f208, Tryz.func208, by kernel_rfl⟩ (mkH_sumsT ok202 (fun _ => rfl) (fun _ => rfl) fun x h => strongT rfl (m208_ev rfl x h))
noncomputable def S206 : Nat → Option (List D → R D) := fun x => bif Nat.beq x 206 then some H206 else S208 x
theorem ok206 : EnvOK (EE S206) := EnvOK.more ok208 (f := 206) (h := H206) ⟨Tryz.f206, Tryz.func206, by kernel_rfl⟩ (mkH_sumsT ok208 (fun _ => rfl) (fun _ => rfl) fun x h => strongT rfl (m206_ev rfl x h))
noncomputable def S203 : Nat → Option (List D → R D) := fun x => bif Nat.beq x 203 then some H203 else S206 x
theorem ok203 : EnvOK (EE S203) := EnvOK.more ok206 (f := 203) (h := H203) ⟨Tryz.f203, Tryz.func203, by kernel_rfl⟩ (mkH_sumsT ok206 (fun _ => rfl) (fun _ => rfl) fun x _ => strongT rfl (m203_ev  x ))
noncomputable def S204 : Nat → Option (List D → R D) := fun x => bif Nat.beq x 204 then some H204 else S203 x
theorem ok204 : EnvOK (EE S204) := EnvOK.more ok203 (f := 204) (h := H204) ⟨Tryz.f204, Tryz.func204, by kernel_rfl⟩ (mkH_sumsT ok203 (fun _ => rfl) (fun _ => rfl) fun x _ => strongT rfl (m204_ev  x ))
noncomputable def S205 : Nat → Option (List D → R D) := fun x => bif Nat.beq x 205 then some H205 else S204 x
theorem ok205 : EnvOK (EE S205) := EnvOK.more ok204 (f := 205) (h := H205) ⟨Tryz.f205, Tryz.func205, by kernel_rfl⟩ (mkH_sumsT ok204 (fun _ => rfl) (fun _ => rfl) fun x _ => strongT rfl (m205_ev rfl x.1 x.2 ))
noncomputable def S207 : Nat → Option (List D → R D) := fun x => bif Nat.beq x 207 then some H207 else S205 x
theorem ok207 : EnvOK (EE S207) := EnvOK.more ok205 (f := 207) (h := H207) ⟨Tryz.f207, Tryz.func207, by kernel_rfl⟩ (mkH_sumsT ok205 (fun _ => rfl) (fun _ => rfl) fun x h => strongT rfl (m207_ev rfl x.1 x.2.1 x.2.2 h))
noncomputable def S199 : Nat → Option (List D → R D) := fun x => bif Nat.beq x 199 then some H199 else S207 x
theorem ok199 : EnvOK (EE S199) := EnvOK.more ok207 (f := 199) (h := H199) ⟨Tryz.f199, Tryz.func199, by kernel_rfl⟩ (mkH_sumsT ok207 (fun _ => rfl) (fun _ => rfl) fun x h => strongT rfl (m199_ev rfl x h))
noncomputable def S146 : Nat → Option (List D → R D) := fun x => bif Nat.beq x 146 then some H146 else S199 x
theorem ok146 : EnvOK (EE S146) := EnvOK.more ok199 (f := 146) (h := H146) ⟨Tryz.f146, Tryz.func146, by kernel_rfl⟩ (mkH_sumsT ok199 (fun _ => rfl) (fun _ => rfl) fun x h => strongT rfl (m146r_ev rfl x.1 x.2.1 x.2.2 h))
noncomputable def S147 : Nat → Option (List D → R D) := fun x => bif Nat.beq x 147 then some H147 else S146 x
theorem ok147 : EnvOK (EE S147) := EnvOK.more ok146 (f := 147) (h := H147) ⟨Tryz.f147, Tryz.func147, by kernel_rfl⟩ (mkH_sumsT ok146 (fun _ => rfl) (fun _ => rfl) fun x h => strongT rfl (m147r_ev rfl rfl rfl rfl rfl rfl x.1 x.2 h.1 h.2))
noncomputable def S69 : Nat → Option (List D → R D) := fun x => bif Nat.beq x 69 then some H69 else S147 x
theorem ok69 : EnvOK (EE S69) := EnvOK.more ok147 (f := 69) (h := H69) ⟨Tryz.f69, Tryz.func69, by kernel_rfl⟩ (mkH_sumsT ok147 (fun _ => rfl) (fun _ => rfl) fun x h => strongT rfl (m69r_ev rfl x.1 x.2 h))
noncomputable def S24 : Nat → Option (List D → R D) := fun x => bif Nat.beq x 24 then some H24 else S69 x
theorem ok24 : EnvOK (EE S24) := EnvOK.more ok69 (f := 24) (h := H24) ⟨Tryz.f24, Tryz.func24, by kernel_rfl⟩ (mkH_sumsT ok69 (fun _ => rfl) (fun _ => rfl) fun x h => strongT rfl (m24_ev rfl x h))
noncomputable def S142 : Nat → Option (List D → R D) := fun x => bif Nat.beq x 142 then some H142 else S24 x
theorem ok142 : EnvOK (EE S142) := EnvOK.more ok24 (f := 142) (h := H142) ⟨Tryz.f142, Tryz.func142, by kernel_rfl⟩ (mkH_sumsT ok24 (fun _ => rfl) (fun _ => rfl) fun x h => strongT rfl (m142r_ev rfl rfl x.1 x.2 h.1 h.2))
noncomputable def S89 : Nat → Option (List D → R D) := fun x => bif Nat.beq x 89 then some H89 else S142 x
theorem ok89 : EnvOK (EE S89) := EnvOK.more ok142 (f := 89) (h := H89) ⟨Tryz.f89, Tryz.func89, by kernel_rfl⟩ (mkH_sumsT ok142 (fun _ => rfl) (fun _ => rfl) fun x h => strongT rfl (m89_ev rfl x h))
noncomputable def S82 : Nat → Option (List D → R D) := fun x => bif Nat.beq x 82 then some H82 else S89 x
theorem ok82 : EnvOK (EE S82) := EnvOK.more ok89 (f := 82) (h := H82) ⟨Tryz.f82, Tryz.func82, by kernel_rfl⟩ (mkH_sumsT ok89 (fun _ => rfl) (fun _ => rfl) fun x h => strongT rfl (m82r_ev rfl rfl rfl rfl rfl rfl rfl rfl rfl x.1 x.2 h.1 h.2.1 h.2.2))
noncomputable def S48 : Nat → Option (List D → R D) := fun x => bif Nat.beq x 48 then some H48 else S82 x
theorem ok48 : EnvOK (EE S48) := EnvOK.more ok82 (f := 48) (h := H48) ⟨Tryz.f48, Tryz.func48, by kernel_rfl⟩ (mkH_sumsT ok82 (fun _ => rfl) (fun _ => rfl) fun x h => strongT rfl (m48_ev rfl rfl rfl rfl rfl rfl x.1 x.2 h.1 h.2))
noncomputable def S44 : Nat → Option (List D → R D) := fun x => bif Nat.beq x 44 then some H44 else S48 x
theorem ok44 : EnvOK (EE S44) := EnvOK.more ok48 (f := 44) (h := H44) ⟨Tryz.f44, Tryz.func44, by kernel_rfl⟩ (mkH_sumsT ok48 (fun _ => rfl) (fun _ => rfl) fun x h => strongT rfl (m44_ev rfl x.1 x.2.1 x.2.2 h.1 h.2.1 h.2.2))
noncomputable def S18 : Nat → Option (List D → R D) := fun x => bif Nat.beq x 18 then some H18 else S44 x
theorem ok18 : EnvOK (EE S18) := EnvOK.more ok44 (f := 18) (h := H18) ⟨Tryz.f18, Tryz.func18, by kernel_rfl⟩ (mkH_sumsT ok44 (fun _ => rfl) (fun _ => rfl) fun x h => strongT rfl (m18_ev rfl rfl x.1 x.2 h.1 h.2))
noncomputable def S50 : Nat → Option (List D → R D) := fun x => bif Nat.beq x 50 then some H50 else S18 x
theorem ok50 : EnvOK (EE S50) := EnvOK.more ok18 (f := 50) (h := H50) ⟨Tryz.f50, Tryz.func50, by kernel_rfl⟩ (mkH_sumsT ok18 (fun _ => rfl) (fun _ => rfl) fun x h => strongT rfl (m50_ev rfl rfl rfl x h))
noncomputable def S148 : Nat → Option (List D → R D) := fun x => bif Nat.beq x 148 then some H148 else S50 x
theorem ok148 : EnvOK (EE S148) := EnvOK.more ok50 (f := 148) (h := H148) ⟨Tryz.f148, Tryz.func148, by kernel_rfl⟩ (mkH_sumsT ok50 (fun _ => rfl) (fun _ => rfl) fun x h => strongT rfl (m148r_ev rfl rfl rfl rfl rfl rfl rfl x.1 x.2 h.1 h.2.1 h.2.2))
noncomputable def S98 : Nat → Option (List D → R D) := fun x => bif Nat.beq x 98 then some H98 else S148 x
theorem ok98 : EnvOK (EE S98) := EnvOK.more ok148 (f := 98) (h := H98) ⟨Tryz.f98, Tryz.func98, by kernel_rfl⟩ (mkH_sumsT ok148 (fun _ => rfl) (fun _ => rfl) fun x h => strongT rfl (m98_ev rfl rfl rfl rfl x.1 x.2 h.1 h.2))
noncomputable def S97 : Nat → Option (List D → R D) := fun x => bif Nat.beq x 97 then some H97 else S98 x
theorem ok97 : EnvOK (EE S97) := EnvOK.more ok98 (f := 97) (h := H97) ⟨Tryz.f97, Tryz.func97, by kernel_rfl⟩ (mkH_sumsT ok98 (fun _ => rfl) (fun _ => rfl) fun x h => strongT rfl (m97_ev rfl x.1 x.2.1 x.2.2 h.1 h.2.1 h.2.2))
noncomputable def S58 : Nat → Option (List D → R D) := fun x => bif Nat.beq x 58 then some H58 else S97 x
theorem ok58 : EnvOK (EE S58) := EnvOK.more ok97 (f := 58) (h := H58) ⟨Tryz.f58, Tryz.func58, by kernel_rfl⟩ (mkH_sumsT ok97 (fun _ => rfl) (fun _ => rfl) fun x h => strongT rfl (m58_ev rfl rfl x.1 x.2 h.1 h.2))
noncomputable def S49 : Nat → Option (List D → R D) := fun x => bif Nat.beq x 49 then some H49 else S58 x
theorem ok49 : EnvOK (EE S49) := EnvOK.more ok58 (f := 49) (h := H49) ⟨Tryz.f49, Tryz.func49, by kernel_rfl⟩ (mkH_sumsT ok58 (fun _ => rfl) (fun _ => rfl) fun x h => strongT rfl (m49_ev rfl rfl rfl rfl rfl x.1 x.2.1 x.2.2 h.1 h.2.1 h.2.2))
noncomputable def S19 : Nat → Option (List D → R D) := fun x => bif Nat.beq x 19 then some H19 else S49 x
theorem ok19 : EnvOK (EE S19) := EnvOK.more ok49 (f := 19) (h := H19) ⟨Tryz.f19, Tryz.func19, by kernel_rfl⟩ (mkH_sumsT ok49 (fun _ => rfl) (fun _ => rfl) fun x h => strongT rfl (m19_ev rfl rfl rfl rfl rfl rfl rfl rfl x.1 x.2 h.1 h.2))
noncomputable def S27 : Nat → Option (List D → R D) := fun x => bif Nat.beq x 27 then some H27 else S19 x
theorem ok27 : EnvOK (EE S27) := EnvOK.more ok19 (f := 27) (h := H27) ⟨Tryz.f27, Tryz.func27, by kernel_rfl⟩ (mkH_sumsT ok19 (fun _ => rfl) (fun _ => rfl) fun x h => m27_ev  x h)
noncomputable def S13 : Nat → Option (List D → R D) := fun x => bif Nat.beq x 13 then some H13 else S27 x
theorem ok13 : EnvOK (EE S13) := EnvOK.more ok27 (f := 13) (h := H13) ⟨Tryz.f13, Tryz.func13, by kernel_rfl⟩ (mkH_sumsT ok27 (fun _ => rfl) (fun _ => rfl) fun x h => strongT rfl (m13_ev rfl rfl rfl x h))
noncomputable def S54 : Nat → Option (List D → R D) := fun x => bif Nat.beq x 54 then some H54 else S13 x
theorem ok54 : EnvOK (EE S54) := EnvOK.more ok13 (f := 54) (h := H54) ⟨Tryz.f54, Tryz.func54, by kernel_rfl⟩ (mkH_sumsT ok13 (fun _ => rfl) (fun _ => rfl) fun x h => strongT rfl (m54_ev rfl rfl x h))
noncomputable def S99 : Nat → Option (List D → R D) := fun x => bif Nat.beq x 99 then some H99 else S54 x
theorem ok99 : EnvOK (EE S99) := EnvOK.more ok54 (f := 99) (h := H99) ⟨Tryz.f99, Tryz.func99, by kernel_rfl⟩ (mkH_sumsT ok54 (fun _ => rfl) (fun _ => rfl) fun x h => strongT rfl (m99_ev rfl rfl rfl rfl rfl x.1 x.2.1 x.2.2 h.1 h.2.1 h.2.2))
noncomputable def S59 : Nat → Option (List D → R D) := fun x => bif Nat.beq x 59 then some H59 else S99 x
theorem ok59 : EnvOK (EE S59) := EnvOK.more ok99 (f := 59) (h := H59) ⟨Tryz.f59, Tryz.func59, by kernel_rfl⟩ (mkH_sumsT ok99 (fun _ => rfl) (fun _ => rfl) fun x h => strongT rfl (m59_ev rfl rfl rfl rfl x.1 x.2 h.1 h.2))
noncomputable def S43 : Nat → Option (List D → R D) := fun x => bif Nat.beq x 43 then some H43 else S59 x
theorem ok43 : EnvOK (EE S43) := EnvOK.more ok59 (f := 43) (h := H43) ⟨Tryz.f43, Tryz.func43, by kernel_rfl⟩ (H43_sums ok59)
noncomputable def S96 : Nat → Option (List D → R D) := fun x => bif Nat.beq x 96 then some H96 else S43 x
theorem ok96 : EnvOK (EE S96) := EnvOK.more ok43 (f := 96) (h := H96) ⟨Tryz.f96, Tryz.func96, by kernel_rfl⟩ (mkH_sumsT ok43 (fun _ => rfl) (fun _ => rfl) fun x h => m96_ev rfl x h)
noncomputable def S17 : Nat → Option (List D → R D) := fun x => bif Nat.beq x 17 then some H17 else S96 x
theorem ok17 : EnvOK (EE S17) := EnvOK.more ok96 (f := 17) (h := H17) ⟨Tryz.f17, Tryz.func17, by kernel_rfl⟩ (mkH_sumsT ok96 (fun _ => rfl) (fun _ => rfl) fun x h => strongT rfl (m17_ev rfl rfl rfl rfl rfl x.1 x.2 h.1 h.2))
noncomputable def S16 : Nat → Option (List D → R D) := fun x => bif Nat.beq x 16 then some H16 else S17 x
theorem ok16 : EnvOK (EE S16) := EnvOK.more ok17 (f := 16) (h := H16) ⟨Tryz.f16, Tryz.func16, by kernel_rfl⟩ (mkH_sumsT ok17 (fun _ => rfl) (fun _ => rfl) fun x h => strongT rfl (m16_ev rfl rfl rfl rfl rfl rfl rfl x.1 x.2 h.1 h.2))
noncomputable def S5 : Nat → Option (List D → R D) := fun x => bif Nat.beq x 5 then some H5 else S16 x
theorem ok5 : EnvOK (EE S5) := EnvOK.more ok16 (f := 5) (h := H5) ⟨Tryz.f5, Tryz.func5, by kernel_rfl⟩ (mkH_sumsT ok16 (fun _ => rfl) (fun _ => rfl) fun x h => strongT rfl (m5_ev rfl rfl rfl rfl rfl rfl rfl rfl x.1 x.2 h.1 h.2))
noncomputable def S57 : Nat → Option (List D → R D) := fun x => bif Nat.beq x 57 then some H57 else S5 x
theorem ok57 : EnvOK (EE S57) := EnvOK.more ok5 (f := 57) (h := H57) ⟨Tryz.f57, Tryz.func57, by kernel_rfl⟩ (mkH_sumsT ok5 (fun _ => rfl) (fun _ => rfl) fun x h => strongT rfl (m57_ev rfl x.1 x.2 h.1 h.2))
noncomputable def S56 : Nat → Option (List D → R D) := fun x => bif Nat.beq x 56 then some H56 else S57 x
theorem ok56 : EnvOK (EE S56) := EnvOK.more ok57 (f := 56) (h := H56) ⟨Tryz.f56, Tryz.func56, by kernel_rfl⟩ (mkH_sumsT ok57 (fun _ => rfl) (fun _ => rfl) fun x h => strongT rfl (m56_ev rfl rfl rfl rfl x.1 x.2 h.1 h.2))
noncomputable def S21 : Nat → Option (List D → R D) := fun x => bif Nat.beq x 21 then some H21 else S56 x
theorem ok21 : EnvOK (EE S21) := EnvOK.more ok56 (f := 21) (h := H21) ⟨Tryz.f21, Tryz.func21, by kernel_rfl⟩ (mkH_sumsT ok56 (fun _ => rfl) (fun _ => rfl) fun x h => strongT rfl (m21_ev rfl rfl rfl rfl rfl rfl rfl x.1 x.2 h.1 h.2))
noncomputable def S7 : Nat → Option (List D → R D) := fun x => bif Nat.beq x 7 then some H7 else S21 x
theorem ok7 : EnvOK (EE S7) := EnvOK.more ok21 (f := 7) (h := H7) ⟨Tryz.f7, Tryz.func7, by kernel_rfl⟩ (mkH_sumsT ok21 (fun _ => rfl) (fun _ => rfl) fun x h => strongT rfl (m7_ev rfl rfl x.1 x.2 h.1 h.2))
noncomputable def S25 : Nat → Option (List D → R D) := fun x => bif Nat.beq x 25 then some H25 else S7 x
theorem ok25 : EnvOK (EE S25) := EnvOK.more ok7 (f := 25) (h := H25) ⟨Tryz.f25, Tryz.func25, by kernel_rfl⟩ (mkH_sums ok7 (fun _ => rfl) (fun _ => rfl) fun x h => deepT (m25r_ev rfl x h))
noncomputable def S11 : Nat → Option (List D → R D) := fun x => bif Nat.beq x 11 then some H11 else S25 x
theorem ok11 : EnvOK (EE S11) := EnvOK.more ok25 (f := 11) (h := H11) ⟨Tryz.f11, Tryz.func11, by kernel_rfl⟩ (mkH_sumsT ok25 (fun _ => rfl) (fun _ => rfl) fun x h => m11_ev rfl x h)
noncomputable def S10 : Nat → Option (List D → R D) := fun x => bif Nat.beq x 10 then some H10 else S11 x
theorem ok10 : EnvOK (EE S10) := EnvOK.more ok11 (f := 10) (h := H10) ⟨Tryz.f10, Tryz.func10, by kernel_rfl⟩ (mkH_sumsT ok11 (fun _ => rfl) (fun _ => rfl) fun x h => m10_ev rfl rfl x h)
noncomputable def S4 : Nat → Option (List D → R D) := fun x => bif Nat.beq x 4 then some H4 else S10 x
theorem ok4 : EnvOK (EE S4) := EnvOK.more ok10 (f := 4) (h := H4) ⟨Tryz.f4, Tryz.func4, by kernel_rfl⟩ (mkH_sums ok10 (fun _ => rfl) (fun _ => rfl) fun x h => m4_ev rfl rfl rfl x h)
noncomputable def S6 : Nat → Option (List D → R D) := fun x => bif Nat.beq x 6 then some H6 else S4 x
theorem ok6 : EnvOK (EE S6) := EnvOK.more ok4 (f := 6) (h := H6) ⟨Tryz.f6, Tryz.func6, by kernel_rfl⟩ (mkH_sumsT ok4 (fun _ => rfl) (fun _ => rfl) fun x h => m6_ev rfl x h)
noncomputable def S8 : Nat → Option (List D → R D) := fun x => bif Nat.beq x 8 then some H8 else S6 x
theorem ok8 : EnvOK (EE S8) := EnvOK.more ok6 (f := 8) (h := H8) ⟨Tryz.f8, Tryz.func8, by kernel_rfl⟩ (mkH_ofSums fun x _ => awake_sums)
theorem law_ev (l : List Tbl) (q : Qry) (h_l : okL Tbl.ok l) (h_q : Qry.ok q) : ∃ d σ', Ev (EE S8) 3 [D.c (.sl false (l.map Tbl.enc)), D.agg ((Qry.enc q).map D.c)] St.empty d σ' ∧ _root_.Go.Vm.plain d = true ∧ strip d = D.c (.bool (m3 l q)) := m3_ev rfl rfl rfl rfl rfl l q h_l h_q
abbrev okZ := ok8
end Go.Vm
