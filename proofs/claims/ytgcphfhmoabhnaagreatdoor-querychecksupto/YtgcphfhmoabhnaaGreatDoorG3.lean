/- The functions that the law calls: what they compute, and that the interpreter comes to it; sizes as their statements say. Printed by a program of this session's. -/
import Derived.Test.YtgcphfhmoabhnaaGreatDoorG2
set_option linter.unusedVariables false
namespace Go.Vm
open Go.Proofs
variable {S : Nat → Option (List D → R D)}
def m5_1 (l : (List Tbl)) (q : Qry) : Lo Bool Int := (bif ((q.kind : Int) == 10) then .on ((q.kind : Int) == 10) else (bif ((q.kind : Int) == 11) then .on ((q.kind : Int) == 11) else .on ((q.kind : Int) == 12)))
def m5_2 (l : (List Tbl)) (q : Qry) (v1_48 : Bool) : Lo Bool Int := (bif ((q.kind : Int) == 8) then .on ((q.kind : Int) == 8) else .on ((q.kind : Int) == 9))
def m5 (l : (List Tbl)) (q : Qry) : Int := (bif (((m12 l) : Int) != 0) then (m12 l) else (bif decide ((q.kind : Int) < 1) then 1 else (bif decide ((q.kind : Int) > 12) then 1 else (bif (!(m13 q)) then 1 else (bif ((q.kind : Int) == 5) then (m14 q.create) else (bif ((q.kind : Int) == 6) then (bif decide ((q.level : Int) < 1) then 200 else (bif decide ((q.level : Int) > 3) then 200 else 0)) else (bif ((q.kind : Int) == 7) then (bif decide ((q.stamp : Int) > 4611686018427387904) then 1 else 0) else (match m5_1 l q with | .out r => r | .on v1_48 => (bif v1_48 then (bif (!(m15 q.name)) then 30 else 0) else (match m5_2 l q false with | .out r => r | .on v2_56 => (bif v2_56 then 0 else (bif decide ((q.table : Int) < 0) then 251 else (bif decide ((q.table : Int) ≥ ((l.length : Nat) : Int)) then 251 else (bif ((q.kind : Int) == 1) then (m16 (l.getD q.table.toNat default) q) else (bif ((q.kind : Int) == 2) then (bif (((m17 (l.getD q.table.toNat default) q.sets) : Int) != 0) then (m17 (l.getD q.table.toNat default) q.sets) else (m18 (l.getD q.table.toNat default) q.wher)) else (bif ((q.kind : Int) == 3) then (m18 (l.getD q.table.toNat default) q.wher) else (m19 (l.getD q.table.toNat default) q)))))))))))))))))
theorem m5_ev  (c12 : S 12 = some H12) (c13 : S 13 = some H13) (c14 : S 14 = some H14) (c15 : S 15 = some H15) (c16 : S 16 = some H16) (c17 : S 17 = some H17) (c18 : S 18 = some H18) (c19 : S 19 = some H19) (l : (List Tbl)) (q : Qry)  (h_l : (okL Tbl.ok) l) (h_q : Qry.ok q) : ∃ d σ', Ev (EE S) 5 [dL Tbl.enc l, dR Qry.enc q] St.empty d σ' ∧ plain d = true ∧ strip d = dI (m5 l q) := by
 unfold m5
 have h : Ko 0 St.empty [] [] := Ko.empty
 refine Ev.wp (E := EE S) (fn := Tryz.f5) (nt := 103) Tryz.func5 rfl rfl (Ck h fun _ _ h => Rw.bx (d := dR Qry.enc q) h (Nat.le_add_right _ 0) rfl rfl rfl rfl rfl rfl fun b1 _ h => Rg 1 rfl (Rw.nilK h (Nat.add_le_add_left (by decide : 1 ≤ 2) _) fun h => Cs (Ck h fun _ _ h => Rg 1 rfl (Rs rfl (fun _ => op_call (d := dI (m12 l)) rfl rfl c12 rfl (He i12 l h_l rfl)) (Rg 1 rfl (Rz h fun h => Ck h fun _ _ h => Rg 2 rfl (Rz h fun h => ?_)))))))
 cases q1 : (((m12 l) : Int) != 0)
 have p1 := eq_of_bneF q1
 refine Cf rfl (Ci (Cs (Ck h fun _ _ h => Rf fi41_0 rfl (Rl 0 h rfl (ty3.ldS rfl) (Rg 2 rfl ?_)))))
 cases q2 : decide ((q.kind : Int) < 1)
 have p2 := of_decide_eq_false q2
 refine Rf fi41_0 rfl (Rl 0 h rfl (ty3.ldS rfl) (Rg 3 rfl ?_))
 cases q3 : decide ((q.kind : Int) > 12)
 have p3 := of_decide_eq_false q3
 refine Rw.ld (k := 0) (d := dR Qry.enc q) h rfl rfl rfl rfl rfl (ty41.ldA rfl rfl) rfl (Rs rfl (fun _ => op_call (d := dB (m13 q)) rfl rfl c13 rfl (He i13 q h_q rfl)) (Rg 2 rfl (Rz h fun h => ?_)))
 cases q4 : (!(m13 q))
 refine Cf rfl (Ci (Cs (Ck h fun _ _ h => Rf fi41_0 rfl (Rl 0 h rfl (ty3.ldS rfl) (Rz h fun h => Cb (Ck h fun _ _ h => Rg 2 rfl (Rz h fun h => ?_)))))))
 cases q5 : ((q.kind : Int) == 5)
 have p5 := ne_of_beqF q5
 refine Cf rfl (Ck h fun _ _ h => Rg 2 rfl (Rz h fun h => ?_))
 cases q6 : ((q.kind : Int) == 6)
 have p6 := ne_of_beqF q6
 refine Cf rfl (Ck h fun _ _ h => Rg 2 rfl (Rz h fun h => ?_))
 cases q7 : ((q.kind : Int) == 7)
 have p7 := ne_of_beqF q7
 refine Cf rfl ?_
 refine Cw.seq (Cw.mono (Q := fun oX gX sX => match m5_1 l q with | .on v1_48 => oX = none ∧ gX 0 = dL Tbl.enc l ∧ gX 3 = D.ptr b1 0 ∧ gX 27 = dI q.kind ∧ gX 48 = dB v1_48 ∧ Ko 0 sX [(b1, (dC Qry.enc q))] [] | .out r => Ou S Tryz.f5 (fun d _ => plain d = true ∧ strip d = dI r) oX gX sX) ?_ ?_)
 unfold m5_1
 refine Ck h fun _ _ h => Rg 2 rfl (Rz h fun h => ?_)
 cases q8 : ((q.kind : Int) == 10)
 have p8 := ne_of_beqF q8
 refine Cf rfl (Ck h fun _ _ h => Rg 2 rfl (Rz h fun h => ?_))
 cases q9 : ((q.kind : Int) == 11)
 have p9 := ne_of_beqF q9
 exact Cf rfl (Cw.regionK h fun _ _ h => Rg 2 rfl (Rz h fun h => an6 rfl rfl rfl rfl rfl h))
 have p9 := eq_of_beq q9
 exact Ct rfl (Ci (an6 rfl rfl rfl rfl rfl h))
 have p8 := eq_of_beq q8
 exact Ct rfl (Ci (an6 rfl rfl rfl rfl rfl h))
 intro oY gY sY hh
 generalize hzF1 : m5_1 l q = zZ at hh ⊢
 rcases zZ with v1_48 | rZ
 dsimp only
 obtain ⟨rfl, e0, e3, e27, e48, h⟩ := hh
 rw [pin e0, pin e3, pin e27, pin e48]
 cases q10 : v1_48
 refine Cf rfl ?_
 refine Cw.seq (Cw.mono (Q := fun oX gX sX => match m5_2 l q false with | .on v2_56 => oX = none ∧ gX 0 = dL Tbl.enc l ∧ gX 3 = D.ptr b1 0 ∧ gX 56 = dB v2_56 ∧ Ko 0 sX [(b1, (dC Qry.enc q))] [] | .out r => Ou S Tryz.f5 (fun d _ => plain d = true ∧ strip d = dI r) oX gX sX) ?_ ?_)
 unfold m5_2
 refine Ck h fun _ _ h => Rg 2 rfl (Rz h fun h => ?_)
 cases q11 : ((q.kind : Int) == 8)
 have p11 := ne_of_beqF q11
 exact Cf rfl (Cw.regionK h fun _ _ h => Rg 2 rfl (Rz h fun h => an5 rfl rfl rfl rfl h))
 have p11 := eq_of_beq q11
 exact Ct rfl (Ci (an5 rfl rfl rfl rfl h))
 intro oY gY sY hh
 generalize hzF2 : m5_2 l q false = zZ at hh ⊢
 rcases zZ with v2_56 | rZ
 dsimp only
 obtain ⟨rfl, e0, e3, e56, h⟩ := hh
 rw [pin e0, pin e3, pin e56]
 cases q12 : v2_56
 refine Cf rfl (Ci (Cs (Ck h fun _ _ h => Rf fi41_1 rfl (Rl 0 h rfl (ty3.ldS rfl) (Rg 2 rfl ?_)))))
 cases q13 : decide ((q.table : Int) < 0)
 have p13 := of_decide_eq_false q13
 refine Rf fi41_1 rfl (Rl 0 h rfl (ty3.ldS rfl) (Rg 1 rfl (Re Tryz.underlying22 rfl (Rg 2 rfl (Rz h fun h => ?_)))))
 cases q14 : decide ((q.table : Int) ≥ ((l.length : Nat) : Int))
 have p14 := of_decide_eq_false q14
 refine Cf rfl (Ci (Ck h fun _ _ h => Rg 1 rfl (Rf fi41_1 rfl (Rl 0 h rfl (ty3.ldS rfl) (Rs rfl (fun _ => op_ixI rfl rfl rfl Tryz.underlying22 ty39.hn (by omega) (at_map (by omega)) rfl) (Rs rfl (fun _ => op_ldC (d := dR Tbl.enc (l.getD q.table.toNat default)) rfl (at_map (by omega)) (ty39.lcA rfl rfl)) (Rw.al (z := zc39) h (Nat.le_add_right _ 5) rfl rfl rfl (z39 (S := S)) rfl fun b2 _ h => Rw.st (k := 0) (cs' := (dC Tbl.enc (l.getD q.table.toNat default))) h (Nat.le_add_right _ 0) rfl rfl rfl rfl rfl ty39.hn rfl rfl rfl fun _ h => Rw.nilK h (Nat.add_le_add_left (by decide : 7 ≤ 7) _) fun h => Cs (Ck h fun _ _ h => Rf fi41_0 rfl (Rl 1 h rfl (ty3.ldS rfl) (Rz h fun h => Cb (Ck h fun _ _ h => Rg 2 rfl (Rz h fun h => ?_))))))))))))
 cases q15 : ((q.kind : Int) == 1)
 have p15 := ne_of_beqF q15
 refine Cf rfl (Ck h fun _ _ h => Rg 2 rfl (Rz h fun h => ?_))
 cases q16 : ((q.kind : Int) == 2)
 have p16 := ne_of_beqF q16
 refine Cf rfl (Ck h fun _ _ h => Rg 2 rfl (Rz h fun h => ?_))
 cases q17 : ((q.kind : Int) == 3)
 have p17 := ne_of_beqF q17
 exact Cf rfl (Ci (Ck h fun _ _ h => Rw.ld (k := 0) (d := dR Tbl.enc (l.getD q.table.toNat default)) h rfl rfl rfl rfl rfl (ty39.ldA rfl rfl) rfl (Rw.ld (k := 1) (d := dR Qry.enc q) h rfl rfl rfl rfl rfl (ty41.ldA rfl rfl) rfl (Rs rfl (fun _ => op_call (d := dI (m19 (l.getD q.table.toNat default) q)) rfl rfl c19 rfl (He i19 ((l.getD q.table.toNat default), q) ⟨(okL_get h_l Tbl.zok q.table.toNat), h_q⟩ rfl)) (Rg 1 rfl (Rz h fun h => Cr ⟨.inr rfl, _, rfl, rfl, rfl⟩))))))
 have p17 := eq_of_beq q17
 exact Ct rfl (Ck h fun _ _ h => Rw.ld (k := 0) (d := dR Tbl.enc (l.getD q.table.toNat default)) h rfl rfl rfl rfl rfl (ty39.ldA rfl rfl) rfl (Rf fi41_6 rfl (Rw.ld (k := 1) (d := dR Exr.row q.wher) h rfl rfl rfl rfl rfl (ty32.ldA rfl rfl) rfl (Rs rfl (fun _ => op_call (d := dI (m18 (l.getD q.table.toNat default) q.wher)) rfl rfl c18 rfl (He i18 ((l.getD q.table.toNat default), q.wher) ⟨(okL_get h_l Tbl.zok q.table.toNat), (Qry.ok_wher h_q)⟩ rfl)) (Rg 1 rfl (Rz h fun h => Cr ⟨.inr rfl, _, rfl, rfl, rfl⟩))))))
 have p16 := eq_of_beq q16
 refine Ct rfl (Cs (Ck h fun _ _ h => Rw.ld (k := 0) (d := dR Tbl.enc (l.getD q.table.toNat default)) h rfl rfl rfl rfl rfl (ty39.ldA rfl rfl) rfl (Rf fi41_4 rfl (Rl 1 h rfl (ty25.ldS rfl) (Rs rfl (fun _ => op_call (d := dI (m17 (l.getD q.table.toNat default) q.sets)) rfl rfl c17 rfl (He i17 ((l.getD q.table.toNat default), q.sets) ⟨(okL_get h_l Tbl.zok q.table.toNat), (Qry.ok_sets h_q)⟩ rfl)) (Rg 1 rfl (Rz h fun h => Ck h fun _ _ h => Rg 2 rfl (Rz h fun h => ?_))))))))
 cases q18 : (((m17 (l.getD q.table.toNat default) q.sets) : Int) != 0)
 have p18 := eq_of_bneF q18
 exact Cf rfl (Ci (Ck h fun _ _ h => Rw.ld (k := 0) (d := dR Tbl.enc (l.getD q.table.toNat default)) h rfl rfl rfl rfl rfl (ty39.ldA rfl rfl) rfl (Rf fi41_6 rfl (Rw.ld (k := 1) (d := dR Exr.row q.wher) h rfl rfl rfl rfl rfl (ty32.ldA rfl rfl) rfl (Rs rfl (fun _ => op_call (d := dI (m18 (l.getD q.table.toNat default) q.wher)) rfl rfl c18 rfl (He i18 ((l.getD q.table.toNat default), q.wher) ⟨(okL_get h_l Tbl.zok q.table.toNat), (Qry.ok_wher h_q)⟩ rfl)) (Rg 1 rfl (Rz h fun h => Cr ⟨.inr rfl, _, rfl, rfl, rfl⟩)))))))
 have p18 := ne_of_bneT q18
 exact Ct rfl (Ck h fun _ _ h => Rg 2 rfl (Rz h fun h => Cr ⟨.inr rfl, _, rfl, rfl, rfl⟩))
 have p15 := eq_of_beq q15
 exact Ct rfl (Ck h fun _ _ h => Rw.ld (k := 0) (d := dR Tbl.enc (l.getD q.table.toNat default)) h rfl rfl rfl rfl rfl (ty39.ldA rfl rfl) rfl (Rw.ld (k := 1) (d := dR Qry.enc q) h rfl rfl rfl rfl rfl (ty41.ldA rfl rfl) rfl (Rs rfl (fun _ => op_call (d := dI (m16 (l.getD q.table.toNat default) q)) rfl rfl c16 rfl (He i16 ((l.getD q.table.toNat default), q) ⟨(okL_get h_l Tbl.zok q.table.toNat), h_q⟩ rfl)) (Rg 1 rfl (Rz h fun h => Cr ⟨.inr rfl, _, rfl, rfl, rfl⟩)))))
 have p14 := of_decide_eq_true q14
 exact Ct rfl (Ck h fun _ _ h => Rg 1 rfl (Rz h fun h => Cr ⟨.inr rfl, _, rfl, rfl, rfl⟩))
 have p13 := of_decide_eq_true q13
 exact Rg 6 rfl (Rz h fun h => Ct rfl (Ck h fun _ _ h => Rg 1 rfl (Rz h fun h => Cr ⟨.inr rfl, _, rfl, rfl, rfl⟩)))
 exact Ct rfl (Ck h fun _ _ h => Rg 1 rfl (Rz h fun h => Cr ⟨.inr rfl, _, rfl, rfl, rfl⟩))
 obtain ⟨rfl, w⟩ := hh
 exact ⟨.inr rfl, w⟩
 refine Ct rfl (Cs (Ck h fun _ _ h => Rf fi41_12 rfl (Rl 0 h rfl (ty9.ldS rfl) (Rs rfl (fun _ => op_call (d := dB (m15 q.name)) rfl rfl c15 rfl (He i15 q.name (Qry.ok_name h_q) rfl)) (Rg 1 rfl (Rz h fun h => ?_))))))
 cases q19 : (!(m15 q.name))
 exact Cf rfl (Ci (Ck h fun _ _ h => Rg 1 rfl (Rz h fun h => Cr ⟨.inr rfl, _, rfl, rfl, rfl⟩)))
 exact Ct rfl (Ck h fun _ _ h => Rg 1 rfl (Rz h fun h => Cr ⟨.inr rfl, _, rfl, rfl, rfl⟩))
 obtain ⟨rfl, w⟩ := hh
 exact ⟨.inr rfl, w⟩
 have p7 := eq_of_beq q7
 refine Ct rfl (Cs (Ck h fun _ _ h => Rf fi41_11 rfl (Rl 0 h rfl (ty34.ldS rfl) (Rg 1 rfl (Rz h fun h => ?_)))))
 cases q20 : decide ((q.stamp : Int) > 4611686018427387904)
 have p20 := of_decide_eq_false q20
 exact Cf rfl (Ci (Ck h fun _ _ h => Rg 1 rfl (Rz h fun h => Cr ⟨.inr rfl, _, rfl, rfl, rfl⟩)))
 have p20 := of_decide_eq_true q20
 exact Ct rfl (Ck h fun _ _ h => Rg 1 rfl (Rz h fun h => Cr ⟨.inr rfl, _, rfl, rfl, rfl⟩))
 have p6 := eq_of_beq q6
 refine Ct rfl (Cs (Ck h fun _ _ h => Rf fi41_10 rfl (Rl 0 h rfl (ty3.ldS rfl) (Rg 2 rfl ?_))))
 cases q21 : decide ((q.level : Int) < 1)
 have p21 := of_decide_eq_false q21
 refine Rf fi41_10 rfl (Rl 0 h rfl (ty3.ldS rfl) (Rg 2 rfl (Rz h fun h => ?_)))
 cases q22 : decide ((q.level : Int) > 3)
 have p22 := of_decide_eq_false q22
 exact Cf rfl (Ci (Ck h fun _ _ h => Rg 1 rfl (Rz h fun h => Cr ⟨.inr rfl, _, rfl, rfl, rfl⟩)))
 have p22 := of_decide_eq_true q22
 exact Ct rfl (Ck h fun _ _ h => Rg 1 rfl (Rz h fun h => Cr ⟨.inr rfl, _, rfl, rfl, rfl⟩))
 have p21 := of_decide_eq_true q21
 exact Rg 4 rfl (Rz h fun h => Ct rfl (Ck h fun _ _ h => Rg 1 rfl (Rz h fun h => Cr ⟨.inr rfl, _, rfl, rfl, rfl⟩)))
 have p5 := eq_of_beq q5
 exact Ct rfl (Ck h fun _ _ h => Rf fi41_13 rfl (Rw.ld (k := 0) (d := dR Tbl.enc q.create) h rfl rfl rfl rfl rfl (ty39.ldA rfl rfl) rfl (Rs rfl (fun _ => op_call (d := dI (m14 q.create)) rfl rfl c14 rfl (He i14 q.create (Qry.ok_create h_q) rfl)) (Rg 1 rfl (Rz h fun h => Cr ⟨.inr rfl, _, rfl, rfl, rfl⟩)))))
 exact Ct rfl (Ck h fun _ _ h => Rg 1 rfl (Rz h fun h => Cr ⟨.inr rfl, _, rfl, rfl, rfl⟩))
 have p3 := of_decide_eq_true q3
 exact Rg 4 rfl (Rz h fun h => Ct rfl (Ck h fun _ _ h => Rg 1 rfl (Rz h fun h => Cr ⟨.inr rfl, _, rfl, rfl, rfl⟩)))
 have p2 := of_decide_eq_true q2
 exact Rg 9 rfl (Rz h fun h => Ct rfl (Ck h fun _ _ h => Rg 1 rfl (Rz h fun h => Cr ⟨.inr rfl, _, rfl, rfl, rfl⟩)))
 have p1 := ne_of_bneT q1
 exact Ct rfl (Ck h fun _ _ h => Rg 2 rfl (Rz h fun h => Cr ⟨.inr rfl, _, rfl, rfl, rfl⟩))
noncomputable def H5 : List D → R D := mkH (L2 (dL Tbl.enc) (dR Qry.enc)) (fun x => (okL Tbl.ok) x.1 ∧ Qry.ok x.2) (fun x => dI (m5 x.1 x.2))
theorem i5 : InjE (L2 (dL Tbl.enc) (dR Qry.enc)) := j2 (jL Tbl.inj) (jR Qry.inj)
theorem m95_l2_out {t : Tbl} {l : List Int} {i1 : Nat} : ∀ (rem i : Nat) (r : Bool), m95_l2 t l i1 rem i = .out r → r = false
  | 0, i, r, h => by rw [m95_l2] at h; cases h
  | rem + 1, i, r, h => by
    rw [m95_l2] at h
    cases q1 : ((l.getD i default : Int) == l.getD i1 default) with
    | true => simp only [q1, cond_true, Lo.out.injEq] at h; exact h.symm
    | false => simp only [q1, cond_false] at h; exact m95_l2_out rem (i + 1) r h
theorem m95_l1_law {t : Tbl} {l : List Int} : ∀ (rem i : Nat), match m95_l1 t l rem i with
      | .on _ => ∀ j, i ≤ j → j < i + rem → 0 ≤ l.getD j default ∧ l.getD j default < (t.columns.length : Int)
      | .out r => r = false
  | 0, i => by rw [m95_l1]; exact fun j h1 h2 => by omega
  | rem + 1, i => by
    rw [m95_l1]
    cases q1 : decide ((l.getD i default : Int) < 0) with
    | true => exact rfl
    | false =>
      cases q2 : decide ((l.getD i default : Int) ≥ ((t.columns.length : Nat) : Int)) with
      | true => exact rfl
      | false =>
        have p1 := of_decide_eq_false q1
        have p2 := of_decide_eq_false q2
        simp only [cond_false]
        cases q3 : m95_l2 t l i i 0 with
        | out r => exact m95_l2_out _ _ _ q3
        | on v =>
          have ih := m95_l1_law (t := t) (l := l) rem (i + 1)
          simp only
          generalize m95_l1 t l rem (i + 1) = z at ih ⊢
          cases z with
          | out r => exact ih
          | on v =>
            intro j h1 h2
            by_cases hj : j = i
            · subst hj; exact ⟨by omega, by omega⟩
            · exact ih j (by omega) (by omega)
theorem m95_key {t : Tbl} {l : List Int} (h : m95 t l = true) : ∀ x ∈ l, 0 ≤ x ∧ x.toNat < t.columns.length := by
  intro x hx
  unfold m95 at h
  have hl := m95_l1_law (t := t) (l := l) l.length 0
  generalize m95_l1 t l l.length 0 = z at h hl
  cases z with
  | out r => simp only at h hl; rw [hl] at h; cases h
  | on v =>
    obtain ⟨j, hj, rfl⟩ := mem_at hx
    obtain ⟨h1, h2⟩ := hl j (by omega) (by omega)
    exact ⟨h1, by omega⟩
noncomputable def cm57_l1 : Code := (cl (cr (cl (cr (cr (bodyOf Tryz.f57))))))
def m57_l1 (t : Tbl) (q : Qry) : Nat → Nat → Lo Unit Int
 | 0, _ => .on ()
 | rem1 + 1, i1 => (bif decide (((q.sets.getD i1 default).column : Int) < 0) then .out 5 else (bif decide (((q.sets.getD i1 default).column : Int) ≥ ((t.columns.length : Nat) : Int)) then .out 5 else m57_l1 t q rem1 (i1 + 1) ))
noncomputable def cm57_l2 : Code := (cl (cr (cl (cr (cr (cr (bodyOf Tryz.f57)))))))
noncomputable def cm57_l3 : Code := (cl (cr (cl (cl (cr (cl (cl (cr (cl (cr (cr (cr (bodyOf Tryz.f57)))))))))))))
def m57_l3 (t : Tbl) (q : Qry) (i2 : Nat) : Nat → Nat → Lo Unit Int
 | 0, _ => .on ()
 | rem3 + 1, i3 => (bif (((q.sets.getD i3 default).column : Int) == (q.sets.getD i2 default).column) then .out 1 else m57_l3 t q i2 rem3 (i3 + 1) )
def m57_l2 (t : Tbl) (q : Qry) : Nat → Nat → Lo Unit Int
 | 0, _ => .on ()
 | rem2 + 1, i2 => (match m57_l3 t q i2 i2 0  with | .out r => .out r | .on _ => m57_l2 t q rem2 (i2 + 1) )
noncomputable def cm57_l4 : Code := (cl (cr (cl (cr (cr (cr (cr (bodyOf Tryz.f57))))))))
def m57_l4 (t : Tbl) (q : Qry) : Nat → Nat → Lo Unit Int
 | 0, _ => .on ()
 | rem4 + 1, i4 => (bif (((m97 t ((q.sets.getD i4 default).expr) ((q.sets.getD i4 default).column)) : Int) != 0) then .out (m97 t ((q.sets.getD i4 default).expr) ((q.sets.getD i4 default).column)) else m57_l4 t q rem4 (i4 + 1) )
def m57 (t : Tbl) (q : Qry) : Int := (bif decide ((((q.sets.length : Nat) : Int) : Int) < 1) then 1 else (match m57_l1 t q q.sets.length 0  with | .out r => r | .on _ => (match m57_l2 t q q.sets.length 0  with | .out r => r | .on _ => (match m57_l4 t q q.sets.length 0  with | .out r => r | .on _ => 0))))
theorem m57_l1_on {t : Tbl} {q : Qry} : ∀ (rem i : Nat), m57_l1 t q rem i = .on () → ∀ j, i ≤ j → j < i + rem → 0 ≤ (q.sets.getD j default).column ∧ (q.sets.getD j default).column < (t.columns.length : Int)
 | 0, i, _, j, h1, h2 => by omega
 | rem + 1, i, h, j, h1, h2 => by
  rw [m57_l1] at h
  cases q1 : decide (((q.sets.getD i default).column : Int) < 0) with
  | true => simp only [q1, cond_true, reduceCtorEq] at h
  | false =>
   cases q2 : decide (((q.sets.getD i default).column : Int) ≥ ((t.columns.length : Nat) : Int)) with
   | true => simp only [q1, q2, cond_true, cond_false, reduceCtorEq] at h
   | false =>
    have p1 := of_decide_eq_false q1
    have p2 := of_decide_eq_false q2
    simp only [q1, q2, cond_false] at h
    by_cases hj : j = i
    · subst hj; exact ⟨by omega, by omega⟩
    · exact m57_l1_on rem (i + 1) h j (by omega) (by omega)
theorem m57_rng {t : Tbl} {q : Qry} {v : Unit} (h : m57_l1 t q q.sets.length 0 = .on v) {j : Nat} (hj : j < q.sets.length) : 0 ≤ (q.sets.getD j default).column ∧ (q.sets.getD j default).column.toNat < t.columns.length := by
 obtain ⟨h1, h2⟩ := m57_l1_on _ _ h j (by omega) (by omega)
 exact ⟨h1, by omega⟩
theorem m57_ev  (c97 : S 97 = some H97) (t : Tbl) (q : Qry)  (h_t : Tbl.ok t) (h_q : Qry.ok q) : ∃ d σ', Ev (EE S) 57 [dR Tbl.enc t, dR Qry.enc q] St.empty d σ' ∧ plain d = true ∧ strip d = dI (m57 t q) := by
 unfold m57
 have h : Ko 0 St.empty [] [] := Ko.empty
 refine Ev.wp (E := EE S) (fn := Tryz.f57) (nt := 89) Tryz.func57 rfl rfl (Ck h fun _ _ h => Rw.bx (d := dR Tbl.enc t) h (Nat.le_add_right _ 0) rfl rfl rfl rfl rfl rfl fun b1 _ h => Rw.bx (d := dR Qry.enc q) h (Nat.le_add_right _ 0) rfl rfl rfl rfl rfl rfl fun b2 _ h => Rg 1 rfl (Rw.nilK h (Nat.add_le_add_left (by decide : 2 ≤ 3) _) fun h => Cs (Ck h fun _ _ h => Rf fi41_4 rfl (Rl 0 h rfl (ty25.ldS rfl) (Re Tryz.underlying25 rfl (Rg 1 rfl (Rz h fun h => ?_)))))))
 cases q1 : decide ((((q.sets.length : Nat) : Int) : Int) < 1)
 refine Cf rfl (Ci (Cs (Ck h fun _ _ h => Rg 1 rfl (Rz h fun h => Cb ?_))))
 have hl1 : ∀ (rem1 i1 : Nat) (fr : Nat → D) (σ : St), i1 + rem1 = q.sets.length → fr 2 = D.ptr b1 0 → fr 3 = D.ptr b2 0 → fr 5 = dN i1 → Ko 0 σ [(b2, (dC Qry.enc q)), (b1, (dC Tbl.enc t))] [] → Cw (EE S) cm57_l1 89 fr σ (fun oX gX sX => match m57_l1 t q rem1 i1  with | .on _ => oX = some (some 0) ∧ gX 2 = D.ptr b1 0 ∧ gX 3 = D.ptr b2 0 ∧ Ko 0 sX [(b2, (dC Qry.enc q)), (b1, (dC Tbl.enc t))] [] | .out r => Ou S Tryz.f57 (fun d _ => plain d = true ∧ strip d = dI r) oX gX sX) := by
  intro rem1
  induction rem1
  intro i1   fr σ hi  e2 e3 e5 h
  have hlt1 : decide ((((i1 : Nat) : Int) : Int) < ((q.sets.length : Nat) : Int)) = false := decF (by omega)
  rw [pin e2, pin e3, pin e5]
  rw [m57_l1]
  exact Co (Cs (Ck h fun _ _ h => Rg 1 rfl (Rf fi41_4 rfl (Rl 0 h rfl (ty25.ldS rfl) (Re Tryz.underlying25 rfl (Rs rfl (fun _ => op_lss_int rfl rfl hlt1) (Rz h fun h => Cf rfl (Cw.exit (an4 rfl rfl rfl h)))))))))
  rename_i rem1 ih
  intro i1   fr σ hi  e2 e3 e5 h
  have hlt1 : decide ((((i1 : Nat) : Int) : Int) < ((q.sets.length : Nat) : Int)) = true := decT (by omega)
  have hil1 : i1 < q.sets.length := by omega
  have hbq1 := okL_len (Qry.ok_sets h_q)
  rw [pin e2, pin e3, pin e5]
  rw [m57_l1]
  refine Co (Cs (Ck h fun _ _ h => Rg 1 rfl (Rf fi41_4 rfl (Rl 0 h rfl (ty25.ldS rfl) (Re Tryz.underlying25 rfl (Rs rfl (fun _ => op_lss_int rfl rfl hlt1) (Rz h fun h => Ct rfl (Ci (Cs (Cb ?_))))))))))
  refine Cw.seq (Cw.regionD h fun _ _ h => ?_)
  refine Rf fi41_4 rfl (Rl 0 h rfl (ty25.ldS rfl) (Rg 1 rfl (Rs rfl (fun _ => op_ix (n := i1) rfl rfl rfl Tryz.underlying25 ty51.hn (at_map hil1) rfl) (Rs rfl (fun _ => op_fr fi51_0 rfl rfl) (Rc (at_map hil1) ty3 rfl (Rg 2 rfl ?_))))))
  cases q2 : decide (((q.sets.getD i1 default).column : Int) < 0)
  refine Rf fi41_4 rfl (Rl 0 h rfl (ty25.ldS rfl) (Rg 1 rfl (Rs rfl (fun _ => op_ix (n := i1) rfl rfl rfl Tryz.underlying25 ty51.hn (at_map hil1) rfl) (Rs rfl (fun _ => op_fr fi51_0 rfl rfl) (Rc (at_map hil1) ty3 rfl (Rf fi39_1 rfl (Rl 1 h rfl (ty35.ldS rfl) (Re Tryz.underlying35 rfl (Rg 2 rfl (Rz h fun h => ?_))))))))))
  refine ⟨by kernel_rfl, ?_⟩
  cases q3 : decide (((q.sets.getD i1 default).column : Int) ≥ ((t.columns.length : Nat) : Int))
  exact Cf rfl (Ci (Cw.regionK h fun _ _ h => Rg 1 rfl (Rs rfl (fun _ => op_add_int (v := ((i1 + 1 : Nat) : Int)) rfl rfl (wrap_one (by omega))) (Rg 1 rfl (Rz h fun h => ih (i1 + 1)   _ _ (by omega)  rfl rfl rfl h)))))
  exact Ct rfl (Ck h fun _ _ h => Rg 1 rfl (Rz h fun h => Cr (And.intro rfl (Exists.intro _ (an3 rfl rfl rfl)))))
  refine Rg 11 rfl (Rz h fun h => ?_)
  refine ⟨by kernel_rfl, ?_⟩
  exact Ct rfl (Ck h fun _ _ h => Rg 1 rfl (Rz h fun h => Cr (And.intro rfl (Exists.intro _ (an3 rfl rfl rfl)))))
 refine Cw.mono (hl1 q.sets.length 0   _ _ (by omega)  rfl rfl rfl h) ?_
 intro oY gY sY hh
 generalize hzL1 : m57_l1 t q q.sets.length 0  = zZ at hh ⊢
 rcases zZ with vZ | rZ
 dsimp only
 obtain ⟨rfl, e2, e3, h⟩ := hh
 rw [pin e2, pin e3]
 have hbd1 := okL_len (Qry.ok_sets h_q)
 refine Cs (Ck h fun _ _ h => Rg 1 rfl (Rz h fun h => Cb ?_))
 have hl2 : ∀ (rem2 i2 : Nat) (fr : Nat → D) (σ : St), i2 + rem2 = q.sets.length → fr 2 = D.ptr b1 0 → fr 3 = D.ptr b2 0 → fr 6 = dN i2 → Ko 0 σ [(b2, (dC Qry.enc q)), (b1, (dC Tbl.enc t))] [] → Cw (EE S) cm57_l2 89 fr σ (fun oX gX sX => match m57_l2 t q rem2 i2  with | .on _ => oX = some (some 2) ∧ gX 2 = D.ptr b1 0 ∧ gX 3 = D.ptr b2 0 ∧ Ko 0 sX [(b2, (dC Qry.enc q)), (b1, (dC Tbl.enc t))] [] | .out r => Ou S Tryz.f57 (fun d _ => plain d = true ∧ strip d = dI r) oX gX sX) := by
  intro rem2
  induction rem2
  intro i2   fr σ hi  e2 e3 e6 h
  have hlt2 : decide ((((i2 : Nat) : Int) : Int) < ((q.sets.length : Nat) : Int)) = false := decF (by omega)
  rw [pin e2, pin e3, pin e6]
  rw [m57_l2]
  exact Co (Cs (Ck h fun _ _ h => Rg 1 rfl (Rf fi41_4 rfl (Rl 0 h rfl (ty25.ldS rfl) (Re Tryz.underlying25 rfl (Rs rfl (fun _ => op_lss_int rfl rfl hlt2) (Rz h fun h => Cf rfl (Cw.exit (an4 rfl rfl rfl h)))))))))
  rename_i rem2 ih
  intro i2   fr σ hi  e2 e3 e6 h
  have hlt2 : decide ((((i2 : Nat) : Int) : Int) < ((q.sets.length : Nat) : Int)) = true := decT (by omega)
  have hil2 : i2 < q.sets.length := by omega
  have hbq2 := okL_len (Qry.ok_sets h_q)
  rw [pin e2, pin e3, pin e6]
  rw [m57_l2]
  refine Co (Cs (Ck h fun _ _ h => Rg 1 rfl (Rf fi41_4 rfl (Rl 0 h rfl (ty25.ldS rfl) (Re Tryz.underlying25 rfl (Rs rfl (fun _ => op_lss_int rfl rfl hlt2) (Rz h fun h => Ct rfl (Ci (Cs (Cb (Ck h fun _ _ h => Rg 1 rfl (Rz h fun h => Cb ?_))))))))))))
  have hl3 : ∀ (rem3 i3 : Nat) (fr : Nat → D) (σ : St), i3 + rem3 = i2 → fr 2 = D.ptr b1 0 → fr 3 = D.ptr b2 0 → fr 6 = dN i2 → fr 7 = dN i3 → Ko 0 σ [(b2, (dC Qry.enc q)), (b1, (dC Tbl.enc t))] [] → Cw (EE S) cm57_l3 89 fr σ (fun oX gX sX => match m57_l3 t q i2 rem3 i3  with | .on _ => oX = some (some 4) ∧ gX 2 = D.ptr b1 0 ∧ gX 3 = D.ptr b2 0 ∧ gX 6 = dN i2 ∧ Ko 0 sX [(b2, (dC Qry.enc q)), (b1, (dC Tbl.enc t))] [] | .out r => Ou S Tryz.f57 (fun d _ => plain d = true ∧ strip d = dI r) oX gX sX) := by
   intro rem3
   induction rem3
   intro i3   fr σ hi  e2 e3 e6 e7 h
   have hlt3 : decide ((((i3 : Nat) : Int) : Int) < ((i2 : Nat) : Int)) = false := decF (by omega)
   rw [pin e2, pin e3, pin e6, pin e7]
   rw [m57_l3]
   exact Co (Cs (Ck h fun _ _ h => Rg 2 rfl (Rs rfl (fun _ => op_lss_int rfl rfl hlt3) (Rz h fun h => Cf rfl (Cw.exit (an5 rfl rfl rfl rfl h))))))
   rename_i rem3 ih
   intro i3   fr σ hi  e2 e3 e6 e7 h
   have hlt3 : decide ((((i3 : Nat) : Int) : Int) < ((i2 : Nat) : Int)) = true := decT (by omega)
   have hil3 : i3 < i2 := by omega
   rw [pin e2, pin e3, pin e6, pin e7]
   rw [m57_l3]
   refine Co (Cs (Ck h fun _ _ h => Rg 2 rfl (Rs rfl (fun _ => op_lss_int rfl rfl hlt3) (Rz h fun h => Ct rfl (Ci (Cs (Cb ?_)))))))
   refine Cw.seq (Cw.regionD h fun _ _ h => ?_)
   refine Rf fi41_4 rfl (Rl 0 h rfl (ty25.ldS rfl) (Rg 1 rfl (Rs rfl (fun _ => op_ix (n := i3) rfl rfl rfl Tryz.underlying25 ty51.hn (at_map (by omega)) rfl) (Rs rfl (fun _ => op_fr fi51_0 rfl rfl) (Rc (at_map (by omega)) ty3 rfl (Rf fi41_4 rfl (Rl 0 h rfl (ty25.ldS rfl) (Rg 1 rfl (Rs rfl (fun _ => op_ix (n := i2) rfl rfl rfl Tryz.underlying25 ty51.hn (at_map hil2) rfl) (Rs rfl (fun _ => op_fr fi51_0 rfl rfl) (Rc (at_map hil2) ty3 rfl (Rg 1 rfl (Rz h fun h => ?_)))))))))))))
   refine ⟨by kernel_rfl, ?_⟩
   cases q4 : (((q.sets.getD i3 default).column : Int) == (q.sets.getD i2 default).column)
   exact Cf rfl (Ci (Cw.regionK h fun _ _ h => Rg 1 rfl (Rs rfl (fun _ => op_add_int (v := ((i3 + 1 : Nat) : Int)) rfl rfl (wrap_one (by omega))) (Rg 1 rfl (Rz h fun h => ih (i3 + 1)   _ _ (by omega)  rfl rfl rfl rfl h)))))
   exact Ct rfl (Ck h fun _ _ h => Rg 1 rfl (Rz h fun h => Cr (And.intro rfl (Exists.intro _ (an3 rfl rfl rfl)))))
  refine Cw.mono (hl3 i2 0   _ _ (by omega)  rfl rfl rfl rfl h) ?_
  intro oY gY sY hh
  generalize hzL3 : m57_l3 t q i2 i2 0  = zZ at hh ⊢
  rcases zZ with vZ | rZ
  dsimp only
  obtain ⟨rfl, e2, e3, e6, h⟩ := hh
  rw [pin e2, pin e3, pin e6]
  exact Cw.regionK h fun _ _ h => Rg 1 rfl (Rs rfl (fun _ => op_add_int (v := ((i2 + 1 : Nat) : Int)) rfl rfl (wrap_one (by omega))) (Rg 1 rfl (Rz h fun h => ih (i2 + 1)   _ _ (by omega)  rfl rfl rfl h)))
  obtain ⟨rfl, w⟩ := hh
  exact ⟨rfl, w⟩
 refine Cw.mono (hl2 q.sets.length 0   _ _ (by omega)  rfl rfl rfl h) ?_
 intro oY gY sY hh
 generalize hzL2 : m57_l2 t q q.sets.length 0  = zZ at hh ⊢
 rcases zZ with vZ | rZ
 dsimp only
 obtain ⟨rfl, e2, e3, h⟩ := hh
 rw [pin e2, pin e3]
 have hbd2 := okL_len (Qry.ok_sets h_q)
 refine Cs (Ck h fun _ _ h => Rg 1 rfl (Rz h fun h => Cb ?_))
 have hl4 : ∀ (rem4 i4 : Nat) (fr : Nat → D) (σ : St), i4 + rem4 = q.sets.length → fr 2 = D.ptr b1 0 → fr 3 = D.ptr b2 0 → fr 8 = dN i4 → Ko 0 σ [(b2, (dC Qry.enc q)), (b1, (dC Tbl.enc t))] [] → Cw (EE S) cm57_l4 89 fr σ (fun oX gX sX => match m57_l4 t q rem4 i4  with | .on _ => oX = some (some 6) ∧ Ko 0 sX [(b2, (dC Qry.enc q)), (b1, (dC Tbl.enc t))] [] | .out r => Ou S Tryz.f57 (fun d _ => plain d = true ∧ strip d = dI r) oX gX sX) := by
  intro rem4
  induction rem4
  intro i4   fr σ hi  e2 e3 e8 h
  have hlt4 : decide ((((i4 : Nat) : Int) : Int) < ((q.sets.length : Nat) : Int)) = false := decF (by omega)
  rw [pin e2, pin e3, pin e8]
  rw [m57_l4]
  exact Co (Cs (Ck h fun _ _ h => Rg 1 rfl (Rf fi41_4 rfl (Rl 0 h rfl (ty25.ldS rfl) (Re Tryz.underlying25 rfl (Rs rfl (fun _ => op_lss_int rfl rfl hlt4) (Rz h fun h => Cf rfl (Cw.exit (an2 rfl h)))))))))
  rename_i rem4 ih
  intro i4   fr σ hi  e2 e3 e8 h
  have hlt4 : decide ((((i4 : Nat) : Int) : Int) < ((q.sets.length : Nat) : Int)) = true := decT (by omega)
  have hil4 : i4 < q.sets.length := by omega
  have hbq4 := okL_len (Qry.ok_sets h_q)
  rw [pin e2, pin e3, pin e8]
  rw [m57_l4]
  refine Co (Cs (Ck h fun _ _ h => Rg 1 rfl (Rf fi41_4 rfl (Rl 0 h rfl (ty25.ldS rfl) (Re Tryz.underlying25 rfl (Rs rfl (fun _ => op_lss_int rfl rfl hlt4) (Rz h fun h => Ct rfl (Ci (Cs (Cb ?_))))))))))
  refine Cw.seq (Cw.regionD h fun _ _ h => ?_)
  refine Rw.ld (k := 1) (d := dR Tbl.enc t) h rfl rfl rfl rfl rfl (ty39.ldA rfl rfl) rfl (Rf fi41_4 rfl (Rl 0 h rfl (ty25.ldS rfl) (Rg 1 rfl (Rs rfl (fun _ => op_ix (n := i4) rfl rfl rfl Tryz.underlying25 ty51.hn (at_map hil4) rfl) (Rs rfl (fun _ => op_fr fi51_1 rfl rfl) (Rs rfl (fun _ => op_ldC (d := dR Exr.row ((q.sets.getD i4 default).expr)) rfl (at_map hil4) (ty32.lcA rfl rfl)) (Rf fi41_4 rfl (Rl 0 h rfl (ty25.ldS rfl) (Rg 1 rfl (Rs rfl (fun _ => op_ix (n := i4) rfl rfl rfl Tryz.underlying25 ty51.hn (at_map hil4) rfl) (Rs rfl (fun _ => op_fr fi51_0 rfl rfl) (Rc (at_map hil4) ty3 rfl (Rs rfl (fun _ => op_call (d := dI (m97 t ((q.sets.getD i4 default).expr) ((q.sets.getD i4 default).column))) rfl rfl c97 rfl (He i97 (t, ((q.sets.getD i4 default).expr), ((q.sets.getD i4 default).column)) ⟨h_t, (Sst.ok_expr (okL_get (Qry.ok_sets h_q) Sst.zok i4)), (m57_rng hzL1 hil4)⟩ rfl)) (Rg 1 rfl (Rz h fun h => ?_)))))))))))))))
  refine ⟨by kernel_rfl, ?_⟩
  refine Ck h fun _ _ h => Rg 2 rfl (Rz h fun h => ?_)
  cases q5 : (((m97 t ((q.sets.getD i4 default).expr) ((q.sets.getD i4 default).column)) : Int) != 0)
  exact Cf rfl (Ci (Cw.regionK h fun _ _ h => Rg 1 rfl (Rs rfl (fun _ => op_add_int (v := ((i4 + 1 : Nat) : Int)) rfl rfl (wrap_one (by omega))) (Rg 1 rfl (Rz h fun h => ih (i4 + 1)   _ _ (by omega)  rfl rfl rfl h)))))
  exact Ct rfl (Ck h fun _ _ h => Rg 2 rfl (Rz h fun h => Cr (And.intro rfl (Exists.intro _ (an3 rfl rfl rfl)))))
 refine Cw.mono (hl4 q.sets.length 0   _ _ (by omega)  rfl rfl rfl h) ?_
 intro oY gY sY hh
 generalize hzL4 : m57_l4 t q q.sets.length 0  = zZ at hh ⊢
 rcases zZ with vZ | rZ
 dsimp only
 obtain ⟨rfl, h⟩ := hh
 have hbd4 := okL_len (Qry.ok_sets h_q)
 exact Ck h fun _ _ h => Rg 1 rfl (Rz h fun h => Cr ⟨.inr rfl, _, rfl, rfl, rfl⟩)
 obtain ⟨rfl, w⟩ := hh
 exact ⟨.inr rfl, w⟩
 obtain ⟨rfl, w⟩ := hh
 exact ⟨.inr rfl, w⟩
 obtain ⟨rfl, w⟩ := hh
 exact ⟨.inr rfl, w⟩
 exact Ct rfl (Ck h fun _ _ h => Rg 1 rfl (Rz h fun h => Cr ⟨.inr rfl, _, rfl, rfl, rfl⟩))
noncomputable def H57 : List D → R D := mkH (L2 (dR Tbl.enc) (dR Qry.enc)) (fun x => Tbl.ok x.1 ∧ Qry.ok x.2) (fun x => dI (m57 x.1 x.2))
theorem i57 : InjE (L2 (dR Tbl.enc) (dR Qry.enc)) := j2 (jR Tbl.inj) (jR Qry.inj)
noncomputable def cm56_l1 : Code := (cl (cr (cr (cl (cr (cl (cr (cr (cr (cr (bodyOf Tryz.f56)))))))))))
def m56_l1 (t : Tbl) (q : Qry) : Nat → Nat → (List Int) → Lo (List Int) Int
 | 0, _, yl1_a1 => .on yl1_a1
 | rem1 + 1, i1, yl1_a1 => m56_l1 t q rem1 (i1 + 1) (yl1_a1 ++ ([((i1 : Nat) : Int)]))
def m56_1 (t : Tbl) (q : Qry) : Lo (List Int) Int := (bif ((((q.columns.length : Nat) : Int) : Int) == 0) then (match m56_l1 t q t.columns.length 0 ([]) with | .out r => .out r | .on yl1_a1 => .on yl1_a1) else .on q.columns)
noncomputable def cm56_l2 : Code := (cl (cr (cl (cr (cr (cr (cr (cr (bodyOf Tryz.f56)))))))))
def m56_l2 (t : Tbl) (q : Qry) (v1_5 : (List Int)) : Nat → Nat → Lo Unit Int
 | 0, _ => .on ()
 | rem2 + 1, i2 => (bif (((((q.rows.getD i2 default).length : Nat) : Int) : Int) != ((v1_5.length : Nat) : Int)) then .out 1 else m56_l2 t q v1_5 rem2 (i2 + 1) )
noncomputable def cm56_l3 : Code := (cl (cr (cl (cr (cr (cr (cr (cr (cr (bodyOf Tryz.f56))))))))))
noncomputable def cm56_l4 : Code := (cl (cr (cl (cl (cr (cl (cl (cr (cl (cr (cr (cr (cr (cr (cr (bodyOf Tryz.f56))))))))))))))))
def m56_l4 (t : Tbl) (q : Qry) (v1_5 : (List Int)) (i3 : Nat) : Nat → Nat → Lo Unit Int
 | 0, _ => .on ()
 | rem4 + 1, i4 => (bif (m24 ((q.rows.getD i3 default).getD i4 default)) then .out 150 else (bif decide (((((m96 ((q.rows.getD i3 default).getD i4 default)).length : Nat) : Int) : Int) > 0) then .out 1 else (bif (((m97 t ((q.rows.getD i3 default).getD i4 default) (v1_5.getD i4 default)) : Int) != 0) then .out (m97 t ((q.rows.getD i3 default).getD i4 default) (v1_5.getD i4 default)) else m56_l4 t q v1_5 i3 rem4 (i4 + 1) )))
def m56_l3 (t : Tbl) (q : Qry) (v1_5 : (List Int)) : Nat → Nat → Lo Unit Int
 | 0, _ => .on ()
 | rem3 + 1, i3 => (match m56_l4 t q v1_5 i3 v1_5.length 0  with | .out r => .out r | .on _ => m56_l3 t q v1_5 rem3 (i3 + 1) )
def m56 (t : Tbl) (q : Qry) : Int := (bif (!(m95 t q.columns)) then 5 else (bif decide ((((q.rows.length : Nat) : Int) : Int) < 1) then 1 else (bif decide ((((q.rows.length : Nat) : Int) : Int) > 65536) then 1 else (match m56_1 t q with | .out r => r | .on v1_5 => (match m56_l2 t q v1_5 q.rows.length 0  with | .out r => r | .on _ => (match m56_l3 t q v1_5 q.rows.length 0  with | .out r => r | .on _ => 0))))))
theorem m56_l1_on {t : Tbl} {q : Qry} : ∀ (rem i : Nat) (y : List Int), i + rem = t.columns.length → (∀ x ∈ y, 0 ≤ x ∧ x.toNat < t.columns.length) → ∃ z, m56_l1 t q rem i y = .on z ∧ (∀ x ∈ z, 0 ≤ x ∧ x.toNat < t.columns.length)
 | 0, i, y, _, hy => ⟨y, by rw [m56_l1], hy⟩
 | rem + 1, i, y, hi, hy => by
  rw [m56_l1]
  exact m56_l1_on (t := t) (q := q) rem (i + 1) (y ++ [((i : Nat) : Int)]) (by omega) (by
   intro x hx
   rcases List.mem_append.1 hx with h | h
   · exact hy x h
   · rw [List.mem_singleton.1 h]; exact ⟨by omega, by omega⟩)
theorem m56_into {t : Tbl} {q : Qry} {v : List Int} (h : m56_1 t q = .on v) (hk : m95 t q.columns = true) : ∀ x ∈ v, 0 ≤ x ∧ x.toNat < t.columns.length := by
 unfold m56_1 at h
 cases q1 : ((((q.columns.length : Nat) : Int) : Int) == 0) with
 | true =>
  obtain ⟨z, h1, h2⟩ := m56_l1_on (t := t) (q := q) t.columns.length 0 [] (by omega) (by simp)
  rw [q1, h1] at h
  simp only [cond_true, Lo.on.injEq] at h
  rw [← h]; exact h2
 | false =>
  rw [q1] at h
  simp only [cond_false, Lo.on.injEq] at h
  rw [← h]; exact m95_key hk
theorem m56_l2_on {t : Tbl} {q : Qry} {v : List Int} : ∀ (rem i : Nat), m56_l2 t q v rem i = .on () → ∀ j, i ≤ j → j < i + rem → (q.rows.getD j default).length = v.length
 | 0, i, _, j, h1, h2 => by omega
 | rem + 1, i, h, j, h1, h2 => by
  rw [m56_l2] at h
  cases q1 : (((((q.rows.getD i default).length : Nat) : Int) : Int) != ((v.length : Nat) : Int)) with
  | true => simp only [q1, cond_true, reduceCtorEq] at h
  | false =>
   have p1 := eq_of_bneF q1
   simp only [q1, cond_false] at h
   by_cases hj : j = i
   · subst hj; omega
   · exact m56_l2_on rem (i + 1) h j (by omega) (by omega)
theorem m56_row {t : Tbl} {q : Qry} {v : List Int} {u : Unit} (h : m56_l2 t q v q.rows.length 0 = .on u) {j k : Nat} (hj : j < q.rows.length) (hk : k < v.length) : k < (q.rows.getD j default).length := by
 rw [m56_l2_on _ _ h j (by omega) (by omega)]; exact hk
theorem m56_ev  (c24 : S 24 = some H24) (c95 : S 95 = some H95) (c96 : S 96 = some H96) (c97 : S 97 = some H97) (t : Tbl) (q : Qry)  (h_t : Tbl.ok t) (h_q : Qry.ok q) : ∃ d σ', Ev (EE S) 56 [dR Tbl.enc t, dR Qry.enc q] St.empty d σ' ∧ plain d = true ∧ strip d = dI (m56 t q) := by
 unfold m56
 have h : Ko 0 St.empty [] [] := Ko.empty
 refine Ev.wp (E := EE S) (fn := Tryz.f56) (nt := 97) Tryz.func56 rfl rfl (Ck h fun _ _ h => Rw.bx (d := dR Tbl.enc t) h (Nat.le_add_right _ 0) rfl rfl rfl rfl rfl rfl fun b1 _ h => Rw.bx (d := dR Qry.enc q) h (Nat.le_add_right _ 0) rfl rfl rfl rfl rfl rfl fun b2 _ h => Rg 1 rfl (Rw.nilK h (Nat.add_le_add_left (by decide : 2 ≤ 3) _) fun h => Cs (Ck h fun _ _ h => Rw.ld (k := 1) (d := dR Tbl.enc t) h rfl rfl rfl rfl rfl (ty39.ldA rfl rfl) rfl (Rf fi41_2 rfl (Rl 0 h rfl (ty23.ldS rfl) (Rs rfl (fun _ => op_call (d := dB (m95 t q.columns)) rfl rfl c95 rfl (He i95 (t, q.columns) ⟨h_t, (Qry.ok_columns h_q)⟩ rfl)) (Rg 1 rfl (Rz h fun h => ?_))))))))
 cases q1 : (!(m95 t q.columns))
 refine Cf rfl (Ci (Cs (Ck h fun _ _ h => Rf fi41_3 rfl (Rl 0 h rfl (ty24.ldS rfl) (Re Tryz.underlying24 rfl (Rg 2 rfl ?_))))))
 cases q2 : decide ((((q.rows.length : Nat) : Int) : Int) < 1)
 refine Rf fi41_3 rfl (Rl 0 h rfl (ty24.ldS rfl) (Re Tryz.underlying24 rfl (Rg 2 rfl (Rz h fun h => ?_))))
 cases q3 : decide ((((q.rows.length : Nat) : Int) : Int) > 65536)
 refine Cf rfl (Ci (Ck h fun _ _ h => Rf fi41_2 rfl (Rl 0 h rfl (ty23.ldS rfl) (Rg 1 rfl (Rz h fun h => ?_)))))
 refine Cw.seq (Cw.mono (Q := fun oX gX sX => match m56_1 t q with | .on v1_5 => ∃ dm1_5, oX = none ∧ (okL okI) v1_5 ∧ rowsOf dm1_5 = some (v1_5.map encI) ∧ gX 2 = D.ptr b1 0 ∧ gX 3 = D.ptr b2 0 ∧ gX 5 = dm1_5 ∧ Ko 0 sX [(b2, (dC Qry.enc q)), (b1, (dC Tbl.enc t))] [] | .out r => Ou S Tryz.f56 (fun d _ => plain d = true ∧ strip d = dI r) oX gX sX) ?_ ?_)
 unfold m56_1
 refine Ck h fun _ _ h => Rg 1 rfl (Re Tryz.underlying23 rfl (Rg 1 rfl (Rz h fun h => ?_)))
 cases q4 : ((((q.columns.length : Nat) : Int) : Int) == 0)
 exact Cf rfl (Ci (Exists.intro (dL encI q.columns) (an7 rfl (Qry.ok_columns h_q) rfl rfl rfl rfl h)))
 refine Ct rfl (Ck h fun _ _ h => Rs rfl (fun _ => op_bs (xs := ([] : List Int).map encI) Tryz.underlying23 ty3.hn (z3 (S := S)) rfl rfl rfl rfl rfl) (Rg 1 rfl ?_))
 replace h := h.newAc (([] : (List Int)).map encI) 1
 refine Rz h fun h => Ck h fun _ _ h => Rg 1 rfl (Rz h fun h => Cb ?_)
 have hl1 : ∀ (rem1 i1 : Nat) (yl1_a1 : (List Int)) (el1_a1 : D) (fr : Nat → D) (σ : St), i1 + rem1 = t.columns.length → yl1_a1.length ≤ i1 → fr 2 = D.ptr b1 0 → fr 3 = D.ptr b2 0 → fr 5 = el1_a1 → fr 6 = dN i1 → Ko 0 σ [(b2, (dC Qry.enc q)), (b1, (dC Tbl.enc t))] [(el1_a1, (yl1_a1).map encI, 1)] → Cw (EE S) cm56_l1 97 fr σ (fun oX gX sX => match m56_l1 t q rem1 i1 yl1_a1 with | .on yl1_a1 => ∃ el1_a1, oX = some (some 0) ∧ yl1_a1.length ≤ t.columns.length ∧ gX 2 = D.ptr b1 0 ∧ gX 3 = D.ptr b2 0 ∧ gX 5 = el1_a1 ∧ Ko 0 sX [(b2, (dC Qry.enc q)), (b1, (dC Tbl.enc t))] [(el1_a1, (yl1_a1).map encI, 1)] | .out r => Ou S Tryz.f56 (fun d _ => plain d = true ∧ strip d = dI r) oX gX sX) := by
  intro rem1
  induction rem1
  intro i1 yl1_a1 el1_a1 fr σ hi nyl1_a1 e2 e3 e5 e6 h
  have hlt1 : decide ((((i1 : Nat) : Int) : Int) < ((t.columns.length : Nat) : Int)) = false := decF (by omega)
  rw [pin e2, pin e3, pin e5, pin e6]
  rw [m56_l1]
  exact Co (Cs (Ck h fun _ _ h => Rg 1 rfl (Rf fi39_1 rfl (Rl 1 h rfl (ty35.ldS rfl) (Re Tryz.underlying35 rfl (Rs rfl (fun _ => op_lss_int rfl rfl hlt1) (Rz h fun h => Cf rfl (Cw.exit (Exists.intro el1_a1 (an6 rfl (by omega) rfl rfl rfl h))))))))))
  rename_i rem1 ih
  intro i1 yl1_a1 el1_a1 fr σ hi nyl1_a1 e2 e3 e5 e6 h
  have hlt1 : decide ((((i1 : Nat) : Int) : Int) < ((t.columns.length : Nat) : Int)) = true := decT (by omega)
  have hil1 : i1 < t.columns.length := by omega
  have hbq1 := okL_len (Tbl.ok_columns h_t)
  rw [pin e2, pin e3, pin e5, pin e6]
  rw [m56_l1]
  refine Co (Cs (Ck h fun _ _ h => Rg 1 rfl (Rf fi39_1 rfl (Rl 1 h rfl (ty35.ldS rfl) (Re Tryz.underlying35 rfl (Rs rfl (fun _ => op_lss_int rfl rfl hlt1) (Rz h fun h => Ct rfl (Ci (Cs (Cb (Cw.regionK h fun _ _ h => Rs rfl (fun _ => op_move rfl) (Rg 1 rfl (Rs rfl (fun _ => op_bs (xs := ([((i1 : Nat) : Int)] : List Int).map encI) Tryz.underlying23 ty3.hn (z3 (S := S)) rfl rfl rfl rfl rfl) (Rw.ap (j := 0) (ys := ([((i1 : Nat) : Int)]).map encI) h (Nat.le_add_right _ 3) rfl rfl rfl rfl rfl rfl rfl rfl (room_mk Tryz.underlying23 (if3 (S := S)) (z3 (S := S)) rfl rfl rfl rfl (by simp only [List.length_map, List.length_cons, List.length_nil]; omega)) (heads_map _ (fun _ => rfl)) rfl fun d1 _ h => ?_))))))))))))))
  simp only [List.set_cons_zero, ← List.map_append] at h
  exact Rs rfl (fun _ => op_assign rfl) (Rw.nilK h (Nat.add_le_add_left (by decide : 4 ≤ 5) _) fun h => Cw.regionK h fun _ _ h => Rg 1 rfl (Rs rfl (fun _ => op_add_int (v := ((i1 + 1 : Nat) : Int)) rfl rfl (wrap_one (by omega))) (Rg 1 rfl (Rz h fun h => ih (i1 + 1) (yl1_a1 ++ ([((i1 : Nat) : Int)])) _ _ _ (by omega) (by simp only [List.length_append, List.length_cons, List.length_nil]; omega) rfl rfl rfl rfl h))))
 refine Cw.mono (hl1 t.columns.length 0 ([]) _ _ _ (by omega) (by simp) rfl rfl rfl rfl h) ?_
 intro oY gY sY hh
 generalize hzL1 : m56_l1 t q t.columns.length 0 ([]) = zZ at hh ⊢
 rcases zZ with yl1_a1 | rZ
 dsimp only
 obtain ⟨el1_a1, rfl, nyl1_a1, e2, e3, e5, h⟩ := hh
 rw [pin e2, pin e3, pin e5]
 have hbd1 := okL_len (Tbl.ok_columns h_t)
 exact Exists.intro el1_a1 (an7 rfl (okL_triv yl1_a1 (by omega)) ((h.ac _ (List.mem_of_getElem? (i := 0) rfl)).rows) rfl rfl rfl (h.dropAc (List.Sublist.cons _ (List.Sublist.refl _))))
 obtain ⟨rfl, w⟩ := hh
 exact ⟨rfl, w⟩
 intro oY gY sY hh
 generalize hzF1 : m56_1 t q = zZ at hh ⊢
 rcases zZ with v1_5 | rZ
 dsimp only
 obtain ⟨dm1_5, rfl, ov1_5, rm1_5, e2, e3, e5, h⟩ := hh
 rw [pin e2, pin e3, pin e5]
 refine Cs (Ck h fun _ _ h => Rg 1 rfl (Rz h fun h => Cb ?_))
 have hl2 : ∀ (rem2 i2 : Nat) (fr : Nat → D) (σ : St), i2 + rem2 = q.rows.length → fr 2 = D.ptr b1 0 → fr 3 = D.ptr b2 0 → fr 5 = dm1_5 → fr 7 = dN i2 → Ko 0 σ [(b2, (dC Qry.enc q)), (b1, (dC Tbl.enc t))] [] → Cw (EE S) cm56_l2 97 fr σ (fun oX gX sX => match m56_l2 t q v1_5 rem2 i2  with | .on _ => oX = some (some 2) ∧ gX 2 = D.ptr b1 0 ∧ gX 3 = D.ptr b2 0 ∧ gX 5 = dm1_5 ∧ Ko 0 sX [(b2, (dC Qry.enc q)), (b1, (dC Tbl.enc t))] [] | .out r => Ou S Tryz.f56 (fun d _ => plain d = true ∧ strip d = dI r) oX gX sX) := by
  intro rem2
  induction rem2
  intro i2   fr σ hi  e2 e3 e5 e7 h
  have hlt2 : decide ((((i2 : Nat) : Int) : Int) < ((q.rows.length : Nat) : Int)) = false := decF (by omega)
  rw [pin e2, pin e3, pin e5, pin e7]
  rw [m56_l2]
  exact Co (Cs (Ck h fun _ _ h => Rg 1 rfl (Rf fi41_3 rfl (Rl 0 h rfl (ty24.ldS rfl) (Re Tryz.underlying24 rfl (Rs rfl (fun _ => op_lss_int rfl rfl hlt2) (Rz h fun h => Cf rfl (Cw.exit (an5 rfl rfl rfl rfl h)))))))))
  rename_i rem2 ih
  intro i2   fr σ hi  e2 e3 e5 e7 h
  have hlt2 : decide ((((i2 : Nat) : Int) : Int) < ((q.rows.length : Nat) : Int)) = true := decT (by omega)
  have hil2 : i2 < q.rows.length := by omega
  have hbq2 := okL_len (Qry.ok_rows h_q)
  rw [pin e2, pin e3, pin e5, pin e7]
  rw [m56_l2]
  refine Co (Cs (Ck h fun _ _ h => Rg 1 rfl (Rf fi41_3 rfl (Rl 0 h rfl (ty24.ldS rfl) (Re Tryz.underlying24 rfl (Rs rfl (fun _ => op_lss_int rfl rfl hlt2) (Rz h fun h => Ct rfl (Ci (Cs (Cb (Ck h fun _ _ h => Rf fi41_3 rfl (Rl 0 h rfl (ty24.ldS rfl) (Rg 1 rfl (Rs rfl (fun _ => op_ix (n := i2) rfl rfl rfl Tryz.underlying24 ty30.hn (at_map hil2) rfl) (Rc (at_map hil2) ty30 rfl (Re Tryz.underlying30 rfl (Rs rfl (fun _ => op_move rfl) (Rs rfl (fun _ => op_lenN (n := v1_5.length) rfl Tryz.underlying23 rm1_5 (List.length_map ..)) (Rg 1 rfl (Rz h fun h => ?_))))))))))))))))))))
  cases q5 : (((((q.rows.getD i2 default).length : Nat) : Int) : Int) != ((v1_5.length : Nat) : Int))
  exact Cf rfl (Ci (Cw.regionK h fun _ _ h => Rg 1 rfl (Rs rfl (fun _ => op_add_int (v := ((i2 + 1 : Nat) : Int)) rfl rfl (wrap_one (by omega))) (Rg 1 rfl (Rz h fun h => ih (i2 + 1)   _ _ (by omega)  rfl rfl rfl rfl h)))))
  exact Ct rfl (Ck h fun _ _ h => Rg 1 rfl (Rz h fun h => Cr (And.intro rfl (Exists.intro _ (an3 rfl rfl rfl)))))
 refine Cw.mono (hl2 q.rows.length 0   _ _ (by omega)  rfl rfl rfl rfl h) ?_
 intro oY gY sY hh
 generalize hzL2 : m56_l2 t q v1_5 q.rows.length 0  = zZ at hh ⊢
 rcases zZ with vZ | rZ
 dsimp only
 obtain ⟨rfl, e2, e3, e5, h⟩ := hh
 rw [pin e2, pin e3, pin e5]
 have hbd2 := okL_len (Qry.ok_rows h_q)
 refine Cs (Ck h fun _ _ h => Rg 1 rfl (Rz h fun h => Cb ?_))
 have hl3 : ∀ (rem3 i3 : Nat) (fr : Nat → D) (σ : St), i3 + rem3 = q.rows.length → fr 2 = D.ptr b1 0 → fr 3 = D.ptr b2 0 → fr 5 = dm1_5 → fr 8 = dN i3 → Ko 0 σ [(b2, (dC Qry.enc q)), (b1, (dC Tbl.enc t))] [] → Cw (EE S) cm56_l3 97 fr σ (fun oX gX sX => match m56_l3 t q v1_5 rem3 i3  with | .on _ => oX = some (some 4) ∧ Ko 0 sX [(b2, (dC Qry.enc q)), (b1, (dC Tbl.enc t))] [] | .out r => Ou S Tryz.f56 (fun d _ => plain d = true ∧ strip d = dI r) oX gX sX) := by
  intro rem3
  induction rem3
  intro i3   fr σ hi  e2 e3 e5 e8 h
  have hlt3 : decide ((((i3 : Nat) : Int) : Int) < ((q.rows.length : Nat) : Int)) = false := decF (by omega)
  rw [pin e2, pin e3, pin e5, pin e8]
  rw [m56_l3]
  exact Co (Cs (Ck h fun _ _ h => Rg 1 rfl (Rf fi41_3 rfl (Rl 0 h rfl (ty24.ldS rfl) (Re Tryz.underlying24 rfl (Rs rfl (fun _ => op_lss_int rfl rfl hlt3) (Rz h fun h => Cf rfl (Cw.exit (an2 rfl h)))))))))
  rename_i rem3 ih
  intro i3   fr σ hi  e2 e3 e5 e8 h
  have hlt3 : decide ((((i3 : Nat) : Int) : Int) < ((q.rows.length : Nat) : Int)) = true := decT (by omega)
  have hil3 : i3 < q.rows.length := by omega
  have hbq3 := okL_len (Qry.ok_rows h_q)
  rw [pin e2, pin e3, pin e5, pin e8]
  rw [m56_l3]
  refine Co (Cs (Ck h fun _ _ h => Rg 1 rfl (Rf fi41_3 rfl (Rl 0 h rfl (ty24.ldS rfl) (Re Tryz.underlying24 rfl (Rs rfl (fun _ => op_lss_int rfl rfl hlt3) (Rz h fun h => Ct rfl (Ci (Cs (Cb (Ck h fun _ _ h => Rg 1 rfl (Rz h fun h => Cb ?_))))))))))))
  have hl4 : ∀ (rem4 i4 : Nat) (fr : Nat → D) (σ : St), i4 + rem4 = v1_5.length → fr 2 = D.ptr b1 0 → fr 3 = D.ptr b2 0 → fr 5 = dm1_5 → fr 8 = dN i3 → fr 9 = dN i4 → Ko 0 σ [(b2, (dC Qry.enc q)), (b1, (dC Tbl.enc t))] [] → Cw (EE S) cm56_l4 97 fr σ (fun oX gX sX => match m56_l4 t q v1_5 i3 rem4 i4  with | .on _ => oX = some (some 6) ∧ gX 2 = D.ptr b1 0 ∧ gX 3 = D.ptr b2 0 ∧ gX 5 = dm1_5 ∧ gX 8 = dN i3 ∧ Ko 0 sX [(b2, (dC Qry.enc q)), (b1, (dC Tbl.enc t))] [] | .out r => Ou S Tryz.f56 (fun d _ => plain d = true ∧ strip d = dI r) oX gX sX) := by
   intro rem4
   induction rem4
   intro i4   fr σ hi  e2 e3 e5 e8 e9 h
   have hlt4 : decide ((((i4 : Nat) : Int) : Int) < ((v1_5.length : Nat) : Int)) = false := decF (by omega)
   rw [pin e2, pin e3, pin e5, pin e8, pin e9]
   rw [m56_l4]
   exact Co (Cs (Ck h fun _ _ h => Rg 1 rfl (Rs rfl (fun _ => op_move rfl) (Rs rfl (fun _ => op_lenN (n := v1_5.length) rfl Tryz.underlying23 rm1_5 (List.length_map ..)) (Rs rfl (fun _ => op_lss_int rfl rfl hlt4) (Rz h fun h => Cf rfl (Cw.exit (an6 rfl rfl rfl rfl rfl h))))))))
   rename_i rem4 ih
   intro i4   fr σ hi  e2 e3 e5 e8 e9 h
   have hlt4 : decide ((((i4 : Nat) : Int) : Int) < ((v1_5.length : Nat) : Int)) = true := decT (by omega)
   have hil4 : i4 < v1_5.length := by omega
   have hbq4 := okL_len ov1_5
   rw [pin e2, pin e3, pin e5, pin e8, pin e9]
   rw [m56_l4]
   refine Co (Cs (Ck h fun _ _ h => Rg 1 rfl (Rs rfl (fun _ => op_move rfl) (Rs rfl (fun _ => op_lenN (n := v1_5.length) rfl Tryz.underlying23 rm1_5 (List.length_map ..)) (Rs rfl (fun _ => op_lss_int rfl rfl hlt4) (Rz h fun h => Ct rfl (Ci (Cs (Cb (Ck h fun _ _ h => Rf fi41_3 rfl (Rl 0 h rfl (ty24.ldS rfl) (Rg 1 rfl (Rs rfl (fun _ => op_ix (n := i3) rfl rfl rfl Tryz.underlying24 ty30.hn (at_map hil3) rfl) (Rc (at_map hil3) ty30 rfl (Rg 1 rfl (Rs rfl (fun _ => op_ix (n := i4) rfl rfl rfl Tryz.underlying30 ty32.hn (at_Exr (m56_row hzL2 hil3 hil4)) rfl) (Rs rfl (fun _ => op_ldC (d := dR Exr.row ((q.rows.getD i3 default).getD i4 default)) rfl (at_Exr (m56_row hzL2 hil3 hil4)) (ty32.lcA rfl rfl)) (Rw.al (z := zc32) h (Nat.le_add_right _ 8) rfl rfl rfl (z32 (S := S)) rfl fun b3 _ h => Rw.st (k := 0) (cs' := (dC Exr.row ((q.rows.getD i3 default).getD i4 default))) h (Nat.le_add_right _ 0) rfl rfl rfl rfl rfl ty32.hn rfl rfl rfl fun _ h => Rw.nilK h (Nat.add_le_add_left (by decide : 10 ≤ 10) _) fun h => Cs (Ck h fun _ _ h => Rw.ld (k := 0) (d := dR Exr.row ((q.rows.getD i3 default).getD i4 default)) h rfl rfl rfl rfl rfl (ty32.ldA rfl rfl) rfl (Rs rfl (fun _ => op_call (d := dB (m24 ((q.rows.getD i3 default).getD i4 default))) rfl rfl c24 rfl (He i24 ((q.rows.getD i3 default).getD i4 default) (okL_get (okL_get (Qry.ok_rows h_q) okL_nil i3) Exr.zok i4) rfl)) (Rz h fun h => ?_)))))))))))))))))))))
   cases q6 : (m24 ((q.rows.getD i3 default).getD i4 default))
   refine Cf rfl (Ci (Cs (Ck h fun _ _ h => Rw.ld (k := 0) (d := dR Exr.row ((q.rows.getD i3 default).getD i4 default)) h rfl rfl rfl rfl rfl (ty32.ldA rfl rfl) rfl (Rs rfl (fun _ => op_call (d := dL encI (m96 ((q.rows.getD i3 default).getD i4 default))) rfl rfl c96 rfl (He i96 ((q.rows.getD i3 default).getD i4 default) (okL_get (okL_get (Qry.ok_rows h_q) okL_nil i3) Exr.zok i4) rfl)) (Re Tryz.underlying23 rfl (Rg 1 rfl (Rz h fun h => ?_)))))))
   cases q7 : decide (((((m96 ((q.rows.getD i3 default).getD i4 default)).length : Nat) : Int) : Int) > 0)
   refine Cf rfl (Ci ?_)
   refine Cw.seq (Cw.regionD h fun _ _ h => ?_)
   refine Rw.ld (k := 2) (d := dR Tbl.enc t) h rfl rfl rfl rfl rfl (ty39.ldA rfl rfl) rfl (Rw.ld (k := 0) (d := dR Exr.row ((q.rows.getD i3 default).getD i4 default)) h rfl rfl rfl rfl rfl (ty32.ldA rfl rfl) rfl (Rs rfl (fun _ => op_move rfl) (Rg 1 rfl (Rs rfl (fun _ => op_ix (n := i4) rfl rfl rm1_5 Tryz.underlying23 ty3.hn (at_map hil4) rfl) (Rc (at_map hil4) ty3 rfl (Rs rfl (fun _ => op_call (d := dI (m97 t ((q.rows.getD i3 default).getD i4 default) (v1_5.getD i4 default))) rfl rfl c97 rfl (He i97 (t, ((q.rows.getD i3 default).getD i4 default), (v1_5.getD i4 default)) ⟨h_t, (okL_get (okL_get (Qry.ok_rows h_q) okL_nil i3) Exr.zok i4), (m56_into hzF1 (of_notF q1) _ (getD_mem hil4))⟩ rfl)) (Rg 1 rfl (Rz h fun h => ?_))))))))
   refine ⟨by kernel_rfl, ?_⟩
   refine Ck h fun _ _ h => Rg 2 rfl (Rz h fun h => ?_)
   cases q8 : (((m97 t ((q.rows.getD i3 default).getD i4 default) (v1_5.getD i4 default)) : Int) != 0)
   exact Cf rfl (Ci (Cw.regionK h fun _ _ h => Rg 1 rfl (Rs rfl (fun _ => op_add_int (v := ((i4 + 1 : Nat) : Int)) rfl rfl (wrap_one (by omega))) (Rg 1 rfl (Rz h fun h => ih (i4 + 1)   _ _ (by omega)  rfl rfl rfl rfl rfl (h.dropBox (List.Sublist.cons _ (List.Sublist.refl _))))))))
   exact Ct rfl (Ck h fun _ _ h => Rg 2 rfl (Rz h fun h => Cr (And.intro rfl (Exists.intro _ (an3 rfl rfl rfl)))))
   exact Ct rfl (Ck h fun _ _ h => Rg 1 rfl (Rz h fun h => Cr (And.intro rfl (Exists.intro _ (an3 rfl rfl rfl)))))
   exact Ct rfl (Ck h fun _ _ h => Rg 1 rfl (Rz h fun h => Cr (And.intro rfl (Exists.intro _ (an3 rfl rfl rfl)))))
  refine Cw.mono (hl4 v1_5.length 0   _ _ (by omega)  rfl rfl rfl rfl rfl h) ?_
  intro oY gY sY hh
  generalize hzL4 : m56_l4 t q v1_5 i3 v1_5.length 0  = zZ at hh ⊢
  rcases zZ with vZ | rZ
  dsimp only
  obtain ⟨rfl, e2, e3, e5, e8, h⟩ := hh
  rw [pin e2, pin e3, pin e5, pin e8]
  have hbd4 := okL_len ov1_5
  exact Cw.regionK h fun _ _ h => Rg 1 rfl (Rs rfl (fun _ => op_add_int (v := ((i3 + 1 : Nat) : Int)) rfl rfl (wrap_one (by omega))) (Rg 1 rfl (Rz h fun h => ih (i3 + 1)   _ _ (by omega)  rfl rfl rfl rfl h)))
  obtain ⟨rfl, w⟩ := hh
  exact ⟨rfl, w⟩
 refine Cw.mono (hl3 q.rows.length 0   _ _ (by omega)  rfl rfl rfl rfl h) ?_
 intro oY gY sY hh
 generalize hzL3 : m56_l3 t q v1_5 q.rows.length 0  = zZ at hh ⊢
 rcases zZ with vZ | rZ
 dsimp only
 obtain ⟨rfl, h⟩ := hh
 have hbd3 := okL_len (Qry.ok_rows h_q)
 exact Ck h fun _ _ h => Rg 1 rfl (Rz h fun h => Cr ⟨.inr rfl, _, rfl, rfl, rfl⟩)
 obtain ⟨rfl, w⟩ := hh
 exact ⟨.inr rfl, w⟩
 obtain ⟨rfl, w⟩ := hh
 exact ⟨.inr rfl, w⟩
 obtain ⟨rfl, w⟩ := hh
 exact ⟨.inr rfl, w⟩
 exact Ct rfl (Ck h fun _ _ h => Rg 1 rfl (Rz h fun h => Cr ⟨.inr rfl, _, rfl, rfl, rfl⟩))
 exact Rg 5 rfl (Rz h fun h => Ct rfl (Ck h fun _ _ h => Rg 1 rfl (Rz h fun h => Cr ⟨.inr rfl, _, rfl, rfl, rfl⟩)))
 exact Ct rfl (Ck h fun _ _ h => Rg 1 rfl (Rz h fun h => Cr ⟨.inr rfl, _, rfl, rfl, rfl⟩))
noncomputable def H56 : List D → R D := mkH (L2 (dR Tbl.enc) (dR Qry.enc)) (fun x => Tbl.ok x.1 ∧ Qry.ok x.2) (fun x => dI (m56 x.1 x.2))
theorem i56 : InjE (L2 (dR Tbl.enc) (dR Qry.enc)) := j2 (jR Tbl.inj) (jR Qry.inj)
def m21_1 (l : (List Tbl)) (q : Qry) : Lo Bool Int := (bif ((q.kind : Int) == 8) then .on ((q.kind : Int) == 8) else .on ((q.kind : Int) == 9))
def m21_2 (l : (List Tbl)) (q : Qry) (v1_42 : Bool) : Lo Bool Int := (bif ((q.kind : Int) == 10) then .on ((q.kind : Int) == 10) else (bif ((q.kind : Int) == 11) then .on ((q.kind : Int) == 11) else .on ((q.kind : Int) == 12)))
def m21_3 (l : (List Tbl)) (q : Qry) (v1_42 : Bool) (v2_45 : Bool) : Lo Int Int := (bif ((q.kind : Int) == 1) then .out (m56 (l.getD q.table.toNat default) q) else (bif ((q.kind : Int) == 2) then .on (m57 (l.getD q.table.toNat default) q) else .on 0))
def m21_4 (l : (List Tbl)) (q : Qry) (v1_42 : Bool) (v2_45 : Bool) (v3_6 : Int) : Lo Int Int := (bif ((v3_6 : Int) == 0) then .on (m58 (l.getD q.table.toNat default) q.wher) else .on v3_6)
def m21_6 (l : (List Tbl)) (q : Qry) (v1_42 : Bool) (v2_45 : Bool) (v3_6 : Int) (v4_6 : Int) : Lo Bool Int := (bif ((v4_6 : Int) == 0) then .on ((q.kind : Int) == 4) else .on false)
def m21_5 (l : (List Tbl)) (q : Qry) (v1_42 : Bool) (v2_45 : Bool) (v3_6 : Int) (v4_6 : Int) : Lo Int Int := (match m21_6 l q false false v3_6 v4_6 with | .out r => .out r | .on v6_92 => (bif v6_92 then .on (m59 (l.getD q.table.toNat default) q) else .on v4_6))
def m21 (l : (List Tbl)) (q : Qry) : Int := (bif decide ((q.kind : Int) < 1) then 1 else (bif decide ((q.kind : Int) > 12) then 1 else (bif (!(m54 q)) then 1 else (bif ((q.kind : Int) == 5) then (m53 q.create) else (bif ((q.kind : Int) == 6) then (bif decide ((q.level : Int) < 1) then 200 else (bif decide ((q.level : Int) > 3) then 200 else 0)) else (bif ((q.kind : Int) == 7) then (bif decide ((q.stamp : Int) > 4611686018427387904) then 1 else 0) else (match m21_1 l q with | .out r => r | .on v1_42 => (bif v1_42 then 0 else (match m21_2 l q false with | .out r => r | .on v2_45 => (bif v2_45 then (bif (!(m55 q.name)) then 30 else 0) else (bif decide ((q.table : Int) < 0) then 251 else (bif decide ((q.table : Int) ≥ ((l.length : Nat) : Int)) then 251 else (match m21_3 l q false false with | .out r => r | .on v3_6 => (match m21_4 l q false false v3_6 with | .out r => r | .on v4_6 => (match m21_5 l q false false v3_6 v4_6 with | .out r => r | .on v5_6 => v5_6)))))))))))))))
theorem m21_ev  (c53 : S 53 = some H53) (c54 : S 54 = some H54) (c55 : S 55 = some H55) (c56 : S 56 = some H56) (c57 : S 57 = some H57) (c58 : S 58 = some H58) (c59 : S 59 = some H59) (l : (List Tbl)) (q : Qry)  (h_l : (okL Tbl.ok) l) (h_q : Qry.ok q) : ∃ d σ', Ev (EE S) 21 [dL Tbl.enc l, dR Qry.enc q] St.empty d σ' ∧ plain d = true ∧ strip d = dI (m21 l q) := by
 unfold m21
 have h : Ko 0 St.empty [] [] := Ko.empty
 refine Ev.wp (E := EE S) (fn := Tryz.f21) (nt := 97) Tryz.func21 rfl rfl (Ck h fun _ _ h => Rw.bx (d := dR Qry.enc q) h (Nat.le_add_right _ 0) rfl rfl rfl rfl rfl rfl fun b1 _ h => Rg 1 rfl (Rw.nilK h (Nat.add_le_add_left (by decide : 1 ≤ 2) _) fun h => Cs (Ck h fun _ _ h => Rf fi41_0 rfl (Rl 0 h rfl (ty3.ldS rfl) (Rg 2 rfl ?_)))))
 cases q1 : decide ((q.kind : Int) < 1)
 have p1 := of_decide_eq_false q1
 refine Rf fi41_0 rfl (Rl 0 h rfl (ty3.ldS rfl) (Rg 3 rfl ?_))
 cases q2 : decide ((q.kind : Int) > 12)
 have p2 := of_decide_eq_false q2
 refine Rw.ld (k := 0) (d := dR Qry.enc q) h rfl rfl rfl rfl rfl (ty41.ldA rfl rfl) rfl (Rs rfl (fun _ => op_call (d := dB (m54 q)) rfl rfl c54 rfl (He i54 q h_q rfl)) (Rg 2 rfl (Rz h fun h => ?_)))
 cases q3 : (!(m54 q))
 refine Cf rfl (Ci (Cs (Ck h fun _ _ h => Rf fi41_0 rfl (Rl 0 h rfl (ty3.ldS rfl) (Rz h fun h => Cb (Ck h fun _ _ h => Rg 2 rfl (Rz h fun h => ?_)))))))
 cases q4 : ((q.kind : Int) == 5)
 have p4 := ne_of_beqF q4
 refine Cf rfl (Ck h fun _ _ h => Rg 2 rfl (Rz h fun h => ?_))
 cases q5 : ((q.kind : Int) == 6)
 have p5 := ne_of_beqF q5
 refine Cf rfl (Ck h fun _ _ h => Rg 2 rfl (Rz h fun h => ?_))
 cases q6 : ((q.kind : Int) == 7)
 have p6 := ne_of_beqF q6
 refine Cf rfl ?_
 refine Cw.seq (Cw.mono (Q := fun oX gX sX => match m21_1 l q with | .on v1_42 => oX = none ∧ gX 0 = dL Tbl.enc l ∧ gX 3 = D.ptr b1 0 ∧ gX 21 = dI q.kind ∧ gX 42 = dB v1_42 ∧ Ko 0 sX [(b1, (dC Qry.enc q))] [] | .out r => Ou S Tryz.f21 (fun d _ => plain d = true ∧ strip d = dI r) oX gX sX) ?_ ?_)
 unfold m21_1
 refine Ck h fun _ _ h => Rg 2 rfl (Rz h fun h => ?_)
 cases q7 : ((q.kind : Int) == 8)
 have p7 := ne_of_beqF q7
 exact Cf rfl (Cw.regionK h fun _ _ h => Rg 2 rfl (Rz h fun h => an6 rfl rfl rfl rfl rfl h))
 have p7 := eq_of_beq q7
 exact Ct rfl (Ci (an6 rfl rfl rfl rfl rfl h))
 intro oY gY sY hh
 generalize hzF1 : m21_1 l q = zZ at hh ⊢
 rcases zZ with v1_42 | rZ
 dsimp only
 obtain ⟨rfl, e0, e3, e21, e42, h⟩ := hh
 rw [pin e0, pin e3, pin e21, pin e42]
 cases q8 : v1_42
 refine Cf rfl ?_
 refine Cw.seq (Cw.mono (Q := fun oX gX sX => match m21_2 l q false with | .on v2_45 => oX = none ∧ gX 0 = dL Tbl.enc l ∧ gX 3 = D.ptr b1 0 ∧ gX 45 = dB v2_45 ∧ Ko 0 sX [(b1, (dC Qry.enc q))] [] | .out r => Ou S Tryz.f21 (fun d _ => plain d = true ∧ strip d = dI r) oX gX sX) ?_ ?_)
 unfold m21_2
 refine Ck h fun _ _ h => Rg 2 rfl (Rz h fun h => ?_)
 cases q9 : ((q.kind : Int) == 10)
 have p9 := ne_of_beqF q9
 refine Cf rfl (Ck h fun _ _ h => Rg 2 rfl (Rz h fun h => ?_))
 cases q10 : ((q.kind : Int) == 11)
 have p10 := ne_of_beqF q10
 exact Cf rfl (Cw.regionK h fun _ _ h => Rg 2 rfl (Rz h fun h => an5 rfl rfl rfl rfl h))
 have p10 := eq_of_beq q10
 exact Ct rfl (Ci (an5 rfl rfl rfl rfl h))
 have p9 := eq_of_beq q9
 exact Ct rfl (Ci (an5 rfl rfl rfl rfl h))
 intro oY gY sY hh
 generalize hzF2 : m21_2 l q false = zZ at hh ⊢
 rcases zZ with v2_45 | rZ
 dsimp only
 obtain ⟨rfl, e0, e3, e45, h⟩ := hh
 rw [pin e0, pin e3, pin e45]
 cases q11 : v2_45
 refine Cf rfl (Ci (Cs (Ck h fun _ _ h => Rf fi41_1 rfl (Rl 0 h rfl (ty3.ldS rfl) (Rg 2 rfl ?_)))))
 cases q12 : decide ((q.table : Int) < 0)
 have p12 := of_decide_eq_false q12
 refine Rf fi41_1 rfl (Rl 0 h rfl (ty3.ldS rfl) (Rg 1 rfl (Re Tryz.underlying22 rfl (Rg 2 rfl (Rz h fun h => ?_)))))
 cases q13 : decide ((q.table : Int) ≥ ((l.length : Nat) : Int))
 have p13 := of_decide_eq_false q13
 refine Cf rfl (Ci (Ck h fun _ _ h => Rg 1 rfl (Rf fi41_1 rfl (Rl 0 h rfl (ty3.ldS rfl) (Rs rfl (fun _ => op_ixI rfl rfl rfl Tryz.underlying22 ty39.hn (by omega) (at_map (by omega)) rfl) (Rs rfl (fun _ => op_ldC (d := dR Tbl.enc (l.getD q.table.toNat default)) rfl (at_map (by omega)) (ty39.lcA rfl rfl)) (Rw.al (z := zc39) h (Nat.le_add_right _ 5) rfl rfl rfl (z39 (S := S)) rfl fun b2 _ h => Rw.st (k := 0) (cs' := (dC Tbl.enc (l.getD q.table.toNat default))) h (Nat.le_add_right _ 0) rfl rfl rfl rfl rfl ty39.hn rfl rfl rfl fun _ h => Rw.nilK h (Nat.add_le_add_left (by decide : 7 ≤ 7) _) fun h => Ck h fun _ _ h => Rg 1 rfl (Rz h fun h => ?_))))))))
 refine Cw.seq (Cw.mono (Q := fun oX gX sX => match m21_3 l q false false with | .on v3_6 => oX = none ∧ gX 3 = D.ptr b1 0 ∧ gX 5 = D.ptr b2 0 ∧ gX 6 = dI v3_6 ∧ Ko 0 sX [(b2, (dC Tbl.enc (l.getD q.table.toNat default))), (b1, (dC Qry.enc q))] [] | .out r => Ou S Tryz.f21 (fun d _ => plain d = true ∧ strip d = dI r) oX gX sX) ?_ ?_)
 unfold m21_3
 refine Ck h fun _ _ h => Rf fi41_0 rfl (Rl 1 h rfl (ty3.ldS rfl) (Rz h fun h => Cb (Ck h fun _ _ h => Rg 2 rfl (Rz h fun h => ?_))))
 cases q14 : ((q.kind : Int) == 1)
 have p14 := ne_of_beqF q14
 refine Cf rfl (Ck h fun _ _ h => Rg 2 rfl (Rz h fun h => ?_))
 cases q15 : ((q.kind : Int) == 2)
 have p15 := ne_of_beqF q15
 exact Cf rfl (Ci (an5 rfl rfl rfl rfl h))
 have p15 := eq_of_beq q15
 exact Ct rfl (Cw.regionK h fun _ _ h => Rw.ld (k := 0) (d := dR Tbl.enc (l.getD q.table.toNat default)) h rfl rfl rfl rfl rfl (ty39.ldA rfl rfl) rfl (Rw.ld (k := 1) (d := dR Qry.enc q) h rfl rfl rfl rfl rfl (ty41.ldA rfl rfl) rfl (Rs rfl (fun _ => op_call (d := dI (m57 (l.getD q.table.toNat default) q)) rfl rfl c57 rfl (He i57 ((l.getD q.table.toNat default), q) ⟨(okL_get h_l Tbl.zok q.table.toNat), h_q⟩ rfl)) (Rg 1 rfl (Rz h fun h => an5 rfl rfl rfl rfl h)))))
 have p14 := eq_of_beq q14
 exact Ct rfl (Ck h fun _ _ h => Rw.ld (k := 0) (d := dR Tbl.enc (l.getD q.table.toNat default)) h rfl rfl rfl rfl rfl (ty39.ldA rfl rfl) rfl (Rw.ld (k := 1) (d := dR Qry.enc q) h rfl rfl rfl rfl rfl (ty41.ldA rfl rfl) rfl (Rs rfl (fun _ => op_call (d := dI (m56 (l.getD q.table.toNat default) q)) rfl rfl c56 rfl (He i56 ((l.getD q.table.toNat default), q) ⟨(okL_get h_l Tbl.zok q.table.toNat), h_q⟩ rfl)) (Rg 1 rfl (Rz h fun h => Cr (And.intro rfl (Exists.intro _ (an3 rfl rfl rfl))))))))
 intro oY gY sY hh
 generalize hzF3 : m21_3 l q false false = zZ at hh ⊢
 rcases zZ with v3_6 | rZ
 dsimp only
 obtain ⟨rfl, e3, e5, e6, h⟩ := hh
 rw [pin e3, pin e5, pin e6]
 refine Cw.seq (Cw.mono (Q := fun oX gX sX => match m21_4 l q false false v3_6 with | .on v4_6 => oX = none ∧ gX 3 = D.ptr b1 0 ∧ gX 5 = D.ptr b2 0 ∧ gX 6 = dI v4_6 ∧ Ko 0 sX [(b2, (dC Tbl.enc (l.getD q.table.toNat default))), (b1, (dC Qry.enc q))] [] | .out r => Ou S Tryz.f21 (fun d _ => plain d = true ∧ strip d = dI r) oX gX sX) ?_ ?_)
 unfold m21_4
 refine Ck h fun _ _ h => Rg 2 rfl (Rz h fun h => ?_)
 cases q16 : ((v3_6 : Int) == 0)
 have p16 := ne_of_beqF q16
 exact Cf rfl (Ci (an5 rfl rfl rfl rfl h))
 have p16 := eq_of_beq q16
 exact Ct rfl (Cw.regionK h fun _ _ h => Rw.ld (k := 0) (d := dR Tbl.enc (l.getD q.table.toNat default)) h rfl rfl rfl rfl rfl (ty39.ldA rfl rfl) rfl (Rf fi41_6 rfl (Rw.ld (k := 1) (d := dR Exr.row q.wher) h rfl rfl rfl rfl rfl (ty32.ldA rfl rfl) rfl (Rs rfl (fun _ => op_call (d := dI (m58 (l.getD q.table.toNat default) q.wher)) rfl rfl c58 rfl (He i58 ((l.getD q.table.toNat default), q.wher) ⟨(okL_get h_l Tbl.zok q.table.toNat), (Qry.ok_wher h_q)⟩ rfl)) (Rg 1 rfl (Rz h fun h => an5 rfl rfl rfl rfl h))))))
 intro oY gY sY hh
 generalize hzF4 : m21_4 l q false false v3_6 = zZ at hh ⊢
 rcases zZ with v4_6 | rZ
 dsimp only
 obtain ⟨rfl, e3, e5, e6, h⟩ := hh
 rw [pin e3, pin e5, pin e6]
 refine Cw.seq (Cw.mono (Q := fun oX gX sX => match m21_5 l q false false v3_6 v4_6 with | .on v5_6 => oX = none ∧ gX 6 = dI v5_6 ∧ Ko 0 sX [(b2, (dC Tbl.enc (l.getD q.table.toNat default))), (b1, (dC Qry.enc q))] [] | .out r => Ou S Tryz.f21 (fun d _ => plain d = true ∧ strip d = dI r) oX gX sX) ?_ ?_)
 unfold m21_5
 refine Cw.seq (Cw.mono (Q := fun oX gX sX => match m21_6 l q false false v3_6 v4_6 with | .on v6_92 => oX = none ∧ gX 3 = D.ptr b1 0 ∧ gX 5 = D.ptr b2 0 ∧ gX 6 = dI v4_6 ∧ gX 92 = dB v6_92 ∧ Ko 0 sX [(b2, (dC Tbl.enc (l.getD q.table.toNat default))), (b1, (dC Qry.enc q))] [] | .out r => Ou S Tryz.f21 (fun d _ => plain d = true ∧ strip d = dI r) oX gX sX) ?_ ?_)
 unfold m21_6
 refine Cw.regionK h fun _ _ h => Rg 3 rfl ?_
 cases q17 : ((v4_6 : Int) == 0)
 have p17 := ne_of_beqF q17
 exact Rg 4 rfl (Rz h fun h => an6 rfl rfl rfl rfl rfl h)
 have p17 := eq_of_beq q17
 exact Rf fi41_0 rfl (Rl 1 h rfl (ty3.ldS rfl) (Rg 2 rfl (Rz h fun h => an6 rfl rfl rfl rfl rfl h)))
 intro oY gY sY hh
 generalize hzF6 : m21_6 l q false false v3_6 v4_6 = zZ at hh ⊢
 rcases zZ with v6_92 | rZ
 dsimp only
 obtain ⟨rfl, e3, e5, e6, e92, h⟩ := hh
 rw [pin e3, pin e5, pin e6, pin e92]
 cases q18 : v6_92
 exact Cf rfl (Ci (an3 rfl rfl h))
 exact Ct rfl (Cw.regionK h fun _ _ h => Rw.ld (k := 0) (d := dR Tbl.enc (l.getD q.table.toNat default)) h rfl rfl rfl rfl rfl (ty39.ldA rfl rfl) rfl (Rw.ld (k := 1) (d := dR Qry.enc q) h rfl rfl rfl rfl rfl (ty41.ldA rfl rfl) rfl (Rs rfl (fun _ => op_call (d := dI (m59 (l.getD q.table.toNat default) q)) rfl rfl c59 rfl (He i59 ((l.getD q.table.toNat default), q) ⟨(okL_get h_l Tbl.zok q.table.toNat), h_q⟩ rfl)) (Rg 1 rfl (Rz h fun h => an3 rfl rfl h)))))
 obtain ⟨rfl, w⟩ := hh
 exact ⟨rfl, w⟩
 intro oY gY sY hh
 generalize hzF5 : m21_5 l q false false v3_6 v4_6 = zZ at hh ⊢
 rcases zZ with v5_6 | rZ
 dsimp only
 obtain ⟨rfl, e6, h⟩ := hh
 rw [pin e6]
 exact Ck h fun _ _ h => Rg 2 rfl (Rz h fun h => Cr ⟨.inr rfl, _, rfl, rfl, rfl⟩)
 obtain ⟨rfl, w⟩ := hh
 exact ⟨.inr rfl, w⟩
 obtain ⟨rfl, w⟩ := hh
 exact ⟨.inr rfl, w⟩
 obtain ⟨rfl, w⟩ := hh
 exact ⟨.inr rfl, w⟩
 have p13 := of_decide_eq_true q13
 exact Ct rfl (Ck h fun _ _ h => Rg 1 rfl (Rz h fun h => Cr ⟨.inr rfl, _, rfl, rfl, rfl⟩))
 have p12 := of_decide_eq_true q12
 exact Rg 6 rfl (Rz h fun h => Ct rfl (Ck h fun _ _ h => Rg 1 rfl (Rz h fun h => Cr ⟨.inr rfl, _, rfl, rfl, rfl⟩)))
 refine Ct rfl (Cs (Ck h fun _ _ h => Rf fi41_12 rfl (Rl 0 h rfl (ty9.ldS rfl) (Rs rfl (fun _ => op_call (d := dB (m55 q.name)) rfl rfl c55 rfl (He i55 q.name (Qry.ok_name h_q) rfl)) (Rg 1 rfl (Rz h fun h => ?_))))))
 cases q19 : (!(m55 q.name))
 exact Cf rfl (Ci (Ck h fun _ _ h => Rg 1 rfl (Rz h fun h => Cr ⟨.inr rfl, _, rfl, rfl, rfl⟩)))
 exact Ct rfl (Ck h fun _ _ h => Rg 1 rfl (Rz h fun h => Cr ⟨.inr rfl, _, rfl, rfl, rfl⟩))
 obtain ⟨rfl, w⟩ := hh
 exact ⟨.inr rfl, w⟩
 exact Ct rfl (Ck h fun _ _ h => Rg 1 rfl (Rz h fun h => Cr ⟨.inr rfl, _, rfl, rfl, rfl⟩))
 obtain ⟨rfl, w⟩ := hh
 exact ⟨.inr rfl, w⟩
 have p6 := eq_of_beq q6
 refine Ct rfl (Cs (Ck h fun _ _ h => Rf fi41_11 rfl (Rl 0 h rfl (ty34.ldS rfl) (Rg 1 rfl (Rz h fun h => ?_)))))
 cases q20 : decide ((q.stamp : Int) > 4611686018427387904)
 have p20 := of_decide_eq_false q20
 exact Cf rfl (Ci (Ck h fun _ _ h => Rg 1 rfl (Rz h fun h => Cr ⟨.inr rfl, _, rfl, rfl, rfl⟩)))
 have p20 := of_decide_eq_true q20
 exact Ct rfl (Ck h fun _ _ h => Rg 1 rfl (Rz h fun h => Cr ⟨.inr rfl, _, rfl, rfl, rfl⟩))
 have p5 := eq_of_beq q5
 refine Ct rfl (Cs (Ck h fun _ _ h => Rf fi41_10 rfl (Rl 0 h rfl (ty3.ldS rfl) (Rg 2 rfl ?_))))
 cases q21 : decide ((q.level : Int) < 1)
 have p21 := of_decide_eq_false q21
 refine Rf fi41_10 rfl (Rl 0 h rfl (ty3.ldS rfl) (Rg 2 rfl (Rz h fun h => ?_)))
 cases q22 : decide ((q.level : Int) > 3)
 have p22 := of_decide_eq_false q22
 exact Cf rfl (Ci (Ck h fun _ _ h => Rg 1 rfl (Rz h fun h => Cr ⟨.inr rfl, _, rfl, rfl, rfl⟩)))
 have p22 := of_decide_eq_true q22
 exact Ct rfl (Ck h fun _ _ h => Rg 1 rfl (Rz h fun h => Cr ⟨.inr rfl, _, rfl, rfl, rfl⟩))
 have p21 := of_decide_eq_true q21
 exact Rg 4 rfl (Rz h fun h => Ct rfl (Ck h fun _ _ h => Rg 1 rfl (Rz h fun h => Cr ⟨.inr rfl, _, rfl, rfl, rfl⟩)))
 have p4 := eq_of_beq q4
 exact Ct rfl (Ck h fun _ _ h => Rf fi41_13 rfl (Rw.ld (k := 0) (d := dR Tbl.enc q.create) h rfl rfl rfl rfl rfl (ty39.ldA rfl rfl) rfl (Rs rfl (fun _ => op_call (d := dI (m53 q.create)) rfl rfl c53 rfl (He i53 q.create (Qry.ok_create h_q) rfl)) (Rg 1 rfl (Rz h fun h => Cr ⟨.inr rfl, _, rfl, rfl, rfl⟩)))))
 exact Ct rfl (Ck h fun _ _ h => Rg 1 rfl (Rz h fun h => Cr ⟨.inr rfl, _, rfl, rfl, rfl⟩))
 have p2 := of_decide_eq_true q2
 exact Rg 4 rfl (Rz h fun h => Ct rfl (Ck h fun _ _ h => Rg 1 rfl (Rz h fun h => Cr ⟨.inr rfl, _, rfl, rfl, rfl⟩)))
 have p1 := of_decide_eq_true q1
 exact Rg 9 rfl (Rz h fun h => Ct rfl (Ck h fun _ _ h => Rg 1 rfl (Rz h fun h => Cr ⟨.inr rfl, _, rfl, rfl, rfl⟩)))
noncomputable def H21 : List D → R D := mkH (L2 (dL Tbl.enc) (dR Qry.enc)) (fun x => (okL Tbl.ok) x.1 ∧ Qry.ok x.2) (fun x => dI (m21 x.1 x.2))
theorem i21 : InjE (L2 (dL Tbl.enc) (dR Qry.enc)) := j2 (jL Tbl.inj) (jR Qry.inj)
def m7 (l : (List Tbl)) (q : Qry) : Int := (bif (((m20 l) : Int) != 0) then (m20 l) else (m21 l q))
theorem m7_ev  (c20 : S 20 = some H20) (c21 : S 21 = some H21) (l : (List Tbl)) (q : Qry)  (h_l : (okL Tbl.ok) l) (h_q : Qry.ok q) : ∃ d σ', Ev (EE S) 7 [dL Tbl.enc l, dR Qry.enc q] St.empty d σ' ∧ plain d = true ∧ strip d = dI (m7 l q) := by
 unfold m7
 have h : Ko 0 St.empty [] [] := Ko.empty
 refine Ev.wp (E := EE S) (fn := Tryz.f7) (nt := 14) Tryz.func7 rfl rfl (Ck h fun _ _ h => Rw.bx (d := dR Qry.enc q) h (Nat.le_add_right _ 0) rfl rfl rfl rfl rfl rfl fun b1 _ h => Rg 1 rfl (Rw.nilK h (Nat.add_le_add_left (by decide : 1 ≤ 2) _) fun h => Cs (Ck h fun _ _ h => Rg 1 rfl (Rs rfl (fun _ => op_call (d := dI (m20 l)) rfl rfl c20 rfl (He i20 l h_l rfl)) (Rg 1 rfl (Rz h fun h => Ck h fun _ _ h => Rg 2 rfl (Rz h fun h => ?_)))))))
 cases q1 : (((m20 l) : Int) != 0)
 exact Cf rfl (Ci (Ck h fun _ _ h => Rg 1 rfl (Rw.ld (k := 0) (d := dR Qry.enc q) h rfl rfl rfl rfl rfl (ty41.ldA rfl rfl) rfl (Rs rfl (fun _ => op_call (d := dI (m21 l q)) rfl rfl c21 rfl (He i21 (l, q) ⟨h_l, h_q⟩ rfl)) (Rg 1 rfl (Rz h fun h => Cr ⟨.inr rfl, _, rfl, rfl, rfl⟩))))))
 exact Ct rfl (Ck h fun _ _ h => Rg 2 rfl (Rz h fun h => Cr ⟨.inr rfl, _, rfl, rfl, rfl⟩))
noncomputable def H7 : List D → R D := mkH (L2 (dL Tbl.enc) (dR Qry.enc)) (fun x => (okL Tbl.ok) x.1 ∧ Qry.ok x.2) (fun x => dI (m7 x.1 x.2))
theorem i7 : InjE (L2 (dL Tbl.enc) (dR Qry.enc)) := j2 (jL Tbl.inj) (jR Qry.inj)
end Go.Vm
