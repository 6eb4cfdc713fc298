/- The functions that the law calls: what they compute, and that the interpreter comes to it; sizes as their statements say. Printed by a program of this session's. -/
import Derived.Test.YtgcphfhmoabhnaaGreatDoorG1
set_option linter.unusedVariables false
namespace Go.Vm
open Go.Proofs
variable {S : Nat → Option (List D → R D)}
theorem ty24 : TyF (EE S) 24 1 false := ⟨⟨_, Tryz.underlying24, rfl⟩, by kernel_rfl⟩
theorem ty25 : TyF (EE S) 25 1 false := ⟨⟨_, Tryz.underlying25, rfl⟩, by kernel_rfl⟩
theorem ty33 : TyF (EE S) 33 1 false := ⟨⟨_, Tryz.underlying33, rfl⟩, by kernel_rfl⟩
theorem ty34 : TyF (EE S) 34 1 false := ⟨⟨_, Tryz.underlying34, rfl⟩, by kernel_rfl⟩
theorem ty41 : TyF (EE S) 41 25 true := ⟨⟨_, Tryz.underlying41, rfl⟩, by kernel_rfl⟩
theorem ty55 : TyF (EE S) 55 2 true := ⟨⟨_, Tryz.underlying55, rfl⟩, by kernel_rfl⟩
theorem ty97 : TyF (EE S) 97 1 false := ⟨⟨_, Tryz.underlying97, rfl⟩, by kernel_rfl⟩
theorem fi41_0 : fieldI (EE S) 41 0 = .ok (3, 0, 1) := by kernel_rfl
theorem fi41_1 : fieldI (EE S) 41 1 = .ok (3, 1, 1) := by kernel_rfl
theorem fi41_3 : fieldI (EE S) 41 3 = .ok (24, 3, 1) := by kernel_rfl
theorem fi41_4 : fieldI (EE S) 41 4 = .ok (25, 4, 1) := by kernel_rfl
theorem fi41_6 : fieldI (EE S) 41 6 = .ok (32, 6, 8) := by kernel_rfl
theorem fi41_8 : fieldI (EE S) 41 8 = .ok (33, 15, 1) := by kernel_rfl
theorem fi41_9 : fieldI (EE S) 41 9 = .ok (3, 16, 1) := by kernel_rfl
theorem fi41_10 : fieldI (EE S) 41 10 = .ok (3, 17, 1) := by kernel_rfl
theorem fi41_11 : fieldI (EE S) 41 11 = .ok (34, 18, 1) := by kernel_rfl
theorem fi41_12 : fieldI (EE S) 41 12 = .ok (9, 19, 1) := by kernel_rfl
theorem fi41_13 : fieldI (EE S) 41 13 = .ok (39, 20, 5) := by kernel_rfl
theorem fi51_0 : fieldI (EE S) 51 0 = .ok (3, 0, 1) := by kernel_rfl
theorem fi51_1 : fieldI (EE S) 51 1 = .ok (32, 1, 8) := by kernel_rfl
theorem fi53_1 : fieldI (EE S) 53 1 = .ok (4, 1, 1) := by kernel_rfl
theorem fi53_2 : fieldI (EE S) 53 2 = .ok (32, 2, 8) := by kernel_rfl
theorem fi53_3 : fieldI (EE S) 53 3 = .ok (9, 10, 1) := by kernel_rfl
theorem fi55_0 : fieldI (EE S) 55 0 = .ok (3, 0, 1) := by kernel_rfl
theorem fi122_0 : fieldI (EE S) 122 0 = .ok (39, 0, 5) := by kernel_rfl
theorem fi122_1 : fieldI (EE S) 122 1 = .ok (3, 5, 1) := by kernel_rfl
theorem bd32  : buildD (EE S) 32 [] = .ok (D.agg [D.c (.int .i64 Exr.zero.kind), D.c (.str Exr.zero.op), D.c (.int .i64 Exr.zero.column), D.c (.int .i64 Exr.zero.value.kind), D.c (.int .i64 Exr.zero.value.n), D.c (.float .f64 Exr.zero.value.f), D.c (.str Exr.zero.value.s), D.c (.sl true (Exr.zero.kids.map Exr.enc))]) := by kernel_rfl
theorem bd122_0_1  (a0 : Tbl) (a1 : Int) : buildD (EE S) 122 [(0, dR Tbl.enc a0), (1, dI a1)] = .ok (dR Wkr.enc (⟨a0, a1⟩ : Wkr)) := by kernel_rfl
theorem bd39  : buildD (EE S) 39 [] = .ok (D.agg [D.c (.str Tbl.zero.name), D.c (.sl true (Tbl.zero.columns.map Col.enc)), D.c (.sl true (Tbl.zero.key.map encI)), D.c (.sl true (Tbl.zero.indexes.map Idx.enc)), D.c (.sl true (Tbl.zero.refs.map Rfr.enc))]) := by kernel_rfl
def zc23 : List D := [.c (.sl true [])]
theorem z23 : zero (EE S) 23 = .ok zc23 := by kernel_rfl
def zc32 : List D := [.c (.int .i64 0), .c (.str ⟨#[]⟩), .c (.int .i64 0), .c (.int .i64 0), .c (.int .i64 0), .c (.float .f64 0), .c (.str ⟨#[]⟩), .c (.sl true [])]
theorem z32 : zero (EE S) 32 = .ok zc32 := by kernel_rfl
def zc41 : List D := [.c (.int .i64 0), .c (.int .i64 0), .c (.sl true []), .c (.sl true []), .c (.sl true []), .c (.sl true []), .c (.int .i64 0), .c (.str ⟨#[]⟩), .c (.int .i64 0), .c (.int .i64 0), .c (.int .i64 0), .c (.float .f64 0), .c (.str ⟨#[]⟩), .c (.sl true []), .c (.sl true []), .c (.sl true []), .c (.int .i64 0), .c (.int .i64 0), .c (.int .u64 0), .c (.str ⟨#[]⟩), .c (.str ⟨#[]⟩), .c (.sl true []), .c (.sl true []), .c (.sl true []), .c (.sl true [])]
theorem z41 : zero (EE S) 41 = .ok zc41 := by kernel_rfl
def zc51 : List D := [.c (.int .i64 0), .c (.int .i64 0), .c (.str ⟨#[]⟩), .c (.int .i64 0), .c (.int .i64 0), .c (.int .i64 0), .c (.float .f64 0), .c (.str ⟨#[]⟩), .c (.sl true [])]
theorem z51 : zero (EE S) 51 = .ok zc51 := by kernel_rfl
def zc53 : List D := [.c (.int .i64 0), .c (.bool false), .c (.int .i64 0), .c (.str ⟨#[]⟩), .c (.int .i64 0), .c (.int .i64 0), .c (.int .i64 0), .c (.float .f64 0), .c (.str ⟨#[]⟩), .c (.sl true []), .c (.str ⟨#[]⟩)]
theorem z53 : zero (EE S) 53 = .ok zc53 := by kernel_rfl
def zc55 : List D := [.c (.int .i64 0), .c (.bool false)]
theorem z55 : zero (EE S) 55 = .ok zc55 := by kernel_rfl
noncomputable def cm69_b_l1 : Code := (cl (cr (cl (cr (cr (bodyOf Tryz.f69))))))
def m69_b_l1 (rec : Exr → Int → Int) (e : Exr) (had : Int) : Nat → Nat → Int → Lo Int Int
 | 0, _, x1_1 => .on x1_1
 | rem1 + 1, i1, x1_1 => (bif decide ((x1_1 : Int) ≤ 262144) then m69_b_l1 rec e had rem1 (i1 + 1) (rec (e.kids.getD i1 default) x1_1) else .on x1_1)
def m69_b (rec : Exr → Int → Int) (e : Exr) (had : Int) : Int := (match m69_b_l1 rec e had e.kids.length 0 (IntKind.i64.wrap (had + 1)) with | .out r => r | .on x1_1 => x1_1)
theorem m69_b_ev  (n69 : S 69 = none) (rec : Exr → Int → Int) (e : Exr) (had : Int)  (h_e : Exr.ok e) (ihR : ∀ (y0 : Exr) (y1 : Int), Exr.ok y0 → y0.depth < e.depth → ∃ d σ', Ev (EE S) 69 [dR Exr.row y0, dI y1] St.empty d σ' ∧ plain d = true ∧ strip d = dI (rec y0 y1)) : ∃ d σ', Ev (EE S) 69 [dR Exr.row e, dI had] St.empty d σ' ∧ plain d = true ∧ strip d = dI (m69_b rec e had) := by
 unfold m69_b
 have h : Ko 0 St.empty [] [] := Ko.empty
 refine Ev.wp (E := EE S) (fn := Tryz.f69) (nt := 27) Tryz.func69 rfl rfl (Ck h fun _ _ h => Rw.bx (d := dR Exr.row e) h (Nat.le_add_right _ 0) rfl rfl rfl rfl rfl rfl fun b1 _ h => Rg 1 rfl (Rw.nilK h (Nat.add_le_add_left (by decide : 1 ≤ 2) _) fun h => Ck h fun _ _ h => Rg 1 rfl (Rs rfl (fun _ => op_add_int rfl rfl rfl) (Rg 1 rfl (Rz h fun h => Cs (Ck h fun _ _ h => Rg 1 rfl (Rz h fun h => Cb ?_)))))))
 have hl1 : ∀ (rem1 i1 : Nat) (x1_1 : Int) (fr : Nat → D) (σ : St), i1 + rem1 = e.kids.length → fr 1 = dI x1_1 → fr 2 = D.ptr b1 0 → fr 5 = dN i1 → Ko 0 σ [(b1, (dC Exr.row e))] [] → Cw (EE S) cm69_b_l1 27 fr σ (fun oX gX sX => match m69_b_l1 rec e had rem1 i1 x1_1 with | .on x1_1 => oX = some (some 0) ∧ gX 1 = dI x1_1 ∧ Ko 0 sX [(b1, (dC Exr.row e))] [] | .out r => Ou S Tryz.f69 (fun d _ => plain d = true ∧ strip d = dI r) oX gX sX) := by
  intro rem1
  induction rem1
  intro i1 x1_1  fr σ hi  e1 e2 e5 h
  have hlt1 : decide ((((i1 : Nat) : Int) : Int) < ((e.kids.length : Nat) : Int)) = false := decF (by omega)
  rw [pin e1, pin e2, pin e5]
  rw [m69_b_l1]
  exact Co (Cs (Ck h fun _ _ h => Rg 1 rfl (Rf fi32_4 rfl (Rl 0 h rfl (ty30.ldS rfl) (Re Tryz.underlying30 rfl (Rs rfl (fun _ => op_lss_int rfl rfl hlt1) (Rg 4 rfl (Rz h fun h => Cf rfl (Cw.exit (an3 rfl rfl h))))))))))
  rename_i rem1 ih
  intro i1 x1_1  fr σ hi  e1 e2 e5 h
  have hlt1 : decide ((((i1 : Nat) : Int) : Int) < ((e.kids.length : Nat) : Int)) = true := decT (by omega)
  have hil1 : i1 < e.kids.length := by omega
  have hbq1 := okL_len (Exr.ok_kids h_e)
  rw [pin e1, pin e2, pin e5]
  rw [m69_b_l1]
  refine Co (Cs (Ck h fun _ _ h => Rg 1 rfl (Rf fi32_4 rfl (Rl 0 h rfl (ty30.ldS rfl) (Re Tryz.underlying30 rfl (Rs rfl (fun _ => op_lss_int rfl rfl hlt1) (Rg 4 rfl (Rz h fun h => ?_))))))))
  cases q1 : decide ((x1_1 : Int) ≤ 262144)
  exact Cf rfl (Cw.exit (an3 rfl rfl h))
  refine Ct rfl (Ci (Cs (Cb (Cw.regionK h fun _ _ h => Rf fi32_4 rfl (Rl 0 h rfl (ty30.ldS rfl) (Rg 1 rfl (Rs rfl (fun _ => op_ix (n := i1) rfl rfl rfl Tryz.underlying30 ty32.hn (at_Exr hil1) rfl) (Rs rfl (fun _ => op_ldC (d := dR Exr.row (e.kids.getD i1 default)) rfl (at_Exr hil1) (ty32.lcA rfl rfl)) (Rg 1 rfl ?_)))))))))
  obtain ⟨dX, sX, hev, hpl, hst⟩ := ihR (e.kids.getD i1 default) x1_1 (okL_get (Exr.ok_kids h_e) Exr.zok i1) (Exr.depth_kid hil1)
  refine Rw.ev (das := [dR Exr.row (e.kids.getD i1 default), dI x1_1]) rfl rfl rfl rfl rfl n69 rfl rfl rfl hev hpl rfl ?_
  rw [show strip dX = dI (rec (e.kids.getD i1 default) x1_1) from hst]
  exact Rg 1 rfl (Rz h fun h => Cw.regionK h fun _ _ h => Rg 1 rfl (Rs rfl (fun _ => op_add_int (v := ((i1 + 1 : Nat) : Int)) rfl rfl (wrap_one (by omega))) (Rg 1 rfl (Rz h fun h => ih (i1 + 1) (rec (e.kids.getD i1 default) x1_1)  _ _ (by omega)  rfl rfl rfl h))))
 refine Cw.mono (hl1 e.kids.length 0 (IntKind.i64.wrap (had + 1))  _ _ (by omega)  rfl rfl rfl h) ?_
 intro oY gY sY hh
 generalize hzL1 : m69_b_l1 rec e had e.kids.length 0 (IntKind.i64.wrap (had + 1)) = zZ at hh ⊢
 rcases zZ with x1_1 | rZ
 dsimp only
 obtain ⟨rfl, e1, h⟩ := hh
 rw [pin e1]
 have hbd1 := okL_len (Exr.ok_kids h_e)
 exact Ck h fun _ _ h => Rg 2 rfl (Rz h fun h => Cr ⟨.inr rfl, _, rfl, rfl, rfl⟩)
 obtain ⟨rfl, w⟩ := hh
 exact ⟨.inr rfl, w⟩
def m69 : Nat → Exr → Int → Int
 | 0, _, _ => default
 | nZ + 1, e, had => m69_b (m69 nZ) e had
theorem m69_all  (n69 : S 69 = none) : ∀ (nZ : Nat) (e : Exr) (had : Int) (h_e : Exr.ok e), e.depth < nZ → ∃ d σ', Ev (EE S) 69 [dR Exr.row e, dI had] St.empty d σ' ∧ plain d = true ∧ strip d = dI (m69 nZ e had)
 | 0, e, had, _, hd => absurd hd (by omega)
 | nZ + 1, e, had, h_e, hd => m69_b_ev n69 (m69 nZ) e had h_e  (fun y0 y1 g0 hd' => m69_all n69 nZ y0 y1 g0  (by omega))
def m69r (e : Exr) (had : Int) : Int := m69 (e.depth + 1) e had
theorem m69r_ev  (n69 : S 69 = none) (e : Exr) (had : Int) (h_e : Exr.ok e) : ∃ d σ', Ev (EE S) 69 [dR Exr.row e, dI had] St.empty d σ' ∧ plain d = true ∧ strip d = dI (m69r e had) := m69_all n69 _ e had h_e  (Nat.lt_succ_self _)
noncomputable def H69 : List D → R D := mkH (L2 (dR Exr.row) dI) (fun x => Exr.ok x.1) (fun x => dI (m69r x.1 x.2))
theorem i69 : InjE (L2 (dR Exr.row) dI) := j2 (jR Exr.rinj) jI
def m24 (e : Exr) : Bool := (decide (((m69r e 0) : Int) > 262144))
theorem m24_ev  (c69 : S 69 = some H69) (e : Exr)  (h_e : Exr.ok e) : ∃ d σ', Ev (EE S) 24 [dR Exr.row e] St.empty d σ' ∧ plain d = true ∧ strip d = dB (m24 e) := by
 unfold m24
 have h : Ko 0 St.empty [] [] := Ko.empty
 exact Ev.wp (E := EE S) (fn := Tryz.f24) (nt := 6) Tryz.func24 rfl rfl (Ck h fun _ _ h => Rw.bx (d := dR Exr.row e) h (Nat.le_add_right _ 0) rfl rfl rfl rfl rfl rfl fun b1 _ h => Rg 1 rfl (Rw.nilK h (Nat.add_le_add_left (by decide : 1 ≤ 2) _) fun h => Ck h fun _ _ h => Rw.ld (k := 0) (d := dR Exr.row e) h rfl rfl rfl rfl rfl (ty32.ldA rfl rfl) rfl (Rs rfl (fun _ => op_call (d := dI (m69r e 0)) rfl rfl c69 rfl (He i69 (e, 0) h_e rfl)) (Rg 2 rfl (Rz h fun h => Cr ⟨.inr rfl, _, rfl, rfl, rfl⟩)))))
noncomputable def H24 : List D → R D := mkH (L1 (dR Exr.row)) (fun x => Exr.ok x) (fun x => dB (m24 x))
theorem i24 : InjE (L1 (dR Exr.row)) := j1 (jR Exr.rinj)
noncomputable def cm142_b_l1 : Code := (cl (cr (cl (cr (cr (bodyOf Tryz.f142))))))
def m142_b_l1 (rec : Exr → Exr → Bool) (a : Exr) (b : Exr) : Nat → Nat → Lo Unit Bool
 | 0, _ => .on ()
 | rem1 + 1, i1 => (bif (!(rec (a.kids.getD i1 default) (b.kids.getD i1 default))) then .out false else m142_b_l1 rec a b rem1 (i1 + 1) )
def m142_b (rec : Exr → Exr → Bool) (a : Exr) (b : Exr) : Bool := (bif ((a.kind : Int) != b.kind) then false else (bif (!(ByteArray.toList a.op == ByteArray.toList b.op)) then false else (bif ((a.column : Int) != b.column) then false else (bif (!(m144 a.value b.value)) then false else (bif ((((a.kids.length : Nat) : Int) : Int) != ((b.kids.length : Nat) : Int)) then false else (match m142_b_l1 rec a b a.kids.length 0  with | .out r => r | .on _ => true))))))
theorem m142_b_ev  (c144 : S 144 = some H144) (n142 : S 142 = none) (rec : Exr → Exr → Bool) (a : Exr) (b : Exr)  (h_a : Exr.ok a) (h_b : Exr.ok b) (ihR : ∀ (y0 : Exr) (y1 : Exr), Exr.ok y0 → Exr.ok y1 → y0.depth < a.depth → ∃ d σ', Ev (EE S) 142 [dR Exr.row y0, dR Exr.row y1] St.empty d σ' ∧ plain d = true ∧ strip d = dB (rec y0 y1)) : ∃ d σ', Ev (EE S) 142 [dR Exr.row a, dR Exr.row b] St.empty d σ' ∧ plain d = true ∧ strip d = dB (m142_b rec a b) := by
 unfold m142_b
 have h : Ko 0 St.empty [] [] := Ko.empty
 refine Ev.wp (E := EE S) (fn := Tryz.f142) (nt := 61) Tryz.func142 rfl rfl (Ck h fun _ _ h => Rw.bx (d := dR Exr.row a) h (Nat.le_add_right _ 0) rfl rfl rfl rfl rfl rfl fun b1 _ h => Rw.bx (d := dR Exr.row b) h (Nat.le_add_right _ 0) rfl rfl rfl rfl rfl rfl fun b2 _ h => Rg 1 rfl (Rw.nilK h (Nat.add_le_add_left (by decide : 2 ≤ 3) _) fun h => Cs (Ck h fun _ _ h => Rf fi32_0 rfl (Rl 1 h rfl (ty3.ldS rfl) (Rf fi32_0 rfl (Rl 0 h rfl (ty3.ldS rfl) (Rg 2 rfl ?_)))))))
 cases q1 : ((a.kind : Int) != b.kind)
 have p1 := eq_of_bneF q1
 refine Rf fi32_1 rfl (Rl 1 h rfl (ty9.ldS rfl) (Rf fi32_1 rfl (Rl 0 h rfl (ty9.ldS rfl) (Rg 3 rfl ?_))))
 cases q2 : (!(ByteArray.toList a.op == ByteArray.toList b.op))
 refine Rf fi32_2 rfl (Rl 1 h rfl (ty3.ldS rfl) (Rf fi32_2 rfl (Rl 0 h rfl (ty3.ldS rfl) (Rg 3 rfl ?_))))
 cases q3 : ((a.column : Int) != b.column)
 have p3 := eq_of_bneF q3
 refine Rf fi32_3 rfl (Rw.ld (k := 1) (d := dR Val.enc a.value) h rfl rfl rfl rfl rfl (ty29.ldA rfl rfl) rfl (Rf fi32_3 rfl (Rw.ld (k := 0) (d := dR Val.enc b.value) h rfl rfl rfl rfl rfl (ty29.ldA rfl rfl) rfl (Rs rfl (fun _ => op_call (d := dB (m144 a.value b.value)) rfl rfl c144 rfl (He i144 (a.value, b.value) ⟨(Exr.ok_value h_a), (Exr.ok_value h_b)⟩ rfl)) (Rg 3 rfl ?_)))))
 cases q4 : (!(m144 a.value b.value))
 refine Rf fi32_4 rfl (Rl 1 h rfl (ty30.ldS rfl) (Re Tryz.underlying30 rfl (Rf fi32_4 rfl (Rl 0 h rfl (ty30.ldS rfl) (Re Tryz.underlying30 rfl (Rg 2 rfl (Rz h fun h => ?_)))))))
 cases q5 : ((((a.kids.length : Nat) : Int) : Int) != ((b.kids.length : Nat) : Int))
 have p5 := eq_of_bneF q5
 refine Cf rfl (Ci (Cs (Ck h fun _ _ h => Rg 1 rfl (Rz h fun h => Cb ?_))))
 have hl1 : ∀ (rem1 i1 : Nat) (fr : Nat → D) (σ : St), i1 + rem1 = a.kids.length → fr 2 = D.ptr b1 0 → fr 3 = D.ptr b2 0 → fr 5 = dN i1 → Ko 0 σ [(b2, (dC Exr.row b)), (b1, (dC Exr.row a))] [] → Cw (EE S) cm142_b_l1 61 fr σ (fun oX gX sX => match m142_b_l1 rec a b rem1 i1  with | .on _ => oX = some (some 0) ∧ Ko 0 sX [(b2, (dC Exr.row b)), (b1, (dC Exr.row a))] [] | .out r => Ou S Tryz.f142 (fun d _ => plain d = true ∧ strip d = dB r) oX gX sX) := by
  intro rem1
  induction rem1
  intro i1   fr σ hi  e2 e3 e5 h
  have hlt1 : decide ((((i1 : Nat) : Int) : Int) < ((a.kids.length : Nat) : Int)) = false := decF (by omega)
  rw [pin e2, pin e3, pin e5]
  rw [m142_b_l1]
  exact Co (Cs (Ck h fun _ _ h => Rg 1 rfl (Rf fi32_4 rfl (Rl 1 h rfl (ty30.ldS rfl) (Re Tryz.underlying30 rfl (Rs rfl (fun _ => op_lss_int rfl rfl hlt1) (Rz h fun h => Cf rfl (Cw.exit (an2 rfl h)))))))))
  rename_i rem1 ih
  intro i1   fr σ hi  e2 e3 e5 h
  have hlt1 : decide ((((i1 : Nat) : Int) : Int) < ((a.kids.length : Nat) : Int)) = true := decT (by omega)
  have hil1 : i1 < a.kids.length := by omega
  have hbq1 := okL_len (Exr.ok_kids h_a)
  rw [pin e2, pin e3, pin e5]
  rw [m142_b_l1]
  refine Co (Cs (Ck h fun _ _ h => Rg 1 rfl (Rf fi32_4 rfl (Rl 1 h rfl (ty30.ldS rfl) (Re Tryz.underlying30 rfl (Rs rfl (fun _ => op_lss_int rfl rfl hlt1) (Rz h fun h => Ct rfl (Ci (Cs (Cb ?_))))))))))
  refine Cw.seq (Cw.regionD h fun _ _ h => ?_)
  refine Rf fi32_4 rfl (Rl 1 h rfl (ty30.ldS rfl) (Rg 1 rfl (Rs rfl (fun _ => op_ix (n := i1) rfl rfl rfl Tryz.underlying30 ty32.hn (at_Exr hil1) rfl) (Rs rfl (fun _ => op_ldC (d := dR Exr.row (a.kids.getD i1 default)) rfl (at_Exr hil1) (ty32.lcA rfl rfl)) (Rf fi32_4 rfl (Rl 0 h rfl (ty30.ldS rfl) (Rg 1 rfl (Rs rfl (fun _ => op_ix (n := i1) rfl rfl rfl Tryz.underlying30 ty32.hn (at_Exr (by omega)) rfl) (Rs rfl (fun _ => op_ldC (d := dR Exr.row (b.kids.getD i1 default)) rfl (at_Exr (by omega)) (ty32.lcA rfl rfl)) ?_)))))))))
  obtain ⟨dX, sX, hev, hpl, hst⟩ := ihR (a.kids.getD i1 default) (b.kids.getD i1 default) (okL_get (Exr.ok_kids h_a) Exr.zok i1) (okL_get (Exr.ok_kids h_b) Exr.zok i1) (Exr.depth_kid hil1)
  refine Rw.ev (das := [dR Exr.row (a.kids.getD i1 default), dR Exr.row (b.kids.getD i1 default)]) rfl rfl rfl rfl rfl n142 rfl rfl rfl hev hpl rfl ?_
  rw [show strip dX = dB (rec (a.kids.getD i1 default) (b.kids.getD i1 default)) from hst]
  refine Rg 1 rfl (Rz h fun h => ?_)
  refine ⟨by kernel_rfl, ?_⟩
  cases q6 : (!(rec (a.kids.getD i1 default) (b.kids.getD i1 default)))
  exact Cf rfl (Ci (Cw.regionK h fun _ _ h => Rg 1 rfl (Rs rfl (fun _ => op_add_int (v := ((i1 + 1 : Nat) : Int)) rfl rfl (wrap_one (by omega))) (Rg 1 rfl (Rz h fun h => ih (i1 + 1)   _ _ (by omega)  rfl rfl rfl h)))))
  exact Ct rfl (Ck h fun _ _ h => Rg 1 rfl (Rz h fun h => Cr (And.intro rfl (Exists.intro _ (an3 rfl rfl rfl)))))
 refine Cw.mono (hl1 a.kids.length 0   _ _ (by omega)  rfl rfl rfl h) ?_
 intro oY gY sY hh
 generalize hzL1 : m142_b_l1 rec a b a.kids.length 0  = zZ at hh ⊢
 rcases zZ with vZ | rZ
 dsimp only
 obtain ⟨rfl, h⟩ := hh
 have hbd1 := okL_len (Exr.ok_kids h_a)
 exact Ck h fun _ _ h => Rg 1 rfl (Rz h fun h => Cr ⟨.inr rfl, _, rfl, rfl, rfl⟩)
 obtain ⟨rfl, w⟩ := hh
 exact ⟨.inr rfl, w⟩
 have p5 := ne_of_bneT q5
 exact Ct rfl (Ck h fun _ _ h => Rg 1 rfl (Rz h fun h => Cr ⟨.inr rfl, _, rfl, rfl, rfl⟩))
 exact Rg 8 rfl (Rz h fun h => Ct rfl (Ck h fun _ _ h => Rg 1 rfl (Rz h fun h => Cr ⟨.inr rfl, _, rfl, rfl, rfl⟩)))
 have p3 := ne_of_bneT q3
 exact Rg 16 rfl (Rz h fun h => Ct rfl (Ck h fun _ _ h => Rg 1 rfl (Rz h fun h => Cr ⟨.inr rfl, _, rfl, rfl, rfl⟩)))
 exact Rg 23 rfl (Rz h fun h => Ct rfl (Ck h fun _ _ h => Rg 1 rfl (Rz h fun h => Cr ⟨.inr rfl, _, rfl, rfl, rfl⟩)))
 have p1 := ne_of_bneT q1
 exact Rg 30 rfl (Rz h fun h => Ct rfl (Ck h fun _ _ h => Rg 1 rfl (Rz h fun h => Cr ⟨.inr rfl, _, rfl, rfl, rfl⟩)))
def m142 : Nat → Exr → Exr → Bool
 | 0, _, _ => default
 | nZ + 1, a, b => m142_b (m142 nZ) a b
theorem m142_all  (c144 : S 144 = some H144) (n142 : S 142 = none) : ∀ (nZ : Nat) (a : Exr) (b : Exr) (h_a : Exr.ok a) (h_b : Exr.ok b), a.depth < nZ → ∃ d σ', Ev (EE S) 142 [dR Exr.row a, dR Exr.row b] St.empty d σ' ∧ plain d = true ∧ strip d = dB (m142 nZ a b)
 | 0, a, b, _, _, hd => absurd hd (by omega)
 | nZ + 1, a, b, h_a, h_b, hd => m142_b_ev c144 n142 (m142 nZ) a b h_a h_b  (fun y0 y1 g0 g1 hd' => m142_all c144 n142 nZ y0 y1 g0 g1  (by omega))
def m142r (a : Exr) (b : Exr) : Bool := m142 (a.depth + 1) a b
theorem m142r_ev  (c144 : S 144 = some H144) (n142 : S 142 = none) (a : Exr) (b : Exr) (h_a : Exr.ok a) (h_b : Exr.ok b) : ∃ d σ', Ev (EE S) 142 [dR Exr.row a, dR Exr.row b] St.empty d σ' ∧ plain d = true ∧ strip d = dB (m142r a b) := m142_all c144 n142 _ a b h_a h_b  (Nat.lt_succ_self _)
noncomputable def H142 : List D → R D := mkH (L2 (dR Exr.row) (dR Exr.row)) (fun x => Exr.ok x.1 ∧ Exr.ok x.2) (fun x => dB (m142r x.1 x.2))
theorem i142 : InjE (L2 (dR Exr.row) (dR Exr.row)) := j2 (jR Exr.rinj) (jR Exr.rinj)
def m89 (e : Exr) : Bool := (m142r e Exr.zero)
theorem m89_ev  (c142 : S 142 = some H142) (e : Exr)  (h_e : Exr.ok e) : ∃ d σ', Ev (EE S) 89 [dR Exr.row e] St.empty d σ' ∧ plain d = true ∧ strip d = dB (m89 e) := by
 unfold m89
 have h : Ko 0 St.empty [] [] := Ko.empty
 exact Ev.wp (E := EE S) (fn := Tryz.f89) (nt := 6) Tryz.func89 rfl rfl (Ck h fun _ _ h => Rw.bx (d := dR Exr.row e) h (Nat.le_add_right _ 0) rfl rfl rfl rfl rfl rfl fun b1 _ h => Rg 1 rfl (Rw.nilK h (Nat.add_le_add_left (by decide : 1 ≤ 2) _) fun h => Ck h fun _ _ h => Rw.ld (k := 0) (d := dR Exr.row e) h rfl rfl rfl rfl rfl (ty32.ldA rfl rfl) rfl (Rs rfl (fun _ => op_buildS (qs := []) (d := D.agg [D.c (.int .i64 Exr.zero.kind), D.c (.str Exr.zero.op), D.c (.int .i64 Exr.zero.column), D.c (.int .i64 Exr.zero.value.kind), D.c (.int .i64 Exr.zero.value.n), D.c (.float .f64 Exr.zero.value.f), D.c (.str Exr.zero.value.s), D.c (.sl true (Exr.zero.kids.map Exr.enc))]) rfl (bd32 ..)) (Rs rfl (fun _ => op_call (d := dB (m142r e Exr.zero)) rfl rfl c142 rfl (He i142 (e, Exr.zero) ⟨h_e, Exr.zok⟩ rfl)) (Rg 1 rfl (Rz h fun h => Cr ⟨.inr rfl, _, rfl, rfl, rfl⟩))))))
noncomputable def H89 : List D → R D := mkH (L1 (dR Exr.row)) (fun x => Exr.ok x) (fun x => dB (m89 x))
theorem i89 : InjE (L1 (dR Exr.row)) := j1 (jR Exr.rinj)
def m81_b_1 (rec : Wkr → Exr → Int → (Bool × Wkr)) (w : Wkr) (e : Exr) (deep : Int) : Lo Bool (Bool × Wkr) := (bif ((e.kind : Int) == 1) then (bif ((((e.kids.length : Nat) : Int) : Int) == 0) then (bif (ByteArray.toList e.op == ByteArray.toList (⟨#[]⟩)) then (bif ((e.column : Int) == 0) then .out ((((m73 e.value) : Int) == 0), { w with left := (IntKind.i64.wrap (w.left - 1)) }) else .out (false, { w with left := (IntKind.i64.wrap (w.left - 1)) })) else .out (false, { w with left := (IntKind.i64.wrap (w.left - 1)) })) else .out (false, { w with left := (IntKind.i64.wrap (w.left - 1)) })) else (bif ((e.kind : Int) == 2) then (bif ((((e.kids.length : Nat) : Int) : Int) == 0) then (bif (ByteArray.toList e.op == ByteArray.toList (⟨#[]⟩)) then (bif decide ((e.column : Int) ≥ 0) then (bif decide ((e.column : Int) < ((((({ w with left := (IntKind.i64.wrap (w.left - 1)) }).t).columns).length : Nat) : Int)) then .out ((m133 e.value), { w with left := (IntKind.i64.wrap (w.left - 1)) }) else .out (false, { w with left := (IntKind.i64.wrap (w.left - 1)) })) else .out (false, { w with left := (IntKind.i64.wrap (w.left - 1)) })) else .out (false, { w with left := (IntKind.i64.wrap (w.left - 1)) })) else .out (false, { w with left := (IntKind.i64.wrap (w.left - 1)) })) else (bif ((e.kind : Int) == 3) then (bif ((((e.kids.length : Nat) : Int) : Int) == 1) then .on (m134 unariesB e.op) else .on false) else (bif ((e.kind : Int) == 4) then (bif ((((e.kids.length : Nat) : Int) : Int) == 2) then (bif (m134 arithmeticB e.op) then .on true else (bif (m134 comparisonsB e.op) then .on true else (bif (ByteArray.toList e.op == ByteArray.toList (⟨#[97, 110, 100]⟩)) then .on true else .on (ByteArray.toList e.op == ByteArray.toList (⟨#[111, 114]⟩))))) else .on false) else (bif ((e.kind : Int) == 5) then (bif decide ((((e.kids.length : Nat) : Int) : Int) ≥ 2) then .on (ByteArray.toList e.op == ByteArray.toList (⟨#[]⟩)) else .on false) else .on false)))))
noncomputable def cm81_b_l1 : Code := (cl (cr (cl (cr (cr (cr (cr (cr (cr (cr (bodyOf Tryz.f81)))))))))))
def m81_b_l1 (rec : Wkr → Exr → Int → (Bool × Wkr)) (w : Wkr) (e : Exr) (deep : Int) (v1_8 : Bool) : Nat → Nat → Wkr → Lo Wkr (Bool × Wkr)
 | 0, _, w1_b_w => .on w1_b_w
 | rem1 + 1, i1, w1_b_w => (bif (!(rec w1_b_w (e.kids.getD i1 default) (IntKind.i64.wrap (deep + 1))).1) then .out (false, (rec w1_b_w (e.kids.getD i1 default) (IntKind.i64.wrap (deep + 1))).2) else m81_b_l1 rec w e deep v1_8 rem1 (i1 + 1) ((rec w1_b_w (e.kids.getD i1 default) (IntKind.i64.wrap (deep + 1))).2))
def m81_b (rec : Wkr → Exr → Int → (Bool × Wkr)) (w : Wkr) (e : Exr) (deep : Int) : (Bool × Wkr) := (bif decide ((({ w with left := (IntKind.i64.wrap (w.left - 1)) }).left : Int) < 0) then (false, { w with left := (IntKind.i64.wrap (w.left - 1)) }) else (bif decide ((deep : Int) > 100) then (false, { w with left := (IntKind.i64.wrap (w.left - 1)) }) else (match m81_b_1 rec w e deep with | .out r => r | .on v1_8 => (bif (!v1_8) then (false, { w with left := (IntKind.i64.wrap (w.left - 1)) }) else (bif ((e.column : Int) != 0) then (false, { w with left := (IntKind.i64.wrap (w.left - 1)) }) else (bif (!(m133 e.value)) then (false, { w with left := (IntKind.i64.wrap (w.left - 1)) }) else (match m81_b_l1 rec w e deep v1_8 e.kids.length 0 ({ w with left := (IntKind.i64.wrap (w.left - 1)) }) with | .out r => r | .on w1_b_w => (true, w1_b_w))))))))
set_option maxRecDepth 100000 in
theorem m81_b_ev  (c73 : S 73 = some H73) (c133 : S 133 = some H133) (c134 : S 134 = some H134) (n81 : S 81 = none) {lo : Nat} {σ : St} {bs : List (Nat × List D)} {acs : List (D × List (List C) × Nat)} (rec : Wkr → Exr → Int → (Bool × Wkr)) (w : Wkr) (e : Exr) (deep : Int)  (h_w : Wkr.ok w) (b_w : Nat) (h_e : Exr.ok e) (ihR : ∀ (y0 : Wkr) (y1 : Exr) (y2 : Int), Wkr.ok y0 → Exr.ok y1 → y1.depth < e.depth → ∀ (lo : Nat) (σ : St) (bs : List (Nat × List D)), Ko lo σ ((b_w, (dC Wkr.enc y0)) :: bs) acs → ∃ d σ', Ev (EE S) 81 [D.ptr b_w 0, dR Exr.row y1, dI y2] σ d σ' ∧ d = dB ((rec y0 y1 y2).1) ∧ Wkr.ok (rec y0 y1 y2).2 ∧ Ko lo σ' ((b_w, (dC Wkr.enc ((rec y0 y1 y2).2))) :: bs) acs) (h : Ko lo σ ((b_w, (dC Wkr.enc w)) :: bs) acs) : ∃ d σ', Ev (EE S) 81 [D.ptr b_w 0, dR Exr.row e, dI deep] σ d σ' ∧ d = dB ((m81_b rec w e deep).1) ∧ Wkr.ok (m81_b rec w e deep).2 ∧ Ko lo σ' ((b_w, (dC Wkr.enc ((m81_b rec w e deep).2))) :: bs) acs := by
 unfold m81_b
 refine Ev.wp (E := EE S) (fn := Tryz.f81) (nt := 154) Tryz.func81 rfl rfl (Ck h fun _ _ h => Rw.bx (d := dR Exr.row e) h (Nat.le_add_right _ 0) rfl rfl rfl rfl rfl rfl fun b1 _ h => Rg 1 rfl (Rw.nilK h (Nat.add_le_add_left (by decide : 1 ≤ 2) _) fun h => Ck h fun _ _ h => Rs rfl (fun _ => op_move (d := D.ptr b_w 0) rfl) (Rs rfl (fun _ => op_nilCheck_p rfl) (Rf fi122_1 rfl (Rl 1 h rfl (ty3.ldS rfl) (Rs rfl (fun _ => op_sub_int rfl rfl rfl) (Rs rfl (fun _ => op_nilCheck_p rfl) (Rf fi122_1 rfl ?_))))))))
 refine Rw.st (k := 1) (cs' := (dC Wkr.enc ({ w with left := (IntKind.i64.wrap (w.left - 1)) }))) h (Nat.le_add_right _ 7) rfl rfl rfl rfl rfl ty3.hn rfl rfl rfl fun _ h => ?_
 refine Rw.nilK h (Nat.add_le_add_left (by decide : 8 ≤ 8) _) fun h => Cs (Ck h fun _ _ h => Rs rfl (fun _ => op_move (d := D.ptr b_w 0) rfl) (Rs rfl (fun _ => op_nilCheck_p rfl) (Rf fi122_1 rfl (Rl 1 h rfl (ty3.ldS rfl) (Rg 2 rfl ?_)))))
 cases q1 : decide ((({ w with left := (IntKind.i64.wrap (w.left - 1)) }).left : Int) < 0)
 refine Rg 3 rfl (Rz h fun h => ?_)
 cases q2 : decide ((deep : Int) > 100)
 refine Cf rfl (Ci (Ck h fun _ _ h => Rf fi32_4 rfl (Rl 0 h rfl (ty30.ldS rfl) (Re Tryz.underlying30 rfl (Rg 1 rfl (Rz h fun h => Ck h fun _ _ h => Rg 1 rfl (Rz h fun h => ?_)))))))
 refine Cw.seq (Cw.mono (Q := fun oX gX sX => match m81_b_1 rec w e deep with | .on v1_8 => oX = none ∧ gX 0 = D.ptr b_w 0 ∧ gX 2 = dI deep ∧ gX 4 = D.ptr b1 0 ∧ gX 8 = dB v1_8 ∧ Ko lo sX ((b1, (dC Exr.row e)) :: (b_w, (dC Wkr.enc ({ w with left := (IntKind.i64.wrap (w.left - 1)) }))) :: bs) (acs) | .out r => Ou S Tryz.f81 (fun d s => d = dB r.1 ∧ Wkr.ok r.2 ∧ Ko lo s ((b_w, (dC Wkr.enc r.2)) :: bs) acs) oX gX sX) ?_ ?_)
 unfold m81_b_1
 refine Ck h fun _ _ h => Rf fi32_0 rfl (Rl 0 h rfl (ty3.ldS rfl) (Rz h fun h => Cb (Ck h fun _ _ h => Rg 2 rfl (Rz h fun h => ?_))))
 cases q3 : ((e.kind : Int) == 1)
 refine Cf rfl (Ck h fun _ _ h => Rg 2 rfl (Rz h fun h => ?_))
 cases q4 : ((e.kind : Int) == 2)
 refine Cf rfl (Ck h fun _ _ h => Rg 2 rfl (Rz h fun h => ?_))
 cases q5 : ((e.kind : Int) == 3)
 refine Cf rfl (Ck h fun _ _ h => Rg 2 rfl (Rz h fun h => ?_))
 cases q6 : ((e.kind : Int) == 4)
 refine Cf rfl (Ck h fun _ _ h => Rg 2 rfl (Rz h fun h => ?_))
 cases q7 : ((e.kind : Int) == 5)
 exact Cf rfl (Ci (an6 rfl rfl rfl rfl rfl h))
 refine Ct rfl (Cw.regionK h fun _ _ h => Rg 3 rfl ?_)
 cases q8 : decide ((((e.kids.length : Nat) : Int) : Int) ≥ 2)
 exact Rg 5 rfl (Rz h fun h => an6 rfl rfl rfl rfl rfl h)
 exact Rf fi32_1 rfl (Rl 0 h rfl (ty9.ldS rfl) (Rg 3 rfl (Rz h fun h => an6 rfl rfl rfl rfl rfl h)))
 refine Ct rfl (Cw.regionK h fun _ _ h => Rg 3 rfl ?_)
 cases q9 : ((((e.kids.length : Nat) : Int) : Int) == 2)
 exact Rg 22 rfl (Rz h fun h => an6 rfl rfl rfl rfl rfl h)
 refine Rc (row := [_]) rfl ty97 rfl (Rf fi32_1 rfl (Rl 0 h rfl (ty9.ldS rfl) (Rs rfl (fun _ => op_call (d := dB (m134 arithmeticB e.op)) rfl rfl c134 rfl (He i134 (arithmeticB, e.op) ⟨(lit_ok (by kernel_rfl) (by kernel_rfl)), (Exr.ok_op h_e)⟩ rfl)) (Rg 1 rfl ?_))))
 cases q10 : (m134 arithmeticB e.op)
 refine Rc (row := [_]) rfl ty97 rfl (Rf fi32_1 rfl (Rl 0 h rfl (ty9.ldS rfl) (Rs rfl (fun _ => op_call (d := dB (m134 comparisonsB e.op)) rfl rfl c134 rfl (He i134 (comparisonsB, e.op) ⟨(lit_ok (by kernel_rfl) (by kernel_rfl)), (Exr.ok_op h_e)⟩ rfl)) (Rg 2 rfl ?_))))
 cases q11 : (m134 comparisonsB e.op)
 refine Rf fi32_1 rfl (Rl 0 h rfl (ty9.ldS rfl) (Rg 3 rfl ?_))
 cases q12 : (ByteArray.toList e.op == ByteArray.toList (⟨#[97, 110, 100]⟩))
 exact Rf fi32_1 rfl (Rl 0 h rfl (ty9.ldS rfl) (Rg 4 rfl (Rz h fun h => an6 rfl rfl rfl rfl rfl h)))
 exact Rg 6 rfl (Rz h fun h => an6 rfl rfl rfl rfl rfl h)
 exact Rg 11 rfl (Rz h fun h => an6 rfl rfl rfl rfl rfl h)
 exact Rg 17 rfl (Rz h fun h => an6 rfl rfl rfl rfl rfl h)
 refine Ct rfl (Cw.regionK h fun _ _ h => Rg 3 rfl ?_)
 cases q13 : ((((e.kids.length : Nat) : Int) : Int) == 1)
 exact Rg 6 rfl (Rz h fun h => an6 rfl rfl rfl rfl rfl h)
 exact Rc (row := [_]) rfl ty97 rfl (Rf fi32_1 rfl (Rl 0 h rfl (ty9.ldS rfl) (Rs rfl (fun _ => op_call (d := dB (m134 unariesB e.op)) rfl rfl c134 rfl (He i134 (unariesB, e.op) ⟨(lit_ok (by kernel_rfl) (by kernel_rfl)), (Exr.ok_op h_e)⟩ rfl)) (Rg 2 rfl (Rz h fun h => an6 rfl rfl rfl rfl rfl h)))))
 refine Ct rfl ?_
 refine Cw.seq (Cw.regionD h fun _ _ h => ?_)
 refine Rg 3 rfl ?_
 cases q14 : ((((e.kids.length : Nat) : Int) : Int) == 0)
 refine Rg 26 rfl (Rz h fun h => ?_)
 refine ⟨by kernel_rfl, ?_⟩
 exact Cr (And.intro rfl (Exists.intro _ (an4 rfl rfl (Wkr.okset_left h_w) (h.dropBox (List.Sublist.cons _ (List.Sublist.refl _))))))
 refine Rf fi32_1 rfl (Rl 0 h rfl (ty9.ldS rfl) (Rg 3 rfl ?_))
 cases q15 : (ByteArray.toList e.op == ByteArray.toList (⟨#[]⟩))
 refine Rg 21 rfl (Rz h fun h => ?_)
 refine ⟨by kernel_rfl, ?_⟩
 exact Cr (And.intro rfl (Exists.intro _ (an4 rfl rfl (Wkr.okset_left h_w) (h.dropBox (List.Sublist.cons _ (List.Sublist.refl _))))))
 refine Rf fi32_2 rfl (Rl 0 h rfl (ty3.ldS rfl) (Rg 3 rfl ?_))
 cases q16 : decide ((e.column : Int) ≥ 0)
 refine Rg 16 rfl (Rz h fun h => ?_)
 refine ⟨by kernel_rfl, ?_⟩
 exact Cr (And.intro rfl (Exists.intro _ (an4 rfl rfl (Wkr.okset_left h_w) (h.dropBox (List.Sublist.cons _ (List.Sublist.refl _))))))
 refine Rf fi32_2 rfl (Rl 0 h rfl (ty3.ldS rfl) (Rs rfl (fun _ => op_move (d := D.ptr b_w 0) rfl) (Rs rfl (fun _ => op_nilCheck_p rfl) (Rf fi122_0 rfl (Rf fi39_1 rfl (Rl 1 h rfl (ty35.ldS rfl) (Re Tryz.underlying35 rfl (Rg 3 rfl ?_))))))))
 cases q17 : decide ((e.column : Int) < ((((({ w with left := (IntKind.i64.wrap (w.left - 1)) }).t).columns).length : Nat) : Int))
 refine Rg 5 rfl (Rz h fun h => ?_)
 refine ⟨by kernel_rfl, ?_⟩
 exact Cr (And.intro rfl (Exists.intro _ (an4 rfl rfl (Wkr.okset_left h_w) (h.dropBox (List.Sublist.cons _ (List.Sublist.refl _))))))
 refine Rf fi32_3 rfl (Rw.ld (k := 0) (d := dR Val.enc e.value) h rfl rfl rfl rfl rfl (ty29.ldA rfl rfl) rfl (Rs rfl (fun _ => op_call (d := dB (m133 e.value)) rfl rfl c133 rfl (He i133 e.value (Exr.ok_value h_e) rfl)) (Rg 2 rfl (Rz h fun h => ?_))))
 refine ⟨by kernel_rfl, ?_⟩
 exact Cr (And.intro rfl (Exists.intro _ (an4 rfl rfl (Wkr.okset_left h_w) (h.dropBox (List.Sublist.cons _ (List.Sublist.refl _))))))
 refine Ct rfl (Ck h fun _ _ h => Rg 3 rfl ?_)
 cases q18 : ((((e.kids.length : Nat) : Int) : Int) == 0)
 exact Rg 16 rfl (Rz h fun h => Cr (And.intro rfl (Exists.intro _ (an4 rfl rfl (Wkr.okset_left h_w) (h.dropBox (List.Sublist.cons _ (List.Sublist.refl _)))))))
 refine Rf fi32_1 rfl (Rl 0 h rfl (ty9.ldS rfl) (Rg 3 rfl ?_))
 cases q19 : (ByteArray.toList e.op == ByteArray.toList (⟨#[]⟩))
 exact Rg 11 rfl (Rz h fun h => Cr (And.intro rfl (Exists.intro _ (an4 rfl rfl (Wkr.okset_left h_w) (h.dropBox (List.Sublist.cons _ (List.Sublist.refl _)))))))
 refine Rf fi32_2 rfl (Rl 0 h rfl (ty3.ldS rfl) (Rg 3 rfl ?_))
 cases q20 : ((e.column : Int) == 0)
 exact Rg 6 rfl (Rz h fun h => Cr (And.intro rfl (Exists.intro _ (an4 rfl rfl (Wkr.okset_left h_w) (h.dropBox (List.Sublist.cons _ (List.Sublist.refl _)))))))
 exact Rf fi32_3 rfl (Rw.ld (k := 0) (d := dR Val.enc e.value) h rfl rfl rfl rfl rfl (ty29.ldA rfl rfl) rfl (Rs rfl (fun _ => op_call (d := dI (m73 e.value)) rfl rfl c73 rfl (He i73 e.value (Exr.ok_value h_e) rfl)) (Rg 3 rfl (Rz h fun h => Cr (And.intro rfl (Exists.intro _ (an4 rfl rfl (Wkr.okset_left h_w) (h.dropBox (List.Sublist.cons _ (List.Sublist.refl _))))))))))
 intro oY gY sY hh
 generalize hzF1 : m81_b_1 rec w e deep = zZ at hh ⊢
 rcases zZ with v1_8 | rZ
 dsimp only
 obtain ⟨rfl, e0, e2, e4, e8, h⟩ := hh
 rw [pin e0, pin e2, pin e4, pin e8]
 refine Cs (Ck h fun _ _ h => Rg 3 rfl ?_)
 cases q21 : (!v1_8)
 refine Rf fi32_2 rfl (Rl 0 h rfl (ty3.ldS rfl) (Rg 3 rfl ?_))
 cases q22 : ((e.column : Int) != 0)
 refine Rf fi32_3 rfl (Rw.ld (k := 0) (d := dR Val.enc e.value) h rfl rfl rfl rfl rfl (ty29.ldA rfl rfl) rfl (Rs rfl (fun _ => op_call (d := dB (m133 e.value)) rfl rfl c133 rfl (He i133 e.value (Exr.ok_value h_e) rfl)) (Rg 2 rfl (Rz h fun h => ?_))))
 cases q23 : (!(m133 e.value))
 refine Cf rfl (Ci (Cs (Ck h fun _ _ h => Rf fi32_4 rfl (Rl 0 h rfl (ty30.ldS rfl) (Re Tryz.underlying30 rfl (Rg 1 rfl (Rz h fun h => Cb ?_)))))))
 have hl1 : ∀ (rem1 i1 : Nat) (w1_b_w : Wkr) (fr : Nat → D) (σ : St), i1 + rem1 = e.kids.length → Wkr.ok w1_b_w → fr 0 = D.ptr b_w 0 → fr 2 = dI deep → fr 141 = dL Exr.enc e.kids → fr 142 = dN e.kids.length → fr 143 = dN i1 → Ko lo σ ((b1, (dC Exr.row e)) :: (b_w, (dC Wkr.enc w1_b_w)) :: bs) (acs) → Cw (EE S) cm81_b_l1 154 fr σ (fun oX gX sX => match m81_b_l1 rec w e deep v1_8 rem1 i1 w1_b_w with | .on w1_b_w => oX = some (some 1) ∧ Wkr.ok w1_b_w ∧ Ko lo sX ((b1, (dC Exr.row e)) :: (b_w, (dC Wkr.enc w1_b_w)) :: bs) (acs) | .out r => Ou S Tryz.f81 (fun d s => d = dB r.1 ∧ Wkr.ok r.2 ∧ Ko lo s ((b_w, (dC Wkr.enc r.2)) :: bs) acs) oX gX sX) := by
  intro rem1
  induction rem1
  intro i1 w1_b_w  fr σ hi ow1_b_w e0 e2 e141 e142 e143 h
  have hlt1 : decide ((((i1 : Nat) : Int) : Int) < ((e.kids.length : Nat) : Int)) = false := decF (by omega)
  rw [pin e0, pin e2, pin e141, pin e142, pin e143]
  rw [m81_b_l1]
  exact Co (Ck h fun _ _ h => Rs rfl (fun _ => op_lss_int rfl rfl hlt1) (Rz h fun h => Cs (Cf rfl (Cw.exit (an3 rfl ow1_b_w h)))))
  rename_i rem1 ih
  intro i1 w1_b_w  fr σ hi ow1_b_w e0 e2 e141 e142 e143 h
  have hlt1 : decide ((((i1 : Nat) : Int) : Int) < ((e.kids.length : Nat) : Int)) = true := decT (by omega)
  have hil1 : i1 < e.kids.length := by omega
  have hbq1 := okL_len (Exr.ok_kids h_e)
  rw [pin e0, pin e2, pin e141, pin e142, pin e143]
  rw [m81_b_l1]
  refine Co (Ck h fun _ _ h => Rs rfl (fun _ => op_lss_int rfl rfl hlt1) (Rz h fun h => Cs (Ct rfl (Ci (Cs (Cb (Ck h fun _ _ h => Rs rfl (fun _ => op_ix (n := i1) rfl rfl rfl Tryz.underlying30 ty32.hn (at_Exr hil1) rfl) (Rs rfl (fun _ => op_ldC (d := dR Exr.row (e.kids.getD i1 default)) rfl (at_Exr hil1) (ty32.lcA rfl rfl)) (Rw.al (z := zc32) h (Nat.le_add_right _ 2) rfl rfl rfl (z32 (S := S)) rfl fun b2 _ h => Rw.st (k := 0) (cs' := (dC Exr.row (e.kids.getD i1 default))) h (Nat.le_add_right _ 0) rfl rfl rfl rfl rfl ty32.hn rfl rfl rfl fun _ h => Rw.nilK h (Nat.add_le_add_left (by decide : 4 ≤ 4) _) fun h => Ck h fun _ _ h => Rs rfl (fun _ => op_move (d := D.ptr b_w 0) rfl) (Rw.ld (k := 0) (d := dR Exr.row (e.kids.getD i1 default)) h rfl rfl rfl rfl rfl (ty32.ldA rfl rfl) rfl (Rg 1 rfl (Rs rfl (fun _ => op_add_int rfl rfl rfl) ?_))))))))))))
  obtain ⟨dX, sX, hev, rfl, ho2, hKX⟩ := ihR w1_b_w (e.kids.getD i1 default) (IntKind.i64.wrap (deep + 1)) ow1_b_w (okL_get (Exr.ok_kids h_e) Exr.zok i1) (Exr.depth_kid hil1) _ _ _ (Kn.perm (h.ko (Nat.add_le_add_left (by decide : 0 ≤ 6) _)) (List.perm_middle (l₁ := [(b2, (dC Exr.row (e.kids.getD i1 default))), (b1, (dC Exr.row e))])))
  refine Rw.on (first := []) (cap := []) rfl rfl rfl rfl rfl n81 rfl rfl hev rfl ?_
  replace h := h.back (Kn.perm hKX (List.perm_middle (l₁ := [(b2, (dC Exr.row (e.kids.getD i1 default))), (b1, (dC Exr.row e))])).symm) rfl
  refine Rg 1 rfl (Rw.nilK h (Nat.add_le_add_left (by decide : 1 ≤ 6) _) fun h => ?_)
  cases q24 : (!(rec w1_b_w (e.kids.getD i1 default) (IntKind.i64.wrap (deep + 1))).1)
  exact Cf rfl (Ci (Cw.regionK h fun _ _ h => Rs rfl (fun _ => op_add_int (v := ((i1 + 1 : Nat) : Int)) rfl rfl (wrap_one (by omega))) (Rg 1 rfl (Rz h fun h => ih (i1 + 1) ((rec w1_b_w (e.kids.getD i1 default) (IntKind.i64.wrap (deep + 1))).2)  _ _ (by omega) ho2 rfl rfl rfl rfl rfl (h.dropBox (List.Sublist.cons _ (List.Sublist.refl _)))))))
  exact Ct rfl (Ck h fun _ _ h => Rg 1 rfl (Rz h fun h => Cr (And.intro rfl (Exists.intro _ (an4 rfl rfl ho2 (h.dropBox (List.Sublist.cons _ (List.Sublist.cons _ (List.Sublist.refl _)))))))))
 refine Cw.mono (hl1 e.kids.length 0 ({ w with left := (IntKind.i64.wrap (w.left - 1)) })  _ _ (by omega) (Wkr.okset_left h_w) rfl rfl rfl rfl rfl h) ?_
 intro oY gY sY hh
 generalize hzL1 : m81_b_l1 rec w e deep v1_8 e.kids.length 0 ({ w with left := (IntKind.i64.wrap (w.left - 1)) }) = zZ at hh ⊢
 rcases zZ with w1_b_w | rZ
 dsimp only
 obtain ⟨rfl, ow1_b_w, h⟩ := hh
 have hbd1 := okL_len (Exr.ok_kids h_e)
 exact Ck h fun _ _ h => Rg 1 rfl (Rz h fun h => Cr ⟨.inr rfl, _, rfl, rfl, ow1_b_w, (h.dropBox (List.Sublist.cons _ (List.Sublist.refl _)))⟩)
 obtain ⟨rfl, w⟩ := hh
 exact ⟨.inr rfl, w⟩
 exact Ct rfl (Ck h fun _ _ h => Rg 1 rfl (Rz h fun h => Cr ⟨.inr rfl, _, rfl, rfl, (Wkr.okset_left h_w), (h.dropBox (List.Sublist.cons _ (List.Sublist.refl _)))⟩))
 exact Rg 5 rfl (Rz h fun h => Ct rfl (Ck h fun _ _ h => Rg 1 rfl (Rz h fun h => Cr ⟨.inr rfl, _, rfl, rfl, (Wkr.okset_left h_w), (h.dropBox (List.Sublist.cons _ (List.Sublist.refl _)))⟩)))
 exact Rg 10 rfl (Rz h fun h => Ct rfl (Ck h fun _ _ h => Rg 1 rfl (Rz h fun h => Cr ⟨.inr rfl, _, rfl, rfl, (Wkr.okset_left h_w), (h.dropBox (List.Sublist.cons _ (List.Sublist.refl _)))⟩)))
 obtain ⟨rfl, w⟩ := hh
 exact ⟨.inr rfl, w⟩
 exact Ct rfl (Ck h fun _ _ h => Rg 1 rfl (Rz h fun h => Cr ⟨.inr rfl, _, rfl, rfl, (Wkr.okset_left h_w), (h.dropBox (List.Sublist.cons _ (List.Sublist.refl _)))⟩))
 exact Rg 3 rfl (Rz h fun h => Ct rfl (Ck h fun _ _ h => Rg 1 rfl (Rz h fun h => Cr ⟨.inr rfl, _, rfl, rfl, (Wkr.okset_left h_w), (h.dropBox (List.Sublist.cons _ (List.Sublist.refl _)))⟩)))
def m81 : Nat → Wkr → Exr → Int → (Bool × Wkr)
 | 0, _, _, _ => default
 | nZ + 1, w, e, deep => m81_b (m81 nZ) w e deep
theorem m81_all  (c73 : S 73 = some H73) (c133 : S 133 = some H133) (c134 : S 134 = some H134) (n81 : S 81 = none) {acs : List (D × List (List C) × Nat)} (b_w : Nat) : ∀ (nZ : Nat) (w : Wkr) (e : Exr) (deep : Int) (h_w : Wkr.ok w) (h_e : Exr.ok e), e.depth < nZ → ∀ (lo : Nat) (σ : St) (bs : List (Nat × List D)), Ko lo σ ((b_w, (dC Wkr.enc w)) :: bs) acs → ∃ d σ', Ev (EE S) 81 [D.ptr b_w 0, dR Exr.row e, dI deep] σ d σ' ∧ d = dB ((m81 nZ w e deep).1) ∧ Wkr.ok (m81 nZ w e deep).2 ∧ Ko lo σ' ((b_w, (dC Wkr.enc ((m81 nZ w e deep).2))) :: bs) acs
 | 0, w, e, deep, _, _, hd => absurd hd (by omega)
 | nZ + 1, w, e, deep, h_w, h_e, hd => fun lo σ bs hK => m81_b_ev c73 c133 c134 n81 (m81 nZ) w e deep h_w b_w h_e (fun y0 y1 y2 g0 g1 hd' => m81_all c73 c133 c134 n81 b_w nZ y0 y1 y2 g0 g1 (by omega)) hK
def m81r (w : Wkr) (e : Exr) (deep : Int) : (Bool × Wkr) := m81 (e.depth + 1) w e deep
theorem m81r_ev  (c73 : S 73 = some H73) (c133 : S 133 = some H133) (c134 : S 134 = some H134) (n81 : S 81 = none) {acs : List (D × List (List C) × Nat)} (b_w : Nat) (w : Wkr) (e : Exr) (deep : Int) (h_w : Wkr.ok w) (h_e : Exr.ok e) : ∀ (lo : Nat) (σ : St) (bs : List (Nat × List D)), Ko lo σ ((b_w, (dC Wkr.enc w)) :: bs) acs → ∃ d σ', Ev (EE S) 81 [D.ptr b_w 0, dR Exr.row e, dI deep] σ d σ' ∧ d = dB ((m81r w e deep).1) ∧ Wkr.ok (m81r w e deep).2 ∧ Ko lo σ' ((b_w, (dC Wkr.enc ((m81r w e deep).2))) :: bs) acs := m81_all c73 c133 c134 n81 b_w _ w e deep h_w h_e (Nat.lt_succ_self _)
def m135 (x : Int) (k : (List Int)) : Bool := (!(m136 (k.getD 0 default) x))
theorem m135_ev  (c136 : S 136 = some H136) {lo : Nat} {σ : St} {bs : List (Nat × List D)} {acs : List (D × List (List C) × Nat)} (x : Int) (k : (List Int))  (h_k : (okL okI) k) (h_n : 0 < k.length) (d_k : D) (r_k : rowsOf d_k = some (k.map encI)) (b_k kb_k : Nat) (hb_k : bs[kb_k]? = some (b_k, [d_k])) (h : Ko lo σ bs acs) : ∃ d σ', Ev (EE S) 135 [dI x, D.ptr b_k 0] σ d σ' ∧ d = dB (m135 x k) ∧ Ko lo σ' bs acs := by
 unfold m135
 exact Ev.wp (E := EE S) (fn := Tryz.f135) (nt := 10) Tryz.func135 rfl rfl (Ck h fun _ _ h => Rg 1 rfl (Rz h fun h => Ck h fun _ _ h => Rw.ld (k := kb_k) (d := d_k) h rfl rfl rfl rfl hb_k (ty23.ldS rfl) rfl (Rs rfl (fun _ => op_ix (n := 0) rfl rfl r_k Tryz.underlying23 ty3.hn (at_map h_n) rfl) (Rc (at_map h_n) ty3 rfl (Rg 1 rfl (Rs rfl (fun _ => op_call (d := dB (m136 (k.getD 0 default) x)) rfl rfl c136 rfl (He i136 ((k.getD 0 default), x) trivial rfl)) (Rg 2 rfl (Rz h fun h => Cr ⟨.inr rfl, _, rfl, rfl, h⟩))))))))
noncomputable def cm82_b_l1 : Code := (cl (cr (cl (cr (cr (bodyOf Tryz.f82))))))
def m82_b_l1 (rec : Tbl → Exr → (Int × Bool)) (t : Tbl) (e : Exr) : Nat → Nat → (List Int) → Lo (List Int) (Int × Bool)
 | 0, _, yl1_a1 => .on yl1_a1
 | rem1 + 1, i1, yl1_a1 => (bif (!(rec t (e.kids.getD i1 default)).2) then .out (0, false) else m82_b_l1 rec t e rem1 (i1 + 1) (yl1_a1 ++ ([((rec t (e.kids.getD i1 default)).1)])))
def m82_b_1 (rec : Tbl → Exr → (Int × Bool)) (t : Tbl) (e : Exr) (yl1_a1 : (List Int)) : Lo Bool (Int × Bool) := (bif (ByteArray.toList e.op == ByteArray.toList (⟨#[45]⟩)) then .on ((((yl1_a1.length : Nat) : Int) : Int) == 1) else .on false)
def m82_b (rec : Tbl → Exr → (Int × Bool)) (t : Tbl) (e : Exr) : (Int × Bool) := (match m82_b_l1 rec t e e.kids.length 0 ([]) with | .out r => r | .on yl1_a1 => (bif ((e.kind : Int) == 1) then (e.value.kind, true) else (bif ((e.kind : Int) == 2) then (((t.columns.getD e.column.toNat default).kind), true) else (bif ((e.kind : Int) == 5) then (1, (!(m32 (yl1_a1.drop 1) (fun x => m135 x yl1_a1)))) else (match m82_b_1 rec t e yl1_a1 with | .out r => r | .on v1_58 => (bif v1_58 then (bif (m137 (yl1_a1.getD 0 default)) then ((yl1_a1.getD 0 default), true) else ((yl1_a1.getD 0 default), ((yl1_a1.getD 0 default : Int) == 0))) else (bif (ByteArray.toList e.op == ByteArray.toList (⟨#[110, 111, 116]⟩)) then (1, (m138 (yl1_a1.getD 0 default))) else (bif ((e.kind : Int) == 3) then (1, true) else (bif (m134 comparisonsB e.op) then (1, (m136 (yl1_a1.getD 0 default) (yl1_a1.getD 1 default))) else (bif (ByteArray.toList e.op == ByteArray.toList (⟨#[97, 110, 100]⟩)) then (bif (m138 (yl1_a1.getD 0 default)) then (1, (m138 (yl1_a1.getD 1 default))) else (1, false)) else (bif (ByteArray.toList e.op == ByteArray.toList (⟨#[111, 114]⟩)) then (bif (m138 (yl1_a1.getD 0 default)) then (1, (m138 (yl1_a1.getD 1 default))) else (1, false)) else (((m139 e.op (yl1_a1.getD 0 default) (yl1_a1.getD 1 default)).1), ((m139 e.op (yl1_a1.getD 0 default) (yl1_a1.getD 1 default)).2)))))))))))))
set_option maxRecDepth 100000 in
theorem m82_b_ev  (c134 : S 134 = some H134) (c136 : S 136 = some H136) (c137 : S 137 = some H137) (c138 : S 138 = some H138) (c139 : S 139 = some H139) (n32 : S 32 = none) (n74 : S 74 = none) (n82 : S 82 = none) (n135 : S 135 = none) (rec : Tbl → Exr → (Int × Bool)) (t : Tbl) (e : Exr)  (h_t : Tbl.ok t) (h_e : Exr.ok e) (h_f : Fits t.columns.length e) (ihR : ∀ (y0 : Tbl) (y1 : Exr), Tbl.ok y0 → Exr.ok y1 → Fits y0.columns.length y1 → y1.depth < e.depth → ∃ d σ', Ev (EE S) 82 [dR Tbl.enc y0, dR Exr.row y1] St.empty d σ' ∧ plain d = true ∧ strip d = D.tup [dI ((rec y0 y1).1), dB ((rec y0 y1).2)]) : ∃ d σ', Ev (EE S) 82 [dR Tbl.enc t, dR Exr.row e] St.empty d σ' ∧ plain d = true ∧ strip d = D.tup [dI ((m82_b rec t e).1), dB ((m82_b rec t e).2)] := by
 unfold m82_b
 have h : Ko 0 St.empty [] [] := Ko.empty
 refine Ev.wp (E := EE S) (fn := Tryz.f82) (nt := 134) Tryz.func82 rfl rfl (Ck h fun _ _ h => Rw.bx (d := dR Tbl.enc t) h (Nat.le_add_right _ 0) rfl rfl rfl rfl rfl rfl fun b1 _ h => Rw.bx (d := dR Exr.row e) h (Nat.le_add_right _ 0) rfl rfl rfl rfl rfl rfl fun b2 _ h => Rg 2 rfl (Rw.nilK h (Nat.add_le_add_left (by decide : 2 ≤ 4) _) fun h => Ck h fun _ _ h => Rw.al (z := zc23) h (Nat.le_add_right _ 0) rfl rfl rfl (z23 (S := S)) rfl fun b3 _ h => ?_))
 replace h := h.newAc (([] : (List Int)).map encI) 1
 refine Rw.nilK h (Nat.add_le_add_left (by decide : 1 ≤ 1) _) fun h => Cs (Ck h fun _ _ h => Rf fi32_4 rfl (Rl 1 h rfl (ty30.ldS rfl) (Re Tryz.underlying30 rfl (Rg 1 rfl (Rz h fun h => Cb ?_)))))
 have hl1 : ∀ (rem1 i1 : Nat) (yl1_a1 : (List Int)) (el1_a1 : D) (fr : Nat → D) (σ : St), i1 + rem1 = e.kids.length → yl1_a1.length = i1 → fr 2 = D.ptr b1 0 → fr 3 = D.ptr b2 0 → fr 6 = D.ptr b3 0 → fr 12 = dL Exr.enc e.kids → fr 13 = dN e.kids.length → fr 14 = dN i1 → Ko 0 σ [(b3, [el1_a1]), (b2, (dC Exr.row e)), (b1, (dC Tbl.enc t))] [(el1_a1, (yl1_a1).map encI, 1)] → Cw (EE S) cm82_b_l1 134 fr σ (fun oX gX sX => match m82_b_l1 rec t e rem1 i1 yl1_a1 with | .on yl1_a1 => ∃ el1_a1, oX = some (some 0) ∧ yl1_a1.length = e.kids.length ∧ gX 2 = D.ptr b1 0 ∧ gX 3 = D.ptr b2 0 ∧ gX 6 = D.ptr b3 0 ∧ Ko 0 sX [(b3, [el1_a1]), (b2, (dC Exr.row e)), (b1, (dC Tbl.enc t))] [(el1_a1, (yl1_a1).map encI, 1)] | .out r => Ou S Tryz.f82 (fun d _ => plain d = true ∧ strip d = D.tup [dI r.1, dB r.2]) oX gX sX) := by
  intro rem1
  induction rem1
  intro i1 yl1_a1 el1_a1 fr σ hi nyl1_a1 e2 e3 e6 e12 e13 e14 h
  have hlt1 : decide ((((i1 : Nat) : Int) : Int) < ((e.kids.length : Nat) : Int)) = false := decF (by omega)
  rw [pin e2, pin e3, pin e6, pin e12, pin e13, pin e14]
  rw [m82_b_l1]
  exact Co (Ck h fun _ _ h => Rs rfl (fun _ => op_lss_int rfl rfl hlt1) (Rz h fun h => Cs (Cf rfl (Cw.exit (Exists.intro el1_a1 (an6 rfl (by omega) rfl rfl rfl h))))))
  rename_i rem1 ih
  intro i1 yl1_a1 el1_a1 fr σ hi nyl1_a1 e2 e3 e6 e12 e13 e14 h
  have hlt1 : decide ((((i1 : Nat) : Int) : Int) < ((e.kids.length : Nat) : Int)) = true := decT (by omega)
  have hil1 : i1 < e.kids.length := by omega
  have hbq1 := okL_len (Exr.ok_kids h_e)
  rw [pin e2, pin e3, pin e6, pin e12, pin e13, pin e14]
  rw [m82_b_l1]
  refine Co (Ck h fun _ _ h => Rs rfl (fun _ => op_lss_int rfl rfl hlt1) (Rz h fun h => Cs (Ct rfl (Ci (Cs (Cb (Ck h fun _ _ h => Rs rfl (fun _ => op_ix (n := i1) rfl rfl rfl Tryz.underlying30 ty32.hn (at_Exr hil1) rfl) (Rs rfl (fun _ => op_ldC (d := dR Exr.row (e.kids.getD i1 default)) rfl (at_Exr hil1) (ty32.lcA rfl rfl)) (Rw.al (z := zc32) h (Nat.le_add_right _ 2) rfl rfl rfl (z32 (S := S)) rfl fun b4 _ h => Rw.st (k := 0) (cs' := (dC Exr.row (e.kids.getD i1 default))) h (Nat.le_add_right _ 0) rfl rfl rfl rfl rfl ty32.hn rfl rfl rfl fun _ h => Rw.nilK h (Nat.add_le_add_left (by decide : 4 ≤ 4) _) fun h => Ck h fun _ _ h => Rw.ld (k := 3) (d := dR Tbl.enc t) h rfl rfl rfl rfl rfl (ty39.ldA rfl rfl) rfl (Rw.ld (k := 0) (d := dR Exr.row (e.kids.getD i1 default)) h rfl rfl rfl rfl rfl (ty32.ldA rfl rfl) rfl ?_))))))))))
  obtain ⟨dX, sX, hev, hpl, hst⟩ := ihR t (e.kids.getD i1 default) h_t (okL_get (Exr.ok_kids h_e) Exr.zok i1) (h_f.kid hil1) (Exr.depth_kid hil1)
  refine Rw.ev (das := [dR Tbl.enc t, dR Exr.row (e.kids.getD i1 default)]) rfl rfl rfl rfl rfl n82 rfl rfl rfl hev hpl rfl ?_
  rw [show strip dX = D.tup [dI ((rec t (e.kids.getD i1 default)).1), dB ((rec t (e.kids.getD i1 default)).2)] from hst]
  refine Rs rfl (fun _ => op_move (d := D.tup [dI ((rec t (e.kids.getD i1 default)).1), dB ((rec t (e.kids.getD i1 default)).2)]) rfl) (Rs rfl (fun _ => op_extract rfl rfl) (Rs rfl (fun _ => op_extract rfl rfl) (Rg 2 rfl (Rz h fun h => Cs (Ck h fun _ _ h => Rg 2 rfl (Rz h fun h => ?_))))))
  cases q1 : (!(rec t (e.kids.getD i1 default)).2)
  refine Cf rfl (Ci (Cw.regionK h fun _ _ h => Rw.ld (k := 1) (d := el1_a1) h rfl rfl rfl rfl rfl (ty23.ldS rfl) rfl (Rg 1 rfl (Rs rfl (fun _ => op_bs (xs := ([((rec t (e.kids.getD i1 default)).1)] : List Int).map encI) Tryz.underlying23 ty3.hn (z3 (S := S)) rfl rfl rfl rfl rfl) (Rw.ap (j := 0) (ys := ([((rec t (e.kids.getD i1 default)).1)]).map encI) h (Nat.le_add_right _ 3) rfl rfl rfl rfl rfl rfl rfl rfl (room_mk Tryz.underlying23 (if3 (S := S)) (z3 (S := S)) rfl rfl rfl rfl (by simp only [List.length_map, List.length_cons, List.length_nil]; omega)) (heads_map _ (fun _ => rfl)) rfl fun d1 _ h => ?_)))))
  simp only [List.set_cons_zero, ← List.map_append] at h
  exact Rw.stA (k := 1) (j := 0) (cs' := [d1]) h (Nat.le_add_right _ 0) rfl rfl rfl rfl rfl ty23.hn rfl rfl rfl fun _ h => Rw.nilK h (Nat.add_le_add_left (by decide : 5 ≤ 5) _) fun h => Cw.regionK h fun _ _ h => Rs rfl (fun _ => op_add_int (v := ((i1 + 1 : Nat) : Int)) rfl rfl (wrap_one (by omega))) (Rg 1 rfl (Rz h fun h => ih (i1 + 1) (yl1_a1 ++ ([((rec t (e.kids.getD i1 default)).1)])) _ _ _ (by omega) (by simp only [List.length_append, List.length_cons, List.length_nil]; omega) rfl rfl rfl rfl rfl rfl (h.dropBox (List.Sublist.cons _ (List.Sublist.refl _)))))
  exact Ct rfl (Ck h fun _ _ h => Rg 2 rfl (Rz h fun h => Cr (And.intro rfl (Exists.intro _ (an3 rfl rfl rfl)))))
 refine Cw.mono (hl1 e.kids.length 0 ([]) _ _ _ (by omega) (by simp) rfl rfl rfl rfl rfl rfl h) ?_
 intro oY gY sY hh
 generalize hzL1 : m82_b_l1 rec t e e.kids.length 0 ([]) = zZ at hh ⊢
 rcases zZ with yl1_a1 | rZ
 dsimp only
 obtain ⟨el1_a1, rfl, nyl1_a1, e2, e3, e6, h⟩ := hh
 rw [pin e2, pin e3, pin e6]
 have hbd1 := okL_len (Exr.ok_kids h_e)
 refine Cs (Cb (Ck h fun _ _ h => Rf fi32_0 rfl (Rl 1 h rfl (ty3.ldS rfl) (Rg 2 rfl (Rz h fun h => ?_)))))
 cases q2 : ((e.kind : Int) == 1)
 have p2 := ne_of_beqF q2
 refine Cf rfl (Ck h fun _ _ h => Rf fi32_0 rfl (Rl 1 h rfl (ty3.ldS rfl) (Rg 2 rfl (Rz h fun h => ?_))))
 cases q3 : ((e.kind : Int) == 2)
 have p3 := ne_of_beqF q3
 refine Cf rfl (Ck h fun _ _ h => Rf fi32_0 rfl (Rl 1 h rfl (ty3.ldS rfl) (Rg 2 rfl (Rz h fun h => ?_))))
 cases q4 : ((e.kind : Int) == 5)
 have p4 := ne_of_beqF q4
 refine Cf rfl ?_
 refine Cw.seq (Cw.mono (Q := fun oX gX sX => match m82_b_1 rec t e yl1_a1 with | .on v1_58 => oX = none ∧ gX 3 = D.ptr b2 0 ∧ gX 6 = D.ptr b3 0 ∧ gX 58 = dB v1_58 ∧ Ko 0 sX [(b3, [el1_a1]), (b2, (dC Exr.row e)), (b1, (dC Tbl.enc t))] [(el1_a1, (yl1_a1).map encI, 1)] | .out r => Ou S Tryz.f82 (fun d _ => plain d = true ∧ strip d = D.tup [dI r.1, dB r.2]) oX gX sX) ?_ ?_)
 unfold m82_b_1
 refine Cw.regionK h fun _ _ h => Rf fi32_1 rfl (Rl 1 h rfl (ty9.ldS rfl) (Rg 2 rfl ?_))
 cases q5 : (ByteArray.toList e.op == ByteArray.toList (⟨#[45]⟩))
 exact Rg 5 rfl (Rz h fun h => an5 rfl rfl rfl rfl h)
 exact Rw.ld (k := 0) (d := el1_a1) h rfl rfl rfl rfl rfl (ty23.ldS rfl) rfl (Rs rfl (fun _ => op_lenN (n := yl1_a1.length) rfl Tryz.underlying23 (h.ac _ (List.mem_of_getElem? (i := 0) rfl)).rows (List.length_map ..)) (Rg 3 rfl (Rz h fun h => an5 rfl rfl rfl rfl h)))
 intro oY gY sY hh
 generalize hzF1 : m82_b_1 rec t e yl1_a1 = zZ at hh ⊢
 rcases zZ with v1_58 | rZ
 dsimp only
 obtain ⟨rfl, e3, e6, e58, h⟩ := hh
 rw [pin e3, pin e6, pin e58]
 cases q6 : v1_58
 refine Cf rfl (Ck h fun _ _ h => Rf fi32_1 rfl (Rl 1 h rfl (ty9.ldS rfl) (Rg 2 rfl (Rz h fun h => ?_))))
 cases q7 : (ByteArray.toList e.op == ByteArray.toList (⟨#[110, 111, 116]⟩))
 refine Cf rfl (Ck h fun _ _ h => Rf fi32_0 rfl (Rl 1 h rfl (ty3.ldS rfl) (Rg 2 rfl (Rz h fun h => ?_))))
 cases q8 : ((e.kind : Int) == 3)
 have p8 := ne_of_beqF q8
 refine Cf rfl (Ck h fun _ _ h => Rc (row := [_]) rfl ty97 rfl (Rf fi32_1 rfl (Rl 1 h rfl (ty9.ldS rfl) (Rs rfl (fun _ => op_call (d := dB (m134 comparisonsB e.op)) rfl rfl c134 rfl (He i134 (comparisonsB, e.op) ⟨(lit_ok (by kernel_rfl) (by kernel_rfl)), (Exr.ok_op h_e)⟩ rfl)) (Rg 1 rfl (Rz h fun h => ?_))))))
 cases q9 : (m134 comparisonsB e.op)
 refine Cf rfl (Ck h fun _ _ h => Rf fi32_1 rfl (Rl 1 h rfl (ty9.ldS rfl) (Rg 2 rfl ?_)))
 cases q10 : (ByteArray.toList e.op == ByteArray.toList (⟨#[97, 110, 100]⟩))
 refine Rf fi32_1 rfl (Rl 1 h rfl (ty9.ldS rfl) (Rg 3 rfl (Rz h fun h => ?_)))
 cases q11 : (ByteArray.toList e.op == ByteArray.toList (⟨#[111, 114]⟩))
 refine Cf rfl (Ci ?_)
 refine Cw.seq (Cw.regionD h fun _ _ h => ?_)
 refine Rf fi32_1 rfl (Rl 1 h rfl (ty9.ldS rfl) (Rw.ld (k := 0) (d := el1_a1) h rfl rfl rfl rfl rfl (ty23.ldS rfl) rfl (Rs rfl (fun _ => op_ix (n := 0) rfl rfl (h.ac _ (List.mem_of_getElem? (i := 0) rfl)).rows Tryz.underlying23 ty3.hn (at_map (by have hF := h_f.arity; omega)) rfl) (Rc (at_map (by have hF := h_f.arity; omega)) ty3 rfl (Rw.ld (k := 0) (d := el1_a1) h rfl rfl rfl rfl rfl (ty23.ldS rfl) rfl (Rs rfl (fun _ => op_ix (n := 1) rfl rfl (h.ac _ (List.mem_of_getElem? (i := 0) rfl)).rows Tryz.underlying23 ty3.hn (at_map (by have hF := h_f.arity; omega)) rfl) (Rc (at_map (by have hF := h_f.arity; omega)) ty3 rfl (Rs rfl (fun _ => op_call (d := D.tup [dI ((m139 e.op (yl1_a1.getD 0 default) (yl1_a1.getD 1 default)).1), dB ((m139 e.op (yl1_a1.getD 0 default) (yl1_a1.getD 1 default)).2)]) rfl rfl c139 rfl (He i139 (e.op, (yl1_a1.getD 0 default), (yl1_a1.getD 1 default)) (Exr.ok_op h_e) rfl)) (Rs rfl (fun _ => op_extract rfl rfl) (Rs rfl (fun _ => op_extract rfl rfl) (Rg 2 rfl (Rz h fun h => ?_))))))))))))
 refine ⟨by kernel_rfl, ?_⟩
 exact Cr ⟨.inr rfl, _, rfl, rfl, rfl⟩
 refine Ct rfl (Ck h fun _ _ h => Rw.ld (k := 0) (d := el1_a1) h rfl rfl rfl rfl rfl (ty23.ldS rfl) rfl (Rs rfl (fun _ => op_ix (n := 0) rfl rfl (h.ac _ (List.mem_of_getElem? (i := 0) rfl)).rows Tryz.underlying23 ty3.hn (at_map (by have hF := h_f.arity; omega)) rfl) (Rc (at_map (by have hF := h_f.arity; omega)) ty3 rfl (Rs rfl (fun _ => op_call (d := dB (m138 (yl1_a1.getD 0 default))) rfl rfl c138 rfl (He i138 (yl1_a1.getD 0 default) trivial rfl)) (Rg 1 rfl ?_)))))
 cases q12 : (m138 (yl1_a1.getD 0 default))
 exact Rg 7 rfl (Rz h fun h => Cr ⟨.inr rfl, _, rfl, rfl, rfl⟩)
 exact Rw.ld (k := 0) (d := el1_a1) h rfl rfl rfl rfl rfl (ty23.ldS rfl) rfl (Rs rfl (fun _ => op_ix (n := 1) rfl rfl (h.ac _ (List.mem_of_getElem? (i := 0) rfl)).rows Tryz.underlying23 ty3.hn (at_map (by have hF := h_f.arity; omega)) rfl) (Rc (at_map (by have hF := h_f.arity; omega)) ty3 rfl (Rs rfl (fun _ => op_call (d := dB (m138 (yl1_a1.getD 1 default))) rfl rfl c138 rfl (He i138 (yl1_a1.getD 1 default) trivial rfl)) (Rg 3 rfl (Rz h fun h => Cr ⟨.inr rfl, _, rfl, rfl, rfl⟩)))))
 refine Rg 5 rfl (Rz h fun h => Ct rfl (Ck h fun _ _ h => Rw.ld (k := 0) (d := el1_a1) h rfl rfl rfl rfl rfl (ty23.ldS rfl) rfl (Rs rfl (fun _ => op_ix (n := 0) rfl rfl (h.ac _ (List.mem_of_getElem? (i := 0) rfl)).rows Tryz.underlying23 ty3.hn (at_map (by have hF := h_f.arity; omega)) rfl) (Rc (at_map (by have hF := h_f.arity; omega)) ty3 rfl (Rs rfl (fun _ => op_call (d := dB (m138 (yl1_a1.getD 0 default))) rfl rfl c138 rfl (He i138 (yl1_a1.getD 0 default) trivial rfl)) (Rg 1 rfl ?_))))))
 cases q13 : (m138 (yl1_a1.getD 0 default))
 exact Rg 7 rfl (Rz h fun h => Cr ⟨.inr rfl, _, rfl, rfl, rfl⟩)
 exact Rw.ld (k := 0) (d := el1_a1) h rfl rfl rfl rfl rfl (ty23.ldS rfl) rfl (Rs rfl (fun _ => op_ix (n := 1) rfl rfl (h.ac _ (List.mem_of_getElem? (i := 0) rfl)).rows Tryz.underlying23 ty3.hn (at_map (by have hF := h_f.arity; omega)) rfl) (Rc (at_map (by have hF := h_f.arity; omega)) ty3 rfl (Rs rfl (fun _ => op_call (d := dB (m138 (yl1_a1.getD 1 default))) rfl rfl c138 rfl (He i138 (yl1_a1.getD 1 default) trivial rfl)) (Rg 3 rfl (Rz h fun h => Cr ⟨.inr rfl, _, rfl, rfl, rfl⟩)))))
 refine Ct rfl ?_
 refine Cw.seq (Cw.regionD h fun _ _ h => ?_)
 refine Rw.ld (k := 0) (d := el1_a1) h rfl rfl rfl rfl rfl (ty23.ldS rfl) rfl (Rs rfl (fun _ => op_ix (n := 0) rfl rfl (h.ac _ (List.mem_of_getElem? (i := 0) rfl)).rows Tryz.underlying23 ty3.hn (at_map (by have hF := h_f.arity; omega)) rfl) (Rc (at_map (by have hF := h_f.arity; omega)) ty3 rfl (Rw.ld (k := 0) (d := el1_a1) h rfl rfl rfl rfl rfl (ty23.ldS rfl) rfl (Rs rfl (fun _ => op_ix (n := 1) rfl rfl (h.ac _ (List.mem_of_getElem? (i := 0) rfl)).rows Tryz.underlying23 ty3.hn (at_map (by have hF := h_f.arity; omega)) rfl) (Rc (at_map (by have hF := h_f.arity; omega)) ty3 rfl (Rs rfl (fun _ => op_call (d := dB (m136 (yl1_a1.getD 0 default) (yl1_a1.getD 1 default))) rfl rfl c136 rfl (He i136 ((yl1_a1.getD 0 default), (yl1_a1.getD 1 default)) trivial rfl)) (Rg 2 rfl (Rz h fun h => ?_))))))))
 refine ⟨by kernel_rfl, ?_⟩
 exact Cr ⟨.inr rfl, _, rfl, rfl, rfl⟩
 have p8 := eq_of_beq q8
 exact Ct rfl (Ck h fun _ _ h => Rg 2 rfl (Rz h fun h => Cr ⟨.inr rfl, _, rfl, rfl, rfl⟩))
 exact Ct rfl (Ck h fun _ _ h => Rw.ld (k := 0) (d := el1_a1) h rfl rfl rfl rfl rfl (ty23.ldS rfl) rfl (Rs rfl (fun _ => op_ix (n := 0) rfl rfl (h.ac _ (List.mem_of_getElem? (i := 0) rfl)).rows Tryz.underlying23 ty3.hn (at_map (by have hF := h_f.arity; omega)) rfl) (Rc (at_map (by have hF := h_f.arity; omega)) ty3 rfl (Rs rfl (fun _ => op_call (d := dB (m138 (yl1_a1.getD 0 default))) rfl rfl c138 rfl (He i138 (yl1_a1.getD 0 default) trivial rfl)) (Rg 2 rfl (Rz h fun h => Cr ⟨.inr rfl, _, rfl, rfl, rfl⟩))))))
 refine Ct rfl ?_
 refine Cw.seq (Cw.regionD h fun _ _ h => ?_)
 refine Rw.ld (k := 0) (d := el1_a1) h rfl rfl rfl rfl rfl (ty23.ldS rfl) rfl (Rs rfl (fun _ => op_ix (n := 0) rfl rfl (h.ac _ (List.mem_of_getElem? (i := 0) rfl)).rows Tryz.underlying23 ty3.hn (at_map (by have hF := h_f.arity; omega)) rfl) (Rc (at_map (by have hF := h_f.arity; omega)) ty3 rfl (Rw.ld (k := 0) (d := el1_a1) h rfl rfl rfl rfl rfl (ty23.ldS rfl) rfl (Rs rfl (fun _ => op_ix (n := 0) rfl rfl (h.ac _ (List.mem_of_getElem? (i := 0) rfl)).rows Tryz.underlying23 ty3.hn (at_map (by have hF := h_f.arity; omega)) rfl) (Rc (at_map (by have hF := h_f.arity; omega)) ty3 rfl (Rs rfl (fun _ => op_call (d := dB (m137 (yl1_a1.getD 0 default))) rfl rfl c137 rfl (He i137 (yl1_a1.getD 0 default) trivial rfl)) (Rg 1 rfl ?_)))))))
 cases q14 : (m137 (yl1_a1.getD 0 default))
 refine Rw.ld (k := 0) (d := el1_a1) h rfl rfl rfl rfl rfl (ty23.ldS rfl) rfl (Rs rfl (fun _ => op_ix (n := 0) rfl rfl (h.ac _ (List.mem_of_getElem? (i := 0) rfl)).rows Tryz.underlying23 ty3.hn (at_map (by have hF := h_f.arity; omega)) rfl) (Rc (at_map (by have hF := h_f.arity; omega)) ty3 rfl (Rg 4 rfl (Rz h fun h => ?_))))
 refine ⟨by kernel_rfl, ?_⟩
 exact Cr ⟨.inr rfl, _, rfl, rfl, rfl⟩
 refine Rg 7 rfl (Rz h fun h => ?_)
 refine ⟨by kernel_rfl, ?_⟩
 exact Cr ⟨.inr rfl, _, rfl, rfl, rfl⟩
 obtain ⟨rfl, w⟩ := hh
 exact ⟨.inr rfl, w⟩
 have p4 := eq_of_beq q4
 refine Ct rfl (Ck h fun _ _ h => Rw.ld (k := 0) (d := el1_a1) h rfl rfl rfl rfl rfl (ty23.ldS rfl) rfl (Rs rfl (fun _ => op_slL (l := yl1_a1) (h := 1) rfl rfl Tryz.underlying23 ty3.hn (h.ac _ (List.mem_of_getElem? (i := 0) rfl)).rows (by have hF := h_f.arity; omega) (fun _ => rfl)) (Rs rfl (fun _ => op_fn (a := []) (b := [D.ptr b3 0]) rfl rfl) ?_)))
 obtain ⟨dX, sX, hev, rfl, hKX⟩ := m32_ev n74 (yl1_a1.drop 1) (fun x => m135 x yl1_a1) (okL_drop (okL_triv yl1_a1 (by omega))) (dL encI (yl1_a1.drop 1)) rfl 135 [D.ptr b3 0] (fun x hm hx _ _ h => m135_ev c136 x yl1_a1  (okL_triv yl1_a1 (by omega)) (by have hF := h_f.arity; omega) el1_a1 (h.ac _ (List.mem_of_getElem? (i := 0) rfl)).rows b3 0 rfl h) n135 rfl (fun _ => rfl) rfl (h.ko (Nat.add_le_add_left (by decide : 0 ≤ 7) _))
 refine Rw.on (first := []) (cap := []) (das := [dL encI (yl1_a1.drop 1), D.fn 135 [] [D.ptr b3 0]]) rfl rfl rfl rfl rfl n32 rfl (all2F rfl) hev rfl ?_
 replace h := h.back hKX rfl
 exact Rg 3 rfl (Rw.nilK h (Nat.add_le_add_left (by decide : 1 ≤ 7) _) fun h => Cr ⟨.inr rfl, _, rfl, rfl, rfl⟩)
 have p3 := eq_of_beq q3
 exact Ct rfl (Ck h fun _ _ h => Rf fi39_1 rfl (Rl 2 h rfl (ty35.ldS rfl) (Rf fi32_2 rfl (Rl 1 h rfl (ty3.ldS rfl) (Rs rfl (fun _ => op_ixI rfl rfl rfl Tryz.underlying35 ty65.hn (by have hF := h_f.col; omega) (at_map (by have hF := h_f.col; omega)) rfl) (Rs rfl (fun _ => op_fr fi65_1 rfl rfl) (Rc (at_map (by have hF := h_f.col; omega)) ty3 rfl (Rg 2 rfl (Rz h fun h => Cr ⟨.inr rfl, _, rfl, rfl, rfl⟩)))))))))
 have p2 := eq_of_beq q2
 exact Ct rfl (Ck h fun _ _ h => Rf fi32_3 rfl (Rf fi29_0 rfl (Rl 1 h rfl (ty3.ldS rfl) (Rg 2 rfl (Rz h fun h => Cr ⟨.inr rfl, _, rfl, rfl, rfl⟩)))))
 obtain ⟨rfl, w⟩ := hh
 exact ⟨.inr rfl, w⟩
def m82 : Nat → Tbl → Exr → (Int × Bool)
 | 0, _, _ => default
 | nZ + 1, t, e => m82_b (m82 nZ) t e
theorem m82_all  (c134 : S 134 = some H134) (c136 : S 136 = some H136) (c137 : S 137 = some H137) (c138 : S 138 = some H138) (c139 : S 139 = some H139) (n32 : S 32 = none) (n74 : S 74 = none) (n82 : S 82 = none) (n135 : S 135 = none) : ∀ (nZ : Nat) (t : Tbl) (e : Exr) (h_t : Tbl.ok t) (h_e : Exr.ok e) (h_f : Fits t.columns.length e), e.depth < nZ → ∃ d σ', Ev (EE S) 82 [dR Tbl.enc t, dR Exr.row e] St.empty d σ' ∧ plain d = true ∧ strip d = D.tup [dI ((m82 nZ t e).1), dB ((m82 nZ t e).2)]
 | 0, t, e, _, _, _, hd => absurd hd (by omega)
 | nZ + 1, t, e, h_t, h_e, h_f, hd => m82_b_ev c134 c136 c137 c138 c139 n32 n74 n82 n135 (m82 nZ) t e h_t h_e h_f (fun y0 y1 g0 g1 xh_f hd' => m82_all c134 c136 c137 c138 c139 n32 n74 n82 n135 nZ y0 y1 g0 g1 xh_f (by omega))
def m82r (t : Tbl) (e : Exr) : (Int × Bool) := m82 (e.depth + 1) t e
theorem m82r_ev  (c134 : S 134 = some H134) (c136 : S 136 = some H136) (c137 : S 137 = some H137) (c138 : S 138 = some H138) (c139 : S 139 = some H139) (n32 : S 32 = none) (n74 : S 74 = none) (n82 : S 82 = none) (n135 : S 135 = none) (t : Tbl) (e : Exr) (h_t : Tbl.ok t) (h_e : Exr.ok e) (h_f : Fits t.columns.length e) : ∃ d σ', Ev (EE S) 82 [dR Tbl.enc t, dR Exr.row e] St.empty d σ' ∧ plain d = true ∧ strip d = D.tup [dI ((m82r t e).1), dB ((m82r t e).2)] := m82_all c134 c136 c137 c138 c139 n32 n74 n82 n135 _ t e h_t h_e h_f (Nat.lt_succ_self _)
noncomputable def H82 : List D → R D := mkH (L2 (dR Tbl.enc) (dR Exr.row)) (fun x => Tbl.ok x.1 ∧ Exr.ok x.2 ∧ Fits x.1.columns.length x.2) (fun x => D.tup [dI ((m82r x.1 x.2).1), dB ((m82r x.1 x.2).2)])
theorem i82 : InjE (L2 (dR Tbl.enc) (dR Exr.row)) := j2 (jR Tbl.inj) (jR Exr.rinj)
theorem m81_l1_law {rec : Wkr → Exr → Int → (Bool × Wkr)} {w : Wkr} {e : Exr} {deep : Int} {v : Bool} (ht : ∀ i, i < e.kids.length → ∀ w' d, (rec w' (e.kids.getD i default) d).2.t = w'.t) :
    ∀ (rem i : Nat) (w1 : Wkr), i + rem = e.kids.length → match m81_b_l1 rec w e deep v rem i w1 with
      | .on w2 => w2.t = w1.t ∧ ∀ j, i ≤ j → j < i + rem → ∃ w' d, w'.t = w1.t ∧ (rec w' (e.kids.getD j default) d).1 = true
      | .out r => r.2.t = w1.t ∧ r.1 = false
  | 0, i, w1, hi => by rw [m81_b_l1]; exact ⟨rfl, fun j h1 h2 => by omega⟩
  | rem + 1, i, w1, hi => by
    rw [m81_b_l1]
    have h1 := ht i (by omega) w1 (IntKind.i64.wrap (deep + 1))
    cases q : (!(rec w1 (e.kids.getD i default) (IntKind.i64.wrap (deep + 1))).1) with
    | true => exact ⟨h1, rfl⟩
    | false =>
      have q' := of_notF q
      have ih := m81_l1_law ht (w := w) (deep := deep) (v := v) rem (i + 1) (rec w1 (e.kids.getD i default) (IntKind.i64.wrap (deep + 1))).2 (by omega)
      simp only [cond_false]
      generalize m81_b_l1 rec w e deep v rem (i + 1) (rec w1 (e.kids.getD i default) (IntKind.i64.wrap (deep + 1))).2 = z at ih ⊢
      cases z with
      | out r => exact ⟨ih.1.trans h1, ih.2⟩
      | on w2 =>
        refine ⟨ih.1.trans h1, fun j h3 h4 => ?_⟩
        by_cases hj : j = i
        · subst hj; exact ⟨w1, _, rfl, q'⟩
        · obtain ⟨w', d, e1, e2⟩ := ih.2 j (by omega) (by omega)
          exact ⟨w', d, e1.trans h1, e2⟩
theorem m81_1_out {rec : Wkr → Exr → Int → (Bool × Wkr)} {w : Wkr} {e : Exr} {deep : Int} {r : Bool × Wkr} (h : m81_b_1 rec w e deep = .out r) :
    r.2.t = w.t ∧ ((e.kind = 1 ∧ e.kids.length = 0) ∨ (e.kind = 2 ∧ e.kids.length = 0 ∧ (r.1 = true → 0 ≤ e.column ∧ e.column < (w.t.columns.length : Int))) ∨ r.1 = false) := by
  simp only [m81_b_1, Bool.cond_eq_ite, beq_iff_eq, decide_eq_true_eq] at h
  repeat' split at h
  all_goals first
    | (cases h; refine ⟨rfl, .inr (.inr rfl)⟩; done)
    | (cases h; refine ⟨rfl, .inl ⟨by assumption, by omega⟩⟩; done)
    | (cases h; refine ⟨rfl, .inr (.inl ⟨by assumption, by omega, fun _ => ⟨by omega, by assumption⟩⟩)⟩; done)
    | cases h
theorem m81_1_on {rec : Wkr → Exr → Int → (Bool × Wkr)} {w : Wkr} {e : Exr} {deep : Int} (h : m81_b_1 rec w e deep = .on true) :
    (e.kind = 3 ∧ e.kids.length = 1) ∨ (e.kind = 4 ∧ e.kids.length = 2) ∨ (e.kind = 5 ∧ 2 ≤ e.kids.length) := by
  simp only [m81_b_1, Bool.cond_eq_ite, beq_iff_eq, decide_eq_true_eq] at h
  repeat' split at h
  all_goals first
    | (cases h; done)
    | (refine .inl ⟨by assumption, by omega⟩; done)
    | (refine .inr (.inl ⟨by assumption, by omega⟩); done)
    | (refine .inr (.inr ⟨by assumption, by omega⟩); done)
theorem m81_b_law {rec : Wkr → Exr → Int → (Bool × Wkr)} {w : Wkr} {e : Exr} {deep : Int} (ht : ∀ i, i < e.kids.length → ∀ w' d, (rec w' (e.kids.getD i default) d).2.t = w'.t)
    (hf : ∀ i, i < e.kids.length → ∀ w' d, (rec w' (e.kids.getD i default) d).1 = true → Fits w'.t.columns.length (e.kids.getD i default)) :
    (m81_b rec w e deep).2.t = w.t ∧ ((m81_b rec w e deep).1 = true → Fits w.t.columns.length e) := by
  unfold m81_b
  cases q1 : decide ((({ w with left := (IntKind.i64.wrap (w.left - 1)) } : Wkr).left : Int) < 0) with
  | true => exact ⟨rfl, fun h => by cases h⟩
  | false =>
    cases q2 : decide ((deep : Int) > 100) with
    | true => exact ⟨rfl, fun h => by cases h⟩
    | false =>
      simp only [cond_false]
      cases q3 : m81_b_1 rec w e deep with
      | out r =>
        obtain ⟨h1, h2⟩ := m81_1_out q3
        refine ⟨h1, fun h => ?_⟩
        simp only at h
        rcases h2 with ⟨a, b⟩ | ⟨a, b, c⟩ | h2
        · exact Fits.of (.inl a) (fun _ => b) (by omega) (by omega) (by omega) (by omega) (by omega)
        · exact Fits.of (.inr (.inl a)) (fun _ => b) (by omega) (by omega) (by omega) (fun _ => c h) (by omega)
        · rw [h2] at h; cases h
      | on v =>
        cases v with
        | false => exact ⟨rfl, fun h => by cases h⟩
        | true =>
          simp only [Bool.not_true, cond_false]
          cases q4 : ((e.column : Int) != 0) with
          | true => exact ⟨rfl, fun h => by cases h⟩
          | false =>
            cases q5 : (!(m133 e.value)) with
            | true => exact ⟨rfl, fun h => by cases h⟩
            | false =>
              simp only [cond_false]
              have hl := m81_l1_law ht (w := w) (deep := deep) (v := true) e.kids.length 0 { w with left := IntKind.i64.wrap (w.left - 1) } (by omega)
              generalize m81_b_l1 rec w e deep true e.kids.length 0 { w with left := IntKind.i64.wrap (w.left - 1) } = z at hl ⊢
              cases z with
              | out r => exact ⟨hl.1, fun h => by rw [hl.2] at h; cases h⟩
              | on w2 =>
                refine ⟨hl.1, fun _ => ?_⟩
                have hk : ∀ i, i < e.kids.length → Fits w.t.columns.length (e.kids.getD i default) := by
                  intro i hi
                  obtain ⟨w', d, e1, e2⟩ := hl.2 i (by omega) (by omega)
                  have := hf i hi w' d e2
                  rw [e1] at this
                  exact this
                rcases m81_1_on q3 with ⟨a, b⟩ | ⟨a, b⟩ | ⟨a, b⟩
                · exact Fits.of (by omega) (by omega) (by omega) (by omega) (by omega) (by omega) hk
                · exact Fits.of (by omega) (by omega) (by omega) (by omega) (by omega) (by omega) hk
                · exact Fits.of (by omega) (by omega) (by omega) (by omega) (by omega) (by omega) hk
theorem m81_law : ∀ (n : Nat) (w : Wkr) (e : Exr) (deep : Int), e.depth < n → (m81 n w e deep).2.t = w.t ∧ ((m81 n w e deep).1 = true → Fits w.t.columns.length e)
  | 0, _, _, _, h => absurd h (by omega)
  | n + 1, w, e, deep, h => by
    rw [m81]
    exact m81_b_law (fun i hi w' d => (m81_law n w' _ d (by have := Exr.depth_kid hi; omega)).1) (fun i hi w' d => (m81_law n w' _ d (by have := Exr.depth_kid hi; omega)).2)
theorem m81r_fits {w : Wkr} {e : Exr} {deep : Int} (h : (m81r w e deep).1 = true) : Fits w.t.columns.length e := (m81_law _ w e deep (Nat.lt_succ_self _)).2 h
def m48 (t : Tbl) (e : Exr) : (Int × Int) := (bif (((m14 t) : Int) != 0) then (0, (m14 t)) else (bif (!(m81r (⟨t, 1024⟩ : Wkr) e 1).1) then (0, 150) else (bif (!(m82r t e).2) then (0, 151) else (((m82r t e).1), 0))))
theorem m48_ev  (c14 : S 14 = some H14) (c73 : S 73 = some H73) (c82 : S 82 = some H82) (c133 : S 133 = some H133) (c134 : S 134 = some H134) (n81 : S 81 = none) (t : Tbl) (e : Exr)  (h_t : Tbl.ok t) (h_e : Exr.ok e) : ∃ d σ', Ev (EE S) 48 [dR Tbl.enc t, dR Exr.row e] St.empty d σ' ∧ plain d = true ∧ strip d = D.tup [dI ((m48 t e).1), dI ((m48 t e).2)] := by
 unfold m48
 have h : Ko 0 St.empty [] [] := Ko.empty
 refine Ev.wp (E := EE S) (fn := Tryz.f48) (nt := 31) Tryz.func48 rfl rfl (Ck h fun _ _ h => Rw.bx (d := dR Tbl.enc t) h (Nat.le_add_right _ 0) rfl rfl rfl rfl rfl rfl fun b1 _ h => Rw.bx (d := dR Exr.row e) h (Nat.le_add_right _ 0) rfl rfl rfl rfl rfl rfl fun b2 _ h => Rg 2 rfl (Rw.nilK h (Nat.add_le_add_left (by decide : 2 ≤ 4) _) fun h => Cs (Ck h fun _ _ h => Rw.ld (k := 1) (d := dR Tbl.enc t) h rfl rfl rfl rfl rfl (ty39.ldA rfl rfl) rfl (Rs rfl (fun _ => op_call (d := dI (m14 t)) rfl rfl c14 rfl (He i14 t h_t rfl)) (Rg 1 rfl (Rz h fun h => Ck h fun _ _ h => Rg 2 rfl (Rz h fun h => ?_)))))))
 cases q1 : (((m14 t) : Int) != 0)
 refine Cf rfl (Ci (Ck h fun _ _ h => Rw.ld (k := 1) (d := dR Tbl.enc t) h rfl rfl rfl rfl rfl (ty39.ldA rfl rfl) rfl (Rs rfl (fun _ => op_buildS (qs := [(0, dR Tbl.enc t), (1, dI 1024)]) (d := dR Wkr.enc (⟨t, 1024⟩ : Wkr)) rfl (bd122_0_1 ..)) (Rw.bx (d := dR Wkr.enc (⟨t, 1024⟩ : Wkr)) h (Nat.le_add_right _ 2) rfl rfl rfl rfl rfl rfl fun b3 _ h => Rs rfl (fun _ => op_assign (d := D.ptr b3 0) rfl) (Rw.nilK h (Nat.add_le_add_left (by decide : 3 ≤ 4) _) fun h => Cs (Ck h fun _ _ h => Rs rfl (fun _ => op_move (d := D.ptr b3 0) rfl) (Rw.ld (k := 1) (d := dR Exr.row e) h rfl rfl rfl rfl rfl (ty32.ldA rfl rfl) rfl ?_)))))))
 obtain ⟨dX, sX, hev, rfl, ho1, hKX⟩ := m81r_ev c73 c133 c134 n81 b3 (⟨t, 1024⟩ : Wkr) e 1 (⟨h_t⟩ : Wkr.ok (⟨t, 1024⟩ : Wkr)) h_e _ _ _ (Kn.perm (h.ko (Nat.add_le_add_left (by decide : 0 ≤ 4) _)) (List.perm_middle (l₁ := [])))
 refine Rw.on (first := []) (cap := []) rfl rfl rfl rfl rfl n81 rfl rfl hev rfl ?_
 replace h := h.back (Kn.perm hKX (List.perm_middle (l₁ := [])).symm) rfl
 refine Rg 1 rfl (Rw.nilK h (Nat.add_le_add_left (by decide : 1 ≤ 4) _) fun h => ?_)
 cases q2 : (!(m81r (⟨t, 1024⟩ : Wkr) e 1).1)
 refine Cf rfl (Ci (Ck h fun _ _ h => Rw.ld (k := 2) (d := dR Tbl.enc t) h rfl rfl rfl rfl rfl (ty39.ldA rfl rfl) rfl (Rw.ld (k := 1) (d := dR Exr.row e) h rfl rfl rfl rfl rfl (ty32.ldA rfl rfl) rfl (Rs rfl (fun _ => op_call (d := D.tup [dI ((m82r t e).1), dB ((m82r t e).2)]) rfl rfl c82 rfl (He i82 (t, e) ⟨h_t, h_e, (m81r_fits (of_notF q2))⟩ rfl)) (Rs rfl (fun _ => op_move (d := D.tup [dI ((m82r t e).1), dB ((m82r t e).2)]) rfl) (Rs rfl (fun _ => op_extract rfl rfl) (Rs rfl (fun _ => op_extract rfl rfl) (Rg 2 rfl (Rz h fun h => Cs (Ck h fun _ _ h => Rg 2 rfl (Rz h fun h => ?_)))))))))))
 cases q3 : (!(m82r t e).2)
 exact Cf rfl (Ci (Ck h fun _ _ h => Rg 3 rfl (Rz h fun h => Cr ⟨.inr rfl, _, rfl, rfl, rfl⟩)))
 exact Ct rfl (Ck h fun _ _ h => Rg 2 rfl (Rz h fun h => Cr ⟨.inr rfl, _, rfl, rfl, rfl⟩))
 exact Ct rfl (Ck h fun _ _ h => Rg 2 rfl (Rz h fun h => Cr ⟨.inr rfl, _, rfl, rfl, rfl⟩))
 exact Ct rfl (Ck h fun _ _ h => Rg 3 rfl (Rz h fun h => Cr ⟨.inr rfl, _, rfl, rfl, rfl⟩))
noncomputable def H48 : List D → R D := mkH (L2 (dR Tbl.enc) (dR Exr.row)) (fun x => Tbl.ok x.1 ∧ Exr.ok x.2) (fun x => D.tup [dI ((m48 x.1 x.2).1), dI ((m48 x.1 x.2).2)])
theorem i48 : InjE (L2 (dR Tbl.enc) (dR Exr.row)) := j2 (jR Tbl.inj) (jR Exr.rinj)
def m44_1 (t : Tbl) (e : Exr) (column : Int) : Lo Bool Int := (bif (((m48 t e).2 : Int) == 0) then (bif (((m48 t e).1 : Int) != (t.columns.getD column.toNat default).kind) then (bif (((m48 t e).1 : Int) != 0) then (bif (((m48 t e).1 : Int) != 2) then .on true else .on (((t.columns.getD column.toNat default).kind : Int) != 3)) else .on false) else .on false) else .on false)
def m44 (t : Tbl) (e : Exr) (column : Int) : Int := (match m44_1 t e column with | .out r => r | .on v1_40 => (bif v1_40 then 151 else ((m48 t e).2)))
theorem m44_ev  (c48 : S 48 = some H48) (t : Tbl) (e : Exr) (column : Int)  (h_t : Tbl.ok t) (h_e : Exr.ok e) (h_c : 0 ≤ column ∧ column.toNat < t.columns.length) : ∃ d σ', Ev (EE S) 44 [dR Tbl.enc t, dR Exr.row e, dI column] St.empty d σ' ∧ plain d = true ∧ strip d = dI (m44 t e column) := by
 unfold m44
 have h : Ko 0 St.empty [] [] := Ko.empty
 refine Ev.wp (E := EE S) (fn := Tryz.f44) (nt := 42) Tryz.func44 rfl rfl (Ck h fun _ _ h => Rw.bx (d := dR Tbl.enc t) h (Nat.le_add_right _ 0) rfl rfl rfl rfl rfl rfl fun b1 _ h => Rw.bx (d := dR Exr.row e) h (Nat.le_add_right _ 0) rfl rfl rfl rfl rfl rfl fun b2 _ h => Rg 1 rfl (Rw.nilK h (Nat.add_le_add_left (by decide : 2 ≤ 3) _) fun h => Ck h fun _ _ h => Rw.ld (k := 1) (d := dR Tbl.enc t) h rfl rfl rfl rfl rfl (ty39.ldA rfl rfl) rfl (Rw.ld (k := 0) (d := dR Exr.row e) h rfl rfl rfl rfl rfl (ty32.ldA rfl rfl) rfl (Rs rfl (fun _ => op_call (d := D.tup [dI ((m48 t e).1), dI ((m48 t e).2)]) rfl rfl c48 rfl (He i48 (t, e) ⟨h_t, h_e⟩ rfl)) (Rs rfl (fun _ => op_move (d := D.tup [dI ((m48 t e).1), dI ((m48 t e).2)]) rfl) (Rs rfl (fun _ => op_extract rfl rfl) (Rs rfl (fun _ => op_extract rfl rfl) (Rg 2 rfl (Rz h fun h => Ck h fun _ _ h => Rf fi39_1 rfl (Rl 1 h rfl (ty35.ldS rfl) (Rg 1 rfl (Rs rfl (fun _ => op_ixI rfl rfl rfl Tryz.underlying35 ty65.hn h_c.1 (at_map h_c.2) rfl) (Rs rfl (fun _ => op_fr fi65_1 rfl rfl) (Rc (at_map h_c.2) ty3 rfl (Rg 1 rfl (Rz h fun h => Cs ?_))))))))))))))))
 refine Cw.seq (Cw.mono (Q := fun oX gX sX => match m44_1 t e column with | .on v1_40 => oX = none ∧ gX 8 = dI ((m48 t e).2) ∧ gX 40 = dB v1_40 ∧ Ko 0 sX [(b2, (dC Exr.row e)), (b1, (dC Tbl.enc t))] [] | .out r => Ou S Tryz.f44 (fun d _ => plain d = true ∧ strip d = dI r) oX gX sX) ?_ ?_)
 unfold m44_1
 refine Cw.regionK h fun _ _ h => Rg 3 rfl ?_
 cases q1 : (((m48 t e).2 : Int) == 0)
 exact Rg 16 rfl (Rz h fun h => an4 rfl rfl rfl h)
 refine Rg 5 rfl ?_
 cases q2 : (((m48 t e).1 : Int) != (t.columns.getD column.toNat default).kind)
 exact Rg 11 rfl (Rz h fun h => an4 rfl rfl rfl h)
 refine Rg 4 rfl ?_
 cases q3 : (((m48 t e).1 : Int) != 0)
 exact Rg 7 rfl (Rz h fun h => an4 rfl rfl rfl h)
 refine Rg 3 rfl ?_
 cases q4 : (((m48 t e).1 : Int) != 2)
 exact Rg 4 rfl (Rz h fun h => an4 rfl rfl rfl h)
 exact Rg 4 rfl (Rz h fun h => an4 rfl rfl rfl h)
 intro oY gY sY hh
 generalize hzF1 : m44_1 t e column = zZ at hh ⊢
 rcases zZ with v1_40 | rZ
 dsimp only
 obtain ⟨rfl, e8, e40, h⟩ := hh
 rw [pin e8, pin e40]
 cases q5 : v1_40
 exact Cf rfl (Ci (Ck h fun _ _ h => Rg 2 rfl (Rz h fun h => Cr ⟨.inr rfl, _, rfl, rfl, rfl⟩)))
 exact Ct rfl (Ck h fun _ _ h => Rg 1 rfl (Rz h fun h => Cr ⟨.inr rfl, _, rfl, rfl, rfl⟩))
 obtain ⟨rfl, w⟩ := hh
 exact ⟨.inr rfl, w⟩
noncomputable def H44 : List D → R D := mkH (L3 (dR Tbl.enc) (dR Exr.row) dI) (fun x => Tbl.ok x.1 ∧ Exr.ok x.2.1 ∧ (0 ≤ x.2.2 ∧ x.2.2.toNat < x.1.columns.length)) (fun x => dI (m44 x.1 x.2.1 x.2.2))
theorem i44 : InjE (L3 (dR Tbl.enc) (dR Exr.row) dI) := j3 (jR Tbl.inj) (jR Exr.rinj) jI
def m18_1 (t : Tbl) (e : Exr) : Lo Bool Int := (bif (((m48 t e).2 : Int) == 0) then (bif (((m48 t e).1 : Int) != 1) then .on (((m48 t e).1 : Int) != 0) else .on false) else .on false)
def m18 (t : Tbl) (e : Exr) : Int := (bif (m28 e) then 0 else (match m18_1 t e with | .out r => r | .on v1_24 => (bif v1_24 then 151 else ((m48 t e).2))))
theorem m18_ev  (c28 : S 28 = some H28) (c48 : S 48 = some H48) (t : Tbl) (e : Exr)  (h_t : Tbl.ok t) (h_e : Exr.ok e) : ∃ d σ', Ev (EE S) 18 [dR Tbl.enc t, dR Exr.row e] St.empty d σ' ∧ plain d = true ∧ strip d = dI (m18 t e) := by
 unfold m18
 have h : Ko 0 St.empty [] [] := Ko.empty
 refine Ev.wp (E := EE S) (fn := Tryz.f18) (nt := 26) Tryz.func18 rfl rfl (Ck h fun _ _ h => Rw.bx (d := dR Tbl.enc t) h (Nat.le_add_right _ 0) rfl rfl rfl rfl rfl rfl fun b1 _ h => Rw.bx (d := dR Exr.row e) h (Nat.le_add_right _ 0) rfl rfl rfl rfl rfl rfl fun b2 _ h => Rg 1 rfl (Rw.nilK h (Nat.add_le_add_left (by decide : 2 ≤ 3) _) fun h => Cs (Ck h fun _ _ h => Rw.ld (k := 0) (d := dR Exr.row e) h rfl rfl rfl rfl rfl (ty32.ldA rfl rfl) rfl (Rs rfl (fun _ => op_call (d := dB (m28 e)) rfl rfl c28 rfl (He i28 e h_e rfl)) (Rz h fun h => ?_)))))
 cases q1 : (m28 e)
 refine Cf rfl (Ci (Ck h fun _ _ h => Rw.ld (k := 1) (d := dR Tbl.enc t) h rfl rfl rfl rfl rfl (ty39.ldA rfl rfl) rfl (Rw.ld (k := 0) (d := dR Exr.row e) h rfl rfl rfl rfl rfl (ty32.ldA rfl rfl) rfl (Rs rfl (fun _ => op_call (d := D.tup [dI ((m48 t e).1), dI ((m48 t e).2)]) rfl rfl c48 rfl (He i48 (t, e) ⟨h_t, h_e⟩ rfl)) (Rs rfl (fun _ => op_move (d := D.tup [dI ((m48 t e).1), dI ((m48 t e).2)]) rfl) (Rs rfl (fun _ => op_extract rfl rfl) (Rs rfl (fun _ => op_extract rfl rfl) (Rg 2 rfl (Rz h fun h => Cs ?_)))))))))
 refine Cw.seq (Cw.mono (Q := fun oX gX sX => match m18_1 t e with | .on v1_24 => oX = none ∧ gX 6 = dI ((m48 t e).2) ∧ gX 24 = dB v1_24 ∧ Ko 0 sX [(b2, (dC Exr.row e)), (b1, (dC Tbl.enc t))] [] | .out r => Ou S Tryz.f18 (fun d _ => plain d = true ∧ strip d = dI r) oX gX sX) ?_ ?_)
 unfold m18_1
 refine Cw.regionK h fun _ _ h => Rg 3 rfl ?_
 cases q2 : (((m48 t e).2 : Int) == 0)
 exact Rg 7 rfl (Rz h fun h => an4 rfl rfl rfl h)
 refine Rg 4 rfl ?_
 cases q3 : (((m48 t e).1 : Int) != 1)
 exact Rg 3 rfl (Rz h fun h => an4 rfl rfl rfl h)
 exact Rg 3 rfl (Rz h fun h => an4 rfl rfl rfl h)
 intro oY gY sY hh
 generalize hzF1 : m18_1 t e = zZ at hh ⊢
 rcases zZ with v1_24 | rZ
 dsimp only
 obtain ⟨rfl, e6, e24, h⟩ := hh
 rw [pin e6, pin e24]
 cases q4 : v1_24
 exact Cf rfl (Ci (Ck h fun _ _ h => Rg 2 rfl (Rz h fun h => Cr ⟨.inr rfl, _, rfl, rfl, rfl⟩)))
 exact Ct rfl (Ck h fun _ _ h => Rg 1 rfl (Rz h fun h => Cr ⟨.inr rfl, _, rfl, rfl, rfl⟩))
 obtain ⟨rfl, w⟩ := hh
 exact ⟨.inr rfl, w⟩
 exact Ct rfl (Ck h fun _ _ h => Rg 1 rfl (Rz h fun h => Cr ⟨.inr rfl, _, rfl, rfl, rfl⟩))
noncomputable def H18 : List D → R D := mkH (L2 (dR Tbl.enc) (dR Exr.row)) (fun x => Tbl.ok x.1 ∧ Exr.ok x.2) (fun x => dI (m18 x.1 x.2))
theorem i18 : InjE (L2 (dR Tbl.enc) (dR Exr.row)) := j2 (jR Tbl.inj) (jR Exr.rinj)
def m84 (x : Itm) : Bool := ((x.fold : Int) != 0)
theorem m84_ev  (x : Itm)  (h_x : Itm.ok x) : ∃ d σ', Ev (EE S) 84 [dR Itm.enc x] St.empty d σ' ∧ plain d = true ∧ strip d = dB (m84 x) := by
 unfold m84
 have h : Ko 0 St.empty [] [] := Ko.empty
 exact Ev.wp (E := EE S) (fn := Tryz.f84) (nt := 6) Tryz.func84 rfl rfl (Ck h fun _ _ h => Rw.bx (d := dR Itm.enc x) h (Nat.le_add_right _ 0) rfl rfl rfl rfl rfl rfl fun b1 _ h => Rg 1 rfl (Rw.nilK h (Nat.add_le_add_left (by decide : 1 ≤ 2) _) fun h => Ck h fun _ _ h => Rf fi53_0 rfl (Rl 0 h rfl (ty3.ldS rfl) (Rg 2 rfl (Rz h fun h => Cr ⟨.inr rfl, _, rfl, rfl, rfl⟩)))))
noncomputable def H84 : List D → R D := mkH (L1 (dR Itm.enc)) (fun x => Itm.ok x) (fun x => dB (m84 x))
theorem i84 : InjE (L1 (dR Itm.enc)) := j1 (jR Itm.inj)
def m50 (q : Qry) : Bool := (bif decide ((((q.group.length : Nat) : Int) : Int) > 0) then true else (m83 q.items (fun x => m84 x )))
theorem m50_ev  (n83 : S 83 = none) (n84 : S 84 = none) (n140 : S 140 = none) (q : Qry)  (h_q : Qry.ok q) : ∃ d σ', Ev (EE S) 50 [dR Qry.enc q] St.empty d σ' ∧ plain d = true ∧ strip d = dB (m50 q) := by
 unfold m50
 have h : Ko 0 St.empty [] [] := Ko.empty
 refine Ev.wp (E := EE S) (fn := Tryz.f50) (nt := 12) Tryz.func50 rfl rfl (Ck h fun _ _ h => Rw.bx (d := dR Qry.enc q) h (Nat.le_add_right _ 0) rfl rfl rfl rfl rfl rfl fun b1 _ h => Rg 1 rfl (Rw.nilK h (Nat.add_le_add_left (by decide : 1 ≤ 2) _) fun h => Ck h fun _ _ h => Rf fi41_7 rfl (Rl 0 h rfl (ty23.ldS rfl) (Re Tryz.underlying23 rfl (Rg 2 rfl ?_)))))
 cases q1 : decide ((((q.group.length : Nat) : Int) : Int) > 0)
 refine Rf fi41_5 rfl (Rl 0 h rfl (ty26.ldS rfl) ?_)
 obtain ⟨dX, sX, hev, hpl, hst⟩ := m83_ev n140 q.items (fun x => m84 x ) (Qry.ok_items h_q) 84 (fun x _ hx => m84_ev  x hx) n84 rfl rfl
 refine Rw.ev (das := [dL Itm.enc q.items, D.fn 84 [] []]) rfl rfl rfl rfl rfl n83 rfl rfl rfl hev hpl rfl ?_
 rw [show strip dX = dB (m83 q.items (fun x => m84 x )) from hst]
 exact Rg 2 rfl (Rz h fun h => Cr ⟨.inr rfl, _, rfl, rfl, rfl⟩)
 exact Rg 5 rfl (Rz h fun h => Cr ⟨.inr rfl, _, rfl, rfl, rfl⟩)
noncomputable def H50 : List D → R D := mkH (L1 (dR Qry.enc)) (fun x => Qry.ok x) (fun x => dB (m50 x))
theorem i50 : InjE (L1 (dR Qry.enc)) := j1 (jR Qry.inj)
noncomputable def cm148_b_l1 : Code := (cl (cr (cl (cr (cr (bodyOf Tryz.f148))))))
def m148_b_l1 (rec : Tbl → Exr → (Int × Bool)) (t : Tbl) (e : Exr) : Nat → Nat → (List Int) → Lo (List Int) (Int × Bool)
 | 0, _, yl1_a1 => .on yl1_a1
 | rem1 + 1, i1, yl1_a1 => (bif (!(rec t (e.kids.getD i1 default)).2) then .out (0, false) else m148_b_l1 rec t e rem1 (i1 + 1) (yl1_a1 ++ ([((rec t (e.kids.getD i1 default)).1)])))
noncomputable def cm148_b_l2 : Code := (cl (cr (cl (cl (cr (cr (cr (cr (cr (cr (cr (cl (cr (cl (cr (cr (cr (bodyOf Tryz.f148))))))))))))))))))
def m148_b_l2 (rec : Tbl → Exr → (Int × Bool)) (t : Tbl) (e : Exr) (yl1_a1 : (List Int)) : Nat → Nat → Lo Unit (Int × Bool)
 | 0, _ => .on ()
 | rem2 + 1, i2 => (bif (!(m205 (yl1_a1.getD 0 default) (yl1_a1.getD i2 default))) then .out (0, false) else m148_b_l2 rec t e yl1_a1 rem2 (i2 + 1) )
def m148_b (rec : Tbl → Exr → (Int × Bool)) (t : Tbl) (e : Exr) : (Int × Bool) := (match m148_b_l1 rec t e e.kids.length 0 ([]) with | .out r => r | .on yl1_a1 => (bif ((e.kind : Int) == 1) then (e.value.kind, true) else (bif ((e.kind : Int) == 2) then (((t.columns.getD e.column.toNat default).kind), true) else (bif ((e.kind : Int) == 3) then (bif (ByteArray.toList e.op == ByteArray.toList (⟨#[45]⟩)) then (bif (m203 (yl1_a1.getD 0 default)) then ((yl1_a1.getD 0 default), true) else ((yl1_a1.getD 0 default), ((yl1_a1.getD 0 default : Int) == 0))) else (bif (!(ByteArray.toList e.op == ByteArray.toList (⟨#[110, 111, 116]⟩))) then (1, true) else (1, (m204 (yl1_a1.getD 0 default))))) else (bif ((e.kind : Int) == 5) then (match m148_b_l2 rec t e yl1_a1 (yl1_a1.length - 1) 1  with | .out r => r | .on _ => (1, true)) else (bif (m206 e.op) then (((m207 e.op (yl1_a1.getD 0 default) (yl1_a1.getD 1 default)).1), ((m207 e.op (yl1_a1.getD 0 default) (yl1_a1.getD 1 default)).2)) else (bif (m208 e.op) then (1, (m205 (yl1_a1.getD 0 default) (yl1_a1.getD 1 default))) else (bif (m204 (yl1_a1.getD 0 default)) then (1, (m204 (yl1_a1.getD 1 default))) else (1, false)))))))))
set_option maxRecDepth 100000 in
theorem m148_b_ev  (c203 : S 203 = some H203) (c204 : S 204 = some H204) (c205 : S 205 = some H205) (c206 : S 206 = some H206) (c207 : S 207 = some H207) (c208 : S 208 = some H208) (n148 : S 148 = none) (rec : Tbl → Exr → (Int × Bool)) (t : Tbl) (e : Exr)  (h_t : Tbl.ok t) (h_e : Exr.ok e) (h_f : Fits t.columns.length e) (ihR : ∀ (y0 : Tbl) (y1 : Exr), Tbl.ok y0 → Exr.ok y1 → Fits y0.columns.length y1 → y1.depth < e.depth → ∃ d σ', Ev (EE S) 148 [dR Tbl.enc y0, dR Exr.row y1] St.empty d σ' ∧ plain d = true ∧ strip d = D.tup [dI ((rec y0 y1).1), dB ((rec y0 y1).2)]) : ∃ d σ', Ev (EE S) 148 [dR Tbl.enc t, dR Exr.row e] St.empty d σ' ∧ plain d = true ∧ strip d = D.tup [dI ((m148_b rec t e).1), dB ((m148_b rec t e).2)] := by
 unfold m148_b
 have h : Ko 0 St.empty [] [] := Ko.empty
 refine Ev.wp (E := EE S) (fn := Tryz.f148) (nt := 129) Tryz.func148 rfl rfl (Ck h fun _ _ h => Rw.bx (d := dR Tbl.enc t) h (Nat.le_add_right _ 0) rfl rfl rfl rfl rfl rfl fun b1 _ h => Rw.bx (d := dR Exr.row e) h (Nat.le_add_right _ 0) rfl rfl rfl rfl rfl rfl fun b2 _ h => Rg 2 rfl (Rw.nilK h (Nat.add_le_add_left (by decide : 2 ≤ 4) _) fun h => Ck h fun _ _ h => Rs rfl (fun _ => op_bs (xs := ([] : List Int).map encI) Tryz.underlying23 ty3.hn (z3 (S := S)) rfl rfl rfl rfl rfl) (Rg 1 rfl ?_)))
 replace h := h.newAc (([] : (List Int)).map encI) 1
 refine Rz h fun h => Cs (Ck h fun _ _ h => Rg 1 rfl (Rz h fun h => Cb ?_))
 have hl1 : ∀ (rem1 i1 : Nat) (yl1_a1 : (List Int)) (el1_a1 : D) (fr : Nat → D) (σ : St), i1 + rem1 = e.kids.length → yl1_a1.length = i1 → fr 2 = D.ptr b1 0 → fr 3 = D.ptr b2 0 → fr 6 = el1_a1 → fr 7 = dN i1 → Ko 0 σ [(b2, (dC Exr.row e)), (b1, (dC Tbl.enc t))] [(el1_a1, (yl1_a1).map encI, 1)] → Cw (EE S) cm148_b_l1 129 fr σ (fun oX gX sX => match m148_b_l1 rec t e rem1 i1 yl1_a1 with | .on yl1_a1 => ∃ el1_a1, oX = some (some 0) ∧ yl1_a1.length = e.kids.length ∧ gX 2 = D.ptr b1 0 ∧ gX 3 = D.ptr b2 0 ∧ gX 6 = el1_a1 ∧ Ko 0 sX [(b2, (dC Exr.row e)), (b1, (dC Tbl.enc t))] [(el1_a1, (yl1_a1).map encI, 1)] | .out r => Ou S Tryz.f148 (fun d _ => plain d = true ∧ strip d = D.tup [dI r.1, dB r.2]) oX gX sX) := by
  intro rem1
  induction rem1
  intro i1 yl1_a1 el1_a1 fr σ hi nyl1_a1 e2 e3 e6 e7 h
  have hlt1 : decide ((((i1 : Nat) : Int) : Int) < ((e.kids.length : Nat) : Int)) = false := decF (by omega)
  rw [pin e2, pin e3, pin e6, pin e7]
  rw [m148_b_l1]
  exact Co (Cs (Ck h fun _ _ h => Rg 1 rfl (Rf fi32_4 rfl (Rl 0 h rfl (ty30.ldS rfl) (Re Tryz.underlying30 rfl (Rs rfl (fun _ => op_lss_int rfl rfl hlt1) (Rz h fun h => Cf rfl (Cw.exit (Exists.intro el1_a1 (an6 rfl (by omega) rfl rfl rfl h))))))))))
  rename_i rem1 ih
  intro i1 yl1_a1 el1_a1 fr σ hi nyl1_a1 e2 e3 e6 e7 h
  have hlt1 : decide ((((i1 : Nat) : Int) : Int) < ((e.kids.length : Nat) : Int)) = true := decT (by omega)
  have hil1 : i1 < e.kids.length := by omega
  have hbq1 := okL_len (Exr.ok_kids h_e)
  rw [pin e2, pin e3, pin e6, pin e7]
  rw [m148_b_l1]
  refine Co (Cs (Ck h fun _ _ h => Rg 1 rfl (Rf fi32_4 rfl (Rl 0 h rfl (ty30.ldS rfl) (Re Tryz.underlying30 rfl (Rs rfl (fun _ => op_lss_int rfl rfl hlt1) (Rz h fun h => Ct rfl (Ci (Cs (Cb ?_))))))))))
  refine Cw.seq (Cw.regionD h fun _ _ h => ?_)
  refine Rw.ld (k := 1) (d := dR Tbl.enc t) h rfl rfl rfl rfl rfl (ty39.ldA rfl rfl) rfl (Rf fi32_4 rfl (Rl 0 h rfl (ty30.ldS rfl) (Rg 1 rfl (Rs rfl (fun _ => op_ix (n := i1) rfl rfl rfl Tryz.underlying30 ty32.hn (at_Exr hil1) rfl) (Rs rfl (fun _ => op_ldC (d := dR Exr.row (e.kids.getD i1 default)) rfl (at_Exr hil1) (ty32.lcA rfl rfl)) ?_)))))
  obtain ⟨dX, sX, hev, hpl, hst⟩ := ihR t (e.kids.getD i1 default) h_t (okL_get (Exr.ok_kids h_e) Exr.zok i1) (h_f.kid hil1) (Exr.depth_kid hil1)
  refine Rw.ev (das := [dR Tbl.enc t, dR Exr.row (e.kids.getD i1 default)]) rfl rfl rfl rfl rfl n148 rfl rfl rfl hev hpl rfl ?_
  rw [show strip dX = D.tup [dI ((rec t (e.kids.getD i1 default)).1), dB ((rec t (e.kids.getD i1 default)).2)] from hst]
  refine Rs rfl (fun _ => op_move (d := D.tup [dI ((rec t (e.kids.getD i1 default)).1), dB ((rec t (e.kids.getD i1 default)).2)]) rfl) (Rs rfl (fun _ => op_extract rfl rfl) (Rs rfl (fun _ => op_extract rfl rfl) (Rg 2 rfl (Rz h fun h => ?_))))
  refine ⟨by kernel_rfl, ?_⟩
  refine Cs (Ck h fun _ _ h => Rg 2 rfl (Rz h fun h => ?_))
  cases q1 : (!(rec t (e.kids.getD i1 default)).2)
  refine Cf rfl (Ci (Cw.regionK h fun _ _ h => Rs rfl (fun _ => op_move rfl) (Rg 1 rfl (Rs rfl (fun _ => op_bs (xs := ([((rec t (e.kids.getD i1 default)).1)] : List Int).map encI) Tryz.underlying23 ty3.hn (z3 (S := S)) rfl rfl rfl rfl rfl) (Rw.ap (j := 0) (ys := ([((rec t (e.kids.getD i1 default)).1)]).map encI) h (Nat.le_add_right _ 3) rfl rfl rfl rfl rfl rfl rfl rfl (room_mk Tryz.underlying23 (if3 (S := S)) (z3 (S := S)) rfl rfl rfl rfl (by simp only [List.length_map, List.length_cons, List.length_nil]; omega)) (heads_map _ (fun _ => rfl)) rfl fun d1 _ h => ?_)))))
  simp only [List.set_cons_zero, ← List.map_append] at h
  exact Rs rfl (fun _ => op_assign rfl) (Rw.nilK h (Nat.add_le_add_left (by decide : 4 ≤ 5) _) fun h => Cw.regionK h fun _ _ h => Rg 1 rfl (Rs rfl (fun _ => op_add_int (v := ((i1 + 1 : Nat) : Int)) rfl rfl (wrap_one (by omega))) (Rg 1 rfl (Rz h fun h => ih (i1 + 1) (yl1_a1 ++ ([((rec t (e.kids.getD i1 default)).1)])) _ _ _ (by omega) (by simp only [List.length_append, List.length_cons, List.length_nil]; omega) rfl rfl rfl rfl h))))
  exact Ct rfl (Ck h fun _ _ h => Rg 2 rfl (Rz h fun h => Cr (And.intro rfl (Exists.intro _ (an3 rfl rfl rfl)))))
 refine Cw.mono (hl1 e.kids.length 0 ([]) _ _ _ (by omega) (by simp) rfl rfl rfl rfl h) ?_
 intro oY gY sY hh
 generalize hzL1 : m148_b_l1 rec t e e.kids.length 0 ([]) = zZ at hh ⊢
 rcases zZ with yl1_a1 | rZ
 dsimp only
 obtain ⟨el1_a1, rfl, nyl1_a1, e2, e3, e6, h⟩ := hh
 rw [pin e2, pin e3, pin e6]
 have hbd1 := okL_len (Exr.ok_kids h_e)
 refine Cs (Ck h fun _ _ h => Rf fi32_0 rfl (Rl 0 h rfl (ty3.ldS rfl) (Rz h fun h => Cb (Ck h fun _ _ h => Rg 2 rfl (Rz h fun h => ?_)))))
 cases q2 : ((e.kind : Int) == 1)
 have p2 := ne_of_beqF q2
 refine Cf rfl (Ck h fun _ _ h => Rg 2 rfl (Rz h fun h => ?_))
 cases q3 : ((e.kind : Int) == 2)
 have p3 := ne_of_beqF q3
 refine Cf rfl (Ck h fun _ _ h => Rg 2 rfl (Rz h fun h => ?_))
 cases q4 : ((e.kind : Int) == 3)
 have p4 := ne_of_beqF q4
 refine Cf rfl (Ck h fun _ _ h => Rg 2 rfl (Rz h fun h => ?_))
 cases q5 : ((e.kind : Int) == 5)
 have p5 := ne_of_beqF q5
 refine Cf rfl (Ci (Cs (Ck h fun _ _ h => Rf fi32_1 rfl (Rl 0 h rfl (ty9.ldS rfl) (Rs rfl (fun _ => op_call (d := dB (m206 e.op)) rfl rfl c206 rfl (He i206 e.op (Exr.ok_op h_e) rfl)) (Rz h fun h => ?_))))))
 cases q6 : (m206 e.op)
 refine Cf rfl (Ci (Cs (Ck h fun _ _ h => Rf fi32_1 rfl (Rl 0 h rfl (ty9.ldS rfl) (Rs rfl (fun _ => op_call (d := dB (m208 e.op)) rfl rfl c208 rfl (He i208 e.op (Exr.ok_op h_e) rfl)) (Rz h fun h => ?_))))))
 cases q7 : (m208 e.op)
 refine Cf rfl (Ci (Ck h fun _ _ h => Rs rfl (fun _ => op_move rfl) (Rs rfl (fun _ => op_ix (n := 0) rfl rfl (h.ac _ (List.mem_of_getElem? (i := 0) rfl)).rows Tryz.underlying23 ty3.hn (at_map (by have hF := h_f.arity; omega)) rfl) (Rc (at_map (by have hF := h_f.arity; omega)) ty3 rfl (Rs rfl (fun _ => op_call (d := dB (m204 (yl1_a1.getD 0 default))) rfl rfl c204 rfl (He i204 (yl1_a1.getD 0 default) trivial rfl)) (Rg 1 rfl ?_))))))
 cases q8 : (m204 (yl1_a1.getD 0 default))
 exact Rg 7 rfl (Rz h fun h => Cr ⟨.inr rfl, _, rfl, rfl, rfl⟩)
 exact Rs rfl (fun _ => op_move rfl) (Rs rfl (fun _ => op_ix (n := 1) rfl rfl (h.ac _ (List.mem_of_getElem? (i := 0) rfl)).rows Tryz.underlying23 ty3.hn (at_map (by have hF := h_f.arity; omega)) rfl) (Rc (at_map (by have hF := h_f.arity; omega)) ty3 rfl (Rs rfl (fun _ => op_call (d := dB (m204 (yl1_a1.getD 1 default))) rfl rfl c204 rfl (He i204 (yl1_a1.getD 1 default) trivial rfl)) (Rg 3 rfl (Rz h fun h => Cr ⟨.inr rfl, _, rfl, rfl, rfl⟩)))))
 refine Ct rfl ?_
 refine Cw.seq (Cw.regionD h fun _ _ h => ?_)
 refine Rs rfl (fun _ => op_move rfl) (Rs rfl (fun _ => op_ix (n := 0) rfl rfl (h.ac _ (List.mem_of_getElem? (i := 0) rfl)).rows Tryz.underlying23 ty3.hn (at_map (by have hF := h_f.arity; omega)) rfl) (Rc (at_map (by have hF := h_f.arity; omega)) ty3 rfl (Rs rfl (fun _ => op_move rfl) (Rs rfl (fun _ => op_ix (n := 1) rfl rfl (h.ac _ (List.mem_of_getElem? (i := 0) rfl)).rows Tryz.underlying23 ty3.hn (at_map (by have hF := h_f.arity; omega)) rfl) (Rc (at_map (by have hF := h_f.arity; omega)) ty3 rfl (Rs rfl (fun _ => op_call (d := dB (m205 (yl1_a1.getD 0 default) (yl1_a1.getD 1 default))) rfl rfl c205 rfl (He i205 ((yl1_a1.getD 0 default), (yl1_a1.getD 1 default)) trivial rfl)) (Rg 2 rfl (Rz h fun h => ?_))))))))
 refine ⟨by kernel_rfl, ?_⟩
 exact Cr ⟨.inr rfl, _, rfl, rfl, rfl⟩
 refine Ct rfl ?_
 refine Cw.seq (Cw.regionD h fun _ _ h => ?_)
 refine Rf fi32_1 rfl (Rl 0 h rfl (ty9.ldS rfl) (Rs rfl (fun _ => op_move rfl) (Rs rfl (fun _ => op_ix (n := 0) rfl rfl (h.ac _ (List.mem_of_getElem? (i := 0) rfl)).rows Tryz.underlying23 ty3.hn (at_map (by have hF := h_f.arity; omega)) rfl) (Rc (at_map (by have hF := h_f.arity; omega)) ty3 rfl (Rs rfl (fun _ => op_move rfl) (Rs rfl (fun _ => op_ix (n := 1) rfl rfl (h.ac _ (List.mem_of_getElem? (i := 0) rfl)).rows Tryz.underlying23 ty3.hn (at_map (by have hF := h_f.arity; omega)) rfl) (Rc (at_map (by have hF := h_f.arity; omega)) ty3 rfl (Rs rfl (fun _ => op_call (d := D.tup [dI ((m207 e.op (yl1_a1.getD 0 default) (yl1_a1.getD 1 default)).1), dB ((m207 e.op (yl1_a1.getD 0 default) (yl1_a1.getD 1 default)).2)]) rfl rfl c207 rfl (He i207 (e.op, (yl1_a1.getD 0 default), (yl1_a1.getD 1 default)) (Exr.ok_op h_e) rfl)) (Rs rfl (fun _ => op_extract rfl rfl) (Rs rfl (fun _ => op_extract rfl rfl) (Rg 2 rfl (Rz h fun h => ?_))))))))))))
 refine ⟨by kernel_rfl, ?_⟩
 exact Cr ⟨.inr rfl, _, rfl, rfl, rfl⟩
 have p5 := eq_of_beq q5
 refine Ct rfl (Cs (Ck h fun _ _ h => Rg 1 rfl (Rz h fun h => Cb ?_)))
 have hl2 : ∀ (rem2 i2 : Nat) (fr : Nat → D) (σ : St), i2 + rem2 = yl1_a1.length → fr 6 = el1_a1 → fr 10 = dN i2 → Ko 0 σ [(b2, (dC Exr.row e)), (b1, (dC Tbl.enc t))] [(el1_a1, (yl1_a1).map encI, 1)] → Cw (EE S) cm148_b_l2 129 fr σ (fun oX gX sX => match m148_b_l2 rec t e yl1_a1 rem2 i2  with | .on _ => oX = some (some 3) ∧ Ko 0 sX [(b2, (dC Exr.row e)), (b1, (dC Tbl.enc t))] [(el1_a1, (yl1_a1).map encI, 1)] | .out r => Ou S Tryz.f148 (fun d _ => plain d = true ∧ strip d = D.tup [dI r.1, dB r.2]) oX gX sX) := by
  intro rem2
  induction rem2
  intro i2   fr σ hi  e6 e10 h
  have hlt2 : decide ((((i2 : Nat) : Int) : Int) < ((yl1_a1.length : Nat) : Int)) = false := decF (by omega)
  rw [pin e6, pin e10]
  rw [m148_b_l2]
  exact Co (Cs (Ck h fun _ _ h => Rg 1 rfl (Rs rfl (fun _ => op_move rfl) (Rs rfl (fun _ => op_lenN (n := yl1_a1.length) rfl Tryz.underlying23 (h.ac _ (List.mem_of_getElem? (i := 0) rfl)).rows (List.length_map ..)) (Rs rfl (fun _ => op_lss_int rfl rfl hlt2) (Rz h fun h => Cf rfl (Cw.exit (an2 rfl h))))))))
  rename_i rem2 ih
  intro i2   fr σ hi  e6 e10 h
  have hlt2 : decide ((((i2 : Nat) : Int) : Int) < ((yl1_a1.length : Nat) : Int)) = true := decT (by omega)
  have hil2 : i2 < yl1_a1.length := by omega
  rw [pin e6, pin e10]
  rw [m148_b_l2]
  refine Co (Cs (Ck h fun _ _ h => Rg 1 rfl (Rs rfl (fun _ => op_move rfl) (Rs rfl (fun _ => op_lenN (n := yl1_a1.length) rfl Tryz.underlying23 (h.ac _ (List.mem_of_getElem? (i := 0) rfl)).rows (List.length_map ..)) (Rs rfl (fun _ => op_lss_int rfl rfl hlt2) (Rz h fun h => Ct rfl (Ci (Cs (Cb ?_)))))))))
  refine Cw.seq (Cw.regionD h fun _ _ h => ?_)
  refine Rs rfl (fun _ => op_move rfl) (Rs rfl (fun _ => op_ix (n := 0) rfl rfl (h.ac _ (List.mem_of_getElem? (i := 0) rfl)).rows Tryz.underlying23 ty3.hn (at_map (by have hF := h_f.arity; omega)) rfl) (Rc (at_map (by have hF := h_f.arity; omega)) ty3 rfl (Rs rfl (fun _ => op_move rfl) (Rg 1 rfl (Rs rfl (fun _ => op_ix (n := i2) rfl rfl (h.ac _ (List.mem_of_getElem? (i := 0) rfl)).rows Tryz.underlying23 ty3.hn (at_map hil2) rfl) (Rc (at_map hil2) ty3 rfl (Rs rfl (fun _ => op_call (d := dB (m205 (yl1_a1.getD 0 default) (yl1_a1.getD i2 default))) rfl rfl c205 rfl (He i205 ((yl1_a1.getD 0 default), (yl1_a1.getD i2 default)) trivial rfl)) (Rg 1 rfl (Rz h fun h => ?_)))))))))
  refine ⟨by kernel_rfl, ?_⟩
  cases q9 : (!(m205 (yl1_a1.getD 0 default) (yl1_a1.getD i2 default)))
  exact Cf rfl (Ci (Cw.regionK h fun _ _ h => Rg 1 rfl (Rs rfl (fun _ => op_add_int (v := ((i2 + 1 : Nat) : Int)) rfl rfl (wrap_one (by omega))) (Rg 1 rfl (Rz h fun h => ih (i2 + 1)   _ _ (by omega)  rfl rfl h)))))
  exact Ct rfl (Ck h fun _ _ h => Rg 2 rfl (Rz h fun h => Cr (And.intro rfl (Exists.intro _ (an3 rfl rfl rfl)))))
 refine Cw.mono (hl2 (yl1_a1.length - 1) 1   _ _ (by have hF := h_f.arity; omega)  rfl rfl h) ?_
 intro oY gY sY hh
 generalize hzL2 : m148_b_l2 rec t e yl1_a1 (yl1_a1.length - 1) 1  = zZ at hh ⊢
 rcases zZ with vZ | rZ
 dsimp only
 obtain ⟨rfl, h⟩ := hh
 exact Ck h fun _ _ h => Rg 2 rfl (Rz h fun h => Cr ⟨.inr rfl, _, rfl, rfl, rfl⟩)
 obtain ⟨rfl, w⟩ := hh
 exact ⟨.inr rfl, w⟩
 have p4 := eq_of_beq q4
 refine Ct rfl (Cs (Ck h fun _ _ h => Rf fi32_1 rfl (Rl 0 h rfl (ty9.ldS rfl) (Rg 1 rfl (Rz h fun h => ?_)))))
 cases q10 : (ByteArray.toList e.op == ByteArray.toList (⟨#[45]⟩))
 refine Cf rfl (Ci (Ck h fun _ _ h => Rf fi32_1 rfl (Rl 0 h rfl (ty9.ldS rfl) (Rg 2 rfl ?_))))
 cases q11 : (!(ByteArray.toList e.op == ByteArray.toList (⟨#[110, 111, 116]⟩)))
 exact Rs rfl (fun _ => op_move rfl) (Rs rfl (fun _ => op_ix (n := 0) rfl rfl (h.ac _ (List.mem_of_getElem? (i := 0) rfl)).rows Tryz.underlying23 ty3.hn (at_map (by have hF := h_f.arity; omega)) rfl) (Rc (at_map (by have hF := h_f.arity; omega)) ty3 rfl (Rs rfl (fun _ => op_call (d := dB (m204 (yl1_a1.getD 0 default))) rfl rfl c204 rfl (He i204 (yl1_a1.getD 0 default) trivial rfl)) (Rg 3 rfl (Rz h fun h => Cr ⟨.inr rfl, _, rfl, rfl, rfl⟩)))))
 exact Rg 7 rfl (Rz h fun h => Cr ⟨.inr rfl, _, rfl, rfl, rfl⟩)
 refine Ct rfl ?_
 refine Cw.seq (Cw.regionD h fun _ _ h => ?_)
 refine Rs rfl (fun _ => op_move rfl) (Rs rfl (fun _ => op_ix (n := 0) rfl rfl (h.ac _ (List.mem_of_getElem? (i := 0) rfl)).rows Tryz.underlying23 ty3.hn (at_map (by have hF := h_f.arity; omega)) rfl) (Rc (at_map (by have hF := h_f.arity; omega)) ty3 rfl (Rs rfl (fun _ => op_move rfl) (Rs rfl (fun _ => op_ix (n := 0) rfl rfl (h.ac _ (List.mem_of_getElem? (i := 0) rfl)).rows Tryz.underlying23 ty3.hn (at_map (by have hF := h_f.arity; omega)) rfl) (Rc (at_map (by have hF := h_f.arity; omega)) ty3 rfl (Rs rfl (fun _ => op_call (d := dB (m203 (yl1_a1.getD 0 default))) rfl rfl c203 rfl (He i203 (yl1_a1.getD 0 default) trivial rfl)) (Rg 1 rfl ?_)))))))
 cases q12 : (m203 (yl1_a1.getD 0 default))
 refine Rs rfl (fun _ => op_move rfl) (Rs rfl (fun _ => op_ix (n := 0) rfl rfl (h.ac _ (List.mem_of_getElem? (i := 0) rfl)).rows Tryz.underlying23 ty3.hn (at_map (by have hF := h_f.arity; omega)) rfl) (Rc (at_map (by have hF := h_f.arity; omega)) ty3 rfl (Rg 4 rfl (Rz h fun h => ?_))))
 refine ⟨by kernel_rfl, ?_⟩
 exact Cr ⟨.inr rfl, _, rfl, rfl, rfl⟩
 refine Rg 7 rfl (Rz h fun h => ?_)
 refine ⟨by kernel_rfl, ?_⟩
 exact Cr ⟨.inr rfl, _, rfl, rfl, rfl⟩
 have p3 := eq_of_beq q3
 exact Ct rfl (Ck h fun _ _ h => Rf fi39_1 rfl (Rl 1 h rfl (ty35.ldS rfl) (Rf fi32_2 rfl (Rl 0 h rfl (ty3.ldS rfl) (Rs rfl (fun _ => op_ixI rfl rfl rfl Tryz.underlying35 ty65.hn (by have hF := h_f.col; omega) (at_map (by have hF := h_f.col; omega)) rfl) (Rs rfl (fun _ => op_fr fi65_1 rfl rfl) (Rc (at_map (by have hF := h_f.col; omega)) ty3 rfl (Rg 2 rfl (Rz h fun h => Cr ⟨.inr rfl, _, rfl, rfl, rfl⟩)))))))))
 have p2 := eq_of_beq q2
 exact Ct rfl (Ck h fun _ _ h => Rf fi32_3 rfl (Rf fi29_0 rfl (Rl 0 h rfl (ty3.ldS rfl) (Rg 2 rfl (Rz h fun h => Cr ⟨.inr rfl, _, rfl, rfl, rfl⟩)))))
 obtain ⟨rfl, w⟩ := hh
 exact ⟨.inr rfl, w⟩
def m148 : Nat → Tbl → Exr → (Int × Bool)
 | 0, _, _ => default
 | nZ + 1, t, e => m148_b (m148 nZ) t e
theorem m148_all  (c203 : S 203 = some H203) (c204 : S 204 = some H204) (c205 : S 205 = some H205) (c206 : S 206 = some H206) (c207 : S 207 = some H207) (c208 : S 208 = some H208) (n148 : S 148 = none) : ∀ (nZ : Nat) (t : Tbl) (e : Exr) (h_t : Tbl.ok t) (h_e : Exr.ok e) (h_f : Fits t.columns.length e), e.depth < nZ → ∃ d σ', Ev (EE S) 148 [dR Tbl.enc t, dR Exr.row e] St.empty d σ' ∧ plain d = true ∧ strip d = D.tup [dI ((m148 nZ t e).1), dB ((m148 nZ t e).2)]
 | 0, t, e, _, _, _, hd => absurd hd (by omega)
 | nZ + 1, t, e, h_t, h_e, h_f, hd => m148_b_ev c203 c204 c205 c206 c207 c208 n148 (m148 nZ) t e h_t h_e h_f (fun y0 y1 g0 g1 xh_f hd' => m148_all c203 c204 c205 c206 c207 c208 n148 nZ y0 y1 g0 g1 xh_f (by omega))
def m148r (t : Tbl) (e : Exr) : (Int × Bool) := m148 (e.depth + 1) t e
theorem m148r_ev  (c203 : S 203 = some H203) (c204 : S 204 = some H204) (c205 : S 205 = some H205) (c206 : S 206 = some H206) (c207 : S 207 = some H207) (c208 : S 208 = some H208) (n148 : S 148 = none) (t : Tbl) (e : Exr) (h_t : Tbl.ok t) (h_e : Exr.ok e) (h_f : Fits t.columns.length e) : ∃ d σ', Ev (EE S) 148 [dR Tbl.enc t, dR Exr.row e] St.empty d σ' ∧ plain d = true ∧ strip d = D.tup [dI ((m148r t e).1), dB ((m148r t e).2)] := m148_all c203 c204 c205 c206 c207 c208 n148 _ t e h_t h_e h_f (Nat.lt_succ_self _)
noncomputable def H148 : List D → R D := mkH (L2 (dR Tbl.enc) (dR Exr.row)) (fun x => Tbl.ok x.1 ∧ Exr.ok x.2 ∧ Fits x.1.columns.length x.2) (fun x => D.tup [dI ((m148r x.1 x.2).1), dB ((m148r x.1 x.2).2)])
theorem i148 : InjE (L2 (dR Tbl.enc) (dR Exr.row)) := j2 (jR Tbl.inj) (jR Exr.rinj)
theorem m147_l1_law {rec : Tbl → Exr → Bool} {t : Tbl} {e : Exr} : ∀ (rem i : Nat), i + rem = e.kids.length → match m147_b_l1 rec t e rem i with
      | .on _ => ∀ j, i ≤ j → j < i + rem → rec t (e.kids.getD j default) = true
      | .out r => r = false
  | 0, i, hi => by rw [m147_b_l1]; exact fun j h1 h2 => by omega
  | rem + 1, i, hi => by
    rw [m147_b_l1]
    cases q : (!(rec t (e.kids.getD i default))) with
    | true => exact rfl
    | false =>
      have q' := of_notF q
      have ih := m147_l1_law (rec := rec) (t := t) (e := e) rem (i + 1) (by omega)
      simp only [cond_false]
      generalize m147_b_l1 rec t e rem (i + 1) = z at ih ⊢
      cases z with
      | out r => exact ih
      | on v =>
        intro j h3 h4
        by_cases hj : j = i
        · subst hj; exact q'
        · exact ih j (by omega) (by omega)
theorem m147_b_law {rec : Tbl → Exr → Bool} {t : Tbl} {e : Exr} (hf : ∀ i, i < e.kids.length → rec t (e.kids.getD i default) = true → Fits t.columns.length (e.kids.getD i default)) (h : m147_b rec t e = true) : Fits t.columns.length e := by
  unfold m147_b at h
  have hl := m147_l1_law (rec := rec) (t := t) (e := e) e.kids.length 0 (by omega)
  generalize m147_b_l1 rec t e e.kids.length 0 = z at hl h
  cases z with
  | out r => simp only at h hl; rw [hl] at h; cases h
  | on v =>
    have hk : ∀ i, i < e.kids.length → Fits t.columns.length (e.kids.getD i default) := fun i hi => hf i hi (hl i (by omega) (by omega))
    simp only [Bool.cond_eq_ite, beq_iff_eq, decide_eq_true_eq] at h
    split at h
    · rename_i a
      have b : e.kids.length = 0 := by
        repeat' split at h
        all_goals first | omega | (exfalso; simp_all; done)
      exact Fits.of (.inl a) (fun _ => b) (by omega) (by omega) (by omega) (by omega) hk
    · split at h
      · rename_i _ a
        have b : e.kids.length = 0 ∧ 0 ≤ e.column ∧ e.column < (t.columns.length : Int) := by
          repeat' split at h
          all_goals first | (cases h; done) | (exact ⟨by omega, by omega, by simpa using h⟩)
        exact Fits.of (.inr (.inl a)) (fun _ => b.1) (by omega) (by omega) (by omega) (fun _ => b.2) hk
      · split at h
        · rename_i _ _ a
          have b : e.kids.length = 1 := by
            repeat' split at h
            all_goals first | (cases h; done) | (have := eq_of_beq h; omega)
          exact Fits.of (by omega) (by omega) (by omega) (by omega) (by omega) (by omega) hk
        · split at h
          · rename_i _ _ _ a
            have b : e.kids.length = 2 := by
              repeat' split at h
              all_goals first | (cases h; done) | (have := eq_of_beq h; omega)
            exact Fits.of (by omega) (by omega) (by omega) (by omega) (by omega) (by omega) hk
          · split at h
            · rename_i _ _ _ _ a
              have b : 2 ≤ e.kids.length := by
                repeat' split at h
                all_goals first | (cases h; done) | (have := of_decide_eq_true h; omega)
              exact Fits.of (by omega) (by omega) (by omega) (by omega) (by omega) (by omega) hk
            · cases h
theorem m147_law : ∀ (n : Nat) (t : Tbl) (e : Exr), e.depth < n → m147 n t e = true → Fits t.columns.length e
  | 0, _, _, h, _ => absurd h (by omega)
  | n + 1, t, e, h, hm => by
    rw [m147] at hm
    exact m147_b_law (fun i hi hr => m147_law n t _ (by have := Exr.depth_kid hi; omega) hr) hm
theorem m147r_fits {t : Tbl} {e : Exr} (h : m147r t e = true) : Fits t.columns.length e := m147_law _ t e (Nat.lt_succ_self _) h
def m98 (t : Tbl) (e : Exr) : (Int × Int) := (bif (((m53 t) : Int) != 0) then (0, (m53 t)) else (bif (!(m146r e 0 1).2) then (0, 150) else (bif (!(m147r t e)) then (0, 150) else (bif (!(m148r t e).2) then (0, 151) else (((m148r t e).1), 0)))))
theorem m98_ev  (c53 : S 53 = some H53) (c146 : S 146 = some H146) (c147 : S 147 = some H147) (c148 : S 148 = some H148) (t : Tbl) (e : Exr)  (h_t : Tbl.ok t) (h_e : Exr.ok e) : ∃ d σ', Ev (EE S) 98 [dR Tbl.enc t, dR Exr.row e] St.empty d σ' ∧ plain d = true ∧ strip d = D.tup [dI ((m98 t e).1), dI ((m98 t e).2)] := by
 unfold m98
 have h : Ko 0 St.empty [] [] := Ko.empty
 refine Ev.wp (E := EE S) (fn := Tryz.f98) (nt := 38) Tryz.func98 rfl rfl (Ck h fun _ _ h => Rw.bx (d := dR Tbl.enc t) h (Nat.le_add_right _ 0) rfl rfl rfl rfl rfl rfl fun b1 _ h => Rw.bx (d := dR Exr.row e) h (Nat.le_add_right _ 0) rfl rfl rfl rfl rfl rfl fun b2 _ h => Rg 2 rfl (Rw.nilK h (Nat.add_le_add_left (by decide : 2 ≤ 4) _) fun h => Cs (Ck h fun _ _ h => Rw.ld (k := 1) (d := dR Tbl.enc t) h rfl rfl rfl rfl rfl (ty39.ldA rfl rfl) rfl (Rs rfl (fun _ => op_call (d := dI (m53 t)) rfl rfl c53 rfl (He i53 t h_t rfl)) (Rg 1 rfl (Rz h fun h => Ck h fun _ _ h => Rg 2 rfl (Rz h fun h => ?_)))))))
 cases q1 : (((m53 t) : Int) != 0)
 refine Cf rfl (Ci (Cs (Ck h fun _ _ h => Rw.ld (k := 0) (d := dR Exr.row e) h rfl rfl rfl rfl rfl (ty32.ldA rfl rfl) rfl (Rs rfl (fun _ => op_call (d := D.tup [dI ((m146r e 0 1).1), dB ((m146r e 0 1).2)]) rfl rfl c146 rfl (He i146 (e, 0, 1) h_e rfl)) (Rs rfl (fun _ => op_move (d := D.tup [dI ((m146r e 0 1).1), dB ((m146r e 0 1).2)]) rfl) (Rs rfl (fun _ => op_extract rfl rfl) (Rs rfl (fun _ => op_extract rfl rfl) (Rg 2 rfl (Rz h fun h => Ck h fun _ _ h => Rg 3 rfl ?_)))))))))
 cases q2 : (!(m146r e 0 1).2)
 refine Rw.ld (k := 1) (d := dR Tbl.enc t) h rfl rfl rfl rfl rfl (ty39.ldA rfl rfl) rfl (Rw.ld (k := 0) (d := dR Exr.row e) h rfl rfl rfl rfl rfl (ty32.ldA rfl rfl) rfl (Rs rfl (fun _ => op_call (d := dB (m147r t e)) rfl rfl c147 rfl (He i147 (t, e) ⟨h_t, h_e⟩ rfl)) (Rg 2 rfl (Rz h fun h => ?_))))
 cases q3 : (!(m147r t e))
 refine Cf rfl (Ci (Ck h fun _ _ h => Rw.ld (k := 1) (d := dR Tbl.enc t) h rfl rfl rfl rfl rfl (ty39.ldA rfl rfl) rfl (Rw.ld (k := 0) (d := dR Exr.row e) h rfl rfl rfl rfl rfl (ty32.ldA rfl rfl) rfl (Rs rfl (fun _ => op_call (d := D.tup [dI ((m148r t e).1), dB ((m148r t e).2)]) rfl rfl c148 rfl (He i148 (t, e) ⟨h_t, h_e, (m147r_fits (of_notF q3))⟩ rfl)) (Rs rfl (fun _ => op_move (d := D.tup [dI ((m148r t e).1), dB ((m148r t e).2)]) rfl) (Rs rfl (fun _ => op_extract rfl rfl) (Rs rfl (fun _ => op_extract rfl rfl) (Rg 2 rfl (Rz h fun h => Cs (Ck h fun _ _ h => Rg 2 rfl (Rz h fun h => ?_)))))))))))
 cases q4 : (!(m148r t e).2)
 exact Cf rfl (Ci (Ck h fun _ _ h => Rg 3 rfl (Rz h fun h => Cr ⟨.inr rfl, _, rfl, rfl, rfl⟩)))
 exact Ct rfl (Ck h fun _ _ h => Rg 2 rfl (Rz h fun h => Cr ⟨.inr rfl, _, rfl, rfl, rfl⟩))
 exact Ct rfl (Ck h fun _ _ h => Rg 2 rfl (Rz h fun h => Cr ⟨.inr rfl, _, rfl, rfl, rfl⟩))
 exact Rg 5 rfl (Rz h fun h => Ct rfl (Ck h fun _ _ h => Rg 2 rfl (Rz h fun h => Cr ⟨.inr rfl, _, rfl, rfl, rfl⟩)))
 exact Ct rfl (Ck h fun _ _ h => Rg 3 rfl (Rz h fun h => Cr ⟨.inr rfl, _, rfl, rfl, rfl⟩))
noncomputable def H98 : List D → R D := mkH (L2 (dR Tbl.enc) (dR Exr.row)) (fun x => Tbl.ok x.1 ∧ Exr.ok x.2) (fun x => D.tup [dI ((m98 x.1 x.2).1), dI ((m98 x.1 x.2).2)])
theorem i98 : InjE (L2 (dR Tbl.enc) (dR Exr.row)) := j2 (jR Tbl.inj) (jR Exr.rinj)
def m97_1 (t : Tbl) (e : Exr) (column : Int) : Lo Bool Int := (bif (((m98 t e).1 : Int) != (t.columns.getD column.toNat default).kind) then (bif (((m98 t e).1 : Int) != 0) then (bif (((m98 t e).1 : Int) != 2) then .on true else .on (((t.columns.getD column.toNat default).kind : Int) != 3)) else .on false) else .on false)
def m97 (t : Tbl) (e : Exr) (column : Int) : Int := (bif (((m98 t e).2 : Int) != 0) then ((m98 t e).2) else (match m97_1 t e column with | .out r => r | .on v1_39 => (bif v1_39 then 151 else 0)))
theorem m97_ev  (c98 : S 98 = some H98) (t : Tbl) (e : Exr) (column : Int)  (h_t : Tbl.ok t) (h_e : Exr.ok e) (h_c : 0 ≤ column ∧ column.toNat < t.columns.length) : ∃ d σ', Ev (EE S) 97 [dR Tbl.enc t, dR Exr.row e, dI column] St.empty d σ' ∧ plain d = true ∧ strip d = dI (m97 t e column) := by
 unfold m97
 have h : Ko 0 St.empty [] [] := Ko.empty
 refine Ev.wp (E := EE S) (fn := Tryz.f97) (nt := 40) Tryz.func97 rfl rfl (Ck h fun _ _ h => Rw.bx (d := dR Tbl.enc t) h (Nat.le_add_right _ 0) rfl rfl rfl rfl rfl rfl fun b1 _ h => Rw.bx (d := dR Exr.row e) h (Nat.le_add_right _ 0) rfl rfl rfl rfl rfl rfl fun b2 _ h => Rg 1 rfl (Rw.nilK h (Nat.add_le_add_left (by decide : 2 ≤ 3) _) fun h => Ck h fun _ _ h => Rw.ld (k := 1) (d := dR Tbl.enc t) h rfl rfl rfl rfl rfl (ty39.ldA rfl rfl) rfl (Rw.ld (k := 0) (d := dR Exr.row e) h rfl rfl rfl rfl rfl (ty32.ldA rfl rfl) rfl (Rs rfl (fun _ => op_call (d := D.tup [dI ((m98 t e).1), dI ((m98 t e).2)]) rfl rfl c98 rfl (He i98 (t, e) ⟨h_t, h_e⟩ rfl)) (Rs rfl (fun _ => op_move (d := D.tup [dI ((m98 t e).1), dI ((m98 t e).2)]) rfl) (Rs rfl (fun _ => op_extract rfl rfl) (Rs rfl (fun _ => op_extract rfl rfl) (Rg 2 rfl (Rz h fun h => Cs (Ck h fun _ _ h => Rg 2 rfl (Rz h fun h => ?_)))))))))))
 cases q1 : (((m98 t e).2 : Int) != 0)
 refine Cf rfl (Ci (Ck h fun _ _ h => Rf fi39_1 rfl (Rl 1 h rfl (ty35.ldS rfl) (Rg 1 rfl (Rs rfl (fun _ => op_ixI rfl rfl rfl Tryz.underlying35 ty65.hn h_c.1 (at_map h_c.2) rfl) (Rs rfl (fun _ => op_fr fi65_1 rfl rfl) (Rc (at_map h_c.2) ty3 rfl (Rg 1 rfl (Rz h fun h => Cs ?_)))))))))
 refine Cw.seq (Cw.mono (Q := fun oX gX sX => match m97_1 t e column with | .on v1_39 => oX = none ∧ gX 39 = dB v1_39 ∧ Ko 0 sX [(b2, (dC Exr.row e)), (b1, (dC Tbl.enc t))] [] | .out r => Ou S Tryz.f97 (fun d _ => plain d = true ∧ strip d = dI r) oX gX sX) ?_ ?_)
 unfold m97_1
 refine Cw.regionK h fun _ _ h => Rg 4 rfl ?_
 cases q2 : (((m98 t e).1 : Int) != (t.columns.getD column.toNat default).kind)
 exact Rg 11 rfl (Rz h fun h => an3 rfl rfl h)
 refine Rg 4 rfl ?_
 cases q3 : (((m98 t e).1 : Int) != 0)
 exact Rg 7 rfl (Rz h fun h => an3 rfl rfl h)
 refine Rg 3 rfl ?_
 cases q4 : (((m98 t e).1 : Int) != 2)
 exact Rg 4 rfl (Rz h fun h => an3 rfl rfl h)
 exact Rg 4 rfl (Rz h fun h => an3 rfl rfl h)
 intro oY gY sY hh
 generalize hzF1 : m97_1 t e column = zZ at hh ⊢
 rcases zZ with v1_39 | rZ
 dsimp only
 obtain ⟨rfl, e39, h⟩ := hh
 rw [pin e39]
 cases q5 : v1_39
 exact Cf rfl (Ci (Ck h fun _ _ h => Rg 1 rfl (Rz h fun h => Cr ⟨.inr rfl, _, rfl, rfl, rfl⟩)))
 exact Ct rfl (Ck h fun _ _ h => Rg 1 rfl (Rz h fun h => Cr ⟨.inr rfl, _, rfl, rfl, rfl⟩))
 obtain ⟨rfl, w⟩ := hh
 exact ⟨.inr rfl, w⟩
 exact Ct rfl (Ck h fun _ _ h => Rg 2 rfl (Rz h fun h => Cr ⟨.inr rfl, _, rfl, rfl, rfl⟩))
noncomputable def H97 : List D → R D := mkH (L3 (dR Tbl.enc) (dR Exr.row) dI) (fun x => Tbl.ok x.1 ∧ Exr.ok x.2.1 ∧ (0 ≤ x.2.2 ∧ x.2.2.toNat < x.1.columns.length)) (fun x => dI (m97 x.1 x.2.1 x.2.2))
theorem i97 : InjE (L3 (dR Tbl.enc) (dR Exr.row) dI) := j3 (jR Tbl.inj) (jR Exr.rinj) jI
def m58_1 (t : Tbl) (e : Exr) : Lo Bool Int := (bif (((m98 t e).1 : Int) != 1) then .on (((m98 t e).1 : Int) != 0) else .on false)
def m58 (t : Tbl) (e : Exr) : Int := (bif (m89 e) then 0 else (bif (((m98 t e).2 : Int) != 0) then ((m98 t e).2) else (match m58_1 t e with | .out r => r | .on v1_23 => (bif v1_23 then 151 else 0))))
theorem m58_ev  (c89 : S 89 = some H89) (c98 : S 98 = some H98) (t : Tbl) (e : Exr)  (h_t : Tbl.ok t) (h_e : Exr.ok e) : ∃ d σ', Ev (EE S) 58 [dR Tbl.enc t, dR Exr.row e] St.empty d σ' ∧ plain d = true ∧ strip d = dI (m58 t e) := by
 unfold m58
 have h : Ko 0 St.empty [] [] := Ko.empty
 refine Ev.wp (E := EE S) (fn := Tryz.f58) (nt := 24) Tryz.func58 rfl rfl (Ck h fun _ _ h => Rw.bx (d := dR Tbl.enc t) h (Nat.le_add_right _ 0) rfl rfl rfl rfl rfl rfl fun b1 _ h => Rw.bx (d := dR Exr.row e) h (Nat.le_add_right _ 0) rfl rfl rfl rfl rfl rfl fun b2 _ h => Rg 1 rfl (Rw.nilK h (Nat.add_le_add_left (by decide : 2 ≤ 3) _) fun h => Cs (Ck h fun _ _ h => Rw.ld (k := 0) (d := dR Exr.row e) h rfl rfl rfl rfl rfl (ty32.ldA rfl rfl) rfl (Rs rfl (fun _ => op_call (d := dB (m89 e)) rfl rfl c89 rfl (He i89 e h_e rfl)) (Rz h fun h => ?_)))))
 cases q1 : (m89 e)
 refine Cf rfl (Ci (Ck h fun _ _ h => Rw.ld (k := 1) (d := dR Tbl.enc t) h rfl rfl rfl rfl rfl (ty39.ldA rfl rfl) rfl (Rw.ld (k := 0) (d := dR Exr.row e) h rfl rfl rfl rfl rfl (ty32.ldA rfl rfl) rfl (Rs rfl (fun _ => op_call (d := D.tup [dI ((m98 t e).1), dI ((m98 t e).2)]) rfl rfl c98 rfl (He i98 (t, e) ⟨h_t, h_e⟩ rfl)) (Rs rfl (fun _ => op_move (d := D.tup [dI ((m98 t e).1), dI ((m98 t e).2)]) rfl) (Rs rfl (fun _ => op_extract rfl rfl) (Rs rfl (fun _ => op_extract rfl rfl) (Rg 2 rfl (Rz h fun h => Cs (Ck h fun _ _ h => Rg 2 rfl (Rz h fun h => ?_)))))))))))
 cases q2 : (((m98 t e).2 : Int) != 0)
 refine Cf rfl (Ci (Cs ?_))
 refine Cw.seq (Cw.mono (Q := fun oX gX sX => match m58_1 t e with | .on v1_23 => oX = none ∧ gX 23 = dB v1_23 ∧ Ko 0 sX [(b2, (dC Exr.row e)), (b1, (dC Tbl.enc t))] [] | .out r => Ou S Tryz.f58 (fun d _ => plain d = true ∧ strip d = dI r) oX gX sX) ?_ ?_)
 unfold m58_1
 refine Cw.regionK h fun _ _ h => Rg 3 rfl ?_
 cases q3 : (((m98 t e).1 : Int) != 1)
 exact Rg 3 rfl (Rz h fun h => an3 rfl rfl h)
 exact Rg 3 rfl (Rz h fun h => an3 rfl rfl h)
 intro oY gY sY hh
 generalize hzF1 : m58_1 t e = zZ at hh ⊢
 rcases zZ with v1_23 | rZ
 dsimp only
 obtain ⟨rfl, e23, h⟩ := hh
 rw [pin e23]
 cases q4 : v1_23
 exact Cf rfl (Ci (Ck h fun _ _ h => Rg 1 rfl (Rz h fun h => Cr ⟨.inr rfl, _, rfl, rfl, rfl⟩)))
 exact Ct rfl (Ck h fun _ _ h => Rg 1 rfl (Rz h fun h => Cr ⟨.inr rfl, _, rfl, rfl, rfl⟩))
 obtain ⟨rfl, w⟩ := hh
 exact ⟨.inr rfl, w⟩
 exact Ct rfl (Ck h fun _ _ h => Rg 2 rfl (Rz h fun h => Cr ⟨.inr rfl, _, rfl, rfl, rfl⟩))
 exact Ct rfl (Ck h fun _ _ h => Rg 1 rfl (Rz h fun h => Cr ⟨.inr rfl, _, rfl, rfl, rfl⟩))
noncomputable def H58 : List D → R D := mkH (L2 (dR Tbl.enc) (dR Exr.row)) (fun x => Tbl.ok x.1 ∧ Exr.ok x.2) (fun x => dI (m58 x.1 x.2))
theorem i58 : InjE (L2 (dR Tbl.enc) (dR Exr.row)) := j2 (jR Tbl.inj) (jR Exr.rinj)
def m46 (s : Sst) (t : Tbl) : Bool := (bif decide ((s.column : Int) < 0) then true else (decide ((s.column : Int) ≥ ((t.columns.length : Nat) : Int))))
theorem m46_ev  {lo : Nat} {σ : St} {bs : List (Nat × List D)} {acs : List (D × List (List C) × Nat)} (s : Sst) (t : Tbl)  (h_s : Sst.ok s) (h_t : Tbl.ok t) (b_t kb_t : Nat) (hb_t : bs[kb_t]? = some (b_t, (dC Tbl.enc t))) (h : Ko lo σ bs acs) : ∃ d σ', Ev (EE S) 46 [dR Sst.enc s, D.ptr b_t 0] σ d σ' ∧ d = dB (m46 s t) ∧ Ko lo σ' bs acs := by
 unfold m46
 refine Ev.wp (E := EE S) (fn := Tryz.f46) (nt := 15) Tryz.func46 rfl rfl (Ck h fun _ _ h => Rw.bx (d := dR Sst.enc s) h (Nat.le_add_right _ 0) rfl rfl rfl rfl rfl rfl fun b1 _ h => Rg 1 rfl (Rw.nilK h (Nat.add_le_add_left (by decide : 1 ≤ 2) _) fun h => Ck h fun _ _ h => Rf fi51_0 rfl (Rl 0 h rfl (ty3.ldS rfl) (Rg 2 rfl ?_))))
 cases q1 : decide ((s.column : Int) < 0)
 exact Rf fi51_0 rfl (Rl 0 h rfl (ty3.ldS rfl) (Rf fi39_1 rfl (Rw.ld (k := kb_t + 1) (d := dL Col.enc t.columns) h rfl rfl rfl rfl hb_t (ty35.ldS rfl) rfl (Re Tryz.underlying35 rfl (Rg 3 rfl (Rz h fun h => Cr ⟨.inr rfl, _, rfl, rfl, (h.dropBox (List.Sublist.cons _ (List.Sublist.refl _)))⟩))))))
 exact Rg 8 rfl (Rz h fun h => Cr ⟨.inr rfl, _, rfl, rfl, (h.dropBox (List.Sublist.cons _ (List.Sublist.refl _)))⟩)
def m47 (x : Sst) (s : Sst) : Bool := ((x.column : Int) == s.column)
theorem m47_ev  {lo : Nat} {σ : St} {bs : List (Nat × List D)} {acs : List (D × List (List C) × Nat)} (x : Sst) (s : Sst)  (h_x : Sst.ok x) (h_s : Sst.ok s) (b_s kb_s : Nat) (hb_s : bs[kb_s]? = some (b_s, (dC Sst.enc s))) (h : Ko lo σ bs acs) : ∃ d σ', Ev (EE S) 47 [dR Sst.enc x, D.ptr b_s 0] σ d σ' ∧ d = dB (m47 x s) ∧ Ko lo σ' bs acs := by
 unfold m47
 exact Ev.wp (E := EE S) (fn := Tryz.f47) (nt := 9) Tryz.func47 rfl rfl (Ck h fun _ _ h => Rw.bx (d := dR Sst.enc x) h (Nat.le_add_right _ 0) rfl rfl rfl rfl rfl rfl fun b1 _ h => Rg 1 rfl (Rw.nilK h (Nat.add_le_add_left (by decide : 1 ≤ 2) _) fun h => Ck h fun _ _ h => Rf fi51_0 rfl (Rl 0 h rfl (ty3.ldS rfl) (Rf fi51_0 rfl (Rw.ld (k := kb_s + 1) (d := dI s.column) h rfl rfl rfl rfl hb_s (ty3.ldS rfl) rfl (Rg 2 rfl (Rz h fun h => Cr ⟨.inr rfl, _, rfl, rfl, (h.dropBox (List.Sublist.cons _ (List.Sublist.refl _)))⟩)))))))
def m51 (c : Int) (q : Qry) : Bool := (!(m52 q.group c))
theorem m51_ev  (c52 : S 52 = some H52) {lo : Nat} {σ : St} {bs : List (Nat × List D)} {acs : List (D × List (List C) × Nat)} (c : Int) (q : Qry)  (h_q : Qry.ok q) (b_q kb_q : Nat) (hb_q : bs[kb_q]? = some (b_q, (dC Qry.enc q))) (h : Ko lo σ bs acs) : ∃ d σ', Ev (EE S) 51 [dI c, D.ptr b_q 0] σ d σ' ∧ d = dB (m51 c q) ∧ Ko lo σ' bs acs := by
 unfold m51
 exact Ev.wp (E := EE S) (fn := Tryz.f51) (nt := 9) Tryz.func51 rfl rfl (Ck h fun _ _ h => Rg 1 rfl (Rz h fun h => Ck h fun _ _ h => Rf fi41_7 rfl (Rw.l (k := kb_q) h rfl rfl hb_q (ty23.ldS rfl) (Rg 1 rfl (Rs rfl (fun _ => op_call (d := dB (m52 q.group c)) rfl rfl c52 rfl (He i52 (q.group, c) (Qry.ok_group h_q) rfl)) (Rg 2 rfl (Rz h fun h => Cr ⟨.inr rfl, _, rfl, rfl, h⟩)))))))
def m49_1 (t : Tbl) (q : Qry) (x : Itm) : Lo Bool Int := (bif decide ((x.fold : Int) < 0) then .on true else .on (decide ((x.fold : Int) > 5)))
def m49_2 (t : Tbl) (q : Qry) (x : Itm) (v1_10 : Bool) : Lo Bool Int := (bif x.all then (bif (!(m28 x.expr)) then .on true else (bif ((x.fold : Int) != 0) then (bif ((x.fold : Int) != 1) then .on true else (bif ((x.fold : Int) == 0) then .on (!(ByteArray.toList x.name == ByteArray.toList (⟨#[]⟩))) else .on false)) else (bif ((x.fold : Int) == 0) then .on (!(ByteArray.toList x.name == ByteArray.toList (⟨#[]⟩))) else .on false))) else .on false)
def m49_4 (t : Tbl) (q : Qry) (x : Itm) (v1_10 : Bool) (v2_19 : Bool) : Lo Bool Int := (bif (((m48 t x.expr).1 : Int) == 2) then .on true else (bif (((m48 t x.expr).1 : Int) == 3) then .on true else .on (((m48 t x.expr).1 : Int) == 0)))
def m49_5 (t : Tbl) (q : Qry) (x : Itm) (v1_10 : Bool) (v2_19 : Bool) (v4_9 : Bool) : Lo Bool Int := (bif ((x.fold : Int) == 2) then .on (!v4_9) else (bif ((x.fold : Int) == 5) then .on (!v4_9) else .on false))
def m49_3 (t : Tbl) (q : Qry) (x : Itm) (v1_10 : Bool) (v2_19 : Bool) : Lo Unit Int := (bif (!x.all) then (match m49_4 t q x false false with | .out r => .out r | .on v4_9 => (bif (((m48 t x.expr).2 : Int) != 0) then .out ((m48 t x.expr).2) else (match m49_5 t q x false false v4_9 with | .out r => .out r | .on v5_72 => (bif v5_72 then .out 151 else .on ())))) else .on ())
def m49_6 (t : Tbl) (q : Qry) (x : Itm) (v1_10 : Bool) (v2_19 : Bool) : Lo Bool Int := (bif (!(ByteArray.toList x.name == ByteArray.toList (⟨#[]⟩))) then .on (!(m15 x.name)) else .on false)
def m49_7 (t : Tbl) (q : Qry) (x : Itm) (v1_10 : Bool) (v2_19 : Bool) (v6_93 : Bool) : Lo Bool Int := (bif (m50 q) then (bif ((x.fold : Int) == 0) then (bif x.all then .on true else (bif ((x.expr.kind : Int) != 2) then .on true else .on (!(m52 q.group x.expr.column)))) else .on false) else .on false)
def m49 (t : Tbl) (q : Qry) (x : Itm) : Int := (match m49_1 t q x with | .out r => r | .on v1_10 => (bif v1_10 then 1 else (match m49_2 t q x false with | .out r => r | .on v2_19 => (bif v2_19 then 1 else (match m49_3 t q x false false with | .out r => r | .on _ => (match m49_6 t q x false false with | .out r => r | .on v6_93 => (bif v6_93 then 30 else (match m49_7 t q x false false false with | .out r => r | .on v7_119 => (bif v7_119 then 252 else 0)))))))))
theorem m49_ev  (c15 : S 15 = some H15) (c28 : S 28 = some H28) (c48 : S 48 = some H48) (c50 : S 50 = some H50) (c52 : S 52 = some H52) (t : Tbl) (q : Qry) (x : Itm)  (h_t : Tbl.ok t) (h_q : Qry.ok q) (h_x : Itm.ok x) : ∃ d σ', Ev (EE S) 49 [dR Tbl.enc t, dR Qry.enc q, dR Itm.enc x] St.empty d σ' ∧ plain d = true ∧ strip d = dI (m49 t q x) := by
 unfold m49
 have h : Ko 0 St.empty [] [] := Ko.empty
 refine Ev.wp (E := EE S) (fn := Tryz.f49) (nt := 120) Tryz.func49 rfl rfl (Ck h fun _ _ h => Rw.bx (d := dR Tbl.enc t) h (Nat.le_add_right _ 0) rfl rfl rfl rfl rfl rfl fun b1 _ h => Rw.bx (d := dR Qry.enc q) h (Nat.le_add_right _ 0) rfl rfl rfl rfl rfl rfl fun b2 _ h => Rw.bx (d := dR Itm.enc x) h (Nat.le_add_right _ 0) rfl rfl rfl rfl rfl rfl fun b3 _ h => Rg 1 rfl (Rw.nilK h (Nat.add_le_add_left (by decide : 3 ≤ 4) _) fun h => Cs (Cb ?_)))
 refine Cw.seq (Cw.mono (Q := fun oX gX sX => match m49_1 t q x with | .on v1_10 => oX = none ∧ gX 3 = D.ptr b1 0 ∧ gX 4 = D.ptr b2 0 ∧ gX 5 = D.ptr b3 0 ∧ gX 10 = dB v1_10 ∧ Ko 0 sX [(b3, (dC Itm.enc x)), (b2, (dC Qry.enc q)), (b1, (dC Tbl.enc t))] [] | .out r => Ou S Tryz.f49 (fun d _ => plain d = true ∧ strip d = dI r) oX gX sX) ?_ ?_)
 unfold m49_1
 refine Cw.regionK h fun _ _ h => Rf fi53_0 rfl (Rl 0 h rfl (ty3.ldS rfl) (Rg 2 rfl ?_))
 cases q1 : decide ((x.fold : Int) < 0)
 exact Rf fi53_0 rfl (Rl 0 h rfl (ty3.ldS rfl) (Rg 3 rfl (Rz h fun h => an6 rfl rfl rfl rfl rfl h)))
 exact Rg 5 rfl (Rz h fun h => an6 rfl rfl rfl rfl rfl h)
 intro oY gY sY hh
 generalize hzF1 : m49_1 t q x = zZ at hh ⊢
 rcases zZ with v1_10 | rZ
 dsimp only
 obtain ⟨rfl, e3, e4, e5, e10, h⟩ := hh
 rw [pin e3, pin e4, pin e5, pin e10]
 cases q2 : v1_10
 refine Cf rfl ?_
 refine Cw.seq (Cw.mono (Q := fun oX gX sX => match m49_2 t q x false with | .on v2_19 => oX = none ∧ gX 3 = D.ptr b1 0 ∧ gX 4 = D.ptr b2 0 ∧ gX 5 = D.ptr b3 0 ∧ gX 19 = dB v2_19 ∧ Ko 0 sX [(b3, (dC Itm.enc x)), (b2, (dC Qry.enc q)), (b1, (dC Tbl.enc t))] [] | .out r => Ou S Tryz.f49 (fun d _ => plain d = true ∧ strip d = dI r) oX gX sX) ?_ ?_)
 unfold m49_2
 refine Cw.regionK h fun _ _ h => Rf fi53_1 rfl (Rl 0 h rfl (ty4.ldS rfl) (Rg 1 rfl ?_))
 cases q3 : x.all
 exact Rg 26 rfl (Rz h fun h => an6 rfl rfl rfl rfl rfl h)
 refine Rf fi53_2 rfl (Rw.ld (k := 0) (d := dR Exr.row x.expr) h rfl rfl rfl rfl rfl (ty32.ldA rfl rfl) rfl (Rs rfl (fun _ => op_call (d := dB (m28 x.expr)) rfl rfl c28 rfl (He i28 x.expr (Itm.ok_expr h_x) rfl)) (Rg 2 rfl ?_)))
 cases q4 : (!(m28 x.expr))
 refine Rf fi53_0 rfl (Rl 0 h rfl (ty3.ldS rfl) (Rg 2 rfl ?_))
 cases q5 : ((x.fold : Int) != 0)
 refine Rg 6 rfl (Rf fi53_0 rfl (Rl 0 h rfl (ty3.ldS rfl) (Rg 2 rfl ?_)))
 cases q6 : ((x.fold : Int) == 0)
 exact Rg 7 rfl (Rz h fun h => an6 rfl rfl rfl rfl rfl h)
 exact Rf fi53_3 rfl (Rl 0 h rfl (ty9.ldS rfl) (Rg 5 rfl (Rz h fun h => an6 rfl rfl rfl rfl rfl h)))
 refine Rf fi53_0 rfl (Rl 0 h rfl (ty3.ldS rfl) (Rg 4 rfl ?_))
 cases q7 : ((x.fold : Int) != 1)
 refine Rf fi53_0 rfl (Rl 0 h rfl (ty3.ldS rfl) (Rg 2 rfl ?_))
 cases q8 : ((x.fold : Int) == 0)
 exact Rg 7 rfl (Rz h fun h => an6 rfl rfl rfl rfl rfl h)
 exact Rf fi53_3 rfl (Rl 0 h rfl (ty9.ldS rfl) (Rg 5 rfl (Rz h fun h => an6 rfl rfl rfl rfl rfl h)))
 exact Rg 11 rfl (Rz h fun h => an6 rfl rfl rfl rfl rfl h)
 exact Rg 21 rfl (Rz h fun h => an6 rfl rfl rfl rfl rfl h)
 intro oY gY sY hh
 generalize hzF2 : m49_2 t q x false = zZ at hh ⊢
 rcases zZ with v2_19 | rZ
 dsimp only
 obtain ⟨rfl, e3, e4, e5, e19, h⟩ := hh
 rw [pin e3, pin e4, pin e5, pin e19]
 cases q9 : v2_19
 refine Cf rfl (Ci ?_)
 refine Cw.seq (Cw.mono (Q := fun oX gX sX => match m49_3 t q x false false with | .on _ => oX = none ∧ gX 4 = D.ptr b2 0 ∧ gX 5 = D.ptr b3 0 ∧ Ko 0 sX [(b3, (dC Itm.enc x)), (b2, (dC Qry.enc q)), (b1, (dC Tbl.enc t))] [] | .out r => Ou S Tryz.f49 (fun d _ => plain d = true ∧ strip d = dI r) oX gX sX) ?_ ?_)
 unfold m49_3
 refine Ck h fun _ _ h => Rf fi53_1 rfl (Rl 0 h rfl (ty4.ldS rfl) (Rg 1 rfl (Rz h fun h => ?_)))
 cases q10 : (!x.all)
 exact Cf rfl (Ci (an4 rfl rfl rfl h))
 refine Ct rfl (Ck h fun _ _ h => Rw.ld (k := 2) (d := dR Tbl.enc t) h rfl rfl rfl rfl rfl (ty39.ldA rfl rfl) rfl (Rf fi53_2 rfl (Rw.ld (k := 0) (d := dR Exr.row x.expr) h rfl rfl rfl rfl rfl (ty32.ldA rfl rfl) rfl (Rs rfl (fun _ => op_call (d := D.tup [dI ((m48 t x.expr).1), dI ((m48 t x.expr).2)]) rfl rfl c48 rfl (He i48 (t, x.expr) ⟨h_t, (Itm.ok_expr h_x)⟩ rfl)) (Rs rfl (fun _ => op_move (d := D.tup [dI ((m48 t x.expr).1), dI ((m48 t x.expr).2)]) rfl) (Rs rfl (fun _ => op_extract rfl rfl) (Rs rfl (fun _ => op_extract rfl rfl) (Rg 2 rfl (Rz h fun h => ?_)))))))))
 refine Cw.seq (Cw.mono (Q := fun oX gX sX => match m49_4 t q x false false with | .on v4_9 => oX = none ∧ gX 4 = D.ptr b2 0 ∧ gX 5 = D.ptr b3 0 ∧ gX 8 = dI ((m48 t x.expr).2) ∧ gX 9 = dB v4_9 ∧ Ko 0 sX [(b3, (dC Itm.enc x)), (b2, (dC Qry.enc q)), (b1, (dC Tbl.enc t))] [] | .out r => Ou S Tryz.f49 (fun d _ => plain d = true ∧ strip d = dI r) oX gX sX) ?_ ?_)
 unfold m49_4
 refine Cw.regionK h fun _ _ h => Rg 3 rfl ?_
 cases q11 : (((m48 t x.expr).1 : Int) == 2)
 refine Rg 4 rfl ?_
 cases q12 : (((m48 t x.expr).1 : Int) == 3)
 exact Rg 4 rfl (Rz h fun h => an6 rfl rfl rfl rfl rfl h)
 exact Rg 4 rfl (Rz h fun h => an6 rfl rfl rfl rfl rfl h)
 exact Rg 8 rfl (Rz h fun h => an6 rfl rfl rfl rfl rfl h)
 intro oY gY sY hh
 generalize hzF4 : m49_4 t q x false false = zZ at hh ⊢
 rcases zZ with v4_9 | rZ
 dsimp only
 obtain ⟨rfl, e4, e5, e8, e9, h⟩ := hh
 rw [pin e4, pin e5, pin e8, pin e9]
 refine Cb (Ck h fun _ _ h => Rg 3 rfl (Rz h fun h => ?_))
 cases q13 : (((m48 t x.expr).2 : Int) != 0)
 refine Cf rfl ?_
 refine Cw.seq (Cw.mono (Q := fun oX gX sX => match m49_5 t q x false false v4_9 with | .on v5_72 => oX = none ∧ gX 4 = D.ptr b2 0 ∧ gX 5 = D.ptr b3 0 ∧ gX 72 = dB v5_72 ∧ Ko 0 sX [(b3, (dC Itm.enc x)), (b2, (dC Qry.enc q)), (b1, (dC Tbl.enc t))] [] | .out r => Ou S Tryz.f49 (fun d _ => plain d = true ∧ strip d = dI r) oX gX sX) ?_ ?_)
 unfold m49_5
 refine Cw.regionK h fun _ _ h => Rf fi53_0 rfl (Rl 0 h rfl (ty3.ldS rfl) (Rg 2 rfl ?_))
 cases q14 : ((x.fold : Int) == 2)
 refine Rf fi53_0 rfl (Rl 0 h rfl (ty3.ldS rfl) (Rg 3 rfl ?_))
 cases q15 : ((x.fold : Int) == 5)
 exact Rg 4 rfl (Rz h fun h => an5 rfl rfl rfl rfl h)
 exact Rg 4 rfl (Rz h fun h => an5 rfl rfl rfl rfl h)
 exact Rg 9 rfl (Rz h fun h => an5 rfl rfl rfl rfl h)
 intro oY gY sY hh
 generalize hzF5 : m49_5 t q x false false v4_9 = zZ at hh ⊢
 rcases zZ with v5_72 | rZ
 dsimp only
 obtain ⟨rfl, e4, e5, e72, h⟩ := hh
 rw [pin e4, pin e5, pin e72]
 cases q16 : v5_72
 exact Cf rfl (Ci (an4 rfl rfl rfl h))
 exact Ct rfl (Ck h fun _ _ h => Rg 1 rfl (Rz h fun h => Cr (And.intro rfl (Exists.intro _ (an3 rfl rfl rfl)))))
 obtain ⟨rfl, w⟩ := hh
 exact ⟨rfl, w⟩
 exact Ct rfl (Ck h fun _ _ h => Rg 2 rfl (Rz h fun h => Cr (And.intro rfl (Exists.intro _ (an3 rfl rfl rfl)))))
 obtain ⟨rfl, w⟩ := hh
 exact ⟨rfl, w⟩
 intro oY gY sY hh
 generalize hzF3 : m49_3 t q x false false = zZ at hh ⊢
 rcases zZ with vZ | rZ
 dsimp only
 obtain ⟨rfl, e4, e5, h⟩ := hh
 rw [pin e4, pin e5]
 refine Cs ?_
 refine Cw.seq (Cw.mono (Q := fun oX gX sX => match m49_6 t q x false false with | .on v6_93 => oX = none ∧ gX 4 = D.ptr b2 0 ∧ gX 5 = D.ptr b3 0 ∧ gX 93 = dB v6_93 ∧ Ko 0 sX [(b3, (dC Itm.enc x)), (b2, (dC Qry.enc q)), (b1, (dC Tbl.enc t))] [] | .out r => Ou S Tryz.f49 (fun d _ => plain d = true ∧ strip d = dI r) oX gX sX) ?_ ?_)
 unfold m49_6
 refine Cw.regionK h fun _ _ h => Rf fi53_3 rfl (Rl 0 h rfl (ty9.ldS rfl) (Rg 2 rfl ?_))
 cases q17 : (!(ByteArray.toList x.name == ByteArray.toList (⟨#[]⟩)))
 exact Rg 5 rfl (Rz h fun h => an5 rfl rfl rfl rfl h)
 exact Rf fi53_3 rfl (Rl 0 h rfl (ty9.ldS rfl) (Rs rfl (fun _ => op_call (d := dB (m15 x.name)) rfl rfl c15 rfl (He i15 x.name (Itm.ok_name h_x) rfl)) (Rg 2 rfl (Rz h fun h => an5 rfl rfl rfl rfl h))))
 intro oY gY sY hh
 generalize hzF6 : m49_6 t q x false false = zZ at hh ⊢
 rcases zZ with v6_93 | rZ
 dsimp only
 obtain ⟨rfl, e4, e5, e93, h⟩ := hh
 rw [pin e4, pin e5, pin e93]
 cases q18 : v6_93
 refine Cf rfl (Ci (Cs ?_))
 refine Cw.seq (Cw.mono (Q := fun oX gX sX => match m49_7 t q x false false false with | .on v7_119 => oX = none ∧ gX 119 = dB v7_119 ∧ Ko 0 sX [(b3, (dC Itm.enc x)), (b2, (dC Qry.enc q)), (b1, (dC Tbl.enc t))] [] | .out r => Ou S Tryz.f49 (fun d _ => plain d = true ∧ strip d = dI r) oX gX sX) ?_ ?_)
 unfold m49_7
 refine Cw.regionK h fun _ _ h => Rw.ld (k := 1) (d := dR Qry.enc q) h rfl rfl rfl rfl rfl (ty41.ldA rfl rfl) rfl (Rs rfl (fun _ => op_call (d := dB (m50 q)) rfl rfl c50 rfl (He i50 q h_q rfl)) (Rg 1 rfl ?_))
 cases q19 : (m50 q)
 exact Rg 23 rfl (Rz h fun h => an3 rfl rfl h)
 refine Rf fi53_0 rfl (Rl 0 h rfl (ty3.ldS rfl) (Rg 3 rfl ?_))
 cases q20 : ((x.fold : Int) == 0)
 exact Rg 18 rfl (Rz h fun h => an3 rfl rfl h)
 refine Rf fi53_1 rfl (Rl 0 h rfl (ty4.ldS rfl) (Rg 1 rfl ?_))
 cases q21 : x.all
 refine Rf fi53_2 rfl (Rf fi32_0 rfl (Rl 0 h rfl (ty3.ldS rfl) (Rg 3 rfl ?_)))
 cases q22 : ((x.expr.kind : Int) != 2)
 exact Rf fi41_7 rfl (Rl 1 h rfl (ty23.ldS rfl) (Rf fi53_2 rfl (Rf fi32_2 rfl (Rl 0 h rfl (ty3.ldS rfl) (Rs rfl (fun _ => op_call (d := dB (m52 q.group x.expr.column)) rfl rfl c52 rfl (He i52 (q.group, x.expr.column) (Qry.ok_group h_q) rfl)) (Rg 3 rfl (Rz h fun h => an3 rfl rfl h)))))))
 exact Rg 9 rfl (Rz h fun h => an3 rfl rfl h)
 exact Rg 15 rfl (Rz h fun h => an3 rfl rfl h)
 intro oY gY sY hh
 generalize hzF7 : m49_7 t q x false false false = zZ at hh ⊢
 rcases zZ with v7_119 | rZ
 dsimp only
 obtain ⟨rfl, e119, h⟩ := hh
 rw [pin e119]
 cases q23 : v7_119
 exact Cf rfl (Ci (Ck h fun _ _ h => Rg 1 rfl (Rz h fun h => Cr ⟨.inr rfl, _, rfl, rfl, rfl⟩)))
 exact Ct rfl (Ck h fun _ _ h => Rg 1 rfl (Rz h fun h => Cr ⟨.inr rfl, _, rfl, rfl, rfl⟩))
 obtain ⟨rfl, w⟩ := hh
 exact ⟨.inr rfl, w⟩
 exact Ct rfl (Ck h fun _ _ h => Rg 1 rfl (Rz h fun h => Cr ⟨.inr rfl, _, rfl, rfl, rfl⟩))
 obtain ⟨rfl, w⟩ := hh
 exact ⟨.inr rfl, w⟩
 obtain ⟨rfl, w⟩ := hh
 exact ⟨.inr rfl, w⟩
 exact Ct rfl (Ck h fun _ _ h => Rg 1 rfl (Rz h fun h => Cr ⟨.inr rfl, _, rfl, rfl, rfl⟩))
 obtain ⟨rfl, w⟩ := hh
 exact ⟨.inr rfl, w⟩
 exact Ct rfl (Ck h fun _ _ h => Rg 1 rfl (Rz h fun h => Cr ⟨.inr rfl, _, rfl, rfl, rfl⟩))
 obtain ⟨rfl, w⟩ := hh
 exact ⟨.inr rfl, w⟩
noncomputable def H49 : List D → R D := mkH (L3 (dR Tbl.enc) (dR Qry.enc) (dR Itm.enc)) (fun x => Tbl.ok x.1 ∧ Qry.ok x.2.1 ∧ Itm.ok x.2.2) (fun x => dI (m49 x.1 x.2.1 x.2.2))
theorem i49 : InjE (L3 (dR Tbl.enc) (dR Qry.enc) (dR Itm.enc)) := j3 (jR Tbl.inj) (jR Qry.inj) (jR Itm.inj)
noncomputable def cm19_l1 : Code := (cl (cr (cl (cr (cr (cr (cr (bodyOf Tryz.f19))))))))
def m19_l1 (t : Tbl) (q : Qry) : Nat → Nat → (List Int) → Lo (List Int) Int
 | 0, _, yl1_a1 => .on yl1_a1
 | rem1 + 1, i1, yl1_a1 => m19_l1 t q rem1 (i1 + 1) (yl1_a1 ++ ([((q.order.getD i1 default).column)]))
noncomputable def cm19_l2 : Code := (cl (cr (cl (cr (cr (cr (cr (cr (cr (bodyOf Tryz.f19))))))))))
def m19_l2 (t : Tbl) (q : Qry) (yl1_a1 : (List Int)) : Nat → Nat → Lo Unit Int
 | 0, _ => .on ()
 | rem2 + 1, i2 => (bif (((m49 t q (q.items.getD i2 default)) : Int) != 0) then .out (m49 t q (q.items.getD i2 default)) else m19_l2 t q yl1_a1 rem2 (i2 + 1) )
def m19_1 (t : Tbl) (q : Qry) (yl1_a1 : (List Int)) : Lo Bool Int := (bif (m50 q) then .on (m32 yl1_a1 (fun x => m51 x q)) else .on false)
def m19 (t : Tbl) (q : Qry) : Int := (bif (((m18 t q.wher) : Int) != 0) then (m18 t q.wher) else (bif decide ((((q.items.length : Nat) : Int) : Int) < 1) then 2 else (bif decide ((((q.items.length : Nat) : Int) : Int) > 64) then 2 else (match m19_l1 t q q.order.length 0 ([]) with | .out r => r | .on yl1_a1 => (bif (!(m39 t q.group)) then 5 else (bif (!(m39 t yl1_a1)) then 5 else (match m19_l2 t q yl1_a1 q.items.length 0  with | .out r => r | .on _ => (match m19_1 t q yl1_a1 with | .out r => r | .on v1_68 => (bif v1_68 then 252 else (bif decide ((q.limit : Int) < (-1)) then 1 else (bif decide ((q.limit : Int) > 4611686018427387904) then 1 else 0)))))))))))
theorem m19_ev  (c18 : S 18 = some H18) (c39 : S 39 = some H39) (c49 : S 49 = some H49) (c50 : S 50 = some H50) (c52 : S 52 = some H52) (n32 : S 32 = none) (n51 : S 51 = none) (n74 : S 74 = none) (t : Tbl) (q : Qry)  (h_t : Tbl.ok t) (h_q : Qry.ok q) : ∃ d σ', Ev (EE S) 19 [dR Tbl.enc t, dR Qry.enc q] St.empty d σ' ∧ plain d = true ∧ strip d = dI (m19 t q) := by
 unfold m19
 have h : Ko 0 St.empty [] [] := Ko.empty
 refine Ev.wp (E := EE S) (fn := Tryz.f19) (nt := 85) Tryz.func19 rfl rfl (Ck h fun _ _ h => Rw.bx (d := dR Tbl.enc t) h (Nat.le_add_right _ 0) rfl rfl rfl rfl rfl rfl fun b1 _ h => Rw.bx (d := dR Qry.enc q) h (Nat.le_add_right _ 0) rfl rfl rfl rfl rfl rfl fun b2 _ h => Rg 1 rfl (Rw.nilK h (Nat.add_le_add_left (by decide : 2 ≤ 3) _) fun h => Cs (Ck h fun _ _ h => Rw.ld (k := 1) (d := dR Tbl.enc t) h rfl rfl rfl rfl rfl (ty39.ldA rfl rfl) rfl (Rf fi41_6 rfl (Rw.ld (k := 0) (d := dR Exr.row q.wher) h rfl rfl rfl rfl rfl (ty32.ldA rfl rfl) rfl (Rs rfl (fun _ => op_call (d := dI (m18 t q.wher)) rfl rfl c18 rfl (He i18 (t, q.wher) ⟨h_t, (Qry.ok_wher h_q)⟩ rfl)) (Rg 1 rfl (Rz h fun h => Ck h fun _ _ h => Rg 2 rfl (Rz h fun h => ?_)))))))))
 cases q1 : (((m18 t q.wher) : Int) != 0)
 refine Cf rfl (Ci (Cs (Ck h fun _ _ h => Rf fi41_5 rfl (Rl 0 h rfl (ty26.ldS rfl) (Re Tryz.underlying26 rfl (Rg 2 rfl ?_))))))
 cases q2 : decide ((((q.items.length : Nat) : Int) : Int) < 1)
 refine Rf fi41_5 rfl (Rl 0 h rfl (ty26.ldS rfl) (Re Tryz.underlying26 rfl (Rg 2 rfl (Rz h fun h => ?_))))
 cases q3 : decide ((((q.items.length : Nat) : Int) : Int) > 64)
 refine Cf rfl (Ci (Ck h fun _ _ h => Rg 1 rfl ?_))
 replace h := h.newAc (([] : (List Int)).map encI) 1
 refine Rz h fun h => Cs (Ck h fun _ _ h => Rf fi41_8 rfl (Rl 0 h rfl (ty33.ldS rfl) (Re Tryz.underlying33 rfl (Rg 1 rfl (Rz h fun h => Cb ?_)))))
 have hl1 : ∀ (rem1 i1 : Nat) (yl1_a1 : (List Int)) (el1_a1 : D) (fr : Nat → D) (σ : St), i1 + rem1 = q.order.length → yl1_a1.length ≤ i1 → fr 2 = D.ptr b1 0 → fr 3 = D.ptr b2 0 → fr 6 = el1_a1 → fr 30 = dL Odr.enc q.order → fr 31 = dN q.order.length → fr 32 = dN i1 → Ko 0 σ [(b2, (dC Qry.enc q)), (b1, (dC Tbl.enc t))] [(el1_a1, (yl1_a1).map encI, 1)] → Cw (EE S) cm19_l1 85 fr σ (fun oX gX sX => match m19_l1 t q rem1 i1 yl1_a1 with | .on yl1_a1 => ∃ el1_a1, oX = some (some 0) ∧ yl1_a1.length ≤ q.order.length ∧ gX 2 = D.ptr b1 0 ∧ gX 3 = D.ptr b2 0 ∧ gX 6 = el1_a1 ∧ Ko 0 sX [(b2, (dC Qry.enc q)), (b1, (dC Tbl.enc t))] [(el1_a1, (yl1_a1).map encI, 1)] | .out r => Ou S Tryz.f19 (fun d _ => plain d = true ∧ strip d = dI r) oX gX sX) := by
  intro rem1
  induction rem1
  intro i1 yl1_a1 el1_a1 fr σ hi nyl1_a1 e2 e3 e6 e30 e31 e32 h
  have hlt1 : decide ((((i1 : Nat) : Int) : Int) < ((q.order.length : Nat) : Int)) = false := decF (by omega)
  rw [pin e2, pin e3, pin e6, pin e30, pin e31, pin e32]
  rw [m19_l1]
  exact Co (Ck h fun _ _ h => Rs rfl (fun _ => op_lss_int rfl rfl hlt1) (Rz h fun h => Cs (Cf rfl (Cw.exit (Exists.intro el1_a1 (an6 rfl (by omega) rfl rfl rfl h))))))
  rename_i rem1 ih
  intro i1 yl1_a1 el1_a1 fr σ hi nyl1_a1 e2 e3 e6 e30 e31 e32 h
  have hlt1 : decide ((((i1 : Nat) : Int) : Int) < ((q.order.length : Nat) : Int)) = true := decT (by omega)
  have hil1 : i1 < q.order.length := by omega
  have hbq1 := okL_len (Qry.ok_order h_q)
  rw [pin e2, pin e3, pin e6, pin e30, pin e31, pin e32]
  rw [m19_l1]
  refine Co (Ck h fun _ _ h => Rs rfl (fun _ => op_lss_int rfl rfl hlt1) (Rz h fun h => Cs (Ct rfl (Ci (Cs (Cb (Ck h fun _ _ h => Rs rfl (fun _ => op_ix (n := i1) rfl rfl rfl Tryz.underlying33 ty55.hn (at_map hil1) rfl) (Rs rfl (fun _ => op_ldC (d := dR Odr.enc (q.order.getD i1 default)) rfl (at_map hil1) (ty55.lcA rfl rfl)) (Rw.al (z := zc55) h (Nat.le_add_right _ 2) rfl rfl rfl (z55 (S := S)) rfl fun b3 _ h => Rw.st (k := 0) (cs' := (dC Odr.enc (q.order.getD i1 default))) h (Nat.le_add_right _ 0) rfl rfl rfl rfl rfl ty55.hn rfl rfl rfl fun _ h => Rw.nilK h (Nat.add_le_add_left (by decide : 4 ≤ 4) _) fun h => Cw.regionK h fun _ _ h => Rs rfl (fun _ => op_move rfl) (Rf fi55_0 rfl (Rl 0 h rfl (ty3.ldS rfl) (Rs rfl (fun _ => op_bs (xs := ([((q.order.getD i1 default).column)] : List Int).map encI) Tryz.underlying23 ty3.hn (z3 (S := S)) rfl rfl rfl rfl rfl) (Rw.ap (j := 0) (ys := ([((q.order.getD i1 default).column)]).map encI) h (Nat.le_add_right _ 4) rfl rfl rfl rfl rfl rfl rfl rfl (room_mk Tryz.underlying23 (if3 (S := S)) (z3 (S := S)) rfl rfl rfl rfl (by simp only [List.length_map, List.length_cons, List.length_nil]; omega)) (heads_map _ (fun _ => rfl)) rfl fun d1 _ h => ?_)))))))))))))
  simp only [List.set_cons_zero, ← List.map_append] at h
  exact Rs rfl (fun _ => op_assign rfl) (Rw.nilK h (Nat.add_le_add_left (by decide : 5 ≤ 6) _) fun h => Cw.regionK h fun _ _ h => Rs rfl (fun _ => op_add_int (v := ((i1 + 1 : Nat) : Int)) rfl rfl (wrap_one (by omega))) (Rg 1 rfl (Rz h fun h => ih (i1 + 1) (yl1_a1 ++ ([((q.order.getD i1 default).column)])) _ _ _ (by omega) (by simp only [List.length_append, List.length_cons, List.length_nil]; omega) rfl rfl rfl rfl rfl rfl (h.dropBox (List.Sublist.cons _ (List.Sublist.refl _))))))
 refine Cw.mono (hl1 q.order.length 0 ([]) _ _ _ (by omega) (by simp) rfl rfl rfl rfl rfl rfl h) ?_
 intro oY gY sY hh
 generalize hzL1 : m19_l1 t q q.order.length 0 ([]) = zZ at hh ⊢
 rcases zZ with yl1_a1 | rZ
 dsimp only
 obtain ⟨el1_a1, rfl, nyl1_a1, e2, e3, e6, h⟩ := hh
 rw [pin e2, pin e3, pin e6]
 have hbd1 := okL_len (Qry.ok_order h_q)
 refine Cs (Ck h fun _ _ h => Rw.ld (k := 1) (d := dR Tbl.enc t) h rfl rfl rfl rfl rfl (ty39.ldA rfl rfl) rfl (Rf fi41_7 rfl (Rl 0 h rfl (ty23.ldS rfl) (Rs rfl (fun _ => op_call (d := dB (m39 t q.group)) rfl rfl c39 rfl (He i39 (t, q.group) ⟨h_t, (Qry.ok_group h_q)⟩ rfl)) (Rg 2 rfl ?_)))))
 cases q4 : (!(m39 t q.group))
 refine Rw.ld (k := 1) (d := dR Tbl.enc t) h rfl rfl rfl rfl rfl (ty39.ldA rfl rfl) rfl (Rs rfl (fun _ => op_move rfl) ?_)
 obtain ⟨hpA0, _, _, fA0, hsA0, _, _⟩ := (h.ac _ (List.mem_of_getElem? (i := 0) rfl)).plain
 refine Rs rfl (fun _ => op_call (das := [dR Tbl.enc t, el1_a1]) (d := dB (m39 t yl1_a1)) rfl rfl c39 (by simp only [List.all_cons, List.all_nil, hpA0, Bool.and_true]; first | done | rfl) (He i39 (t, yl1_a1) ⟨h_t, (okL_triv yl1_a1 (by omega))⟩ (by simp only [List.map_cons, List.map_nil, hsA0]; rfl))) (Rg 2 rfl (Rz h fun h => ?_))
 cases q5 : (!(m39 t yl1_a1))
 refine Cf rfl (Ci (Cs (Ck h fun _ _ h => Rf fi41_5 rfl (Rl 0 h rfl (ty26.ldS rfl) (Re Tryz.underlying26 rfl (Rg 1 rfl (Rz h fun h => Cb ?_)))))))
 have hl2 : ∀ (rem2 i2 : Nat) (fr : Nat → D) (σ : St), i2 + rem2 = q.items.length → fr 2 = D.ptr b1 0 → fr 3 = D.ptr b2 0 → fr 6 = el1_a1 → fr 54 = dL Itm.enc q.items → fr 55 = dN q.items.length → fr 56 = dN i2 → Ko 0 σ [(b2, (dC Qry.enc q)), (b1, (dC Tbl.enc t))] [(el1_a1, (yl1_a1).map encI, 1)] → Cw (EE S) cm19_l2 85 fr σ (fun oX gX sX => match m19_l2 t q yl1_a1 rem2 i2  with | .on _ => oX = some (some 2) ∧ gX 3 = D.ptr b2 0 ∧ gX 6 = el1_a1 ∧ Ko 0 sX [(b2, (dC Qry.enc q)), (b1, (dC Tbl.enc t))] [(el1_a1, (yl1_a1).map encI, 1)] | .out r => Ou S Tryz.f19 (fun d _ => plain d = true ∧ strip d = dI r) oX gX sX) := by
  intro rem2
  induction rem2
  intro i2   fr σ hi  e2 e3 e6 e54 e55 e56 h
  have hlt2 : decide ((((i2 : Nat) : Int) : Int) < ((q.items.length : Nat) : Int)) = false := decF (by omega)
  rw [pin e2, pin e3, pin e6, pin e54, pin e55, pin e56]
  rw [m19_l2]
  exact Co (Ck h fun _ _ h => Rs rfl (fun _ => op_lss_int rfl rfl hlt2) (Rz h fun h => Cs (Cf rfl (Cw.exit (an4 rfl rfl rfl h)))))
  rename_i rem2 ih
  intro i2   fr σ hi  e2 e3 e6 e54 e55 e56 h
  have hlt2 : decide ((((i2 : Nat) : Int) : Int) < ((q.items.length : Nat) : Int)) = true := decT (by omega)
  have hil2 : i2 < q.items.length := by omega
  have hbq2 := okL_len (Qry.ok_items h_q)
  rw [pin e2, pin e3, pin e6, pin e54, pin e55, pin e56]
  rw [m19_l2]
  refine Co (Ck h fun _ _ h => Rs rfl (fun _ => op_lss_int rfl rfl hlt2) (Rz h fun h => Cs (Ct rfl (Ci (Cs (Cb (Ck h fun _ _ h => Rs rfl (fun _ => op_ix (n := i2) rfl rfl rfl Tryz.underlying26 ty53.hn (at_map hil2) rfl) (Rs rfl (fun _ => op_ldC (d := dR Itm.enc (q.items.getD i2 default)) rfl (at_map hil2) (ty53.lcA rfl rfl)) (Rw.al (z := zc53) h (Nat.le_add_right _ 2) rfl rfl rfl (z53 (S := S)) rfl fun b4 _ h => Rw.st (k := 0) (cs' := (dC Itm.enc (q.items.getD i2 default))) h (Nat.le_add_right _ 0) rfl rfl rfl rfl rfl ty53.hn rfl rfl rfl fun _ h => Rw.nilK h (Nat.add_le_add_left (by decide : 4 ≤ 4) _) fun h => Ck h fun _ _ h => Rw.ld (k := 2) (d := dR Tbl.enc t) h rfl rfl rfl rfl rfl (ty39.ldA rfl rfl) rfl (Rw.ld (k := 1) (d := dR Qry.enc q) h rfl rfl rfl rfl rfl (ty41.ldA rfl rfl) rfl (Rw.ld (k := 0) (d := dR Itm.enc (q.items.getD i2 default)) h rfl rfl rfl rfl rfl (ty53.ldA rfl rfl) rfl (Rs rfl (fun _ => op_call (d := dI (m49 t q (q.items.getD i2 default))) rfl rfl c49 rfl (He i49 (t, q, (q.items.getD i2 default)) ⟨h_t, h_q, (okL_get (Qry.ok_items h_q) Itm.zok i2)⟩ rfl)) (Rg 1 rfl (Rz h fun h => Ck h fun _ _ h => Rg 2 rfl (Rz h fun h => ?_)))))))))))))))
  cases q6 : (((m49 t q (q.items.getD i2 default)) : Int) != 0)
  exact Cf rfl (Ci (Cw.regionK h fun _ _ h => Rs rfl (fun _ => op_add_int (v := ((i2 + 1 : Nat) : Int)) rfl rfl (wrap_one (by omega))) (Rg 1 rfl (Rz h fun h => ih (i2 + 1)   _ _ (by omega)  rfl rfl rfl rfl rfl rfl (h.dropBox (List.Sublist.cons _ (List.Sublist.refl _)))))))
  exact Ct rfl (Ck h fun _ _ h => Rg 2 rfl (Rz h fun h => Cr (And.intro rfl (Exists.intro _ (an3 rfl rfl rfl)))))
 refine Cw.mono (hl2 q.items.length 0   _ _ (by omega)  rfl rfl rfl rfl rfl rfl h) ?_
 intro oY gY sY hh
 generalize hzL2 : m19_l2 t q yl1_a1 q.items.length 0  = zZ at hh ⊢
 rcases zZ with vZ | rZ
 dsimp only
 obtain ⟨rfl, e3, e6, h⟩ := hh
 rw [pin e3, pin e6]
 have hbd2 := okL_len (Qry.ok_items h_q)
 refine Cs (Cb ?_)
 refine Cw.seq (Cw.mono (Q := fun oX gX sX => match m19_1 t q yl1_a1 with | .on v1_68 => oX = none ∧ gX 3 = D.ptr b2 0 ∧ gX 68 = dB v1_68 ∧ Ko 0 sX [(b2, (dC Qry.enc q)), (b1, (dC Tbl.enc t))] [(el1_a1, (yl1_a1).map encI, 1)] | .out r => Ou S Tryz.f19 (fun d _ => plain d = true ∧ strip d = dI r) oX gX sX) ?_ ?_)
 unfold m19_1
 refine Cw.regionK h fun _ _ h => Rw.ld (k := 0) (d := dR Qry.enc q) h rfl rfl rfl rfl rfl (ty41.ldA rfl rfl) rfl (Rs rfl (fun _ => op_call (d := dB (m50 q)) rfl rfl c50 rfl (He i50 q h_q rfl)) (Rg 1 rfl ?_))
 cases q7 : (m50 q)
 exact Rg 5 rfl (Rz h fun h => an4 rfl rfl rfl h)
 refine Rs rfl (fun _ => op_move rfl) (Rs rfl (fun _ => op_fn (a := []) (b := [D.ptr b2 0]) rfl rfl) ?_)
 obtain ⟨dX, sX, hev, rfl, hKX⟩ := m32_ev n74 yl1_a1 (fun x => m51 x q) (okL_triv yl1_a1 (by omega)) el1_a1 (h.ac _ (List.mem_of_getElem? (i := 0) rfl)).rows 51 [D.ptr b2 0] (fun x hm hx _ _ h => m51_ev c52 x q  h_q  b2 0 rfl h) n51 rfl (fun _ => rfl) rfl (h.ko (Nat.add_le_add_left (by decide : 0 ≤ 8) _))
 refine Rw.on (first := []) (cap := []) (das := [el1_a1, D.fn 51 [] [D.ptr b2 0]]) rfl rfl rfl rfl rfl n32 rfl (all2F rfl) hev rfl ?_
 replace h := h.back hKX rfl
 exact Rg 2 rfl (Rw.nilK h (Nat.add_le_add_left (by decide : 1 ≤ 8) _) fun h => an4 rfl rfl rfl h)
 intro oY gY sY hh
 generalize hzF1 : m19_1 t q yl1_a1 = zZ at hh ⊢
 rcases zZ with v1_68 | rZ
 dsimp only
 obtain ⟨rfl, e3, e68, h⟩ := hh
 rw [pin e3, pin e68]
 cases q8 : v1_68
 refine Cf rfl (Ck h fun _ _ h => Rf fi41_9 rfl (Rl 0 h rfl (ty3.ldS rfl) (Rg 2 rfl ?_)))
 cases q9 : decide ((q.limit : Int) < (-1))
 refine Rf fi41_9 rfl (Rl 0 h rfl (ty3.ldS rfl) (Rg 3 rfl (Rz h fun h => ?_)))
 cases q10 : decide ((q.limit : Int) > 4611686018427387904)
 exact Cf rfl (Ci (Ck h fun _ _ h => Rg 1 rfl (Rz h fun h => Cr ⟨.inr rfl, _, rfl, rfl, rfl⟩)))
 exact Ct rfl (Ck h fun _ _ h => Rg 1 rfl (Rz h fun h => Cr ⟨.inr rfl, _, rfl, rfl, rfl⟩))
 exact Rg 5 rfl (Rz h fun h => Ct rfl (Ck h fun _ _ h => Rg 1 rfl (Rz h fun h => Cr ⟨.inr rfl, _, rfl, rfl, rfl⟩)))
 exact Ct rfl (Ck h fun _ _ h => Rg 1 rfl (Rz h fun h => Cr ⟨.inr rfl, _, rfl, rfl, rfl⟩))
 obtain ⟨rfl, w⟩ := hh
 exact ⟨.inr rfl, w⟩
 obtain ⟨rfl, w⟩ := hh
 exact ⟨.inr rfl, w⟩
 exact Ct rfl (Ck h fun _ _ h => Rg 1 rfl (Rz h fun h => Cr ⟨.inr rfl, _, rfl, rfl, rfl⟩))
 exact Rg 5 rfl (Rz h fun h => Ct rfl (Ck h fun _ _ h => Rg 1 rfl (Rz h fun h => Cr ⟨.inr rfl, _, rfl, rfl, rfl⟩)))
 obtain ⟨rfl, w⟩ := hh
 exact ⟨.inr rfl, w⟩
 exact Ct rfl (Ck h fun _ _ h => Rg 1 rfl (Rz h fun h => Cr ⟨.inr rfl, _, rfl, rfl, rfl⟩))
 exact Rg 5 rfl (Rz h fun h => Ct rfl (Ck h fun _ _ h => Rg 1 rfl (Rz h fun h => Cr ⟨.inr rfl, _, rfl, rfl, rfl⟩)))
 exact Ct rfl (Ck h fun _ _ h => Rg 2 rfl (Rz h fun h => Cr ⟨.inr rfl, _, rfl, rfl, rfl⟩))
noncomputable def H19 : List D → R D := mkH (L2 (dR Tbl.enc) (dR Qry.enc)) (fun x => Tbl.ok x.1 ∧ Qry.ok x.2) (fun x => dI (m19 x.1 x.2))
theorem i19 : InjE (L2 (dR Tbl.enc) (dR Qry.enc)) := j2 (jR Tbl.inj) (jR Qry.inj)
def m27 (q : Qry) : Qry := (bif ((q.kind : Int) == 1) then ({ { { q with table := 0 } with columns := [] } with rows := [] }) else (bif ((q.kind : Int) == 2) then ({ { { q with table := 0 } with sets := [] } with wher := Exr.zero }) else (bif ((q.kind : Int) == 3) then ({ { q with table := 0 } with wher := Exr.zero }) else (bif ((q.kind : Int) == 4) then ({ { { { { { q with table := 0 } with items := [] } with wher := Exr.zero } with group := [] } with order := [] } with limit := 0 }) else (bif ((q.kind : Int) == 5) then ({ q with create := Tbl.zero }) else (bif ((q.kind : Int) == 6) then ({ q with level := 0 }) else (bif ((q.kind : Int) == 7) then ({ q with stamp := 0 }) else (bif ((q.kind : Int) == 10) then ({ q with name := ⟨#[]⟩ }) else (bif ((q.kind : Int) == 11) then ({ q with name := ⟨#[]⟩ }) else (bif ((q.kind : Int) == 12) then ({ q with name := ⟨#[]⟩ }) else q))))))))))
theorem m27_ev  (q : Qry)  (h_q : Qry.ok q) : ∃ d σ', Ev (EE S) 27 [dR Qry.enc q] St.empty d σ' ∧ plain d = true ∧ nrmT (strip d) = dR Qry.enc (m27 q) := by
 unfold m27
 have h : Ko 0 St.empty [] [] := Ko.empty
 refine Ev.wp (E := EE S) (fn := Tryz.f27) (nt := 46) Tryz.func27 rfl rfl (Ck h fun _ _ h => Rw.bx (d := dR Qry.enc q) h (Nat.le_add_right _ 0) rfl rfl rfl rfl rfl rfl fun b1 _ h => Rw.al (z := zc41) h (Nat.le_add_right _ 0) rfl rfl rfl (z41 (S := S)) rfl fun b2 _ h => Rw.nilK h (Nat.add_le_add_left (by decide : 2 ≤ 2) _) fun h => Cs (Ck h fun _ _ h => Rf fi41_0 rfl (Rl 1 h rfl (ty3.ldS rfl) (Rz h fun h => Cb (Ck h fun _ _ h => Rg 2 rfl (Rz h fun h => ?_))))))
 cases q1 : ((q.kind : Int) == 1)
 refine Cf rfl (Ck h fun _ _ h => Rg 2 rfl (Rz h fun h => ?_))
 cases q2 : ((q.kind : Int) == 2)
 refine Cf rfl (Ck h fun _ _ h => Rg 2 rfl (Rz h fun h => ?_))
 cases q3 : ((q.kind : Int) == 3)
 refine Cf rfl (Ck h fun _ _ h => Rg 2 rfl (Rz h fun h => ?_))
 cases q4 : ((q.kind : Int) == 4)
 refine Cf rfl (Ck h fun _ _ h => Rg 2 rfl (Rz h fun h => ?_))
 cases q5 : ((q.kind : Int) == 5)
 refine Cf rfl (Ck h fun _ _ h => Rg 2 rfl (Rz h fun h => ?_))
 cases q6 : ((q.kind : Int) == 6)
 refine Cf rfl (Ck h fun _ _ h => Rg 2 rfl (Rz h fun h => ?_))
 cases q7 : ((q.kind : Int) == 7)
 refine Cf rfl (Cs (Ck h fun _ _ h => Rg 2 rfl (Rz h fun h => ?_)))
 cases q8 : ((q.kind : Int) == 10)
 refine Cf rfl (Ck h fun _ _ h => Rg 2 rfl (Rz h fun h => ?_))
 cases q9 : ((q.kind : Int) == 11)
 refine Cf rfl (Cw.regionK h fun _ _ h => Rg 2 rfl (Rz h fun h => ?_))
 cases q10 : ((q.kind : Int) == 12)
 exact Cf rfl (Ci (Ck h fun _ _ h => Rw.ld (k := 1) (d := dR Qry.enc q) h rfl rfl rfl rfl rfl (ty41.ldA rfl rfl) rfl (Rw.st (k := 0) (cs' := (dC Qry.enc q)) h (Nat.le_add_right _ 1) rfl rfl rfl rfl rfl ty41.hn rfl rfl rfl fun _ h => Rw.nilK h (Nat.add_le_add_left (by decide : 2 ≤ 2) _) fun h => Cr ⟨.inr rfl, _, res_cell (k := 0) h rfl rfl (ty41.ldA rfl rfl), rfl, rfl⟩)))
 refine Ct rfl (Cw.regionK h fun _ _ h => Rf fi41_12 rfl ?_)
 refine Rw.st (k := 1) (cs' := (dC Qry.enc ({ q with name := ⟨#[]⟩ }))) h (Nat.le_add_right _ 1) rfl rfl rfl rfl rfl ty9.hn rfl rfl rfl fun _ h => ?_
 refine Rw.nilK h (Nat.add_le_add_left (by decide : 2 ≤ 2) _) fun h => Ck h fun _ _ h => ?_
 refine Rw.ld (k := 1) (d := dR Qry.enc ({ q with name := ⟨#[]⟩ })) h rfl rfl rfl rfl rfl (ty41.ldA rfl rfl) rfl ?_
 refine Rw.st (k := 0) (cs' := (dC Qry.enc ({ q with name := ⟨#[]⟩ }))) h (Nat.le_add_right _ 1) rfl rfl rfl rfl rfl ty41.hn rfl rfl rfl fun _ h => ?_
 exact Rw.nilK h (Nat.add_le_add_left (by decide : 2 ≤ 2) _) fun h => Cr ⟨.inr rfl, _, res_cell (k := 0) h rfl rfl (ty41.ldA rfl rfl), rfl, rfl⟩
 refine Ct rfl (Ci (Ct rfl (Cw.regionK h fun _ _ h => Rf fi41_12 rfl ?_)))
 refine Rw.st (k := 1) (cs' := (dC Qry.enc ({ q with name := ⟨#[]⟩ }))) h (Nat.le_add_right _ 1) rfl rfl rfl rfl rfl ty9.hn rfl rfl rfl fun _ h => ?_
 refine Rw.nilK h (Nat.add_le_add_left (by decide : 2 ≤ 2) _) fun h => Ck h fun _ _ h => ?_
 refine Rw.ld (k := 1) (d := dR Qry.enc ({ q with name := ⟨#[]⟩ })) h rfl rfl rfl rfl rfl (ty41.ldA rfl rfl) rfl ?_
 refine Rw.st (k := 0) (cs' := (dC Qry.enc ({ q with name := ⟨#[]⟩ }))) h (Nat.le_add_right _ 1) rfl rfl rfl rfl rfl ty41.hn rfl rfl rfl fun _ h => ?_
 exact Rw.nilK h (Nat.add_le_add_left (by decide : 2 ≤ 2) _) fun h => Cr ⟨.inr rfl, _, res_cell (k := 0) h rfl rfl (ty41.ldA rfl rfl), rfl, rfl⟩
 refine Ct rfl (Ci (Ct rfl (Cw.regionK h fun _ _ h => Rf fi41_12 rfl ?_)))
 refine Rw.st (k := 1) (cs' := (dC Qry.enc ({ q with name := ⟨#[]⟩ }))) h (Nat.le_add_right _ 1) rfl rfl rfl rfl rfl ty9.hn rfl rfl rfl fun _ h => ?_
 refine Rw.nilK h (Nat.add_le_add_left (by decide : 2 ≤ 2) _) fun h => Ck h fun _ _ h => ?_
 refine Rw.ld (k := 1) (d := dR Qry.enc ({ q with name := ⟨#[]⟩ })) h rfl rfl rfl rfl rfl (ty41.ldA rfl rfl) rfl ?_
 refine Rw.st (k := 0) (cs' := (dC Qry.enc ({ q with name := ⟨#[]⟩ }))) h (Nat.le_add_right _ 1) rfl rfl rfl rfl rfl ty41.hn rfl rfl rfl fun _ h => ?_
 exact Rw.nilK h (Nat.add_le_add_left (by decide : 2 ≤ 2) _) fun h => Cr ⟨.inr rfl, _, res_cell (k := 0) h rfl rfl (ty41.ldA rfl rfl), rfl, rfl⟩
 refine Ct rfl (Cw.regionK h fun _ _ h => Rf fi41_11 rfl ?_)
 refine Rw.st (k := 1) (cs' := (dC Qry.enc ({ q with stamp := 0 }))) h (Nat.le_add_right _ 1) rfl rfl rfl rfl rfl ty34.hn rfl rfl rfl fun _ h => ?_
 refine Rw.nilK h (Nat.add_le_add_left (by decide : 2 ≤ 2) _) fun h => Ck h fun _ _ h => ?_
 refine Rw.ld (k := 1) (d := dR Qry.enc ({ q with stamp := 0 })) h rfl rfl rfl rfl rfl (ty41.ldA rfl rfl) rfl ?_
 refine Rw.st (k := 0) (cs' := (dC Qry.enc ({ q with stamp := 0 }))) h (Nat.le_add_right _ 1) rfl rfl rfl rfl rfl ty41.hn rfl rfl rfl fun _ h => ?_
 exact Rw.nilK h (Nat.add_le_add_left (by decide : 2 ≤ 2) _) fun h => Cr ⟨.inr rfl, _, res_cell (k := 0) h rfl rfl (ty41.ldA rfl rfl), rfl, rfl⟩
 refine Ct rfl (Cw.regionK h fun _ _ h => Rf fi41_10 rfl ?_)
 refine Rw.st (k := 1) (cs' := (dC Qry.enc ({ q with level := 0 }))) h (Nat.le_add_right _ 1) rfl rfl rfl rfl rfl ty3.hn rfl rfl rfl fun _ h => ?_
 refine Rw.nilK h (Nat.add_le_add_left (by decide : 2 ≤ 2) _) fun h => Ck h fun _ _ h => ?_
 refine Rw.ld (k := 1) (d := dR Qry.enc ({ q with level := 0 })) h rfl rfl rfl rfl rfl (ty41.ldA rfl rfl) rfl ?_
 refine Rw.st (k := 0) (cs' := (dC Qry.enc ({ q with level := 0 }))) h (Nat.le_add_right _ 1) rfl rfl rfl rfl rfl ty41.hn rfl rfl rfl fun _ h => ?_
 exact Rw.nilK h (Nat.add_le_add_left (by decide : 2 ≤ 2) _) fun h => Cr ⟨.inr rfl, _, res_cell (k := 0) h rfl rfl (ty41.ldA rfl rfl), rfl, rfl⟩
 exact Ct rfl (Cw.regionK h fun _ _ h => Rs rfl (fun _ => op_buildS (qs := []) (d := D.agg [D.c (.str Tbl.zero.name), D.c (.sl true (Tbl.zero.columns.map Col.enc)), D.c (.sl true (Tbl.zero.key.map encI)), D.c (.sl true (Tbl.zero.indexes.map Idx.enc)), D.c (.sl true (Tbl.zero.refs.map Rfr.enc))]) rfl (bd39 ..)) (Rf fi41_13 rfl (Rw.st (k := 1) h (Nat.le_add_right _ 2) rfl rfl rfl rfl rfl ty39.hn rfl rfl rfl fun _ h => Rw.nilK h (Nat.add_le_add_left (by decide : 3 ≤ 3) _) fun h => Ck h fun _ _ h => Rw.ld (k := 1) (d := D.agg [D.c (.int .i64 q.kind), D.c (.int .i64 q.table), D.c (.sl false (q.columns.map encI)), D.c (.sl false (q.rows.map encL_Exr_enc)), D.c (.sl false (q.sets.map Sst.enc)), D.c (.sl false (q.items.map Itm.enc)), D.c (.int .i64 q.wher.kind), D.c (.str q.wher.op), D.c (.int .i64 q.wher.column), D.c (.int .i64 q.wher.value.kind), D.c (.int .i64 q.wher.value.n), D.c (.float .f64 q.wher.value.f), D.c (.str q.wher.value.s), D.c (.sl false (q.wher.kids.map Exr.enc)), D.c (.sl false (q.group.map encI)), D.c (.sl false (q.order.map Odr.enc)), D.c (.int .i64 q.limit), D.c (.int .i64 q.level), D.c (.int .u64 q.stamp), D.c (.str q.name), D.c (.str Tbl.zero.name), D.c (.sl true (Tbl.zero.columns.map Col.enc)), D.c (.sl true (Tbl.zero.key.map encI)), D.c (.sl true (Tbl.zero.indexes.map Idx.enc)), D.c (.sl true (Tbl.zero.refs.map Rfr.enc))]) h rfl rfl rfl rfl rfl (ty41.ldA rfl rfl) rfl (Rw.st (k := 0) h (Nat.le_add_right _ 1) rfl rfl rfl rfl rfl ty41.hn rfl rfl rfl fun _ h => Rw.nilK h (Nat.add_le_add_left (by decide : 2 ≤ 2) _) fun h => Cr ⟨.inr rfl, _, res_cell (k := 0) h rfl rfl (ty41.ldA rfl rfl), rfl, rfl⟩))))
 refine Ct rfl (Cw.regionK h fun _ _ h => Rs rfl (fun _ => op_buildS (qs := []) (d := D.agg [D.c (.int .i64 Exr.zero.kind), D.c (.str Exr.zero.op), D.c (.int .i64 Exr.zero.column), D.c (.int .i64 Exr.zero.value.kind), D.c (.int .i64 Exr.zero.value.n), D.c (.float .f64 Exr.zero.value.f), D.c (.str Exr.zero.value.s), D.c (.sl true (Exr.zero.kids.map Exr.enc))]) rfl (bd32 ..)) (Rf fi41_1 rfl ?_))
 refine Rw.st (k := 1) (cs' := (dC Qry.enc ({ q with table := 0 }))) h (Nat.le_add_right _ 2) rfl rfl rfl rfl rfl ty3.hn rfl rfl rfl fun _ h => ?_
 exact Rf fi41_5 rfl (Rw.st (k := 1) h (Nat.le_add_right _ 1) rfl rfl rfl rfl rfl ty26.hn rfl rfl rfl fun _ h => Rf fi41_6 rfl (Rw.st (k := 1) h (Nat.le_add_right _ 1) rfl rfl rfl rfl rfl ty32.hn rfl rfl rfl fun _ h => Rf fi41_7 rfl (Rw.st (k := 1) h (Nat.le_add_right _ 1) rfl rfl rfl rfl rfl ty23.hn rfl rfl rfl fun _ h => Rf fi41_8 rfl (Rw.st (k := 1) h (Nat.le_add_right _ 1) rfl rfl rfl rfl rfl ty33.hn rfl rfl rfl fun _ h => Rf fi41_9 rfl (Rw.st (k := 1) h (Nat.le_add_right _ 1) rfl rfl rfl rfl rfl ty3.hn rfl rfl rfl fun _ h => Rw.nilK h (Nat.add_le_add_left (by decide : 13 ≤ 13) _) fun h => Ck h fun _ _ h => Rw.ld (k := 1) (d := D.agg [D.c (.int .i64 q.kind), D.c (.int .i64 0), D.c (.sl false (q.columns.map encI)), D.c (.sl false (q.rows.map encL_Exr_enc)), D.c (.sl false (q.sets.map Sst.enc)), D.c (.sl true ([].map Itm.enc)), D.c (.int .i64 Exr.zero.kind), D.c (.str Exr.zero.op), D.c (.int .i64 Exr.zero.column), D.c (.int .i64 Exr.zero.value.kind), D.c (.int .i64 Exr.zero.value.n), D.c (.float .f64 Exr.zero.value.f), D.c (.str Exr.zero.value.s), D.c (.sl true (Exr.zero.kids.map Exr.enc)), D.c (.sl true ([].map encI)), D.c (.sl true ([].map Odr.enc)), D.c (.int .i64 0), D.c (.int .i64 q.level), D.c (.int .u64 q.stamp), D.c (.str q.name), D.c (.str q.create.name), D.c (.sl false (q.create.columns.map Col.enc)), D.c (.sl false (q.create.key.map encI)), D.c (.sl false (q.create.indexes.map Idx.enc)), D.c (.sl false (q.create.refs.map Rfr.enc))]) h rfl rfl rfl rfl rfl (ty41.ldA rfl rfl) rfl (Rw.st (k := 0) h (Nat.le_add_right _ 1) rfl rfl rfl rfl rfl ty41.hn rfl rfl rfl fun _ h => Rw.nilK h (Nat.add_le_add_left (by decide : 2 ≤ 2) _) fun h => Cr ⟨.inr rfl, _, res_cell (k := 0) h rfl rfl (ty41.ldA rfl rfl), rfl, rfl⟩))))))
 refine Ct rfl (Cw.regionK h fun _ _ h => Rs rfl (fun _ => op_buildS (qs := []) (d := D.agg [D.c (.int .i64 Exr.zero.kind), D.c (.str Exr.zero.op), D.c (.int .i64 Exr.zero.column), D.c (.int .i64 Exr.zero.value.kind), D.c (.int .i64 Exr.zero.value.n), D.c (.float .f64 Exr.zero.value.f), D.c (.str Exr.zero.value.s), D.c (.sl true (Exr.zero.kids.map Exr.enc))]) rfl (bd32 ..)) (Rf fi41_1 rfl ?_))
 refine Rw.st (k := 1) (cs' := (dC Qry.enc ({ q with table := 0 }))) h (Nat.le_add_right _ 2) rfl rfl rfl rfl rfl ty3.hn rfl rfl rfl fun _ h => ?_
 exact Rf fi41_6 rfl (Rw.st (k := 1) h (Nat.le_add_right _ 1) rfl rfl rfl rfl rfl ty32.hn rfl rfl rfl fun _ h => Rw.nilK h (Nat.add_le_add_left (by decide : 5 ≤ 5) _) fun h => Ck h fun _ _ h => Rw.ld (k := 1) (d := D.agg [D.c (.int .i64 q.kind), D.c (.int .i64 0), D.c (.sl false (q.columns.map encI)), D.c (.sl false (q.rows.map encL_Exr_enc)), D.c (.sl false (q.sets.map Sst.enc)), D.c (.sl false (q.items.map Itm.enc)), D.c (.int .i64 Exr.zero.kind), D.c (.str Exr.zero.op), D.c (.int .i64 Exr.zero.column), D.c (.int .i64 Exr.zero.value.kind), D.c (.int .i64 Exr.zero.value.n), D.c (.float .f64 Exr.zero.value.f), D.c (.str Exr.zero.value.s), D.c (.sl true (Exr.zero.kids.map Exr.enc)), D.c (.sl false (q.group.map encI)), D.c (.sl false (q.order.map Odr.enc)), D.c (.int .i64 q.limit), D.c (.int .i64 q.level), D.c (.int .u64 q.stamp), D.c (.str q.name), D.c (.str q.create.name), D.c (.sl false (q.create.columns.map Col.enc)), D.c (.sl false (q.create.key.map encI)), D.c (.sl false (q.create.indexes.map Idx.enc)), D.c (.sl false (q.create.refs.map Rfr.enc))]) h rfl rfl rfl rfl rfl (ty41.ldA rfl rfl) rfl (Rw.st (k := 0) h (Nat.le_add_right _ 1) rfl rfl rfl rfl rfl ty41.hn rfl rfl rfl fun _ h => Rw.nilK h (Nat.add_le_add_left (by decide : 2 ≤ 2) _) fun h => Cr ⟨.inr rfl, _, res_cell (k := 0) h rfl rfl (ty41.ldA rfl rfl), rfl, rfl⟩))
 refine Ct rfl (Cw.regionK h fun _ _ h => Rs rfl (fun _ => op_buildS (qs := []) (d := D.agg [D.c (.int .i64 Exr.zero.kind), D.c (.str Exr.zero.op), D.c (.int .i64 Exr.zero.column), D.c (.int .i64 Exr.zero.value.kind), D.c (.int .i64 Exr.zero.value.n), D.c (.float .f64 Exr.zero.value.f), D.c (.str Exr.zero.value.s), D.c (.sl true (Exr.zero.kids.map Exr.enc))]) rfl (bd32 ..)) (Rf fi41_1 rfl ?_))
 refine Rw.st (k := 1) (cs' := (dC Qry.enc ({ q with table := 0 }))) h (Nat.le_add_right _ 2) rfl rfl rfl rfl rfl ty3.hn rfl rfl rfl fun _ h => ?_
 exact Rf fi41_4 rfl (Rw.st (k := 1) h (Nat.le_add_right _ 1) rfl rfl rfl rfl rfl ty25.hn rfl rfl rfl fun _ h => Rf fi41_6 rfl (Rw.st (k := 1) h (Nat.le_add_right _ 1) rfl rfl rfl rfl rfl ty32.hn rfl rfl rfl fun _ h => Rw.nilK h (Nat.add_le_add_left (by decide : 7 ≤ 7) _) fun h => Ck h fun _ _ h => Rw.ld (k := 1) (d := D.agg [D.c (.int .i64 q.kind), D.c (.int .i64 0), D.c (.sl false (q.columns.map encI)), D.c (.sl false (q.rows.map encL_Exr_enc)), D.c (.sl true ([].map Sst.enc)), D.c (.sl false (q.items.map Itm.enc)), D.c (.int .i64 Exr.zero.kind), D.c (.str Exr.zero.op), D.c (.int .i64 Exr.zero.column), D.c (.int .i64 Exr.zero.value.kind), D.c (.int .i64 Exr.zero.value.n), D.c (.float .f64 Exr.zero.value.f), D.c (.str Exr.zero.value.s), D.c (.sl true (Exr.zero.kids.map Exr.enc)), D.c (.sl false (q.group.map encI)), D.c (.sl false (q.order.map Odr.enc)), D.c (.int .i64 q.limit), D.c (.int .i64 q.level), D.c (.int .u64 q.stamp), D.c (.str q.name), D.c (.str q.create.name), D.c (.sl false (q.create.columns.map Col.enc)), D.c (.sl false (q.create.key.map encI)), D.c (.sl false (q.create.indexes.map Idx.enc)), D.c (.sl false (q.create.refs.map Rfr.enc))]) h rfl rfl rfl rfl rfl (ty41.ldA rfl rfl) rfl (Rw.st (k := 0) h (Nat.le_add_right _ 1) rfl rfl rfl rfl rfl ty41.hn rfl rfl rfl fun _ h => Rw.nilK h (Nat.add_le_add_left (by decide : 2 ≤ 2) _) fun h => Cr ⟨.inr rfl, _, res_cell (k := 0) h rfl rfl (ty41.ldA rfl rfl), rfl, rfl⟩)))
 refine Ct rfl (Cw.regionK h fun _ _ h => Rf fi41_1 rfl ?_)
 refine Rw.st (k := 1) (cs' := (dC Qry.enc ({ q with table := 0 }))) h (Nat.le_add_right _ 1) rfl rfl rfl rfl rfl ty3.hn rfl rfl rfl fun _ h => ?_
 exact Rf fi41_2 rfl (Rw.st (k := 1) h (Nat.le_add_right _ 1) rfl rfl rfl rfl rfl ty23.hn rfl rfl rfl fun _ h => Rf fi41_3 rfl (Rw.st (k := 1) h (Nat.le_add_right _ 1) rfl rfl rfl rfl rfl ty24.hn rfl rfl rfl fun _ h => Rw.nilK h (Nat.add_le_add_left (by decide : 6 ≤ 6) _) fun h => Ck h fun _ _ h => Rw.ld (k := 1) (d := D.agg [D.c (.int .i64 q.kind), D.c (.int .i64 0), D.c (.sl true ([].map encI)), D.c (.sl true ([].map encL_Exr_enc)), D.c (.sl false (q.sets.map Sst.enc)), D.c (.sl false (q.items.map Itm.enc)), D.c (.int .i64 q.wher.kind), D.c (.str q.wher.op), D.c (.int .i64 q.wher.column), D.c (.int .i64 q.wher.value.kind), D.c (.int .i64 q.wher.value.n), D.c (.float .f64 q.wher.value.f), D.c (.str q.wher.value.s), D.c (.sl false (q.wher.kids.map Exr.enc)), D.c (.sl false (q.group.map encI)), D.c (.sl false (q.order.map Odr.enc)), D.c (.int .i64 q.limit), D.c (.int .i64 q.level), D.c (.int .u64 q.stamp), D.c (.str q.name), D.c (.str q.create.name), D.c (.sl false (q.create.columns.map Col.enc)), D.c (.sl false (q.create.key.map encI)), D.c (.sl false (q.create.indexes.map Idx.enc)), D.c (.sl false (q.create.refs.map Rfr.enc))]) h rfl rfl rfl rfl rfl (ty41.ldA rfl rfl) rfl (Rw.st (k := 0) h (Nat.le_add_right _ 1) rfl rfl rfl rfl rfl ty41.hn rfl rfl rfl fun _ h => Rw.nilK h (Nat.add_le_add_left (by decide : 2 ≤ 2) _) fun h => Cr ⟨.inr rfl, _, res_cell (k := 0) h rfl rfl (ty41.ldA rfl rfl), rfl, rfl⟩)))
noncomputable def H27 : List D → R D := mkH (L1 (dR Qry.enc)) (fun x => Qry.ok x) (fun x => dR Qry.enc (m27 x))
theorem i27 : InjE (L1 (dR Qry.enc)) := j1 (jR Qry.inj)
theorem m27_ok {q : Qry} (h : Qry.ok q) : Qry.ok (m27 q) := by
  simp only [m27, Bool.cond_eq_ite]
  repeat' split
  all_goals first | exact h | skip
  all_goals (constructor <;> first | exact h.h0 | exact h.h1 | exact h.h2 | exact h.h3 | exact h.h4 | exact h.h5 | exact h.h6 | exact h.h7 | exact h.h8 | exact okL_nil | exact okS_zero | exact Exr.zok | exact Tbl.zok)
def m13 (q : Qry) : Bool := (bif (((m27 q).table : Int) == 0) then (bif (((((((((((m27 q).columns).length + ((m27 q).rows).length) + ((m27 q).sets).length) + ((m27 q).items).length) + ((m27 q).group).length) + ((m27 q).order).length) : Nat) : Int) : Int) == 0) then (bif (m28 ((m27 q).wher)) then (bif (((m27 q).limit : Int) == 0) then (bif (((m27 q).level : Int) == 0) then (bif (((m27 q).stamp : Int) == 0) then (bif (ByteArray.toList ((m27 q).name) == ByteArray.toList (⟨#[]⟩)) then (m29 ((m27 q).create)) else false) else false) else false) else false) else false) else false) else false)
theorem m13_ev  (c27 : S 27 = some H27) (c28 : S 28 = some H28) (c29 : S 29 = some H29) (q : Qry)  (h_q : Qry.ok q) : ∃ d σ', Ev (EE S) 13 [dR Qry.enc q] St.empty d σ' ∧ plain d = true ∧ strip d = dB (m13 q) := by
 unfold m13
 have h : Ko 0 St.empty [] [] := Ko.empty
 refine Ev.wp (E := EE S) (fn := Tryz.f13) (nt := 66) Tryz.func13 rfl rfl (Ck h fun _ _ h => Rw.bx (d := dR Qry.enc q) h (Nat.le_add_right _ 0) rfl rfl rfl rfl rfl rfl fun b1 _ h => Rg 1 rfl (Rw.nilK h (Nat.add_le_add_left (by decide : 1 ≤ 2) _) fun h => Ck h fun _ _ h => Rw.ld (k := 0) (d := dR Qry.enc q) h rfl rfl rfl rfl rfl (ty41.ldA rfl rfl) rfl (Rs rfl (fun _ => op_call (d := dR Qry.enc (m27 q)) rfl rfl c27 rfl (He i27 q h_q rfl)) (Rw.st (k := 0) (cs' := (dC Qry.enc (m27 q))) h (Nat.le_add_right _ 2) rfl rfl rfl rfl rfl ty41.hn rfl rfl rfl fun _ h => Rw.nilK h (Nat.add_le_add_left (by decide : 3 ≤ 3) _) fun h => Ck h fun _ _ h => Rf fi41_2 rfl (Rl 0 h rfl (ty23.ldS rfl) (Re Tryz.underlying23 rfl (Rf fi41_3 rfl (Rl 0 h rfl (ty24.ldS rfl) (Re Tryz.underlying24 rfl (Rs rfl (fun _ => op_add_int (v := ((((m27 q).columns).length + ((m27 q).rows).length : Nat) : Int)) rfl rfl (wrap_nat (by have := okL_len (Qry.ok_columns (m27_ok h_q)); have := okL_len (Qry.ok_rows (m27_ok h_q)); omega))) (Rf fi41_4 rfl (Rl 0 h rfl (ty25.ldS rfl) (Re Tryz.underlying25 rfl (Rs rfl (fun _ => op_add_int (v := (((((m27 q).columns).length + ((m27 q).rows).length) + ((m27 q).sets).length : Nat) : Int)) rfl rfl (wrap_nat (by have := okL_len (Qry.ok_columns (m27_ok h_q)); have := okL_len (Qry.ok_rows (m27_ok h_q)); have := okL_len (Qry.ok_sets (m27_ok h_q)); omega))) (Rf fi41_5 rfl (Rl 0 h rfl (ty26.ldS rfl) (Re Tryz.underlying26 rfl (Rs rfl (fun _ => op_add_int (v := ((((((m27 q).columns).length + ((m27 q).rows).length) + ((m27 q).sets).length) + ((m27 q).items).length : Nat) : Int)) rfl rfl (wrap_nat (by have := okL_len (Qry.ok_columns (m27_ok h_q)); have := okL_len (Qry.ok_rows (m27_ok h_q)); have := okL_len (Qry.ok_sets (m27_ok h_q)); have := okL_len (Qry.ok_items (m27_ok h_q)); omega))) (Rf fi41_7 rfl (Rl 0 h rfl (ty23.ldS rfl) (Re Tryz.underlying23 rfl (Rs rfl (fun _ => op_add_int (v := (((((((m27 q).columns).length + ((m27 q).rows).length) + ((m27 q).sets).length) + ((m27 q).items).length) + ((m27 q).group).length : Nat) : Int)) rfl rfl (wrap_nat (by have := okL_len (Qry.ok_columns (m27_ok h_q)); have := okL_len (Qry.ok_rows (m27_ok h_q)); have := okL_len (Qry.ok_sets (m27_ok h_q)); have := okL_len (Qry.ok_items (m27_ok h_q)); have := okL_len (Qry.ok_group (m27_ok h_q)); omega))) (Rf fi41_8 rfl (Rl 0 h rfl (ty33.ldS rfl) (Re Tryz.underlying33 rfl (Rs rfl (fun _ => op_add_int (v := ((((((((m27 q).columns).length + ((m27 q).rows).length) + ((m27 q).sets).length) + ((m27 q).items).length) + ((m27 q).group).length) + ((m27 q).order).length : Nat) : Int)) rfl rfl (wrap_nat (by have := okL_len (Qry.ok_columns (m27_ok h_q)); have := okL_len (Qry.ok_rows (m27_ok h_q)); have := okL_len (Qry.ok_sets (m27_ok h_q)); have := okL_len (Qry.ok_items (m27_ok h_q)); have := okL_len (Qry.ok_group (m27_ok h_q)); have := okL_len (Qry.ok_order (m27_ok h_q)); omega))) (Rg 1 rfl (Rz h fun h => Ck h fun _ _ h => Rf fi41_1 rfl (Rl 0 h rfl (ty3.ldS rfl) (Rg 2 rfl ?_))))))))))))))))))))))))))))))
 cases q1 : (((m27 q).table : Int) == 0)
 exact Rg 34 rfl (Rz h fun h => Cr ⟨.inr rfl, _, rfl, rfl, rfl⟩)
 refine Rg 4 rfl ?_
 cases q2 : (((((((((((m27 q).columns).length + ((m27 q).rows).length) + ((m27 q).sets).length) + ((m27 q).items).length) + ((m27 q).group).length) + ((m27 q).order).length) : Nat) : Int) : Int) == 0)
 exact Rg 30 rfl (Rz h fun h => Cr ⟨.inr rfl, _, rfl, rfl, rfl⟩)
 refine Rf fi41_6 rfl (Rw.ld (k := 0) (d := dR Exr.row ((m27 q).wher)) h rfl rfl rfl rfl rfl (ty32.ldA rfl rfl) rfl (Rs rfl (fun _ => op_call (d := dB (m28 ((m27 q).wher))) rfl rfl c28 rfl (He i28 ((m27 q).wher) (Qry.ok_wher (m27_ok h_q)) rfl)) (Rg 2 rfl ?_)))
 cases q3 : (m28 ((m27 q).wher))
 exact Rg 25 rfl (Rz h fun h => Cr ⟨.inr rfl, _, rfl, rfl, rfl⟩)
 refine Rf fi41_9 rfl (Rl 0 h rfl (ty3.ldS rfl) (Rg 3 rfl ?_))
 cases q4 : (((m27 q).limit : Int) == 0)
 exact Rg 20 rfl (Rz h fun h => Cr ⟨.inr rfl, _, rfl, rfl, rfl⟩)
 refine Rf fi41_10 rfl (Rl 0 h rfl (ty3.ldS rfl) (Rg 3 rfl ?_))
 cases q5 : (((m27 q).level : Int) == 0)
 exact Rg 15 rfl (Rz h fun h => Cr ⟨.inr rfl, _, rfl, rfl, rfl⟩)
 refine Rf fi41_11 rfl (Rl 0 h rfl (ty34.ldS rfl) (Rg 3 rfl ?_))
 cases q6 : (((m27 q).stamp : Int) == 0)
 exact Rg 10 rfl (Rz h fun h => Cr ⟨.inr rfl, _, rfl, rfl, rfl⟩)
 refine Rf fi41_12 rfl (Rl 0 h rfl (ty9.ldS rfl) (Rg 3 rfl ?_))
 cases q7 : (ByteArray.toList ((m27 q).name) == ByteArray.toList (⟨#[]⟩))
 exact Rg 5 rfl (Rz h fun h => Cr ⟨.inr rfl, _, rfl, rfl, rfl⟩)
 exact Rf fi41_13 rfl (Rw.ld (k := 0) (d := dR Tbl.enc ((m27 q).create)) h rfl rfl rfl rfl rfl (ty39.ldA rfl rfl) rfl (Rs rfl (fun _ => op_call (d := dB (m29 ((m27 q).create))) rfl rfl c29 rfl (He i29 ((m27 q).create) (Qry.ok_create (m27_ok h_q)) rfl)) (Rg 2 rfl (Rz h fun h => Cr ⟨.inr rfl, _, rfl, rfl, rfl⟩))))
noncomputable def H13 : List D → R D := mkH (L1 (dR Qry.enc)) (fun x => Qry.ok x) (fun x => dB (m13 x))
theorem i13 : InjE (L1 (dR Qry.enc)) := j1 (jR Qry.inj)
def m54_1 (q : Qry) : Lo Bool Bool := (bif ((q.kind : Int) == 1) then .on true else (bif ((q.kind : Int) == 2) then .on true else (bif ((q.kind : Int) == 3) then .on true else .on ((q.kind : Int) == 4))))
def m54_2 (q : Qry) (v1_4 : Bool) : Lo Bool Bool := (bif ((q.kind : Int) == 10) then .on true else (bif ((q.kind : Int) == 11) then .on true else .on ((q.kind : Int) == 12)))
def m54_3 (q : Qry) (v1_4 : Bool) (v2_5 : Bool) : Lo Bool Bool := (bif (!v1_4) then (bif ((q.table : Int) != 0) then .on true else (bif ((q.kind : Int) != 1) then (bif decide (((((q.columns.length + q.rows.length) : Nat) : Int) : Int) > 0) then .on true else (bif ((q.kind : Int) != 2) then .on (decide ((((q.sets.length : Nat) : Int) : Int) > 0)) else .on false)) else (bif ((q.kind : Int) != 2) then .on (decide ((((q.sets.length : Nat) : Int) : Int) > 0)) else .on false))) else (bif ((q.kind : Int) != 1) then (bif decide (((((q.columns.length + q.rows.length) : Nat) : Int) : Int) > 0) then .on true else (bif ((q.kind : Int) != 2) then .on (decide ((((q.sets.length : Nat) : Int) : Int) > 0)) else .on false)) else (bif ((q.kind : Int) != 2) then .on (decide ((((q.sets.length : Nat) : Int) : Int) > 0)) else .on false)))
def m54_4 (q : Qry) (v1_4 : Bool) (v2_5 : Bool) (v3_62 : Bool) : Lo Bool Bool := (bif (!v1_4) then (bif (!(m89 q.wher)) then .on true else (bif (!v2_5) then .on (!(ByteArray.toList q.name == ByteArray.toList (⟨#[]⟩))) else .on false)) else (bif ((q.kind : Int) == 1) then (bif (!(m89 q.wher)) then .on true else (bif (!v2_5) then .on (!(ByteArray.toList q.name == ByteArray.toList (⟨#[]⟩))) else .on false)) else (bif (!v2_5) then .on (!(ByteArray.toList q.name == ByteArray.toList (⟨#[]⟩))) else .on false)))
def m54_5 (q : Qry) (v1_4 : Bool) (v2_5 : Bool) (v3_62 : Bool) (v4_83 : Bool) : Lo Bool Bool := (bif ((q.kind : Int) != 4) then (bif decide ((((((q.items.length + q.group.length) + q.order.length) : Nat) : Int) : Int) > 0) then .on true else .on ((q.limit : Int) != 0)) else .on false)
def m54_6 (q : Qry) (v1_4 : Bool) (v2_5 : Bool) (v3_62 : Bool) (v4_83 : Bool) (v5_104 : Bool) : Lo Bool Bool := (bif ((q.kind : Int) != 6) then (bif ((q.level : Int) != 0) then .on true else (bif ((q.kind : Int) != 7) then .on ((q.stamp : Int) != 0) else .on false)) else (bif ((q.kind : Int) != 7) then .on ((q.stamp : Int) != 0) else .on false))
def m54 (q : Qry) : Bool := (match m54_1 q with | .out r => r | .on v1_4 => (match m54_2 q v1_4 with | .out r => r | .on v2_5 => (match m54_3 q v1_4 v2_5 with | .out r => r | .on v3_62 => (bif v3_62 then false else (match m54_4 q v1_4 v2_5 false with | .out r => r | .on v4_83 => (bif v4_83 then false else (match m54_5 q v1_4 v2_5 false false with | .out r => r | .on v5_104 => (bif v5_104 then false else (match m54_6 q v1_4 v2_5 false false false with | .out r => r | .on v6_120 => (bif v6_120 then false else (bif ((q.kind : Int) == 5) then true else (m90 q.create Tbl.zero))))))))))))
theorem m54_ev  (c89 : S 89 = some H89) (c90 : S 90 = some H90) (q : Qry)  (h_q : Qry.ok q) : ∃ d σ', Ev (EE S) 54 [dR Qry.enc q] St.empty d σ' ∧ plain d = true ∧ strip d = dB (m54 q) := by
 unfold m54
 have h : Ko 0 St.empty [] [] := Ko.empty
 refine Ev.wp (E := EE S) (fn := Tryz.f54) (nt := 129) Tryz.func54 rfl rfl (Ck h fun _ _ h => Rw.bx (d := dR Qry.enc q) h (Nat.le_add_right _ 0) rfl rfl rfl rfl rfl rfl fun b1 _ h => Rg 1 rfl (Rw.nilK h (Nat.add_le_add_left (by decide : 1 ≤ 2) _) fun h => Ck h fun _ _ h => Rf fi41_0 rfl (Rl 0 h rfl (ty3.ldS rfl) (Rg 1 rfl (Rz h fun h => ?_)))))
 refine Cw.seq (Cw.mono (Q := fun oX gX sX => match m54_1 q with | .on v1_4 => oX = none ∧ gX 1 = D.ptr b1 0 ∧ gX 3 = dI q.kind ∧ gX 4 = dB v1_4 ∧ Ko 0 sX [(b1, (dC Qry.enc q))] [] | .out r => Ou S Tryz.f54 (fun d _ => plain d = true ∧ strip d = dB r) oX gX sX) ?_ ?_)
 unfold m54_1
 refine Cw.regionK h fun _ _ h => Rg 3 rfl ?_
 cases q1 : ((q.kind : Int) == 1)
 refine Rg 4 rfl ?_
 cases q2 : ((q.kind : Int) == 2)
 refine Rg 4 rfl ?_
 cases q3 : ((q.kind : Int) == 3)
 exact Rg 4 rfl (Rz h fun h => an5 rfl rfl rfl rfl h)
 exact Rg 4 rfl (Rz h fun h => an5 rfl rfl rfl rfl h)
 exact Rg 8 rfl (Rz h fun h => an5 rfl rfl rfl rfl h)
 exact Rg 12 rfl (Rz h fun h => an5 rfl rfl rfl rfl h)
 intro oY gY sY hh
 generalize hzF1 : m54_1 q = zZ at hh ⊢
 rcases zZ with v1_4 | rZ
 dsimp only
 obtain ⟨rfl, e1, e3, e4, h⟩ := hh
 rw [pin e1, pin e3, pin e4]
 refine Cw.seq (Cw.mono (Q := fun oX gX sX => match m54_2 q v1_4 with | .on v2_5 => oX = none ∧ gX 1 = D.ptr b1 0 ∧ gX 3 = dI q.kind ∧ gX 4 = dB v1_4 ∧ gX 5 = dB v2_5 ∧ Ko 0 sX [(b1, (dC Qry.enc q))] [] | .out r => Ou S Tryz.f54 (fun d _ => plain d = true ∧ strip d = dB r) oX gX sX) ?_ ?_)
 unfold m54_2
 refine Cw.regionK h fun _ _ h => Rg 3 rfl ?_
 cases q4 : ((q.kind : Int) == 10)
 refine Rg 4 rfl ?_
 cases q5 : ((q.kind : Int) == 11)
 exact Rg 4 rfl (Rz h fun h => an6 rfl rfl rfl rfl rfl h)
 exact Rg 4 rfl (Rz h fun h => an6 rfl rfl rfl rfl rfl h)
 exact Rg 8 rfl (Rz h fun h => an6 rfl rfl rfl rfl rfl h)
 intro oY gY sY hh
 generalize hzF2 : m54_2 q v1_4 = zZ at hh ⊢
 rcases zZ with v2_5 | rZ
 dsimp only
 obtain ⟨rfl, e1, e3, e4, e5, h⟩ := hh
 rw [pin e1, pin e3, pin e4, pin e5]
 refine Cs ?_
 refine Cw.seq (Cw.mono (Q := fun oX gX sX => match m54_3 q v1_4 v2_5 with | .on v3_62 => oX = none ∧ gX 1 = D.ptr b1 0 ∧ gX 3 = dI q.kind ∧ gX 4 = dB v1_4 ∧ gX 5 = dB v2_5 ∧ gX 62 = dB v3_62 ∧ Ko 0 sX [(b1, (dC Qry.enc q))] [] | .out r => Ou S Tryz.f54 (fun d _ => plain d = true ∧ strip d = dB r) oX gX sX) ?_ ?_)
 unfold m54_3
 refine Cw.regionK h fun _ _ h => Rg 3 rfl ?_
 cases q6 : (!v1_4)
 refine Rg 8 rfl ?_
 cases q7 : ((q.kind : Int) != 1)
 refine Rg 14 rfl ?_
 cases q8 : ((q.kind : Int) != 2)
 exact Rg 6 rfl (Rz h fun h => an7 rfl rfl rfl rfl rfl rfl h)
 exact Rf fi41_4 rfl (Rl 0 h rfl (ty25.ldS rfl) (Re Tryz.underlying25 rfl (Rg 3 rfl (Rz h fun h => an7 rfl rfl rfl rfl rfl rfl h))))
 refine Rf fi41_2 rfl (Rl 0 h rfl (ty23.ldS rfl) (Re Tryz.underlying23 rfl (Rf fi41_3 rfl (Rl 0 h rfl (ty24.ldS rfl) (Re Tryz.underlying24 rfl (Rs rfl (fun _ => op_add_int (v := ((q.columns.length + q.rows.length : Nat) : Int)) rfl rfl (wrap_nat (by have := okL_len (Qry.ok_columns h_q); have := okL_len (Qry.ok_rows h_q); omega))) (Rg 4 rfl ?_)))))))
 cases q9 : decide (((((q.columns.length + q.rows.length) : Nat) : Int) : Int) > 0)
 refine Rg 3 rfl ?_
 cases q10 : ((q.kind : Int) != 2)
 exact Rg 6 rfl (Rz h fun h => an7 rfl rfl rfl rfl rfl rfl h)
 exact Rf fi41_4 rfl (Rl 0 h rfl (ty25.ldS rfl) (Re Tryz.underlying25 rfl (Rg 3 rfl (Rz h fun h => an7 rfl rfl rfl rfl rfl rfl h))))
 exact Rg 9 rfl (Rz h fun h => an7 rfl rfl rfl rfl rfl rfl h)
 refine Rf fi41_1 rfl (Rl 0 h rfl (ty3.ldS rfl) (Rg 3 rfl ?_))
 cases q11 : ((q.table : Int) != 0)
 refine Rg 3 rfl ?_
 cases q12 : ((q.kind : Int) != 1)
 refine Rg 14 rfl ?_
 cases q13 : ((q.kind : Int) != 2)
 exact Rg 6 rfl (Rz h fun h => an7 rfl rfl rfl rfl rfl rfl h)
 exact Rf fi41_4 rfl (Rl 0 h rfl (ty25.ldS rfl) (Re Tryz.underlying25 rfl (Rg 3 rfl (Rz h fun h => an7 rfl rfl rfl rfl rfl rfl h))))
 refine Rf fi41_2 rfl (Rl 0 h rfl (ty23.ldS rfl) (Re Tryz.underlying23 rfl (Rf fi41_3 rfl (Rl 0 h rfl (ty24.ldS rfl) (Re Tryz.underlying24 rfl (Rs rfl (fun _ => op_add_int (v := ((q.columns.length + q.rows.length : Nat) : Int)) rfl rfl (wrap_nat (by have := okL_len (Qry.ok_columns h_q); have := okL_len (Qry.ok_rows h_q); omega))) (Rg 4 rfl ?_)))))))
 cases q14 : decide (((((q.columns.length + q.rows.length) : Nat) : Int) : Int) > 0)
 refine Rg 3 rfl ?_
 cases q15 : ((q.kind : Int) != 2)
 exact Rg 6 rfl (Rz h fun h => an7 rfl rfl rfl rfl rfl rfl h)
 exact Rf fi41_4 rfl (Rl 0 h rfl (ty25.ldS rfl) (Re Tryz.underlying25 rfl (Rg 3 rfl (Rz h fun h => an7 rfl rfl rfl rfl rfl rfl h))))
 exact Rg 9 rfl (Rz h fun h => an7 rfl rfl rfl rfl rfl rfl h)
 exact Rg 23 rfl (Rz h fun h => an7 rfl rfl rfl rfl rfl rfl h)
 intro oY gY sY hh
 generalize hzF3 : m54_3 q v1_4 v2_5 = zZ at hh ⊢
 rcases zZ with v3_62 | rZ
 dsimp only
 obtain ⟨rfl, e1, e3, e4, e5, e62, h⟩ := hh
 rw [pin e1, pin e3, pin e4, pin e5, pin e62]
 cases q16 : v3_62
 refine Cf rfl (Ci (Cs ?_))
 refine Cw.seq (Cw.mono (Q := fun oX gX sX => match m54_4 q v1_4 v2_5 false with | .on v4_83 => oX = none ∧ gX 1 = D.ptr b1 0 ∧ gX 3 = dI q.kind ∧ gX 83 = dB v4_83 ∧ Ko 0 sX [(b1, (dC Qry.enc q))] [] | .out r => Ou S Tryz.f54 (fun d _ => plain d = true ∧ strip d = dB r) oX gX sX) ?_ ?_)
 unfold m54_4
 refine Cw.regionK h fun _ _ h => Rg 3 rfl ?_
 cases q17 : (!v1_4)
 refine Rg 4 rfl ?_
 cases q18 : ((q.kind : Int) == 1)
 refine Rg 9 rfl ?_
 cases q19 : (!v2_5)
 exact Rg 5 rfl (Rz h fun h => an5 rfl rfl rfl rfl h)
 exact Rf fi41_12 rfl (Rl 0 h rfl (ty9.ldS rfl) (Rg 3 rfl (Rz h fun h => an5 rfl rfl rfl rfl h)))
 refine Rf fi41_6 rfl (Rw.ld (k := 0) (d := dR Exr.row q.wher) h rfl rfl rfl rfl rfl (ty32.ldA rfl rfl) rfl (Rs rfl (fun _ => op_call (d := dB (m89 q.wher)) rfl rfl c89 rfl (He i89 q.wher (Qry.ok_wher h_q) rfl)) (Rg 3 rfl ?_)))
 cases q20 : (!(m89 q.wher))
 refine Rg 3 rfl ?_
 cases q21 : (!v2_5)
 exact Rg 5 rfl (Rz h fun h => an5 rfl rfl rfl rfl h)
 exact Rf fi41_12 rfl (Rl 0 h rfl (ty9.ldS rfl) (Rg 3 rfl (Rz h fun h => an5 rfl rfl rfl rfl h)))
 exact Rg 8 rfl (Rz h fun h => an5 rfl rfl rfl rfl h)
 refine Rg 4 rfl (Rf fi41_6 rfl (Rw.ld (k := 0) (d := dR Exr.row q.wher) h rfl rfl rfl rfl rfl (ty32.ldA rfl rfl) rfl (Rs rfl (fun _ => op_call (d := dB (m89 q.wher)) rfl rfl c89 rfl (He i89 q.wher (Qry.ok_wher h_q) rfl)) (Rg 3 rfl ?_))))
 cases q22 : (!(m89 q.wher))
 refine Rg 3 rfl ?_
 cases q23 : (!v2_5)
 exact Rg 5 rfl (Rz h fun h => an5 rfl rfl rfl rfl h)
 exact Rf fi41_12 rfl (Rl 0 h rfl (ty9.ldS rfl) (Rg 3 rfl (Rz h fun h => an5 rfl rfl rfl rfl h)))
 exact Rg 8 rfl (Rz h fun h => an5 rfl rfl rfl rfl h)
 intro oY gY sY hh
 generalize hzF4 : m54_4 q v1_4 v2_5 false = zZ at hh ⊢
 rcases zZ with v4_83 | rZ
 dsimp only
 obtain ⟨rfl, e1, e3, e83, h⟩ := hh
 rw [pin e1, pin e3, pin e83]
 cases q24 : v4_83
 refine Cf rfl (Ci (Cs ?_))
 refine Cw.seq (Cw.mono (Q := fun oX gX sX => match m54_5 q v1_4 v2_5 false false with | .on v5_104 => oX = none ∧ gX 1 = D.ptr b1 0 ∧ gX 3 = dI q.kind ∧ gX 104 = dB v5_104 ∧ Ko 0 sX [(b1, (dC Qry.enc q))] [] | .out r => Ou S Tryz.f54 (fun d _ => plain d = true ∧ strip d = dB r) oX gX sX) ?_ ?_)
 unfold m54_5
 refine Cw.regionK h fun _ _ h => Rg 3 rfl ?_
 cases q25 : ((q.kind : Int) != 4)
 exact Rg 18 rfl (Rz h fun h => an5 rfl rfl rfl rfl h)
 refine Rf fi41_5 rfl (Rl 0 h rfl (ty26.ldS rfl) (Re Tryz.underlying26 rfl (Rf fi41_7 rfl (Rl 0 h rfl (ty23.ldS rfl) (Re Tryz.underlying23 rfl (Rs rfl (fun _ => op_add_int (v := ((q.items.length + q.group.length : Nat) : Int)) rfl rfl (wrap_nat (by have := okL_len (Qry.ok_items h_q); have := okL_len (Qry.ok_group h_q); omega))) (Rf fi41_8 rfl (Rl 0 h rfl (ty33.ldS rfl) (Re Tryz.underlying33 rfl (Rs rfl (fun _ => op_add_int (v := (((q.items.length + q.group.length) + q.order.length : Nat) : Int)) rfl rfl (wrap_nat (by have := okL_len (Qry.ok_items h_q); have := okL_len (Qry.ok_group h_q); have := okL_len (Qry.ok_order h_q); omega))) (Rg 2 rfl ?_)))))))))))
 cases q26 : decide ((((((q.items.length + q.group.length) + q.order.length) : Nat) : Int) : Int) > 0)
 exact Rf fi41_9 rfl (Rl 0 h rfl (ty3.ldS rfl) (Rg 3 rfl (Rz h fun h => an5 rfl rfl rfl rfl h)))
 exact Rg 5 rfl (Rz h fun h => an5 rfl rfl rfl rfl h)
 intro oY gY sY hh
 generalize hzF5 : m54_5 q v1_4 v2_5 false false = zZ at hh ⊢
 rcases zZ with v5_104 | rZ
 dsimp only
 obtain ⟨rfl, e1, e3, e104, h⟩ := hh
 rw [pin e1, pin e3, pin e104]
 cases q27 : v5_104
 refine Cf rfl (Ci (Cs ?_))
 refine Cw.seq (Cw.mono (Q := fun oX gX sX => match m54_6 q v1_4 v2_5 false false false with | .on v6_120 => oX = none ∧ gX 1 = D.ptr b1 0 ∧ gX 3 = dI q.kind ∧ gX 120 = dB v6_120 ∧ Ko 0 sX [(b1, (dC Qry.enc q))] [] | .out r => Ou S Tryz.f54 (fun d _ => plain d = true ∧ strip d = dB r) oX gX sX) ?_ ?_)
 unfold m54_6
 refine Cw.regionK h fun _ _ h => Rg 3 rfl ?_
 cases q28 : ((q.kind : Int) != 6)
 refine Rg 8 rfl ?_
 cases q29 : ((q.kind : Int) != 7)
 exact Rg 5 rfl (Rz h fun h => an5 rfl rfl rfl rfl h)
 exact Rf fi41_11 rfl (Rl 0 h rfl (ty34.ldS rfl) (Rg 3 rfl (Rz h fun h => an5 rfl rfl rfl rfl h)))
 refine Rf fi41_10 rfl (Rl 0 h rfl (ty3.ldS rfl) (Rg 3 rfl ?_))
 cases q30 : ((q.level : Int) != 0)
 refine Rg 3 rfl ?_
 cases q31 : ((q.kind : Int) != 7)
 exact Rg 5 rfl (Rz h fun h => an5 rfl rfl rfl rfl h)
 exact Rf fi41_11 rfl (Rl 0 h rfl (ty34.ldS rfl) (Rg 3 rfl (Rz h fun h => an5 rfl rfl rfl rfl h)))
 exact Rg 8 rfl (Rz h fun h => an5 rfl rfl rfl rfl h)
 intro oY gY sY hh
 generalize hzF6 : m54_6 q v1_4 v2_5 false false false = zZ at hh ⊢
 rcases zZ with v6_120 | rZ
 dsimp only
 obtain ⟨rfl, e1, e3, e120, h⟩ := hh
 rw [pin e1, pin e3, pin e120]
 cases q32 : v6_120
 refine Cf rfl (Ci (Ck h fun _ _ h => Rg 3 rfl ?_))
 cases q33 : ((q.kind : Int) == 5)
 exact Rf fi41_13 rfl (Rw.ld (k := 0) (d := dR Tbl.enc q.create) h rfl rfl rfl rfl rfl (ty39.ldA rfl rfl) rfl (Rs rfl (fun _ => op_buildS (qs := []) (d := D.agg [D.c (.str Tbl.zero.name), D.c (.sl true (Tbl.zero.columns.map Col.enc)), D.c (.sl true (Tbl.zero.key.map encI)), D.c (.sl true (Tbl.zero.indexes.map Idx.enc)), D.c (.sl true (Tbl.zero.refs.map Rfr.enc))]) rfl (bd39 ..)) (Rs rfl (fun _ => op_call (d := dB (m90 q.create Tbl.zero)) rfl rfl c90 rfl (He i90 (q.create, Tbl.zero) ⟨(Qry.ok_create h_q), Tbl.zok, ⟨rfl, rfl, rfl⟩⟩ rfl)) (Rg 2 rfl (Rz h fun h => Cr ⟨.inr rfl, _, rfl, rfl, rfl⟩)))))
 exact Rg 6 rfl (Rz h fun h => Cr ⟨.inr rfl, _, rfl, rfl, rfl⟩)
 exact Ct rfl (Ck h fun _ _ h => Rg 1 rfl (Rz h fun h => Cr ⟨.inr rfl, _, rfl, rfl, rfl⟩))
 obtain ⟨rfl, w⟩ := hh
 exact ⟨.inr rfl, w⟩
 exact Ct rfl (Ck h fun _ _ h => Rg 1 rfl (Rz h fun h => Cr ⟨.inr rfl, _, rfl, rfl, rfl⟩))
 obtain ⟨rfl, w⟩ := hh
 exact ⟨.inr rfl, w⟩
 exact Ct rfl (Ck h fun _ _ h => Rg 1 rfl (Rz h fun h => Cr ⟨.inr rfl, _, rfl, rfl, rfl⟩))
 obtain ⟨rfl, w⟩ := hh
 exact ⟨.inr rfl, w⟩
 exact Ct rfl (Ck h fun _ _ h => Rg 1 rfl (Rz h fun h => Cr ⟨.inr rfl, _, rfl, rfl, rfl⟩))
 obtain ⟨rfl, w⟩ := hh
 exact ⟨.inr rfl, w⟩
 obtain ⟨rfl, w⟩ := hh
 exact ⟨.inr rfl, w⟩
 obtain ⟨rfl, w⟩ := hh
 exact ⟨.inr rfl, w⟩
noncomputable def H54 : List D → R D := mkH (L1 (dR Qry.enc)) (fun x => Qry.ok x) (fun x => dB (m54 x))
theorem i54 : InjE (L1 (dR Qry.enc)) := j1 (jR Qry.inj)
def m99_2 (t : Tbl) (q : Qry) (x : Itm) : Lo Bool Int := (bif ((x.fold : Int) == 2) then (bif (((m98 t x.expr).1 : Int) != 2) then (bif (((m98 t x.expr).1 : Int) != 3) then .on (((m98 t x.expr).1 : Int) != 0) else .on false) else .on false) else (bif ((x.fold : Int) == 5) then (bif (((m98 t x.expr).1 : Int) != 2) then (bif (((m98 t x.expr).1 : Int) != 3) then .on (((m98 t x.expr).1 : Int) != 0) else .on false) else .on false) else .on false))
def m99_3 (t : Tbl) (q : Qry) (x : Itm) : Lo Bool Int := (bif (!(m89 x.expr)) then .on true else (bif decide ((x.fold : Int) > 1) then .on true else (bif ((x.fold : Int) == 0) then .on (!(ByteArray.toList x.name == ByteArray.toList (⟨#[]⟩))) else .on false)))
def m99_1 (t : Tbl) (q : Qry) (x : Itm) : Lo Unit Int := (bif x.all then (match m99_3 t q x with | .out r => .out r | .on v3_37 => (bif v3_37 then .out 1 else .on ())) else (bif (((m98 t x.expr).2 : Int) != 0) then .out ((m98 t x.expr).2) else (match m99_2 t q x with | .out r => .out r | .on v2_67 => (bif v2_67 then .out 151 else .on ()))))
def m99_4 (t : Tbl) (q : Qry) (x : Itm) : Lo Bool Int := (bif (!(ByteArray.toList x.name == ByteArray.toList (⟨#[]⟩))) then .on (!(m55 x.name)) else .on false)
def m99_5 (t : Tbl) (q : Qry) (x : Itm) (v4_76 : Bool) : Lo Bool Int := (bif (m100 q) then (bif ((x.fold : Int) == 0) then (bif x.all then .on true else (bif ((x.expr.kind : Int) != 2) then .on true else .on (!(m101 q.group x.expr.column)))) else .on false) else .on false)
def m99 (t : Tbl) (q : Qry) (x : Itm) : Int := (bif decide ((x.fold : Int) < 0) then 1 else (bif decide ((x.fold : Int) > 5) then 1 else (match m99_1 t q x with | .out r => r | .on _ => (match m99_4 t q x with | .out r => r | .on v4_76 => (bif v4_76 then 30 else (match m99_5 t q x false with | .out r => r | .on v5_102 => (bif v5_102 then 252 else 0)))))))
theorem m99_ev  (c55 : S 55 = some H55) (c89 : S 89 = some H89) (c98 : S 98 = some H98) (c100 : S 100 = some H100) (c101 : S 101 = some H101) (t : Tbl) (q : Qry) (x : Itm)  (h_t : Tbl.ok t) (h_q : Qry.ok q) (h_x : Itm.ok x) : ∃ d σ', Ev (EE S) 99 [dR Tbl.enc t, dR Qry.enc q, dR Itm.enc x] St.empty d σ' ∧ plain d = true ∧ strip d = dI (m99 t q x) := by
 unfold m99
 have h : Ko 0 St.empty [] [] := Ko.empty
 refine Ev.wp (E := EE S) (fn := Tryz.f99) (nt := 103) Tryz.func99 rfl rfl (Ck h fun _ _ h => Rw.bx (d := dR Tbl.enc t) h (Nat.le_add_right _ 0) rfl rfl rfl rfl rfl rfl fun b1 _ h => Rw.bx (d := dR Qry.enc q) h (Nat.le_add_right _ 0) rfl rfl rfl rfl rfl rfl fun b2 _ h => Rw.bx (d := dR Itm.enc x) h (Nat.le_add_right _ 0) rfl rfl rfl rfl rfl rfl fun b3 _ h => Rg 1 rfl (Rw.nilK h (Nat.add_le_add_left (by decide : 3 ≤ 4) _) fun h => Cs (Ck h fun _ _ h => Rf fi53_0 rfl (Rl 0 h rfl (ty3.ldS rfl) (Rg 2 rfl ?_)))))
 cases q1 : decide ((x.fold : Int) < 0)
 refine Rf fi53_0 rfl (Rl 0 h rfl (ty3.ldS rfl) (Rg 2 rfl (Rz h fun h => ?_)))
 cases q2 : decide ((x.fold : Int) > 5)
 refine Cf rfl (Ci ?_)
 refine Cw.seq (Cw.mono (Q := fun oX gX sX => match m99_1 t q x with | .on _ => oX = none ∧ gX 4 = D.ptr b2 0 ∧ gX 5 = D.ptr b3 0 ∧ Ko 0 sX [(b3, (dC Itm.enc x)), (b2, (dC Qry.enc q)), (b1, (dC Tbl.enc t))] [] | .out r => Ou S Tryz.f99 (fun d _ => plain d = true ∧ strip d = dI r) oX gX sX) ?_ ?_)
 unfold m99_1
 refine Ck h fun _ _ h => Rf fi53_1 rfl (Rl 0 h rfl (ty4.ldS rfl) (Rz h fun h => ?_))
 cases q3 : x.all
 refine Cf rfl (Ck h fun _ _ h => Rw.ld (k := 2) (d := dR Tbl.enc t) h rfl rfl rfl rfl rfl (ty39.ldA rfl rfl) rfl (Rf fi53_2 rfl (Rw.ld (k := 0) (d := dR Exr.row x.expr) h rfl rfl rfl rfl rfl (ty32.ldA rfl rfl) rfl (Rs rfl (fun _ => op_call (d := D.tup [dI ((m98 t x.expr).1), dI ((m98 t x.expr).2)]) rfl rfl c98 rfl (He i98 (t, x.expr) ⟨h_t, (Itm.ok_expr h_x)⟩ rfl)) (Rs rfl (fun _ => op_move (d := D.tup [dI ((m98 t x.expr).1), dI ((m98 t x.expr).2)]) rfl) (Rs rfl (fun _ => op_extract rfl rfl) (Rs rfl (fun _ => op_extract rfl rfl) (Rg 2 rfl (Rz h fun h => Cs (Ck h fun _ _ h => Rg 2 rfl (Rz h fun h => ?_)))))))))))
 cases q4 : (((m98 t x.expr).2 : Int) != 0)
 refine Cf rfl (Ci ?_)
 refine Cw.seq (Cw.mono (Q := fun oX gX sX => match m99_2 t q x with | .on v2_67 => oX = none ∧ gX 4 = D.ptr b2 0 ∧ gX 5 = D.ptr b3 0 ∧ gX 67 = dB v2_67 ∧ Ko 0 sX [(b3, (dC Itm.enc x)), (b2, (dC Qry.enc q)), (b1, (dC Tbl.enc t))] [] | .out r => Ou S Tryz.f99 (fun d _ => plain d = true ∧ strip d = dI r) oX gX sX) ?_ ?_)
 unfold m99_2
 refine Cw.regionK h fun _ _ h => Rf fi53_0 rfl (Rl 0 h rfl (ty3.ldS rfl) (Rg 2 rfl ?_))
 cases q5 : ((x.fold : Int) == 2)
 refine Rf fi53_0 rfl (Rl 0 h rfl (ty3.ldS rfl) (Rg 3 rfl ?_))
 cases q6 : ((x.fold : Int) == 5)
 exact Rg 11 rfl (Rz h fun h => an5 rfl rfl rfl rfl h)
 refine Rg 4 rfl ?_
 cases q7 : (((m98 t x.expr).1 : Int) != 2)
 exact Rg 7 rfl (Rz h fun h => an5 rfl rfl rfl rfl h)
 refine Rg 4 rfl ?_
 cases q8 : (((m98 t x.expr).1 : Int) != 3)
 exact Rg 3 rfl (Rz h fun h => an5 rfl rfl rfl rfl h)
 exact Rg 3 rfl (Rz h fun h => an5 rfl rfl rfl rfl h)
 refine Rg 9 rfl ?_
 cases q9 : (((m98 t x.expr).1 : Int) != 2)
 exact Rg 7 rfl (Rz h fun h => an5 rfl rfl rfl rfl h)
 refine Rg 4 rfl ?_
 cases q10 : (((m98 t x.expr).1 : Int) != 3)
 exact Rg 3 rfl (Rz h fun h => an5 rfl rfl rfl rfl h)
 exact Rg 3 rfl (Rz h fun h => an5 rfl rfl rfl rfl h)
 intro oY gY sY hh
 generalize hzF2 : m99_2 t q x = zZ at hh ⊢
 rcases zZ with v2_67 | rZ
 dsimp only
 obtain ⟨rfl, e4, e5, e67, h⟩ := hh
 rw [pin e4, pin e5, pin e67]
 cases q11 : v2_67
 exact Cf rfl (Ci (an4 rfl rfl rfl h))
 exact Ct rfl (Ck h fun _ _ h => Rg 1 rfl (Rz h fun h => Cr (And.intro rfl (Exists.intro _ (an3 rfl rfl rfl)))))
 obtain ⟨rfl, w⟩ := hh
 exact ⟨rfl, w⟩
 exact Ct rfl (Ck h fun _ _ h => Rg 2 rfl (Rz h fun h => Cr (And.intro rfl (Exists.intro _ (an3 rfl rfl rfl)))))
 refine Ct rfl ?_
 refine Cw.seq (Cw.mono (Q := fun oX gX sX => match m99_3 t q x with | .on v3_37 => oX = none ∧ gX 4 = D.ptr b2 0 ∧ gX 5 = D.ptr b3 0 ∧ gX 37 = dB v3_37 ∧ Ko 0 sX [(b3, (dC Itm.enc x)), (b2, (dC Qry.enc q)), (b1, (dC Tbl.enc t))] [] | .out r => Ou S Tryz.f99 (fun d _ => plain d = true ∧ strip d = dI r) oX gX sX) ?_ ?_)
 unfold m99_3
 refine Cw.regionK h fun _ _ h => Rf fi53_2 rfl (Rw.ld (k := 0) (d := dR Exr.row x.expr) h rfl rfl rfl rfl rfl (ty32.ldA rfl rfl) rfl (Rs rfl (fun _ => op_call (d := dB (m89 x.expr)) rfl rfl c89 rfl (He i89 x.expr (Itm.ok_expr h_x) rfl)) (Rg 2 rfl ?_)))
 cases q12 : (!(m89 x.expr))
 refine Rf fi53_0 rfl (Rl 0 h rfl (ty3.ldS rfl) (Rg 3 rfl ?_))
 cases q13 : decide ((x.fold : Int) > 1)
 refine Rf fi53_0 rfl (Rl 0 h rfl (ty3.ldS rfl) (Rg 2 rfl ?_))
 cases q14 : ((x.fold : Int) == 0)
 exact Rg 5 rfl (Rz h fun h => an5 rfl rfl rfl rfl h)
 exact Rf fi53_3 rfl (Rl 0 h rfl (ty9.ldS rfl) (Rg 3 rfl (Rz h fun h => an5 rfl rfl rfl rfl h)))
 exact Rg 9 rfl (Rz h fun h => an5 rfl rfl rfl rfl h)
 exact Rg 14 rfl (Rz h fun h => an5 rfl rfl rfl rfl h)
 intro oY gY sY hh
 generalize hzF3 : m99_3 t q x = zZ at hh ⊢
 rcases zZ with v3_37 | rZ
 dsimp only
 obtain ⟨rfl, e4, e5, e37, h⟩ := hh
 rw [pin e4, pin e5, pin e37]
 cases q15 : v3_37
 exact Cf rfl (Ci (an4 rfl rfl rfl h))
 exact Ct rfl (Ck h fun _ _ h => Rg 1 rfl (Rz h fun h => Cr (And.intro rfl (Exists.intro _ (an3 rfl rfl rfl)))))
 obtain ⟨rfl, w⟩ := hh
 exact ⟨rfl, w⟩
 intro oY gY sY hh
 generalize hzF1 : m99_1 t q x = zZ at hh ⊢
 rcases zZ with vZ | rZ
 dsimp only
 obtain ⟨rfl, e4, e5, h⟩ := hh
 rw [pin e4, pin e5]
 refine Cs ?_
 refine Cw.seq (Cw.mono (Q := fun oX gX sX => match m99_4 t q x with | .on v4_76 => oX = none ∧ gX 4 = D.ptr b2 0 ∧ gX 5 = D.ptr b3 0 ∧ gX 76 = dB v4_76 ∧ Ko 0 sX [(b3, (dC Itm.enc x)), (b2, (dC Qry.enc q)), (b1, (dC Tbl.enc t))] [] | .out r => Ou S Tryz.f99 (fun d _ => plain d = true ∧ strip d = dI r) oX gX sX) ?_ ?_)
 unfold m99_4
 refine Cw.regionK h fun _ _ h => Rf fi53_3 rfl (Rl 0 h rfl (ty9.ldS rfl) (Rg 2 rfl ?_))
 cases q16 : (!(ByteArray.toList x.name == ByteArray.toList (⟨#[]⟩)))
 exact Rg 5 rfl (Rz h fun h => an5 rfl rfl rfl rfl h)
 exact Rf fi53_3 rfl (Rl 0 h rfl (ty9.ldS rfl) (Rs rfl (fun _ => op_call (d := dB (m55 x.name)) rfl rfl c55 rfl (He i55 x.name (Itm.ok_name h_x) rfl)) (Rg 2 rfl (Rz h fun h => an5 rfl rfl rfl rfl h))))
 intro oY gY sY hh
 generalize hzF4 : m99_4 t q x = zZ at hh ⊢
 rcases zZ with v4_76 | rZ
 dsimp only
 obtain ⟨rfl, e4, e5, e76, h⟩ := hh
 rw [pin e4, pin e5, pin e76]
 cases q17 : v4_76
 refine Cf rfl (Ci (Cs ?_))
 refine Cw.seq (Cw.mono (Q := fun oX gX sX => match m99_5 t q x false with | .on v5_102 => oX = none ∧ gX 102 = dB v5_102 ∧ Ko 0 sX [(b3, (dC Itm.enc x)), (b2, (dC Qry.enc q)), (b1, (dC Tbl.enc t))] [] | .out r => Ou S Tryz.f99 (fun d _ => plain d = true ∧ strip d = dI r) oX gX sX) ?_ ?_)
 unfold m99_5
 refine Cw.regionK h fun _ _ h => Rw.ld (k := 1) (d := dR Qry.enc q) h rfl rfl rfl rfl rfl (ty41.ldA rfl rfl) rfl (Rs rfl (fun _ => op_call (d := dB (m100 q)) rfl rfl c100 rfl (He i100 q h_q rfl)) (Rg 1 rfl ?_))
 cases q18 : (m100 q)
 exact Rg 23 rfl (Rz h fun h => an3 rfl rfl h)
 refine Rf fi53_0 rfl (Rl 0 h rfl (ty3.ldS rfl) (Rg 3 rfl ?_))
 cases q19 : ((x.fold : Int) == 0)
 exact Rg 18 rfl (Rz h fun h => an3 rfl rfl h)
 refine Rf fi53_1 rfl (Rl 0 h rfl (ty4.ldS rfl) (Rg 1 rfl ?_))
 cases q20 : x.all
 refine Rf fi53_2 rfl (Rf fi32_0 rfl (Rl 0 h rfl (ty3.ldS rfl) (Rg 3 rfl ?_)))
 cases q21 : ((x.expr.kind : Int) != 2)
 exact Rf fi41_7 rfl (Rl 1 h rfl (ty23.ldS rfl) (Rf fi53_2 rfl (Rf fi32_2 rfl (Rl 0 h rfl (ty3.ldS rfl) (Rs rfl (fun _ => op_call (d := dB (m101 q.group x.expr.column)) rfl rfl c101 rfl (He i101 (q.group, x.expr.column) (Qry.ok_group h_q) rfl)) (Rg 3 rfl (Rz h fun h => an3 rfl rfl h)))))))
 exact Rg 9 rfl (Rz h fun h => an3 rfl rfl h)
 exact Rg 15 rfl (Rz h fun h => an3 rfl rfl h)
 intro oY gY sY hh
 generalize hzF5 : m99_5 t q x false = zZ at hh ⊢
 rcases zZ with v5_102 | rZ
 dsimp only
 obtain ⟨rfl, e102, h⟩ := hh
 rw [pin e102]
 cases q22 : v5_102
 exact Cf rfl (Ci (Ck h fun _ _ h => Rg 1 rfl (Rz h fun h => Cr ⟨.inr rfl, _, rfl, rfl, rfl⟩)))
 exact Ct rfl (Ck h fun _ _ h => Rg 1 rfl (Rz h fun h => Cr ⟨.inr rfl, _, rfl, rfl, rfl⟩))
 obtain ⟨rfl, w⟩ := hh
 exact ⟨.inr rfl, w⟩
 exact Ct rfl (Ck h fun _ _ h => Rg 1 rfl (Rz h fun h => Cr ⟨.inr rfl, _, rfl, rfl, rfl⟩))
 obtain ⟨rfl, w⟩ := hh
 exact ⟨.inr rfl, w⟩
 obtain ⟨rfl, w⟩ := hh
 exact ⟨.inr rfl, w⟩
 exact Ct rfl (Ck h fun _ _ h => Rg 1 rfl (Rz h fun h => Cr ⟨.inr rfl, _, rfl, rfl, rfl⟩))
 exact Rg 4 rfl (Rz h fun h => Ct rfl (Ck h fun _ _ h => Rg 1 rfl (Rz h fun h => Cr ⟨.inr rfl, _, rfl, rfl, rfl⟩)))
noncomputable def H99 : List D → R D := mkH (L3 (dR Tbl.enc) (dR Qry.enc) (dR Itm.enc)) (fun x => Tbl.ok x.1 ∧ Qry.ok x.2.1 ∧ Itm.ok x.2.2) (fun x => dI (m99 x.1 x.2.1 x.2.2))
theorem i99 : InjE (L3 (dR Tbl.enc) (dR Qry.enc) (dR Itm.enc)) := j3 (jR Tbl.inj) (jR Qry.inj) (jR Itm.inj)
noncomputable def cm59_l1 : Code := (cl (cr (cl (cr (cr (cr (bodyOf Tryz.f59)))))))
def m59_l1 (t : Tbl) (q : Qry) : Nat → Nat → (List Int) → Lo (List Int) Int
 | 0, _, yl1_a1 => .on yl1_a1
 | rem1 + 1, i1, yl1_a1 => m59_l1 t q rem1 (i1 + 1) (yl1_a1 ++ ([((q.order.getD i1 default).column)]))
noncomputable def cm59_l2 : Code := (cl (cr (cl (cr (cr (cr (cr (cr (bodyOf Tryz.f59)))))))))
def m59_l2 (t : Tbl) (q : Qry) (yl1_a1 : (List Int)) : Nat → Nat → Lo Unit Int
 | 0, _ => .on ()
 | rem2 + 1, i2 => (bif (((m99 t q (q.items.getD i2 default)) : Int) != 0) then .out (m99 t q (q.items.getD i2 default)) else m59_l2 t q yl1_a1 rem2 (i2 + 1) )
noncomputable def cm59_l3 : Code := (cl (cr (cl (cr (cr (cr (cr (cr (cr (bodyOf Tryz.f59))))))))))
def m59_l3 (t : Tbl) (q : Qry) (yl1_a1 : (List Int)) : Nat → Nat → Lo Unit Int
 | 0, _ => .on ()
 | rem3 + 1, i3 => (bif (m100 q) then (bif (!(m101 q.group (yl1_a1.getD i3 default))) then .out 252 else m59_l3 t q yl1_a1 rem3 (i3 + 1) ) else .on ())
def m59 (t : Tbl) (q : Qry) : Int := (bif decide ((((q.items.length : Nat) : Int) : Int) < 1) then 2 else (bif decide ((((q.items.length : Nat) : Int) : Int) > 64) then 2 else (match m59_l1 t q q.order.length 0 ([]) with | .out r => r | .on yl1_a1 => (bif (!(m95 t q.group)) then 5 else (bif (!(m95 t yl1_a1)) then 5 else (match m59_l2 t q yl1_a1 q.items.length 0  with | .out r => r | .on _ => (match m59_l3 t q yl1_a1 yl1_a1.length 0  with | .out r => r | .on _ => (bif decide ((q.limit : Int) < (-1)) then 1 else (bif decide ((q.limit : Int) > 4611686018427387904) then 1 else 0)))))))))
theorem m59_ev  (c95 : S 95 = some H95) (c99 : S 99 = some H99) (c100 : S 100 = some H100) (c101 : S 101 = some H101) (t : Tbl) (q : Qry)  (h_t : Tbl.ok t) (h_q : Qry.ok q) : ∃ d σ', Ev (EE S) 59 [dR Tbl.enc t, dR Qry.enc q] St.empty d σ' ∧ plain d = true ∧ strip d = dI (m59 t q) := by
 unfold m59
 have h : Ko 0 St.empty [] [] := Ko.empty
 refine Ev.wp (E := EE S) (fn := Tryz.f59) (nt := 92) Tryz.func59 rfl rfl (Ck h fun _ _ h => Rw.bx (d := dR Tbl.enc t) h (Nat.le_add_right _ 0) rfl rfl rfl rfl rfl rfl fun b1 _ h => Rw.bx (d := dR Qry.enc q) h (Nat.le_add_right _ 0) rfl rfl rfl rfl rfl rfl fun b2 _ h => Rg 1 rfl (Rw.nilK h (Nat.add_le_add_left (by decide : 2 ≤ 3) _) fun h => Cs (Ck h fun _ _ h => Rf fi41_5 rfl (Rl 0 h rfl (ty26.ldS rfl) (Re Tryz.underlying26 rfl (Rg 2 rfl ?_))))))
 cases q1 : decide ((((q.items.length : Nat) : Int) : Int) < 1)
 refine Rf fi41_5 rfl (Rl 0 h rfl (ty26.ldS rfl) (Re Tryz.underlying26 rfl (Rg 2 rfl (Rz h fun h => ?_))))
 cases q2 : decide ((((q.items.length : Nat) : Int) : Int) > 64)
 refine Cf rfl (Ci (Ck h fun _ _ h => Rs rfl (fun _ => op_bs (xs := ([] : List Int).map encI) Tryz.underlying23 ty3.hn (z3 (S := S)) rfl rfl rfl rfl rfl) (Rg 1 rfl ?_)))
 replace h := h.newAc (([] : (List Int)).map encI) 1
 refine Rz h fun h => Cs (Ck h fun _ _ h => Rg 1 rfl (Rz h fun h => Cb ?_))
 have hl1 : ∀ (rem1 i1 : Nat) (yl1_a1 : (List Int)) (el1_a1 : D) (fr : Nat → D) (σ : St), i1 + rem1 = q.order.length → yl1_a1.length ≤ i1 → fr 2 = D.ptr b1 0 → fr 3 = D.ptr b2 0 → fr 5 = el1_a1 → fr 6 = dN i1 → Ko 0 σ [(b2, (dC Qry.enc q)), (b1, (dC Tbl.enc t))] [(el1_a1, (yl1_a1).map encI, 1)] → Cw (EE S) cm59_l1 92 fr σ (fun oX gX sX => match m59_l1 t q rem1 i1 yl1_a1 with | .on yl1_a1 => ∃ el1_a1, oX = some (some 0) ∧ yl1_a1.length ≤ q.order.length ∧ gX 2 = D.ptr b1 0 ∧ gX 3 = D.ptr b2 0 ∧ gX 5 = el1_a1 ∧ Ko 0 sX [(b2, (dC Qry.enc q)), (b1, (dC Tbl.enc t))] [(el1_a1, (yl1_a1).map encI, 1)] | .out r => Ou S Tryz.f59 (fun d _ => plain d = true ∧ strip d = dI r) oX gX sX) := by
  intro rem1
  induction rem1
  intro i1 yl1_a1 el1_a1 fr σ hi nyl1_a1 e2 e3 e5 e6 h
  have hlt1 : decide ((((i1 : Nat) : Int) : Int) < ((q.order.length : Nat) : Int)) = false := decF (by omega)
  rw [pin e2, pin e3, pin e5, pin e6]
  rw [m59_l1]
  exact Co (Cs (Ck h fun _ _ h => Rg 1 rfl (Rf fi41_8 rfl (Rl 0 h rfl (ty33.ldS rfl) (Re Tryz.underlying33 rfl (Rs rfl (fun _ => op_lss_int rfl rfl hlt1) (Rz h fun h => Cf rfl (Cw.exit (Exists.intro el1_a1 (an6 rfl (by omega) rfl rfl rfl h))))))))))
  rename_i rem1 ih
  intro i1 yl1_a1 el1_a1 fr σ hi nyl1_a1 e2 e3 e5 e6 h
  have hlt1 : decide ((((i1 : Nat) : Int) : Int) < ((q.order.length : Nat) : Int)) = true := decT (by omega)
  have hil1 : i1 < q.order.length := by omega
  have hbq1 := okL_len (Qry.ok_order h_q)
  rw [pin e2, pin e3, pin e5, pin e6]
  rw [m59_l1]
  refine Co (Cs (Ck h fun _ _ h => Rg 1 rfl (Rf fi41_8 rfl (Rl 0 h rfl (ty33.ldS rfl) (Re Tryz.underlying33 rfl (Rs rfl (fun _ => op_lss_int rfl rfl hlt1) (Rz h fun h => Ct rfl (Ci (Cs (Cb (Cw.regionK h fun _ _ h => Rs rfl (fun _ => op_move rfl) (Rf fi41_8 rfl (Rl 0 h rfl (ty33.ldS rfl) (Rg 1 rfl (Rs rfl (fun _ => op_ix (n := i1) rfl rfl rfl Tryz.underlying33 ty55.hn (at_map hil1) rfl) (Rs rfl (fun _ => op_fr fi55_0 rfl rfl) (Rc (at_map hil1) ty3 rfl (Rs rfl (fun _ => op_bs (xs := ([((q.order.getD i1 default).column)] : List Int).map encI) Tryz.underlying23 ty3.hn (z3 (S := S)) rfl rfl rfl rfl rfl) (Rw.ap (j := 0) (ys := ([((q.order.getD i1 default).column)]).map encI) h (Nat.le_add_right _ 8) rfl rfl rfl rfl rfl rfl rfl rfl (room_mk Tryz.underlying23 (if3 (S := S)) (z3 (S := S)) rfl rfl rfl rfl (by simp only [List.length_map, List.length_cons, List.length_nil]; omega)) (heads_map _ (fun _ => rfl)) rfl fun d1 _ h => ?_)))))))))))))))))))
  simp only [List.set_cons_zero, ← List.map_append] at h
  exact Rs rfl (fun _ => op_assign rfl) (Rw.nilK h (Nat.add_le_add_left (by decide : 9 ≤ 10) _) fun h => Cw.regionK h fun _ _ h => Rg 1 rfl (Rs rfl (fun _ => op_add_int (v := ((i1 + 1 : Nat) : Int)) rfl rfl (wrap_one (by omega))) (Rg 1 rfl (Rz h fun h => ih (i1 + 1) (yl1_a1 ++ ([((q.order.getD i1 default).column)])) _ _ _ (by omega) (by simp only [List.length_append, List.length_cons, List.length_nil]; omega) rfl rfl rfl rfl h))))
 refine Cw.mono (hl1 q.order.length 0 ([]) _ _ _ (by omega) (by simp) rfl rfl rfl rfl h) ?_
 intro oY gY sY hh
 generalize hzL1 : m59_l1 t q q.order.length 0 ([]) = zZ at hh ⊢
 rcases zZ with yl1_a1 | rZ
 dsimp only
 obtain ⟨el1_a1, rfl, nyl1_a1, e2, e3, e5, h⟩ := hh
 rw [pin e2, pin e3, pin e5]
 have hbd1 := okL_len (Qry.ok_order h_q)
 refine Cs (Ck h fun _ _ h => Rw.ld (k := 1) (d := dR Tbl.enc t) h rfl rfl rfl rfl rfl (ty39.ldA rfl rfl) rfl (Rf fi41_7 rfl (Rl 0 h rfl (ty23.ldS rfl) (Rs rfl (fun _ => op_call (d := dB (m95 t q.group)) rfl rfl c95 rfl (He i95 (t, q.group) ⟨h_t, (Qry.ok_group h_q)⟩ rfl)) (Rg 2 rfl ?_)))))
 cases q3 : (!(m95 t q.group))
 refine Rw.ld (k := 1) (d := dR Tbl.enc t) h rfl rfl rfl rfl rfl (ty39.ldA rfl rfl) rfl (Rs rfl (fun _ => op_move rfl) ?_)
 obtain ⟨hpA0, _, _, fA0, hsA0, _, _⟩ := (h.ac _ (List.mem_of_getElem? (i := 0) rfl)).plain
 refine Rs rfl (fun _ => op_call (das := [dR Tbl.enc t, el1_a1]) (d := dB (m95 t yl1_a1)) rfl rfl c95 (by simp only [List.all_cons, List.all_nil, hpA0, Bool.and_true]; first | done | rfl) (He i95 (t, yl1_a1) ⟨h_t, (okL_triv yl1_a1 (by omega))⟩ (by simp only [List.map_cons, List.map_nil, hsA0]; rfl))) (Rg 2 rfl (Rz h fun h => ?_))
 cases q4 : (!(m95 t yl1_a1))
 refine Cf rfl (Ci (Cs (Ck h fun _ _ h => Rg 1 rfl (Rz h fun h => Cb ?_))))
 have hl2 : ∀ (rem2 i2 : Nat) (fr : Nat → D) (σ : St), i2 + rem2 = q.items.length → fr 2 = D.ptr b1 0 → fr 3 = D.ptr b2 0 → fr 5 = el1_a1 → fr 7 = dN i2 → Ko 0 σ [(b2, (dC Qry.enc q)), (b1, (dC Tbl.enc t))] [(el1_a1, (yl1_a1).map encI, 1)] → Cw (EE S) cm59_l2 92 fr σ (fun oX gX sX => match m59_l2 t q yl1_a1 rem2 i2  with | .on _ => oX = some (some 2) ∧ gX 3 = D.ptr b2 0 ∧ gX 5 = el1_a1 ∧ Ko 0 sX [(b2, (dC Qry.enc q)), (b1, (dC Tbl.enc t))] [(el1_a1, (yl1_a1).map encI, 1)] | .out r => Ou S Tryz.f59 (fun d _ => plain d = true ∧ strip d = dI r) oX gX sX) := by
  intro rem2
  induction rem2
  intro i2   fr σ hi  e2 e3 e5 e7 h
  have hlt2 : decide ((((i2 : Nat) : Int) : Int) < ((q.items.length : Nat) : Int)) = false := decF (by omega)
  rw [pin e2, pin e3, pin e5, pin e7]
  rw [m59_l2]
  exact Co (Cs (Ck h fun _ _ h => Rg 1 rfl (Rf fi41_5 rfl (Rl 0 h rfl (ty26.ldS rfl) (Re Tryz.underlying26 rfl (Rs rfl (fun _ => op_lss_int rfl rfl hlt2) (Rz h fun h => Cf rfl (Cw.exit (an4 rfl rfl rfl h)))))))))
  rename_i rem2 ih
  intro i2   fr σ hi  e2 e3 e5 e7 h
  have hlt2 : decide ((((i2 : Nat) : Int) : Int) < ((q.items.length : Nat) : Int)) = true := decT (by omega)
  have hil2 : i2 < q.items.length := by omega
  have hbq2 := okL_len (Qry.ok_items h_q)
  rw [pin e2, pin e3, pin e5, pin e7]
  rw [m59_l2]
  refine Co (Cs (Ck h fun _ _ h => Rg 1 rfl (Rf fi41_5 rfl (Rl 0 h rfl (ty26.ldS rfl) (Re Tryz.underlying26 rfl (Rs rfl (fun _ => op_lss_int rfl rfl hlt2) (Rz h fun h => Ct rfl (Ci (Cs (Cb ?_))))))))))
  refine Cw.seq (Cw.regionD h fun _ _ h => ?_)
  refine Rw.ld (k := 1) (d := dR Tbl.enc t) h rfl rfl rfl rfl rfl (ty39.ldA rfl rfl) rfl (Rw.ld (k := 0) (d := dR Qry.enc q) h rfl rfl rfl rfl rfl (ty41.ldA rfl rfl) rfl (Rf fi41_5 rfl (Rl 0 h rfl (ty26.ldS rfl) (Rg 1 rfl (Rs rfl (fun _ => op_ix (n := i2) rfl rfl rfl Tryz.underlying26 ty53.hn (at_map hil2) rfl) (Rs rfl (fun _ => op_ldC (d := dR Itm.enc (q.items.getD i2 default)) rfl (at_map hil2) (ty53.lcA rfl rfl)) (Rs rfl (fun _ => op_call (d := dI (m99 t q (q.items.getD i2 default))) rfl rfl c99 rfl (He i99 (t, q, (q.items.getD i2 default)) ⟨h_t, h_q, (okL_get (Qry.ok_items h_q) Itm.zok i2)⟩ rfl)) (Rg 1 rfl (Rz h fun h => ?_)))))))))
  refine ⟨by kernel_rfl, ?_⟩
  refine Ck h fun _ _ h => Rg 2 rfl (Rz h fun h => ?_)
  cases q5 : (((m99 t q (q.items.getD i2 default)) : Int) != 0)
  exact Cf rfl (Ci (Cw.regionK h fun _ _ h => Rg 1 rfl (Rs rfl (fun _ => op_add_int (v := ((i2 + 1 : Nat) : Int)) rfl rfl (wrap_one (by omega))) (Rg 1 rfl (Rz h fun h => ih (i2 + 1)   _ _ (by omega)  rfl rfl rfl rfl h)))))
  exact Ct rfl (Ck h fun _ _ h => Rg 2 rfl (Rz h fun h => Cr (And.intro rfl (Exists.intro _ (an3 rfl rfl rfl)))))
 refine Cw.mono (hl2 q.items.length 0   _ _ (by omega)  rfl rfl rfl rfl h) ?_
 intro oY gY sY hh
 generalize hzL2 : m59_l2 t q yl1_a1 q.items.length 0  = zZ at hh ⊢
 rcases zZ with vZ | rZ
 dsimp only
 obtain ⟨rfl, e3, e5, h⟩ := hh
 rw [pin e3, pin e5]
 have hbd2 := okL_len (Qry.ok_items h_q)
 refine Cs (Ck h fun _ _ h => Rg 1 rfl (Rz h fun h => Cb ?_))
 have hl3 : ∀ (rem3 i3 : Nat) (fr : Nat → D) (σ : St), i3 + rem3 = yl1_a1.length → fr 3 = D.ptr b2 0 → fr 5 = el1_a1 → fr 9 = dN i3 → Ko 0 σ [(b2, (dC Qry.enc q)), (b1, (dC Tbl.enc t))] [(el1_a1, (yl1_a1).map encI, 1)] → Cw (EE S) cm59_l3 92 fr σ (fun oX gX sX => match m59_l3 t q yl1_a1 rem3 i3  with | .on _ => oX = some (some 4) ∧ gX 3 = D.ptr b2 0 ∧ Ko 0 sX [(b2, (dC Qry.enc q)), (b1, (dC Tbl.enc t))] [(el1_a1, (yl1_a1).map encI, 1)] | .out r => Ou S Tryz.f59 (fun d _ => plain d = true ∧ strip d = dI r) oX gX sX) := by
  intro rem3
  induction rem3
  intro i3   fr σ hi  e3 e5 e9 h
  have hlt3 : decide ((((i3 : Nat) : Int) : Int) < ((yl1_a1.length : Nat) : Int)) = false := decF (by omega)
  rw [pin e3, pin e5, pin e9]
  rw [m59_l3]
  exact Co (Cs (Ck h fun _ _ h => Rg 1 rfl (Rs rfl (fun _ => op_move rfl) (Rs rfl (fun _ => op_lenN (n := yl1_a1.length) rfl Tryz.underlying23 (h.ac _ (List.mem_of_getElem? (i := 0) rfl)).rows (List.length_map ..)) (Rs rfl (fun _ => op_lss_int rfl rfl hlt3) (Rg 4 rfl (Rz h fun h => Cf rfl (Cw.exit (an3 rfl rfl h)))))))))
  rename_i rem3 ih
  intro i3   fr σ hi  e3 e5 e9 h
  have hlt3 : decide ((((i3 : Nat) : Int) : Int) < ((yl1_a1.length : Nat) : Int)) = true := decT (by omega)
  have hil3 : i3 < yl1_a1.length := by omega
  rw [pin e3, pin e5, pin e9]
  rw [m59_l3]
  refine Co (Cs (Ck h fun _ _ h => Rg 1 rfl (Rs rfl (fun _ => op_move rfl) (Rs rfl (fun _ => op_lenN (n := yl1_a1.length) rfl Tryz.underlying23 (h.ac _ (List.mem_of_getElem? (i := 0) rfl)).rows (List.length_map ..)) (Rs rfl (fun _ => op_lss_int rfl rfl hlt3) (Rg 1 rfl (Rw.ld (k := 0) (d := dR Qry.enc q) h rfl rfl rfl rfl rfl (ty41.ldA rfl rfl) rfl (Rs rfl (fun _ => op_call (d := dB (m100 q)) rfl rfl c100 rfl (He i100 q h_q rfl)) (Rg 1 rfl (Rz h fun h => ?_))))))))))
  cases q6 : (m100 q)
  exact Cf rfl (Cw.exit (an3 rfl rfl h))
  refine Ct rfl (Ci (Cs (Cb ?_)))
  refine Cw.seq (Cw.regionD h fun _ _ h => ?_)
  refine Rf fi41_7 rfl (Rl 0 h rfl (ty23.ldS rfl) (Rs rfl (fun _ => op_move rfl) (Rg 1 rfl (Rs rfl (fun _ => op_ix (n := i3) rfl rfl (h.ac _ (List.mem_of_getElem? (i := 0) rfl)).rows Tryz.underlying23 ty3.hn (at_map hil3) rfl) (Rc (at_map hil3) ty3 rfl (Rs rfl (fun _ => op_call (d := dB (m101 q.group (yl1_a1.getD i3 default))) rfl rfl c101 rfl (He i101 (q.group, (yl1_a1.getD i3 default)) (Qry.ok_group h_q) rfl)) (Rg 1 rfl (Rz h fun h => ?_))))))))
  refine ⟨by kernel_rfl, ?_⟩
  cases q7 : (!(m101 q.group (yl1_a1.getD i3 default)))
  exact Cf rfl (Ci (Cw.regionK h fun _ _ h => Rg 1 rfl (Rs rfl (fun _ => op_add_int (v := ((i3 + 1 : Nat) : Int)) rfl rfl (wrap_one (by omega))) (Rg 1 rfl (Rz h fun h => ih (i3 + 1)   _ _ (by omega)  rfl rfl rfl h)))))
  exact Ct rfl (Ck h fun _ _ h => Rg 1 rfl (Rz h fun h => Cr (And.intro rfl (Exists.intro _ (an3 rfl rfl rfl)))))
 refine Cw.mono (hl3 yl1_a1.length 0   _ _ (by omega)  rfl rfl rfl h) ?_
 intro oY gY sY hh
 generalize hzL3 : m59_l3 t q yl1_a1 yl1_a1.length 0  = zZ at hh ⊢
 rcases zZ with vZ | rZ
 dsimp only
 obtain ⟨rfl, e3, h⟩ := hh
 rw [pin e3]
 refine Cs (Ck h fun _ _ h => Rf fi41_9 rfl (Rl 0 h rfl (ty3.ldS rfl) (Rg 2 rfl ?_)))
 cases q8 : decide ((q.limit : Int) < (-1))
 refine Rf fi41_9 rfl (Rl 0 h rfl (ty3.ldS rfl) (Rg 2 rfl (Rz h fun h => ?_)))
 cases q9 : decide ((q.limit : Int) > 4611686018427387904)
 exact Cf rfl (Ci (Ck h fun _ _ h => Rg 1 rfl (Rz h fun h => Cr ⟨.inr rfl, _, rfl, rfl, rfl⟩)))
 exact Ct rfl (Ck h fun _ _ h => Rg 1 rfl (Rz h fun h => Cr ⟨.inr rfl, _, rfl, rfl, rfl⟩))
 exact Rg 4 rfl (Rz h fun h => Ct rfl (Ck h fun _ _ h => Rg 1 rfl (Rz h fun h => Cr ⟨.inr rfl, _, rfl, rfl, rfl⟩)))
 obtain ⟨rfl, w⟩ := hh
 exact ⟨.inr rfl, w⟩
 obtain ⟨rfl, w⟩ := hh
 exact ⟨.inr rfl, w⟩
 exact Ct rfl (Ck h fun _ _ h => Rg 1 rfl (Rz h fun h => Cr ⟨.inr rfl, _, rfl, rfl, rfl⟩))
 exact Rg 5 rfl (Rz h fun h => Ct rfl (Ck h fun _ _ h => Rg 1 rfl (Rz h fun h => Cr ⟨.inr rfl, _, rfl, rfl, rfl⟩)))
 obtain ⟨rfl, w⟩ := hh
 exact ⟨.inr rfl, w⟩
 exact Ct rfl (Ck h fun _ _ h => Rg 1 rfl (Rz h fun h => Cr ⟨.inr rfl, _, rfl, rfl, rfl⟩))
 exact Rg 5 rfl (Rz h fun h => Ct rfl (Ck h fun _ _ h => Rg 1 rfl (Rz h fun h => Cr ⟨.inr rfl, _, rfl, rfl, rfl⟩)))
noncomputable def H59 : List D → R D := mkH (L2 (dR Tbl.enc) (dR Qry.enc)) (fun x => Tbl.ok x.1 ∧ Qry.ok x.2) (fun x => dI (m59 x.1 x.2))
theorem i59 : InjE (L2 (dR Tbl.enc) (dR Qry.enc)) := j2 (jR Tbl.inj) (jR Qry.inj)
theorem m77_l1_none {l : List (List Exr)} {p : (List Exr) → Bool} : ∀ (rem i : Nat), m77_l1 l p rem i = .on () → ∀ j, i ≤ j → j < i + rem → p (l.getD j default) = false
  | 0, i, _, j, h1, h2 => by omega
  | rem + 1, i, h, j, h1, h2 => by
    rw [m77_l1] at h
    cases q1 : p (l.getD i default) with
    | true => simp only [q1, cond_true, reduceCtorEq] at h
    | false =>
      simp only [q1, cond_false] at h
      by_cases hj : j = i
      · subst hj; exact q1
      · exact m77_l1_none rem (i + 1) h j (by omega) (by omega)
theorem m77_l1_out {l : List (List Exr)} {p : (List Exr) → Bool} : ∀ (rem i : Nat) (r : Int), m77_l1 l p rem i = .out r → 0 ≤ r
  | 0, i, r, h => by rw [m77_l1] at h; cases h
  | rem + 1, i, r, h => by
    rw [m77_l1] at h
    cases q1 : p (l.getD i default) with
    | true => simp only [q1, cond_true, Lo.out.injEq] at h; omega
    | false => simp only [q1, cond_false] at h; exact m77_l1_out rem (i + 1) r h
theorem m41_false {l : List (List Exr)} {p : (List Exr) → Bool} (h : m41 l p = false) : ∀ x ∈ l, p x = false := by
  intro x hx
  unfold m41 m77 at h
  have h := of_decide_eq_false h
  cases q : m77_l1 l p l.length 0 with
  | out r => rw [q] at h; exact absurd (m77_l1_out _ _ _ q) h
  | on v =>
    obtain ⟨j, hj, rfl⟩ := mem_at hx
    exact m77_l1_none l.length 0 (by rw [q]) j (by omega) (by omega)
theorem m80_l1_none {l : List Sst} {p : Sst → Bool} : ∀ (rem i : Nat), m80_l1 l p rem i = .on () → ∀ j, i ≤ j → j < i + rem → p (l.getD j default) = false
  | 0, i, _, j, h1, h2 => by omega
  | rem + 1, i, h, j, h1, h2 => by
    rw [m80_l1] at h
    cases q1 : p (l.getD i default) with
    | true => simp only [q1, cond_true, reduceCtorEq] at h
    | false =>
      simp only [q1, cond_false] at h
      by_cases hj : j = i
      · subst hj; exact q1
      · exact m80_l1_none rem (i + 1) h j (by omega) (by omega)
theorem m80_l1_out {l : List Sst} {p : Sst → Bool} : ∀ (rem i : Nat) (r : Int), m80_l1 l p rem i = .out r → 0 ≤ r
  | 0, i, r, h => by rw [m80_l1] at h; cases h
  | rem + 1, i, r, h => by
    rw [m80_l1] at h
    cases q1 : p (l.getD i default) with
    | true => simp only [q1, cond_true, Lo.out.injEq] at h; omega
    | false => simp only [q1, cond_false] at h; exact m80_l1_out rem (i + 1) r h
theorem m45_false {l : List Sst} {p : Sst → Bool} (h : m45 l p = false) : ∀ x ∈ l, p x = false := by
  intro x hx
  unfold m45 m80 at h
  have h := of_decide_eq_false h
  cases q : m80_l1 l p l.length 0 with
  | out r => rw [q] at h; exact absurd (m80_l1_out _ _ _ q) h
  | on v =>
    obtain ⟨j, hj, rfl⟩ := mem_at hx
    exact m80_l1_none l.length 0 (by rw [q]) j (by omega) (by omega)
theorem m39_l1_on {t : Tbl} {l : List Int} : ∀ (rem i : Nat), m39_l1 t l rem i = .on () → ∀ j, i ≤ j → j < i + rem → 0 ≤ l.getD j default ∧ l.getD j default < (t.columns.length : Int)
  | 0, i, _, j, h1, h2 => by omega
  | rem + 1, i, h, j, h1, h2 => by
    rw [m39_l1] at h
    cases q1 : decide ((l.getD i default : Int) < 0) with
    | true => simp only [q1, cond_true, reduceCtorEq] at h
    | false =>
      cases q2 : decide ((l.getD i default : Int) ≥ ((t.columns.length : Nat) : Int)) with
      | true => simp only [q1, q2, cond_true, cond_false, reduceCtorEq] at h
      | false =>
        have p1 := of_decide_eq_false q1
        have p2 := of_decide_eq_false q2
        simp only [q1, q2, cond_false] at h
        by_cases hj : j = i
        · subst hj; exact ⟨by omega, by omega⟩
        · cases q3 : m52 (l.take i) (l.getD i default) with
          | true => simp only [q3, cond_true, reduceCtorEq] at h
          | false => simp only [q3, cond_false] at h; exact m39_l1_on rem (i + 1) h j (by omega) (by omega)
theorem m39_l1_out {t : Tbl} {l : List Int} : ∀ (rem i : Nat) (r : Bool), m39_l1 t l rem i = .out r → r = false
  | 0, i, r, h => by rw [m39_l1] at h; cases h
  | rem + 1, i, r, h => by
    rw [m39_l1] at h
    cases q1 : decide ((l.getD i default : Int) < 0) with
    | true => simp only [q1, cond_true, Lo.out.injEq] at h; exact h.symm
    | false =>
      cases q2 : decide ((l.getD i default : Int) ≥ ((t.columns.length : Nat) : Int)) with
      | true => simp only [q1, q2, cond_true, cond_false, Lo.out.injEq] at h; exact h.symm
      | false =>
        simp only [q1, q2, cond_false] at h
        cases q3 : m52 (l.take i) (l.getD i default) with
        | true => simp only [q3, cond_true, Lo.out.injEq] at h; exact h.symm
        | false => simp only [q3, cond_false] at h; exact m39_l1_out rem (i + 1) r h
theorem m39_key {t : Tbl} {l : List Int} (h : m39 t l = true) : ∀ x ∈ l, 0 ≤ x ∧ x.toNat < t.columns.length := by
  intro x hx
  unfold m39 at h
  cases q3 : m39_l1 t l l.length 0 with
  | out r => rw [q3] at h; simp only at h; rw [m39_l1_out _ _ _ q3] at h; cases h
  | on v =>
    obtain ⟨j, hj, rfl⟩ := mem_at hx
    obtain ⟨h1, h2⟩ := m39_l1_on l.length 0 (by rw [q3]) j (by omega) (by omega)
    exact ⟨h1, by omega⟩
theorem m40_l1_on {t : Tbl} {q : Qry} : ∀ (rem i : Nat) (y : List Int), i + rem = t.columns.length → (∀ x ∈ y, 0 ≤ x ∧ x.toNat < t.columns.length) → ∃ z, m40_l1 t q rem i y = .on z ∧ (∀ x ∈ z, 0 ≤ x ∧ x.toNat < t.columns.length) ∧ z.length = y.length + rem
  | 0, i, y, _, hy => ⟨y, by rw [m40_l1], hy, rfl⟩
  | rem + 1, i, y, hi, hy => by
    rw [m40_l1]
    obtain ⟨z, h1, h2, h3⟩ := m40_l1_on (t := t) (q := q) rem (i + 1) (y ++ [((i : Nat) : Int)]) (by omega) (by
      intro x hx
      rcases List.mem_append.1 hx with h | h
      · exact hy x h
      · rw [List.mem_singleton.1 h]; exact ⟨by omega, by omega⟩)
    exact ⟨z, h1, h2, by rw [h3, List.length_append, List.length_singleton]; omega⟩
theorem m40_key {t : Tbl} {q : Qry} (h : m39 t q.columns = true) : ∀ x ∈ m40 t q, 0 ≤ x ∧ x.toNat < t.columns.length := by
  unfold m40
  cases q1 : decide ((((q.columns.length : Nat) : Int) : Int) > 0) with
  | true => exact m39_key h
  | false =>
    simp only [cond_false]
    obtain ⟨z, h1, h2, _⟩ := m40_l1_on (t := t) (q := q) t.columns.length 0 [] (by omega) (by simp)
    rw [h1]
    exact h2
theorem m40_ok {t : Tbl} {q : Qry} (ht : Tbl.ok t) (hq : Qry.ok q) : okL okI (m40 t q) := by
  unfold m40
  cases q1 : decide ((((q.columns.length : Nat) : Int) : Int) > 0) with
  | true => exact Qry.ok_columns hq
  | false =>
    simp only [cond_false]
    obtain ⟨z, h1, _, h3⟩ := m40_l1_on (t := t) (q := q) t.columns.length 0 [] (by omega) (by simp)
    rw [h1]
    exact okL_triv z (by rw [h3]; have := okL_len (Tbl.ok_columns ht); simp only [List.length_nil]; omega)
theorem m46_rng {s : Sst} {t : Tbl} (h : m46 s t = false) : 0 ≤ s.column ∧ s.column.toNat < t.columns.length := by
  unfold m46 at h
  cases q1 : decide ((s.column : Int) < 0) with
  | true => simp only [q1, cond_true, reduceCtorEq] at h
  | false =>
    simp only [q1, cond_false] at h
    have p1 := of_decide_eq_false q1
    have p2 := of_decide_eq_false h
    exact ⟨by omega, by omega⟩
def m43 (e : Exr) : List Int := Exr.colset e
noncomputable def H43 : List D → R D := mkH (L1 (dR Exr.row)) (fun x => Exr.ok x) (fun x => dL encI (m43 x))
theorem i43 : InjE (L1 (dR Exr.row)) := j1 (jR Exr.rinj)
theorem all2T {l : List D} {b : Bool} (h : b = true) : (l.all plain1 && !b) = false := by subst h; exact Bool.and_false _
def colsAt (l : List Int) (e : Exr) (i : Nat) : List Int := (l ++ (if e.kind = 2 then [e.column] else [])) ++ Exr.colsL (e.kids.take i)
theorem Exr.cols_eq (e : Exr) : e.cols = (if e.kind = 2 then [e.column] else []) ++ Exr.colsL e.kids := by cases e; rfl
theorem Exr.count_eq (e : Exr) : e.count = Exr.counts e.kids + 1 := by cases e; rfl
theorem colsAt_len (l : List Int) (e : Exr) (i : Nat) : (colsAt l e i).length + Exr.counts e.kids ≤ l.length + e.count + Exr.counts (e.kids.take i) := by
  have h1 := Exr.colsL_len (e.kids.take i)
  rw [Exr.count_eq, colsAt, List.length_append, List.length_append]
  split <;> simp only [List.length_singleton, List.length_nil] <;> omega
theorem colsAt_end (l : List Int) (e : Exr) : colsAt l e e.kids.length = l ++ e.cols := by
  rw [Exr.cols_eq, colsAt, List.take_length, List.append_assoc]
noncomputable def cm145_l1 : Code := (cl (cr (cl (cr (cr (bodyOf Tryz.f145))))))
set_option maxHeartbeats 4000000 in
set_option linter.unusedVariables false in
theorem m145_all (n145 : S 145 = none) : ∀ (nZ : Nat) (e : Exr), e.depth < nZ → Exr.ok e → ∀ (lo : Nat) (σ : St) (bs : List (Nat × List D)) (acs : List (D × List (List C) × Nat)) (dl : D) (l : List Int), l.length + e.count ≤ 4194304 →
    Ko lo σ bs ((dl, l.map encI, 1) :: acs) → ∃ d σ', Ev (EE S) 145 [D.agg ((Exr.row e).map D.c), dl] σ d σ' ∧ Ko lo σ' bs ((d, (l ++ e.cols).map encI, 1) :: acs)
  | 0, e, hd, _, _, _, _, _, _, _, _, _ => absurd hd (by omega)
  | nZ + 1, e, hd, h_e, lo, σ, bs, acs, dl, l, hlen, hK => by
    refine Ev.wp (E := EE S) (fn := Tryz.f145) (nt := 29) Tryz.func145 rfl rfl ?_
    refine Cw.seq (Cw.regionK hK fun _ _ hK => ?_)
    refine Rw.bx (d := D.agg ((Exr.row e).map D.c)) hK (Nat.le_add_right _ 0) rfl rfl rfl rfl rfl rfl fun b1 _ hK => ?_
    refine Rw.s rfl (fun _ => op_assign_c rfl) ?_
    refine Rw.nilK hK (Nat.add_le_add_left (by decide : 1 ≤ 2) _) fun hK => ?_
    have hown : (colsAt l e 0).length ≤ l.length + 1 := by
      unfold colsAt
      rw [List.take_zero, Exr.colsL, List.append_nil, List.length_append]
      split <;> simp only [List.length_singleton, List.length_nil] <;> omega
    refine Cw.seq (Cw.mono (Q := fun oX gX sX => oX = none ∧ ∃ dY, gX 1 = dY ∧ gX 2 = D.ptr b1 0 ∧ Ko lo sX ((b1, (Exr.row e).map D.c) :: bs) ((dY, (colsAt l e 0).map encI, 1) :: acs)) ?_ ?_)
    · refine Cw.seq (Cw.regionK hK fun _ _ hK => ?_)
      refine Rw.s rfl (fun _ => op_fp fi32_0 rfl rfl) ?_
      refine Rw.l (k := 0) hK rfl rfl rfl (ty3.ldS rfl) ?_
      refine Rw.s rfl (fun _ => op_eql_int (v := ((e.kind : Int) == 2)) rfl rfl rfl) ?_
      refine Rw.z hK fun hK => ?_
      unfold colsAt
      rw [List.take_zero, Exr.colsL, List.append_nil]
      cases q1 : ((e.kind : Int) == 2) with
      | true =>
        have p1 := eq_of_beq q1
        rw [if_pos p1]
        refine Cw.cond_t rfl ?_
        refine Cw.regionK hK fun _ _ hK => ?_
        refine Rw.s rfl (fun _ => op_move rfl) ?_
        refine Rw.s rfl (fun _ => op_fp fi32_2 rfl rfl) ?_
        refine Rw.l (k := 0) hK rfl rfl rfl (ty3.ldS rfl) ?_
        refine Rw.s rfl (fun _ => op_bs (xs := ([e.column] : List Int).map encI) Tryz.underlying23 ty3.hn (z3 (S := S)) rfl rfl rfl rfl rfl) ?_
        refine Rw.ap (j := 0) (ys := ([e.column]).map encI) hK (Nat.le_add_right _ 4) rfl rfl rfl rfl rfl rfl rfl rfl (room_mk Tryz.underlying23 (if3 (S := S)) (z3 (S := S)) rfl rfl rfl rfl (by simp only [List.length_map, List.length_cons, List.length_nil]; omega)) (heads_map _ (fun _ => rfl)) rfl fun d1 _ hK => ?_
        simp only [List.set_cons_zero, ← List.map_append] at hK
        refine Rw.s rfl (fun _ => op_assign rfl) ?_
        refine Rw.nilK hK (Nat.add_le_add_left (by decide : 5 ≤ 6) _) fun hK => ?_
        exact ⟨rfl, d1, rfl, rfl, hK⟩
      | false =>
        have p1 := ne_of_beqF q1
        rw [if_neg p1, List.append_nil]
        refine Cw.cond_f rfl ?_
        refine Cw.skip ?_
        exact ⟨rfl, dl, rfl, rfl, hK⟩
    intro oY gY sY hh
    obtain ⟨rfl, dY, e1, e2, hK⟩ := hh
    rw [pin e1, pin e2]
    refine Cw.seq ?_
    refine Cw.seq (Cw.regionK hK fun _ _ hK => ?_)
    refine Rw.s rfl (fun _ => op_assign_c rfl) ?_
    refine Rw.z hK fun hK => ?_
    refine Cw.block ?_
    have hl1 : ∀ (rem1 i1 : Nat) (dY : D) (fr : Nat → D) (σ : St), i1 + rem1 = e.kids.length → fr 1 = dY → fr 2 = D.ptr b1 0 → fr 5 = D.c (.int .i64 ((i1 : Nat) : Int)) → Ko lo σ ((b1, (Exr.row e).map D.c) :: bs) ((dY, (colsAt l e i1).map encI, 1) :: acs) →
        Cw (EE S) cm145_l1 29 fr σ (fun oX gX sX => oX = some (some 0) ∧ ∃ dX, gX 1 = dX ∧ Ko lo sX ((b1, (Exr.row e).map D.c) :: bs) ((dX, (l ++ e.cols).map encI, 1) :: acs)) := by
      intro rem1
      induction rem1 with
      | zero =>
        intro i1 dY fr σ hi e1 e2 e5 hK
        have hlt1 : decide ((((i1 : Nat) : Int) : Int) < ((e.kids.length : Nat) : Int)) = false := by rw [decide_eq_false_iff_not]; omega
        rw [pin e1, pin e2, pin e5]
        refine Cw.loop ?_
        refine Cw.seq ?_
        refine Cw.seq (Cw.regionK hK fun _ _ hK => ?_)
        refine Rw.s rfl (fun _ => op_move_c rfl) ?_
        refine Rw.s rfl (fun _ => op_fp fi32_4 rfl rfl) ?_
        refine Rw.l (k := 0) hK rfl rfl rfl (ty30.ldS rfl) ?_
        refine Rw.s rfl (fun _ => op_lenN (n := e.kids.length) rfl Tryz.underlying30 rfl (List.length_map ..)) ?_
        refine Rw.s rfl (fun _ => op_lss_int rfl rfl hlt1) ?_
        refine Rw.z hK fun hK => ?_
        refine Cw.cond_f rfl ?_
        refine Cw.exit ?_
        refine ⟨rfl, dY, rfl, ?_⟩
        rw [← colsAt_end, show e.kids.length = i1 by omega]
        exact hK
      | succ rem1 ih =>
        intro i1 dY fr σ hi e1 e2 e5 hK
        have hlt1 : decide ((((i1 : Nat) : Int) : Int) < ((e.kids.length : Nat) : Int)) = true := by rw [decide_eq_true_eq]; omega
        have hil1 : i1 < e.kids.length := by omega
        have hbq1 := okL_len (Exr.ok_kids h_e)
        rw [pin e1, pin e2, pin e5]
        refine Cw.loop ?_
        refine Cw.seq ?_
        refine Cw.seq (Cw.regionK hK fun _ _ hK => ?_)
        refine Rw.s rfl (fun _ => op_move_c rfl) ?_
        refine Rw.s rfl (fun _ => op_fp fi32_4 rfl rfl) ?_
        refine Rw.l (k := 0) hK rfl rfl rfl (ty30.ldS rfl) ?_
        refine Rw.s rfl (fun _ => op_lenN (n := e.kids.length) rfl Tryz.underlying30 rfl (List.length_map ..)) ?_
        refine Rw.s rfl (fun _ => op_lss_int rfl rfl hlt1) ?_
        refine Rw.z hK fun hK => ?_
        refine Cw.cond_t rfl ?_
        refine Cw.skip ?_
        refine Cw.seq ?_
        refine Cw.block ?_
        refine Cw.regionK hK fun _ _ hK => ?_
        refine Rw.s rfl (fun _ => op_fp fi32_4 rfl rfl) ?_
        refine Rw.l (k := 0) hK rfl rfl rfl (ty30.ldS rfl) ?_
        refine Rw.s rfl (fun _ => op_move_c rfl) ?_
        refine Rw.s rfl (fun _ => op_ix (n := i1) rfl rfl rfl Tryz.underlying30 ty32.hn (at_Exr hil1) rfl) ?_
        refine Rw.s rfl (fun _ => op_ldC (d := D.agg ((Exr.row (e.kids.getD i1 default)).map D.c)) rfl (at_Exr hil1) (ty32.lcA rfl rfl)) ?_
        refine Rw.s rfl (fun _ => op_move rfl) ?_
        obtain ⟨dX, sX, hev, hKX⟩ := m145_all n145 nZ (e.kids.getD i1 default) (by have := Exr.depth_kid hil1; omega) (okL_get (Exr.ok_kids h_e) Exr.zok i1) _ _ _ _ dY (colsAt l e i1) (by
          have h1 := colsAt_len l e i1
          have h2 := Exr.counts_at hil1
          have h3 := Exr.counts_take e.kids (i1 + 1)
          omega) (hK.ko (Nat.add_le_add_left (by decide : 0 ≤ 8) _))
        refine Rw.on (first := []) (cap := []) rfl rfl rfl rfl rfl n145 rfl (all2T rfl) hev rfl ?_
        replace hK := hK.back hKX rfl
        refine Rw.s rfl (fun _ => op_assign rfl) ?_
        refine Rw.nilK hK (Nat.add_le_add_left (by decide : 1 ≤ 8) _) fun hK => ?_
        refine Cw.regionK hK fun _ _ hK => ?_
        refine Rw.s rfl (fun _ => op_move_c rfl) ?_
        refine Rw.s rfl (fun _ => op_add_int (v := ((i1 + 1 : Nat) : Int)) rfl rfl (wrap_one (by omega))) ?_
        refine Rw.s rfl (fun _ => op_assign_c rfl) ?_
        refine Rw.z hK fun hK => ?_
        refine ih (i1 + 1) dX _ _ (by omega) rfl rfl rfl ?_
        have e3 : colsAt l e (i1 + 1) = colsAt l e i1 ++ (e.kids.getD i1 default).cols := by
          unfold colsAt
          rw [Exr.colsL_at hil1]
          simp only [List.append_assoc]
        rw [e3]
        exact hK
    refine Cw.mono (hl1 e.kids.length 0 dY _ _ (by omega) rfl rfl rfl hK) ?_
    intro oY gY sY hh
    obtain ⟨rfl, dX, e1, hK⟩ := hh
    rw [pin e1]
    refine Cw.seq (Cw.regionK hK fun _ _ hK => ?_)
    refine Rw.s rfl (fun _ => op_move rfl) ?_
    refine Rw.s rfl (fun _ => op_assign rfl) ?_
    refine Rw.z hK fun hK => ?_
    refine Cw.ret ?_
    exact ⟨.inr rfl, dX, rfl, hK.dropBox (List.Sublist.cons _ (List.Sublist.refl _))⟩
theorem m145_ev (n145 : S 145 = none) (e : Exr) (h_e : Exr.ok e) {lo : Nat} {σ : St} {bs : List (Nat × List D)} {acs : List (D × List (List C) × Nat)} (dl : D) (l : List Int) (hlen : l.length ≤ 1048576)
    (hK : Ko lo σ bs ((dl, l.map encI, 1) :: acs)) : ∃ d σ', Ev (EE S) 145 [D.agg ((Exr.row e).map D.c), dl] σ d σ' ∧ Ko lo σ' bs ((d, (l ++ e.cols).map encI, 1) :: acs) :=
  m145_all n145 _ e (Nat.lt_succ_self _) h_e _ _ _ _ dl l (by have := Exr.ok_count h_e; omega) hK
theorem rows_fin {d : D} {rows : List (List C)} (h : rowsOf d = some rows) : _root_.Go.Vm.plain d = true ∧ nrmT (strip d) = .c (.sl false rows) := by
  cases d with
  | c c => cases c <;> simp only [rowsOf, Option.some.injEq, reduceCtorEq] at h; subst h; exact ⟨rfl, rfl⟩
  | own t xs => simp only [rowsOf, Option.some.injEq] at h; subst h; exact ⟨rfl, rfl⟩
  | _ => simp [rowsOf] at h
noncomputable def cm96_l1 : Code := (cl (cr (cl (cr (cr (cr (bodyOf Tryz.f96)))))))
noncomputable def cm96_l2 : Code := (cl (cl (cr (cl (cl (cr (cl (cl (cr (cl (cr (cr (cr (bodyOf Tryz.f96))))))))))))))
def m96_l2 (e : Exr) (i1 : Nat) (x1_3 : (List Int)) : Nat → Nat → Lo Nat (List Int)
 | 0, i2 => .on i2
 | rem2 + 1, i2 => (bif decide ((x1_3.getD i2 default : Int) < (Exr.cols e).getD i1 default) then m96_l2 e i1 x1_3 rem2 (i2 + 1)  else .on i2)
def m96_2 (e : Exr) (i1 : Nat) (x1_3 : (List Int)) (j2 : Nat) : Lo Bool (List Int) := (bif decide ((((j2 : Nat) : Int) : Int) < ((x1_3.length : Nat) : Int)) then .on ((x1_3.getD j2 default : Int) == (Exr.cols e).getD i1 default) else .on false)
noncomputable def cm96_l3 : Code := (cl (cr (cl (cr (cr (cr (cr (cl (cl (cr (cl (cl (cr (cl (cr (cr (cr (bodyOf Tryz.f96))))))))))))))))))
def m96_l3 (e : Exr) (i1 : Nat) (x1_3 : (List Int)) (j2 : Nat) (v2_50 : Bool) : Nat → Nat → (List Int) → Lo (List Int) (List Int)
 | 0, _, yl3_a2 => .on yl3_a2
 | rem3 + 1, i3, yl3_a2 => m96_l3 e i1 x1_3 j2 false rem3 (i3 + 1) (yl3_a2 ++ ([(x1_3.getD i3 default)]))
noncomputable def cm96_l4 : Code := (cl (cr (cl (cr (cr (cr (cr (cr (cr (cl (cl (cr (cl (cl (cr (cl (cr (cr (cr (bodyOf Tryz.f96))))))))))))))))))))
def m96_l4 (e : Exr) (i1 : Nat) (x1_3 : (List Int)) (j2 : Nat) (v2_50 : Bool) (yl3_a2 : (List Int)) : Nat → Nat → (List Int) → Lo (List Int) (List Int)
 | 0, _, yl4_a2 => .on yl4_a2
 | rem4 + 1, i4, yl4_a2 => m96_l4 e i1 x1_3 j2 false yl3_a2 rem4 (i4 + 1) (yl4_a2 ++ ([(x1_3.getD i4 default)]))
def m96_1 (e : Exr) (i1 : Nat) (x1_3 : (List Int)) : Lo (List Int) (List Int) := (match m96_l2 e i1 x1_3 x1_3.length 0  with | .out r => .out r | .on j2 => (match m96_2 e i1 x1_3 j2 with | .out r => .out r | .on v2_50 => (bif v2_50 then .on x1_3 else (match m96_l3 e i1 x1_3 j2 false j2 0 ([]) with | .out r => .out r | .on yl3_a2 => (match m96_l4 e i1 x1_3 j2 false yl3_a2 (x1_3.length - j2) j2 (yl3_a2 ++ ([((Exr.cols e).getD i1 default)])) with | .out r => .out r | .on yl4_a2 => .on yl4_a2)))))
def m96_l1 (e : Exr) : Nat → Nat → (List Int) → Lo (List Int) (List Int)
 | 0, _, x1_3 => .on x1_3
 | rem1 + 1, i1, x1_3 => (match m96_1 e i1 x1_3 with | .out r => .out r | .on v1_3 => m96_l1 e rem1 (i1 + 1) v1_3)
def m96 (e : Exr) : (List Int) := (match m96_l1 e ((Exr.cols e).length) 0 ([]) with | .out r => r | .on x1_3 => x1_3)
theorem m96_ev  (n145 : S 145 = none) (e : Exr)  (h_e : Exr.ok e) : ∃ d σ', Ev (EE S) 96 [dR Exr.row e] St.empty d σ' ∧ plain d = true ∧ nrmT (strip d) = dL encI (m96 e) := by
 have hC := Nat.le_trans (Exr.cols_len e) (Exr.ok_count h_e)
 unfold m96
 have h : Ko 0 St.empty [] [] := Ko.empty
 refine Ev.wp (E := EE S) (fn := Tryz.f96) (nt := 87) Tryz.func96 rfl rfl (Ck h fun _ _ h => Rw.bx (d := dR Exr.row e) h (Nat.le_add_right _ 0) rfl rfl rfl rfl rfl rfl fun b1 _ h => Rg 1 rfl (Rw.nilK h (Nat.add_le_add_left (by decide : 1 ≤ 2) _) fun h => Ck h fun _ _ h => Rs rfl (fun _ => op_bs (xs := ([] : List Int).map encI) Tryz.underlying23 ty3.hn (z3 (S := S)) rfl rfl rfl rfl rfl) (Rg 1 rfl (Rz h fun h => Ck h fun _ _ h => Rw.ld (k := 0) (d := dR Exr.row e) h rfl rfl rfl rfl rfl (ty32.ldA rfl rfl) rfl ?_))))
 replace h := h.newAc (([] : List Int).map encI) 1
 obtain ⟨dX, sX, hev, hKX⟩ := m145_ev n145 e h_e _ [] (by decide) (h.ko (Nat.add_le_add_left (by decide : 0 ≤ 3) _))
 refine Rw.on (first := []) (cap := []) rfl rfl rfl rfl rfl n145 rfl (all2T rfl) hev rfl ?_
 replace h := h.back hKX rfl
 rw [List.nil_append] at h
 refine Rs rfl (fun _ => op_assign rfl) (Rw.nilK h (Nat.add_le_add_left (by decide : 1 ≤ 3) _) fun h => Cs (Ck h fun _ _ h => Rg 1 rfl (Rz h fun h => Cb ?_)))
 have hl1 : ∀ (rem1 i1 : Nat) (x1_3 : (List Int)) (dx1_3 : D) (fr : Nat → D) (σ : St), i1 + rem1 = (Exr.cols e).length → rowsOf dx1_3 = some (x1_3.map encI) → x1_3.length ≤ i1 → fr 3 = dx1_3 → fr 4 = dX → fr 5 = dN i1 → Ko 0 σ [(b1, (dC Exr.row e))] [(dX, ((Exr.cols e)).map encI, 1)] → Cw (EE S) cm96_l1 87 fr σ (fun oX gX sX => match m96_l1 e rem1 i1 x1_3 with | .on x1_3 => ∃ dx1_3, oX = some (some 0) ∧ rowsOf dx1_3 = some (x1_3.map encI) ∧ x1_3.length ≤ (Exr.cols e).length ∧ gX 3 = dx1_3 ∧ Ko 0 sX [(b1, (dC Exr.row e))] [(dX, ((Exr.cols e)).map encI, 1)] | .out r => Ou S Tryz.f96 (fun d _ => plain d = true ∧ nrmT (strip d) = dL encI r) oX gX sX) := by
  intro rem1
  induction rem1
  intro i1 x1_3 dx1_3 fr σ hi rx1_3 nx1_3 e3 e4 e5 h
  have hlt1 : decide ((((i1 : Nat) : Int) : Int) < (((Exr.cols e).length : Nat) : Int)) = false := decF (by omega)
  rw [pin e3, pin e4, pin e5]
  rw [m96_l1]
  exact Co (Cs (Ck h fun _ _ h => Rg 1 rfl (Rs rfl (fun _ => op_move rfl) (Rs rfl (fun _ => op_lenN (n := (Exr.cols e).length) rfl Tryz.underlying23 (h.ac _ (List.mem_of_getElem? (i := 0) rfl)).rows (List.length_map ..)) (Rs rfl (fun _ => op_lss_int rfl rfl hlt1) (Rz h fun h => Cf rfl (Cw.exit (Exists.intro dx1_3 (an5 rfl rx1_3 (by omega) rfl h)))))))))
  rename_i rem1 ih
  intro i1 x1_3 dx1_3 fr σ hi rx1_3 nx1_3 e3 e4 e5 h
  have hlt1 : decide ((((i1 : Nat) : Int) : Int) < (((Exr.cols e).length : Nat) : Int)) = true := decT (by omega)
  have hil1 : i1 < (Exr.cols e).length := by omega
  rw [pin e3, pin e4, pin e5]
  rw [m96_l1]
  refine Co (Cs (Ck h fun _ _ h => Rg 1 rfl (Rs rfl (fun _ => op_move rfl) (Rs rfl (fun _ => op_lenN (n := (Exr.cols e).length) rfl Tryz.underlying23 (h.ac _ (List.mem_of_getElem? (i := 0) rfl)).rows (List.length_map ..)) (Rs rfl (fun _ => op_lss_int rfl rfl hlt1) (Rz h fun h => Ct rfl (Ci ?_)))))))
  refine Cw.seq (Cw.mono (Q := fun oX gX sX => match m96_1 e i1 x1_3 with | .on v1_3 => ∃ dm1_3, oX = none ∧ (okL okI) v1_3 ∧ rowsOf dm1_3 = some (v1_3.map encI) ∧ v1_3.length ≤ i1 + 1 ∧ gX 3 = dm1_3 ∧ gX 4 = dX ∧ gX 5 = dN i1 ∧ Ko 0 sX [(b1, (dC Exr.row e))] [(dX, ((Exr.cols e)).map encI, 1)] | .out r => Ou S Tryz.f96 (fun d _ => plain d = true ∧ nrmT (strip d) = dL encI r) oX gX sX) ?_ ?_)
  unfold m96_1
  refine Cb (Ck h fun _ _ h => Rg 1 rfl (Rz h fun h => Cs (Cb ?_)))
  have hl2 : ∀ (rem2 i2 : Nat) (fr : Nat → D) (σ : St), i2 + rem2 = x1_3.length → fr 3 = dx1_3 → fr 4 = dX → fr 5 = dN i1 → fr 6 = dN i2 → Ko 0 σ [(b1, (dC Exr.row e))] [(dX, ((Exr.cols e)).map encI, 1)] → Cw (EE S) cm96_l2 87 fr σ (fun oX gX sX => match m96_l2 e i1 x1_3 rem2 i2  with | .on j2 => oX = some (some 2) ∧ j2 ≤ x1_3.length ∧ gX 3 = dx1_3 ∧ gX 4 = dX ∧ gX 5 = dN i1 ∧ gX 6 = dN j2 ∧ Ko 0 sX [(b1, (dC Exr.row e))] [(dX, ((Exr.cols e)).map encI, 1)] | .out r => Ou S Tryz.f96 (fun d _ => plain d = true ∧ nrmT (strip d) = dL encI r) oX gX sX) := by
   intro rem2
   induction rem2
   intro i2   fr σ hi  e3 e4 e5 e6 h
   have hlt2 : decide ((((i2 : Nat) : Int) : Int) < ((x1_3.length : Nat) : Int)) = false := decF (by omega)
   rw [pin e3, pin e4, pin e5, pin e6]
   rw [m96_l2]
   refine Co (Cs ?_)
   refine Cw.seq (Cw.regionD h fun _ _ h => ?_)
   refine Rg 1 rfl (Rs rfl (fun _ => op_move rfl) (Rs rfl (fun _ => op_lenN (n := x1_3.length) rfl Tryz.underlying23 rx1_3 (List.length_map ..)) (Rs rfl (fun _ => op_lss_int rfl rfl hlt2) (Rg 11 rfl (Rz h fun h => ?_)))))
   refine ⟨by kernel_rfl, ?_⟩
   exact Cf rfl (Cw.exit (an7 rfl (by omega) rfl rfl rfl rfl h))
   rename_i rem2 ih
   intro i2   fr σ hi  e3 e4 e5 e6 h
   have hlt2 : decide ((((i2 : Nat) : Int) : Int) < ((x1_3.length : Nat) : Int)) = true := decT (by omega)
   have hil2 : i2 < x1_3.length := by omega
   rw [pin e3, pin e4, pin e5, pin e6]
   rw [m96_l2]
   refine Co (Cs ?_)
   refine Cw.seq (Cw.regionD h fun _ _ h => ?_)
   refine Rg 1 rfl (Rs rfl (fun _ => op_move rfl) (Rs rfl (fun _ => op_lenN (n := x1_3.length) rfl Tryz.underlying23 rx1_3 (List.length_map ..)) (Rs rfl (fun _ => op_lss_int rfl rfl hlt2) (Rg 1 rfl (Rs rfl (fun _ => op_move rfl) (Rg 1 rfl (Rs rfl (fun _ => op_ix (n := i2) rfl rfl rx1_3 Tryz.underlying23 ty3.hn (at_map hil2) rfl) (Rc (at_map hil2) ty3 rfl (Rs rfl (fun _ => op_move rfl) (Rg 1 rfl (Rs rfl (fun _ => op_ix (n := i1) rfl rfl (h.ac _ (List.mem_of_getElem? (i := 0) rfl)).rows Tryz.underlying23 ty3.hn (at_map hil1) rfl) (Rc (at_map hil1) ty3 rfl (Rg 2 rfl (Rz h fun h => ?_))))))))))))))
   refine ⟨by kernel_rfl, ?_⟩
   cases q1 : decide ((x1_3.getD i2 default : Int) < (Exr.cols e).getD i1 default)
   have p1 := of_decide_eq_false q1
   exact Cf rfl (Cw.exit (an7 rfl (by omega) rfl rfl rfl rfl h))
   have p1 := of_decide_eq_true q1
   exact Ct rfl (Ci (Cb (Cw.regionK h fun _ _ h => Rg 1 rfl (Rs rfl (fun _ => op_add_int (v := ((i2 + 1 : Nat) : Int)) rfl rfl (wrap_one (by omega))) (Rg 1 rfl (Rz h fun h => ih (i2 + 1)   _ _ (by omega)  rfl rfl rfl rfl h))))))
  refine Cw.mono (hl2 x1_3.length 0   _ _ (by omega)  rfl rfl rfl rfl h) ?_
  intro oY gY sY hh
  generalize hzL2 : m96_l2 e i1 x1_3 x1_3.length 0  = zZ at hh ⊢
  rcases zZ with j2 | rZ
  dsimp only
  obtain ⟨rfl, nj2, e3, e4, e5, e6, h⟩ := hh
  rw [pin e3, pin e4, pin e5, pin e6]
  refine Cs ?_
  refine Cw.seq (Cw.mono (Q := fun oX gX sX => match m96_2 e i1 x1_3 j2 with | .on v2_50 => oX = none ∧ gX 3 = dx1_3 ∧ gX 4 = dX ∧ gX 5 = dN i1 ∧ gX 6 = dN j2 ∧ gX 50 = dB v2_50 ∧ Ko 0 sX [(b1, (dC Exr.row e))] [(dX, ((Exr.cols e)).map encI, 1)] | .out r => Ou S Tryz.f96 (fun d _ => plain d = true ∧ nrmT (strip d) = dL encI r) oX gX sX) ?_ ?_)
  unfold m96_2
  refine Cw.regionD h fun _ _ h => Rg 1 rfl (Rs rfl (fun _ => op_move rfl) (Rs rfl (fun _ => op_lenN (n := x1_3.length) rfl Tryz.underlying23 rx1_3 (List.length_map ..)) (Rg 2 rfl ?_)))
  cases q2 : decide ((((j2 : Nat) : Int) : Int) < ((x1_3.length : Nat) : Int))
  have p2 := of_decide_eq_false q2
  refine Rg 10 rfl (Rz h fun h => ?_)
  refine ⟨by kernel_rfl, ?_⟩
  exact an7 rfl rfl rfl rfl rfl rfl h
  have p2 := of_decide_eq_true q2
  refine Rs rfl (fun _ => op_move rfl) (Rg 1 rfl (Rs rfl (fun _ => op_ix (n := j2) rfl rfl rx1_3 Tryz.underlying23 ty3.hn (at_map (by omega)) rfl) (Rc (at_map (by omega)) ty3 rfl (Rs rfl (fun _ => op_move rfl) (Rg 1 rfl (Rs rfl (fun _ => op_ix (n := i1) rfl rfl (h.ac _ (List.mem_of_getElem? (i := 0) rfl)).rows Tryz.underlying23 ty3.hn (at_map hil1) rfl) (Rc (at_map hil1) ty3 rfl (Rg 2 rfl (Rz h fun h => ?_)))))))))
  refine ⟨by kernel_rfl, ?_⟩
  exact an7 rfl rfl rfl rfl rfl rfl h
  intro oY gY sY hh
  generalize hzF2 : m96_2 e i1 x1_3 j2 = zZ at hh ⊢
  rcases zZ with v2_50 | rZ
  dsimp only
  obtain ⟨rfl, e3, e4, e5, e6, e50, h⟩ := hh
  rw [pin e3, pin e4, pin e5, pin e6, pin e50]
  cases q3 : v2_50
  refine Cf rfl (Ci (Ck h fun _ _ h => Rs rfl (fun _ => op_bs (xs := ([] : List Int).map encI) Tryz.underlying23 ty3.hn (z3 (S := S)) rfl rfl rfl rfl rfl) (Rg 1 rfl ?_)))
  replace h := h.newAc (([] : (List Int)).map encI) 1
  refine Rz h fun h => Cs (Ck h fun _ _ h => Rg 1 rfl (Rz h fun h => Cb ?_))
  have hl3 : ∀ (rem3 i3 : Nat) (yl3_a2 : (List Int)) (el3_a2 : D) (fr : Nat → D) (σ : St), i3 + rem3 = j2 → yl3_a2.length ≤ i3 → fr 3 = dx1_3 → fr 4 = dX → fr 5 = dN i1 → fr 6 = dN j2 → fr 7 = el3_a2 → fr 8 = dN i3 → Ko 0 σ [(b1, (dC Exr.row e))] [(el3_a2, (yl3_a2).map encI, 1), (dX, ((Exr.cols e)).map encI, 1)] → Cw (EE S) cm96_l3 87 fr σ (fun oX gX sX => match m96_l3 e i1 x1_3 j2 false rem3 i3 yl3_a2 with | .on yl3_a2 => ∃ el3_a2, oX = some (some 4) ∧ yl3_a2.length ≤ j2 ∧ gX 3 = dx1_3 ∧ gX 4 = dX ∧ gX 5 = dN i1 ∧ gX 6 = dN j2 ∧ gX 7 = el3_a2 ∧ Ko 0 sX [(b1, (dC Exr.row e))] [(el3_a2, (yl3_a2).map encI, 1), (dX, ((Exr.cols e)).map encI, 1)] | .out r => Ou S Tryz.f96 (fun d _ => plain d = true ∧ nrmT (strip d) = dL encI r) oX gX sX) := by
   intro rem3
   induction rem3
   intro i3 yl3_a2 el3_a2 fr σ hi nyl3_a2 e3 e4 e5 e6 e7 e8 h
   have hlt3 : decide ((((i3 : Nat) : Int) : Int) < ((j2 : Nat) : Int)) = false := decF (by omega)
   rw [pin e3, pin e4, pin e5, pin e6, pin e7, pin e8]
   rw [m96_l3]
   exact Co (Cs (Ck h fun _ _ h => Rg 2 rfl (Rs rfl (fun _ => op_lss_int rfl rfl hlt3) (Rz h fun h => Cf rfl (Cw.exit (Exists.intro el3_a2 (an8 rfl (by omega) rfl rfl rfl rfl rfl h)))))))
   rename_i rem3 ih
   intro i3 yl3_a2 el3_a2 fr σ hi nyl3_a2 e3 e4 e5 e6 e7 e8 h
   have hlt3 : decide ((((i3 : Nat) : Int) : Int) < ((j2 : Nat) : Int)) = true := decT (by omega)
   have hil3 : i3 < j2 := by omega
   rw [pin e3, pin e4, pin e5, pin e6, pin e7, pin e8]
   rw [m96_l3]
   refine Co (Cs (Ck h fun _ _ h => Rg 2 rfl (Rs rfl (fun _ => op_lss_int rfl rfl hlt3) (Rz h fun h => Ct rfl (Ci (Cs (Cb (Cw.regionK h fun _ _ h => Rs rfl (fun _ => op_move rfl) (Rs rfl (fun _ => op_move rfl) (Rg 1 rfl (Rs rfl (fun _ => op_ix (n := i3) rfl rfl rx1_3 Tryz.underlying23 ty3.hn (at_map (by omega)) rfl) (Rc (at_map (by omega)) ty3 rfl (Rs rfl (fun _ => op_bs (xs := ([(x1_3.getD i3 default)] : List Int).map encI) Tryz.underlying23 ty3.hn (z3 (S := S)) rfl rfl rfl rfl rfl) (Rw.ap (j := 0) (ys := ([(x1_3.getD i3 default)]).map encI) h (Nat.le_add_right _ 6) rfl rfl rfl rfl rfl rfl rfl rfl (room_mk Tryz.underlying23 (if3 (S := S)) (z3 (S := S)) rfl rfl rfl rfl (by simp only [List.length_map, List.length_cons, List.length_nil]; omega)) (heads_map _ (fun _ => rfl)) rfl fun d1 _ h => ?_))))))))))))))
   simp only [List.set_cons_zero, ← List.map_append] at h
   exact Rs rfl (fun _ => op_assign rfl) (Rw.nilK h (Nat.add_le_add_left (by decide : 7 ≤ 8) _) fun h => Cw.regionK h fun _ _ h => Rg 1 rfl (Rs rfl (fun _ => op_add_int (v := ((i3 + 1 : Nat) : Int)) rfl rfl (wrap_one (by omega))) (Rg 1 rfl (Rz h fun h => ih (i3 + 1) (yl3_a2 ++ ([(x1_3.getD i3 default)])) _ _ _ (by omega) (by simp only [List.length_append, List.length_cons, List.length_nil]; omega) rfl rfl rfl rfl rfl rfl h))))
  refine Cw.mono (hl3 j2 0 ([]) _ _ _ (by omega) (by simp) rfl rfl rfl rfl rfl rfl h) ?_
  intro oY gY sY hh
  generalize hzL3 : m96_l3 e i1 x1_3 j2 false j2 0 ([]) = zZ at hh ⊢
  rcases zZ with yl3_a2 | rZ
  dsimp only
  obtain ⟨el3_a2, rfl, nyl3_a2, e3, e4, e5, e6, e7, h⟩ := hh
  rw [pin e3, pin e4, pin e5, pin e6, pin e7]
  refine Ck h fun _ _ h => Rs rfl (fun _ => op_move rfl) (Rs rfl (fun _ => op_move rfl) (Rg 1 rfl (Rs rfl (fun _ => op_ix (n := i1) rfl rfl (h.ac _ (List.mem_of_getElem? (i := 1) rfl)).rows Tryz.underlying23 ty3.hn (at_map hil1) rfl) (Rc (at_map hil1) ty3 rfl (Rs rfl (fun _ => op_bs (xs := ([((Exr.cols e).getD i1 default)] : List Int).map encI) Tryz.underlying23 ty3.hn (z3 (S := S)) rfl rfl rfl rfl rfl) (Rw.ap (j := 0) (ys := ([((Exr.cols e).getD i1 default)]).map encI) h (Nat.le_add_right _ 6) rfl rfl rfl rfl rfl rfl rfl rfl (room_mk Tryz.underlying23 (if3 (S := S)) (z3 (S := S)) rfl rfl rfl rfl (by simp only [List.length_map, List.length_cons, List.length_nil]; omega)) (heads_map _ (fun _ => rfl)) rfl fun d2 _ h => ?_))))))
  simp only [List.set_cons_zero, ← List.map_append] at h
  refine Rs rfl (fun _ => op_assign rfl) (Rw.nilK h (Nat.add_le_add_left (by decide : 7 ≤ 8) _) fun h => Cs (Ck h fun _ _ h => Rg 2 rfl (Rz h fun h => Cb ?_)))
  have hl4 : ∀ (rem4 i4 : Nat) (yl4_a2 : (List Int)) (el4_a2 : D) (fr : Nat → D) (σ : St), i4 + rem4 = x1_3.length → yl4_a2.length ≤ i4 + 1 → fr 3 = dx1_3 → fr 4 = dX → fr 5 = dN i1 → fr 7 = el4_a2 → fr 9 = dN i4 → Ko 0 σ [(b1, (dC Exr.row e))] [(el4_a2, (yl4_a2).map encI, 1), (dX, ((Exr.cols e)).map encI, 1)] → Cw (EE S) cm96_l4 87 fr σ (fun oX gX sX => match m96_l4 e i1 x1_3 j2 false yl3_a2 rem4 i4 yl4_a2 with | .on yl4_a2 => ∃ el4_a2, oX = some (some 6) ∧ yl4_a2.length ≤ x1_3.length + 1 ∧ gX 4 = dX ∧ gX 5 = dN i1 ∧ gX 7 = el4_a2 ∧ Ko 0 sX [(b1, (dC Exr.row e))] [(el4_a2, (yl4_a2).map encI, 1), (dX, ((Exr.cols e)).map encI, 1)] | .out r => Ou S Tryz.f96 (fun d _ => plain d = true ∧ nrmT (strip d) = dL encI r) oX gX sX) := by
   intro rem4
   induction rem4
   intro i4 yl4_a2 el4_a2 fr σ hi nyl4_a2 e3 e4 e5 e7 e9 h
   have hlt4 : decide ((((i4 : Nat) : Int) : Int) < ((x1_3.length : Nat) : Int)) = false := decF (by omega)
   rw [pin e3, pin e4, pin e5, pin e7, pin e9]
   rw [m96_l4]
   exact Co (Cs (Ck h fun _ _ h => Rg 1 rfl (Rs rfl (fun _ => op_move rfl) (Rs rfl (fun _ => op_lenN (n := x1_3.length) rfl Tryz.underlying23 rx1_3 (List.length_map ..)) (Rs rfl (fun _ => op_lss_int rfl rfl hlt4) (Rz h fun h => Cf rfl (Cw.exit (Exists.intro el4_a2 (an6 rfl (by omega) rfl rfl rfl h)))))))))
   rename_i rem4 ih
   intro i4 yl4_a2 el4_a2 fr σ hi nyl4_a2 e3 e4 e5 e7 e9 h
   have hlt4 : decide ((((i4 : Nat) : Int) : Int) < ((x1_3.length : Nat) : Int)) = true := decT (by omega)
   have hil4 : i4 < x1_3.length := by omega
   rw [pin e3, pin e4, pin e5, pin e7, pin e9]
   rw [m96_l4]
   refine Co (Cs (Ck h fun _ _ h => Rg 1 rfl (Rs rfl (fun _ => op_move rfl) (Rs rfl (fun _ => op_lenN (n := x1_3.length) rfl Tryz.underlying23 rx1_3 (List.length_map ..)) (Rs rfl (fun _ => op_lss_int rfl rfl hlt4) (Rz h fun h => Ct rfl (Ci (Cs (Cb (Cw.regionK h fun _ _ h => Rs rfl (fun _ => op_move rfl) (Rs rfl (fun _ => op_move rfl) (Rg 1 rfl (Rs rfl (fun _ => op_ix (n := i4) rfl rfl rx1_3 Tryz.underlying23 ty3.hn (at_map hil4) rfl) (Rc (at_map hil4) ty3 rfl (Rs rfl (fun _ => op_bs (xs := ([(x1_3.getD i4 default)] : List Int).map encI) Tryz.underlying23 ty3.hn (z3 (S := S)) rfl rfl rfl rfl rfl) (Rw.ap (j := 0) (ys := ([(x1_3.getD i4 default)]).map encI) h (Nat.le_add_right _ 6) rfl rfl rfl rfl rfl rfl rfl rfl (room_mk Tryz.underlying23 (if3 (S := S)) (z3 (S := S)) rfl rfl rfl rfl (by simp only [List.length_map, List.length_cons, List.length_nil]; omega)) (heads_map _ (fun _ => rfl)) rfl fun d3 _ h => ?_))))))))))))))))
   simp only [List.set_cons_zero, ← List.map_append] at h
   exact Rs rfl (fun _ => op_assign rfl) (Rw.nilK h (Nat.add_le_add_left (by decide : 7 ≤ 8) _) fun h => Cw.regionK h fun _ _ h => Rg 1 rfl (Rs rfl (fun _ => op_add_int (v := ((i4 + 1 : Nat) : Int)) rfl rfl (wrap_one (by omega))) (Rg 1 rfl (Rz h fun h => ih (i4 + 1) (yl4_a2 ++ ([(x1_3.getD i4 default)])) _ _ _ (by omega) (by simp only [List.length_append, List.length_cons, List.length_nil]; omega) rfl rfl rfl rfl rfl h))))
  refine Cw.mono (hl4 (x1_3.length - j2) j2 (yl3_a2 ++ ([((Exr.cols e).getD i1 default)])) _ _ _ (by omega) (by first | omega | (simp only [List.length_append, List.length_cons, List.length_nil]; omega)) rfl rfl rfl rfl rfl h) ?_
  intro oY gY sY hh
  generalize hzL4 : m96_l4 e i1 x1_3 j2 false yl3_a2 (x1_3.length - j2) j2 (yl3_a2 ++ ([((Exr.cols e).getD i1 default)])) = zZ at hh ⊢
  rcases zZ with yl4_a2 | rZ
  dsimp only
  obtain ⟨el4_a2, rfl, nyl4_a2, e4, e5, e7, h⟩ := hh
  rw [pin e4, pin e5, pin e7]
  exact Cw.regionK h fun _ _ h => Rs rfl (fun _ => op_move rfl) (Rs rfl (fun _ => op_assign rfl) (Rz h fun h => Exists.intro el4_a2 (an8 rfl (okL_triv yl4_a2 (by omega)) ((h.ac _ (List.mem_of_getElem? (i := 0) rfl)).rows) (by first | omega | (simp only [List.length_append, List.length_cons, List.length_nil]; omega)) rfl rfl rfl (h.dropAc (List.Sublist.cons _ (List.Sublist.refl _))))))
  obtain ⟨rfl, w⟩ := hh
  exact ⟨rfl, w⟩
  obtain ⟨rfl, w⟩ := hh
  exact ⟨rfl, w⟩
  exact Ct rfl (Cw.exit (Exists.intro dx1_3 (an8 rfl (okL_triv x1_3 (by omega)) rx1_3 (by first | omega | (simp only [List.length_append, List.length_cons, List.length_nil]; omega)) rfl rfl rfl h)))
  obtain ⟨rfl, w⟩ := hh
  exact ⟨rfl, w⟩
  obtain ⟨rfl, w⟩ := hh
  exact ⟨rfl, w⟩
  intro oY gY sY hh
  generalize hzF1 : m96_1 e i1 x1_3 = zZ at hh ⊢
  rcases zZ with v1_3 | rZ
  dsimp only
  obtain ⟨dm1_3, rfl, ov1_3, rm1_3, nv1_3, e3, e4, e5, h⟩ := hh
  rw [pin e3, pin e4, pin e5]
  exact Cw.regionK h fun _ _ h => Rg 1 rfl (Rs rfl (fun _ => op_add_int (v := ((i1 + 1 : Nat) : Int)) rfl rfl (wrap_one (by omega))) (Rg 1 rfl (Rz h fun h => ih (i1 + 1) v1_3 _ _ _ (by omega) rm1_3 (by first | omega | (simp only [List.length_append, List.length_cons, List.length_nil]; omega)) rfl rfl rfl h)))
  obtain ⟨rfl, w⟩ := hh
  exact ⟨rfl, w⟩
 refine Cw.mono (hl1 ((Exr.cols e).length) 0 ([]) _ _ _ (by omega) rfl (by first | omega | (simp only [List.length_append, List.length_cons, List.length_nil]; omega)) rfl rfl rfl h) ?_
 intro oY gY sY hh
 generalize hzL1 : m96_l1 e ((Exr.cols e).length) 0 ([]) = zZ at hh ⊢
 rcases zZ with x1_3 | rZ
 dsimp only
 obtain ⟨dx1_3, rfl, rx1_3, nx1_3, e3, h⟩ := hh
 rw [pin e3]
 exact Ck h fun _ _ h => Rs rfl (fun _ => op_move rfl) (Rs rfl (fun _ => op_assign rfl) (Rz h fun h => Cr ⟨.inr rfl, _, rfl, rows_fin rx1_3⟩))
 obtain ⟨rfl, w⟩ := hh
 exact ⟨.inr rfl, w⟩
noncomputable def H96 : List D → R D := mkH (L1 (dR Exr.row)) (fun x => Exr.ok x) (fun x => dL encI (m96 x))
theorem i96 : InjE (L1 (dR Exr.row)) := j1 (jR Exr.rinj)
noncomputable def cm17_l1 : Code := (cl (cr (cl (cr (cr (cr (bodyOf Tryz.f17)))))))
def m17_l1 (t : Tbl) (l : (List Sst)) : Nat → Nat → Lo Unit Int
 | 0, _ => .on ()
 | rem1 + 1, i1 => (bif (m45 (l.take i1) (fun x => m47 x (l.getD i1 default))) then .out 1 else m17_l1 t l rem1 (i1 + 1) )
noncomputable def cm17_l2 : Code := (cl (cr (cl (cr (cr (cr (cr (bodyOf Tryz.f17))))))))
def m17_l2 (t : Tbl) (l : (List Sst)) : Nat → Nat → Lo Unit Int
 | 0, _ => .on ()
 | rem2 + 1, i2 => (bif (((m44 t ((l.getD i2 default).expr) ((l.getD i2 default).column)) : Int) != 0) then .out (m44 t ((l.getD i2 default).expr) ((l.getD i2 default).column)) else m17_l2 t l rem2 (i2 + 1) )
def m17 (t : Tbl) (l : (List Sst)) : Int := (bif ((((l.length : Nat) : Int) : Int) == 0) then 1 else (bif (m45 l (fun x => m46 x t)) then 5 else (match m17_l1 t l l.length 0  with | .out r => r | .on _ => (match m17_l2 t l l.length 0  with | .out r => r | .on _ => 0))))
theorem m17_ev  (c44 : S 44 = some H44) (n45 : S 45 = none) (n46 : S 46 = none) (n47 : S 47 = none) (n80 : S 80 = none) (t : Tbl) (l : (List Sst))  (h_t : Tbl.ok t) (h_l : (okL Sst.ok) l) : ∃ d σ', Ev (EE S) 17 [dR Tbl.enc t, dL Sst.enc l] St.empty d σ' ∧ plain d = true ∧ strip d = dI (m17 t l) := by
 unfold m17
 have h : Ko 0 St.empty [] [] := Ko.empty
 refine Ev.wp (E := EE S) (fn := Tryz.f17) (nt := 45) Tryz.func17 rfl rfl (Ck h fun _ _ h => Rw.bx (d := dR Tbl.enc t) h (Nat.le_add_right _ 0) rfl rfl rfl rfl rfl rfl fun b1 _ h => Rg 1 rfl (Rw.nilK h (Nat.add_le_add_left (by decide : 1 ≤ 2) _) fun h => Cs (Ck h fun _ _ h => Rg 1 rfl (Re Tryz.underlying25 rfl (Rg 1 rfl (Rz h fun h => ?_))))))
 cases q1 : ((((l.length : Nat) : Int) : Int) == 0)
 refine Cf rfl (Ci (Cs (Ck h fun _ _ h => Rg 1 rfl (Rs rfl (fun _ => op_fn (a := []) (b := [D.ptr b1 0]) rfl rfl) ?_))))
 obtain ⟨dX, sX, hev, rfl, hKX⟩ := m45_ev n80 l (fun x => m46 x t) h_l (dL Sst.enc l) rfl 46 [D.ptr b1 0] (fun x hm hx _ _ h => m46_ev  x t hx h_t  b1 0 rfl h) n46 rfl (fun _ => rfl) rfl (h.ko (Nat.add_le_add_left (by decide : 0 ≤ 3) _))
 refine Rw.on (first := []) (cap := []) (das := [dL Sst.enc l, D.fn 46 [] [D.ptr b1 0]]) rfl rfl rfl rfl rfl n45 rfl (all2F rfl) hev rfl ?_
 replace h := h.back hKX rfl
 refine Rw.nilK h (Nat.add_le_add_left (by decide : 1 ≤ 3) _) fun h => ?_
 cases q2 : (m45 l (fun x => m46 x t))
 refine Cf rfl (Ci (Cs (Ck h fun _ _ h => Rg 1 rfl (Re Tryz.underlying25 rfl (Rg 1 rfl (Rz h fun h => Cb ?_))))))
 have hl1 : ∀ (rem1 i1 : Nat) (fr : Nat → D) (σ : St), i1 + rem1 = l.length → fr 1 = dL Sst.enc l → fr 2 = D.ptr b1 0 → fr 16 = dL Sst.enc l → fr 17 = dN l.length → fr 18 = dN i1 → Ko 0 σ [(b1, (dC Tbl.enc t))] [] → Cw (EE S) cm17_l1 45 fr σ (fun oX gX sX => match m17_l1 t l rem1 i1  with | .on _ => oX = some (some 0) ∧ gX 1 = dL Sst.enc l ∧ gX 2 = D.ptr b1 0 ∧ Ko 0 sX [(b1, (dC Tbl.enc t))] [] | .out r => Ou S Tryz.f17 (fun d _ => plain d = true ∧ strip d = dI r) oX gX sX) := by
  intro rem1
  induction rem1
  intro i1   fr σ hi  e1 e2 e16 e17 e18 h
  have hlt1 : decide ((((i1 : Nat) : Int) : Int) < ((l.length : Nat) : Int)) = false := decF (by omega)
  rw [pin e1, pin e2, pin e16, pin e17, pin e18]
  rw [m17_l1]
  exact Co (Ck h fun _ _ h => Rs rfl (fun _ => op_lss_int rfl rfl hlt1) (Rz h fun h => Cs (Cf rfl (Cw.exit (an4 rfl rfl rfl h)))))
  rename_i rem1 ih
  intro i1   fr σ hi  e1 e2 e16 e17 e18 h
  have hlt1 : decide ((((i1 : Nat) : Int) : Int) < ((l.length : Nat) : Int)) = true := decT (by omega)
  have hil1 : i1 < l.length := by omega
  have hbq1 := okL_len h_l
  rw [pin e1, pin e2, pin e16, pin e17, pin e18]
  rw [m17_l1]
  refine Co (Ck h fun _ _ h => Rs rfl (fun _ => op_lss_int rfl rfl hlt1) (Rz h fun h => Cs (Ct rfl (Ci (Cs (Cb (Ck h fun _ _ h => Rg 1 rfl (Rs rfl (fun _ => op_ix (n := i1) rfl rfl rfl Tryz.underlying25 ty51.hn (at_map hil1) rfl) (Rs rfl (fun _ => op_ldC (d := dR Sst.enc (l.getD i1 default)) rfl (at_map hil1) (ty51.lcA rfl rfl)) (Rw.al (z := zc51) h (Nat.le_add_right _ 3) rfl rfl rfl (z51 (S := S)) rfl fun b2 _ h => Rg 1 rfl (Rw.st (k := 0) (cs' := (dC Sst.enc (l.getD i1 default))) h (Nat.le_add_right _ 1) rfl rfl rfl rfl rfl ty51.hn rfl rfl rfl fun _ h => Rw.nilK h (Nat.add_le_add_left (by decide : 6 ≤ 6) _) fun h => Ck h fun _ _ h => Rg 2 rfl (Rs rfl (fun _ => op_slH (l := l) (h := i1) rfl rfl Tryz.underlying25 ty51.hn rfl (by omega) (fun _ => rfl)) (Rs rfl (fun _ => op_fn (a := []) (b := [D.ptr b2 0]) rfl rfl) ?_)))))))))))))
  obtain ⟨dX, sX, hev, rfl, hKX⟩ := m45_ev n80 (l.take i1) (fun x => m47 x (l.getD i1 default)) (okL_take h_l) (dL Sst.enc (l.take i1)) rfl 47 [D.ptr b2 0] (fun x hm hx _ _ h => m47_ev  x (l.getD i1 default) hx (okL_get h_l Sst.zok i1)  b2 0 rfl h) n47 rfl (fun _ => rfl) rfl (h.ko (Nat.add_le_add_left (by decide : 0 ≤ 5) _))
  refine Rw.on (first := []) (cap := []) (das := [dL Sst.enc (l.take i1), D.fn 47 [] [D.ptr b2 0]]) rfl rfl rfl rfl rfl n45 rfl (all2F rfl) hev rfl ?_
  replace h := h.back hKX rfl
  refine Rw.nilK h (Nat.add_le_add_left (by decide : 1 ≤ 5) _) fun h => ?_
  cases q3 : (m45 (l.take i1) (fun x => m47 x (l.getD i1 default)))
  exact Cf rfl (Ci (Cw.regionK h fun _ _ h => Rs rfl (fun _ => op_add_int (v := ((i1 + 1 : Nat) : Int)) rfl rfl (wrap_one (by omega))) (Rg 1 rfl (Rz h fun h => ih (i1 + 1)   _ _ (by omega)  rfl rfl rfl rfl rfl (h.dropBox (List.Sublist.cons _ (List.Sublist.refl _)))))))
  exact Ct rfl (Ck h fun _ _ h => Rg 1 rfl (Rz h fun h => Cr (And.intro rfl (Exists.intro _ (an3 rfl rfl rfl)))))
 refine Cw.mono (hl1 l.length 0   _ _ (by omega)  rfl rfl rfl rfl rfl h) ?_
 intro oY gY sY hh
 generalize hzL1 : m17_l1 t l l.length 0  = zZ at hh ⊢
 rcases zZ with vZ | rZ
 dsimp only
 obtain ⟨rfl, e1, e2, h⟩ := hh
 rw [pin e1, pin e2]
 have hbd1 := okL_len h_l
 refine Cs (Ck h fun _ _ h => Rg 1 rfl (Re Tryz.underlying25 rfl (Rg 1 rfl (Rz h fun h => Cb ?_))))
 have hl2 : ∀ (rem2 i2 : Nat) (fr : Nat → D) (σ : St), i2 + rem2 = l.length → fr 2 = D.ptr b1 0 → fr 29 = dL Sst.enc l → fr 30 = dN l.length → fr 31 = dN i2 → Ko 0 σ [(b1, (dC Tbl.enc t))] [] → Cw (EE S) cm17_l2 45 fr σ (fun oX gX sX => match m17_l2 t l rem2 i2  with | .on _ => oX = some (some 2) ∧ Ko 0 sX [(b1, (dC Tbl.enc t))] [] | .out r => Ou S Tryz.f17 (fun d _ => plain d = true ∧ strip d = dI r) oX gX sX) := by
  intro rem2
  induction rem2
  intro i2   fr σ hi  e2 e29 e30 e31 h
  have hlt2 : decide ((((i2 : Nat) : Int) : Int) < ((l.length : Nat) : Int)) = false := decF (by omega)
  rw [pin e2, pin e29, pin e30, pin e31]
  rw [m17_l2]
  exact Co (Ck h fun _ _ h => Rs rfl (fun _ => op_lss_int rfl rfl hlt2) (Rz h fun h => Cs (Cf rfl (Cw.exit (an2 rfl h)))))
  rename_i rem2 ih
  intro i2   fr σ hi  e2 e29 e30 e31 h
  have hlt2 : decide ((((i2 : Nat) : Int) : Int) < ((l.length : Nat) : Int)) = true := decT (by omega)
  have hil2 : i2 < l.length := by omega
  have hbq2 := okL_len h_l
  rw [pin e2, pin e29, pin e30, pin e31]
  rw [m17_l2]
  refine Co (Ck h fun _ _ h => Rs rfl (fun _ => op_lss_int rfl rfl hlt2) (Rz h fun h => Cs (Ct rfl (Ci (Cs (Cb (Ck h fun _ _ h => Rs rfl (fun _ => op_ix (n := i2) rfl rfl rfl Tryz.underlying25 ty51.hn (at_map hil2) rfl) (Rs rfl (fun _ => op_ldC (d := dR Sst.enc (l.getD i2 default)) rfl (at_map hil2) (ty51.lcA rfl rfl)) (Rw.al (z := zc51) h (Nat.le_add_right _ 2) rfl rfl rfl (z51 (S := S)) rfl fun b3 _ h => Rw.st (k := 0) (cs' := (dC Sst.enc (l.getD i2 default))) h (Nat.le_add_right _ 0) rfl rfl rfl rfl rfl ty51.hn rfl rfl rfl fun _ h => Rw.nilK h (Nat.add_le_add_left (by decide : 4 ≤ 4) _) fun h => Ck h fun _ _ h => Rw.ld (k := 1) (d := dR Tbl.enc t) h rfl rfl rfl rfl rfl (ty39.ldA rfl rfl) rfl (Rf fi51_1 rfl (Rw.ld (k := 0) (d := dR Exr.row ((l.getD i2 default).expr)) h rfl rfl rfl rfl rfl (ty32.ldA rfl rfl) rfl (Rf fi51_0 rfl (Rl 0 h rfl (ty3.ldS rfl) (Rs rfl (fun _ => op_call (d := dI (m44 t ((l.getD i2 default).expr) ((l.getD i2 default).column))) rfl rfl c44 rfl (He i44 (t, ((l.getD i2 default).expr), ((l.getD i2 default).column)) ⟨h_t, (Sst.ok_expr (okL_get h_l Sst.zok i2)), (m46_rng (m45_false q2 _ (getD_mem hil2)))⟩ rfl)) (Rg 1 rfl (Rz h fun h => Ck h fun _ _ h => Rg 2 rfl (Rz h fun h => ?_)))))))))))))))))
  cases q4 : (((m44 t ((l.getD i2 default).expr) ((l.getD i2 default).column)) : Int) != 0)
  exact Cf rfl (Ci (Cw.regionK h fun _ _ h => Rs rfl (fun _ => op_add_int (v := ((i2 + 1 : Nat) : Int)) rfl rfl (wrap_one (by omega))) (Rg 1 rfl (Rz h fun h => ih (i2 + 1)   _ _ (by omega)  rfl rfl rfl rfl (h.dropBox (List.Sublist.cons _ (List.Sublist.refl _)))))))
  exact Ct rfl (Ck h fun _ _ h => Rg 2 rfl (Rz h fun h => Cr (And.intro rfl (Exists.intro _ (an3 rfl rfl rfl)))))
 refine Cw.mono (hl2 l.length 0   _ _ (by omega)  rfl rfl rfl rfl h) ?_
 intro oY gY sY hh
 generalize hzL2 : m17_l2 t l l.length 0  = zZ at hh ⊢
 rcases zZ with vZ | rZ
 dsimp only
 obtain ⟨rfl, h⟩ := hh
 have hbd2 := okL_len h_l
 exact Ck h fun _ _ h => Rg 1 rfl (Rz h fun h => Cr ⟨.inr rfl, _, rfl, rfl, rfl⟩)
 obtain ⟨rfl, w⟩ := hh
 exact ⟨.inr rfl, w⟩
 obtain ⟨rfl, w⟩ := hh
 exact ⟨.inr rfl, w⟩
 exact Ct rfl (Ck h fun _ _ h => Rg 1 rfl (Rz h fun h => Cr ⟨.inr rfl, _, rfl, rfl, rfl⟩))
 exact Ct rfl (Ck h fun _ _ h => Rg 1 rfl (Rz h fun h => Cr ⟨.inr rfl, _, rfl, rfl, rfl⟩))
noncomputable def H17 : List D → R D := mkH (L2 (dR Tbl.enc) (dL Sst.enc)) (fun x => Tbl.ok x.1 ∧ (okL Sst.ok) x.2) (fun x => dI (m17 x.1 x.2))
theorem i17 : InjE (L2 (dR Tbl.enc) (dL Sst.enc)) := j2 (jR Tbl.inj) (jL Sst.inj)
def m42 (l : (List Exr)) (k : (List Int)) : Bool := ((((l.length : Nat) : Int) : Int) != ((k.length : Nat) : Int))
theorem m42_ev  {lo : Nat} {σ : St} {bs : List (Nat × List D)} {acs : List (D × List (List C) × Nat)} (l : (List Exr)) (k : (List Int))  (h_l : (okL Exr.ok) l) (h_k : (okL okI) k) (b_k kb_k : Nat) (hb_k : bs[kb_k]? = some (b_k, [dL encI k])) (h : Ko lo σ bs acs) : ∃ d σ', Ev (EE S) 42 [dL Exr.enc l, D.ptr b_k 0] σ d σ' ∧ d = dB (m42 l k) ∧ Ko lo σ' bs acs := by
 unfold m42
 exact Ev.wp (E := EE S) (fn := Tryz.f42) (nt := 9) Tryz.func42 rfl rfl (Ck h fun _ _ h => Rg 1 rfl (Rz h fun h => Ck h fun _ _ h => Rg 1 rfl (Re Tryz.underlying30 rfl (Rw.l (k := kb_k) h rfl rfl hb_k (ty23.ldS rfl) (Re Tryz.underlying23 rfl (Rg 2 rfl (Rz h fun h => Cr ⟨.inr rfl, _, rfl, rfl, h⟩)))))))
theorem rowlen {rows : List (List Exr)} {into : List Int} (h : m41 rows (fun x => m42 x into) = false) {i j : Nat} (hi : i < rows.length) (hj : j < (rows.getD i default).length) : j < into.length := by
  have h1 := m41_false h _ (getD_mem hi)
  simp only [m42] at h1
  have h2 := eq_of_bneF h1
  omega
noncomputable def cm16_l1 : Code := (cl (cr (cl (cr (cr (cr (cr (bodyOf Tryz.f16))))))))
noncomputable def cm16_l2 : Code := (cl (cr (cr (cl (cl (cr (cr (cl (cl (cr (cl (cr (cr (cr (cr (bodyOf Tryz.f16))))))))))))))))
def m16_l2 (t : Tbl) (q : Qry) (i1 : Nat) : Nat → Nat → Lo Unit Int
 | 0, _ => .on ()
 | rem2 + 1, i2 => (bif decide (((((m43 ((q.rows.getD i1 default).getD i2 default)).length : Nat) : Int) : Int) > 0) then .out 1 else (bif (((m44 t ((q.rows.getD i1 default).getD i2 default) ((m40 t q).getD i2 default)) : Int) != 0) then .out (m44 t ((q.rows.getD i1 default).getD i2 default) ((m40 t q).getD i2 default)) else m16_l2 t q i1 rem2 (i2 + 1) ))
def m16_l1 (t : Tbl) (q : Qry) : Nat → Nat → Lo Unit Int
 | 0, _ => .on ()
 | rem1 + 1, i1 => (match m16_l2 t q i1 ((q.rows.getD i1 default).length) 0  with | .out r => .out r | .on _ => m16_l1 t q rem1 (i1 + 1) )
def m16 (t : Tbl) (q : Qry) : Int := (bif (!(m39 t q.columns)) then 5 else (bif decide ((((q.rows.length : Nat) : Int) : Int) < 1) then 1 else (bif decide ((((q.rows.length : Nat) : Int) : Int) > 65536) then 1 else (bif (m41 q.rows (fun x => m42 x (m40 t q))) then 1 else (match m16_l1 t q q.rows.length 0  with | .out r => r | .on _ => 0)))))
theorem m16_ev  (c39 : S 39 = some H39) (c40 : S 40 = some H40) (c43 : S 43 = some H43) (c44 : S 44 = some H44) (n41 : S 41 = none) (n42 : S 42 = none) (n77 : S 77 = none) (t : Tbl) (q : Qry)  (h_t : Tbl.ok t) (h_q : Qry.ok q) : ∃ d σ', Ev (EE S) 16 [dR Tbl.enc t, dR Qry.enc q] St.empty d σ' ∧ plain d = true ∧ strip d = dI (m16 t q) := by
 unfold m16
 have h : Ko 0 St.empty [] [] := Ko.empty
 refine Ev.wp (E := EE S) (fn := Tryz.f16) (nt := 65) Tryz.func16 rfl rfl (Ck h fun _ _ h => Rw.bx (d := dR Tbl.enc t) h (Nat.le_add_right _ 0) rfl rfl rfl rfl rfl rfl fun b1 _ h => Rw.bx (d := dR Qry.enc q) h (Nat.le_add_right _ 0) rfl rfl rfl rfl rfl rfl fun b2 _ h => Rg 1 rfl (Rw.nilK h (Nat.add_le_add_left (by decide : 2 ≤ 3) _) fun h => Cs (Ck h fun _ _ h => Rw.ld (k := 1) (d := dR Tbl.enc t) h rfl rfl rfl rfl rfl (ty39.ldA rfl rfl) rfl (Rf fi41_2 rfl (Rl 0 h rfl (ty23.ldS rfl) (Rs rfl (fun _ => op_call (d := dB (m39 t q.columns)) rfl rfl c39 rfl (He i39 (t, q.columns) ⟨h_t, (Qry.ok_columns h_q)⟩ rfl)) (Rg 1 rfl (Rz h fun h => ?_))))))))
 cases q1 : (!(m39 t q.columns))
 refine Cf rfl (Ci (Ck h fun _ _ h => Rw.ld (k := 1) (d := dR Tbl.enc t) h rfl rfl rfl rfl rfl (ty39.ldA rfl rfl) rfl (Rw.ld (k := 0) (d := dR Qry.enc q) h rfl rfl rfl rfl rfl (ty41.ldA rfl rfl) rfl (Rs rfl (fun _ => op_call (d := dL encI (m40 t q)) rfl rfl c40 rfl (He i40 (t, q) ⟨h_t, h_q⟩ rfl)) (Rw.al (z := zc23) h (Nat.le_add_right _ 3) rfl rfl rfl (z23 (S := S)) rfl fun b3 _ h => ?_)))))
 replace h := h.newAc (([] : (List Int)).map encI) 1
 refine Rw.st (k := 0) (cs' := [dL encI (m40 t q)]) h (Nat.le_add_right _ 0) rfl rfl rfl rfl rfl ty23.hn rfl rfl rfl fun _ h => Rw.nilK h (Nat.add_le_add_left (by decide : 5 ≤ 5) _) fun h => Cs (Ck h fun _ _ h => Rf fi41_3 rfl (Rl 1 h rfl (ty24.ldS rfl) (Re Tryz.underlying24 rfl (Rg 2 rfl ?_))))
 cases q2 : decide ((((q.rows.length : Nat) : Int) : Int) < 1)
 refine Rf fi41_3 rfl (Rl 1 h rfl (ty24.ldS rfl) (Re Tryz.underlying24 rfl (Rg 3 rfl ?_)))
 cases q3 : decide ((((q.rows.length : Nat) : Int) : Int) > 65536)
 refine Rf fi41_3 rfl (Rl 1 h rfl (ty24.ldS rfl) (Rs rfl (fun _ => op_fn (a := []) (b := [D.ptr b3 0]) rfl rfl) ?_))
 obtain ⟨dX, sX, hev, rfl, hKX⟩ := m41_ev n77 q.rows (fun x => m42 x (m40 t q)) (Qry.ok_rows h_q) (dL encL_Exr_enc q.rows) rfl 42 [D.ptr b3 0] (fun x hm hx _ _ h => m42_ev  x (m40 t q) hx (m40_ok h_t h_q)  b3 0 rfl h) n42 rfl (fun _ => rfl) rfl (h.ko (Nat.add_le_add_left (by decide : 0 ≤ 16) _))
 refine Rw.on (first := []) (cap := []) (das := [dL encL_Exr_enc q.rows, D.fn 42 [] [D.ptr b3 0]]) rfl rfl rfl rfl rfl n41 rfl (all2F rfl) hev rfl ?_
 replace h := h.back hKX rfl
 refine Rg 1 rfl (Rw.nilK h (Nat.add_le_add_left (by decide : 1 ≤ 16) _) fun h => ?_)
 cases q4 : (m41 q.rows (fun x => m42 x (m40 t q)))
 refine Cf rfl (Ci (Cs (Ck h fun _ _ h => Rf fi41_3 rfl (Rl 1 h rfl (ty24.ldS rfl) (Re Tryz.underlying24 rfl (Rg 1 rfl (Rz h fun h => Cb ?_)))))))
 have hl1 : ∀ (rem1 i1 : Nat) (fr : Nat → D) (σ : St), i1 + rem1 = q.rows.length → fr 2 = D.ptr b1 0 → fr 5 = D.ptr b3 0 → fr 36 = dL encL_Exr_enc q.rows → fr 37 = dN q.rows.length → fr 38 = dN i1 → Ko 0 σ [(b3, [dL encI (m40 t q)]), (b2, (dC Qry.enc q)), (b1, (dC Tbl.enc t))] [((D.c (.sl true (([] : (List Int)).map encI))), ([]).map encI, 1)] → Cw (EE S) cm16_l1 65 fr σ (fun oX gX sX => match m16_l1 t q rem1 i1  with | .on _ => oX = some (some 0) ∧ Ko 0 sX [(b3, [dL encI (m40 t q)]), (b2, (dC Qry.enc q)), (b1, (dC Tbl.enc t))] [((D.c (.sl true (([] : (List Int)).map encI))), ([]).map encI, 1)] | .out r => Ou S Tryz.f16 (fun d _ => plain d = true ∧ strip d = dI r) oX gX sX) := by
  intro rem1
  induction rem1
  intro i1   fr σ hi  e2 e5 e36 e37 e38 h
  have hlt1 : decide ((((i1 : Nat) : Int) : Int) < ((q.rows.length : Nat) : Int)) = false := decF (by omega)
  rw [pin e2, pin e5, pin e36, pin e37, pin e38]
  rw [m16_l1]
  exact Co (Ck h fun _ _ h => Rs rfl (fun _ => op_lss_int rfl rfl hlt1) (Rz h fun h => Cs (Cf rfl (Cw.exit (an2 rfl h)))))
  rename_i rem1 ih
  intro i1   fr σ hi  e2 e5 e36 e37 e38 h
  have hlt1 : decide ((((i1 : Nat) : Int) : Int) < ((q.rows.length : Nat) : Int)) = true := decT (by omega)
  have hil1 : i1 < q.rows.length := by omega
  have hbq1 := okL_len (Qry.ok_rows h_q)
  rw [pin e2, pin e5, pin e36, pin e37, pin e38]
  rw [m16_l1]
  refine Co (Ck h fun _ _ h => Rs rfl (fun _ => op_lss_int rfl rfl hlt1) (Rz h fun h => Cs (Ct rfl (Ci (Cs (Cb (Ck h fun _ _ h => Rs rfl (fun _ => op_ix (n := i1) rfl rfl rfl Tryz.underlying24 ty30.hn (at_map hil1) rfl) (Rc (at_map hil1) ty30 rfl (Rg 1 rfl (Rz h fun h => Ck h fun _ _ h => Rg 1 rfl (Re Tryz.underlying30 rfl (Rg 1 rfl (Rz h fun h => Cb ?_)))))))))))))
  have hl2 : ∀ (rem2 i2 : Nat) (fr : Nat → D) (σ : St), i2 + rem2 = (q.rows.getD i1 default).length → fr 2 = D.ptr b1 0 → fr 5 = D.ptr b3 0 → fr 36 = dL encL_Exr_enc q.rows → fr 37 = dN q.rows.length → fr 38 = dN i1 → fr 42 = dL Exr.enc (q.rows.getD i1 default) → fr 43 = dN ((q.rows.getD i1 default).length) → fr 44 = dN i2 → Ko 0 σ [(b3, [dL encI (m40 t q)]), (b2, (dC Qry.enc q)), (b1, (dC Tbl.enc t))] [((D.c (.sl true (([] : (List Int)).map encI))), ([]).map encI, 1)] → Cw (EE S) cm16_l2 65 fr σ (fun oX gX sX => match m16_l2 t q i1 rem2 i2  with | .on _ => oX = some (some 2) ∧ gX 2 = D.ptr b1 0 ∧ gX 5 = D.ptr b3 0 ∧ gX 36 = dL encL_Exr_enc q.rows ∧ gX 37 = dN q.rows.length ∧ gX 38 = dN i1 ∧ Ko 0 sX [(b3, [dL encI (m40 t q)]), (b2, (dC Qry.enc q)), (b1, (dC Tbl.enc t))] [((D.c (.sl true (([] : (List Int)).map encI))), ([]).map encI, 1)] | .out r => Ou S Tryz.f16 (fun d _ => plain d = true ∧ strip d = dI r) oX gX sX) := by
   intro rem2
   induction rem2
   intro i2   fr σ hi  e2 e5 e36 e37 e38 e42 e43 e44 h
   have hlt2 : decide ((((i2 : Nat) : Int) : Int) < (((q.rows.getD i1 default).length : Nat) : Int)) = false := decF (by omega)
   rw [pin e2, pin e5, pin e36, pin e37, pin e38, pin e42, pin e43, pin e44]
   rw [m16_l2]
   exact Co (Ck h fun _ _ h => Rs rfl (fun _ => op_lss_int rfl rfl hlt2) (Rz h fun h => Cs (Cf rfl (Cw.exit (an7 rfl rfl rfl rfl rfl rfl h)))))
   rename_i rem2 ih
   intro i2   fr σ hi  e2 e5 e36 e37 e38 e42 e43 e44 h
   have hlt2 : decide ((((i2 : Nat) : Int) : Int) < (((q.rows.getD i1 default).length : Nat) : Int)) = true := decT (by omega)
   have hil2 : i2 < (q.rows.getD i1 default).length := by omega
   have hbq2 := okL_len (okL_get (Qry.ok_rows h_q) okL_nil i1)
   rw [pin e2, pin e5, pin e36, pin e37, pin e38, pin e42, pin e43, pin e44]
   rw [m16_l2]
   refine Co (Ck h fun _ _ h => Rs rfl (fun _ => op_lss_int rfl rfl hlt2) (Rz h fun h => Cs (Ct rfl (Ci (Cs (Cb (Ck h fun _ _ h => Rg 1 rfl (Rs rfl (fun _ => op_ix (n := i2) rfl rfl rfl Tryz.underlying30 ty32.hn (at_Exr (by omega)) rfl) (Rs rfl (fun _ => op_ldC (d := dR Exr.row ((q.rows.getD i1 default).getD i2 default)) rfl (at_Exr (by omega)) (ty32.lcA rfl rfl)) (Rw.al (z := zc32) h (Nat.le_add_right _ 3) rfl rfl rfl (z32 (S := S)) rfl fun b4 _ h => Rg 1 rfl (Rw.st (k := 0) (cs' := (dC Exr.row ((q.rows.getD i1 default).getD i2 default))) h (Nat.le_add_right _ 1) rfl rfl rfl rfl rfl ty32.hn rfl rfl rfl fun _ h => Rw.nilK h (Nat.add_le_add_left (by decide : 6 ≤ 6) _) fun h => Cs (Ck h fun _ _ h => Rw.ld (k := 0) (d := dR Exr.row ((q.rows.getD i1 default).getD i2 default)) h rfl rfl rfl rfl rfl (ty32.ldA rfl rfl) rfl (Rs rfl (fun _ => op_call (d := dL encI (m43 ((q.rows.getD i1 default).getD i2 default))) rfl rfl c43 rfl (He i43 ((q.rows.getD i1 default).getD i2 default) (okL_get (okL_get (Qry.ok_rows h_q) okL_nil i1) Exr.zok i2) rfl)) (Re Tryz.underlying23 rfl (Rg 1 rfl (Rz h fun h => ?_))))))))))))))))
   cases q5 : decide (((((m43 ((q.rows.getD i1 default).getD i2 default)).length : Nat) : Int) : Int) > 0)
   refine Cf rfl (Ci ?_)
   refine Cw.seq (Cw.regionD h fun _ _ h => ?_)
   refine Rw.ld (k := 3) (d := dR Tbl.enc t) h rfl rfl rfl rfl rfl (ty39.ldA rfl rfl) rfl (Rw.ld (k := 0) (d := dR Exr.row ((q.rows.getD i1 default).getD i2 default)) h rfl rfl rfl rfl rfl (ty32.ldA rfl rfl) rfl (Rl 1 h rfl (ty23.ldS rfl) (Rg 1 rfl (Rs rfl (fun _ => op_ix (n := i2) rfl rfl rfl Tryz.underlying23 ty3.hn (at_map (rowlen q4 hil1 hil2)) rfl) (Rc (at_map (rowlen q4 hil1 hil2)) ty3 rfl (Rs rfl (fun _ => op_call (d := dI (m44 t ((q.rows.getD i1 default).getD i2 default) ((m40 t q).getD i2 default))) rfl rfl c44 rfl (He i44 (t, ((q.rows.getD i1 default).getD i2 default), ((m40 t q).getD i2 default)) ⟨h_t, (okL_get (okL_get (Qry.ok_rows h_q) okL_nil i1) Exr.zok i2), (m40_key (of_notF q1) _ (getD_mem (rowlen q4 hil1 hil2)))⟩ rfl)) (Rg 1 rfl (Rz h fun h => ?_))))))))
   refine ⟨by kernel_rfl, ?_⟩
   refine Ck h fun _ _ h => Rg 2 rfl (Rz h fun h => ?_)
   cases q6 : (((m44 t ((q.rows.getD i1 default).getD i2 default) ((m40 t q).getD i2 default)) : Int) != 0)
   exact Cf rfl (Ci (Cw.regionK h fun _ _ h => Rs rfl (fun _ => op_add_int (v := ((i2 + 1 : Nat) : Int)) rfl rfl (wrap_one (by omega))) (Rg 1 rfl (Rz h fun h => ih (i2 + 1)   _ _ (by omega)  rfl rfl rfl rfl rfl rfl rfl rfl (h.dropBox (List.Sublist.cons _ (List.Sublist.refl _)))))))
   exact Ct rfl (Ck h fun _ _ h => Rg 2 rfl (Rz h fun h => Cr (And.intro rfl (Exists.intro _ (an3 rfl rfl rfl)))))
   exact Ct rfl (Ck h fun _ _ h => Rg 1 rfl (Rz h fun h => Cr (And.intro rfl (Exists.intro _ (an3 rfl rfl rfl)))))
  refine Cw.mono (hl2 ((q.rows.getD i1 default).length) 0   _ _ (by omega)  rfl rfl rfl rfl rfl rfl rfl rfl h) ?_
  intro oY gY sY hh
  generalize hzL2 : m16_l2 t q i1 ((q.rows.getD i1 default).length) 0  = zZ at hh ⊢
  rcases zZ with vZ | rZ
  dsimp only
  obtain ⟨rfl, e2, e5, e36, e37, e38, h⟩ := hh
  rw [pin e2, pin e5, pin e36, pin e37, pin e38]
  have hbd2 := okL_len (okL_get (Qry.ok_rows h_q) okL_nil i1)
  exact Cw.regionK h fun _ _ h => Rs rfl (fun _ => op_add_int (v := ((i1 + 1 : Nat) : Int)) rfl rfl (wrap_one (by omega))) (Rg 1 rfl (Rz h fun h => ih (i1 + 1)   _ _ (by omega)  rfl rfl rfl rfl rfl h))
  obtain ⟨rfl, w⟩ := hh
  exact ⟨rfl, w⟩
 refine Cw.mono (hl1 q.rows.length 0   _ _ (by omega)  rfl rfl rfl rfl rfl h) ?_
 intro oY gY sY hh
 generalize hzL1 : m16_l1 t q q.rows.length 0  = zZ at hh ⊢
 rcases zZ with vZ | rZ
 dsimp only
 obtain ⟨rfl, h⟩ := hh
 have hbd1 := okL_len (Qry.ok_rows h_q)
 exact Ck h fun _ _ h => Rg 1 rfl (Rz h fun h => Cr ⟨.inr rfl, _, rfl, rfl, rfl⟩)
 obtain ⟨rfl, w⟩ := hh
 exact ⟨.inr rfl, w⟩
 exact Ct rfl (Ck h fun _ _ h => Rg 1 rfl (Rz h fun h => Cr ⟨.inr rfl, _, rfl, rfl, rfl⟩))
 exact Rg 5 rfl (Rz h fun h => Ct rfl (Ck h fun _ _ h => Rg 1 rfl (Rz h fun h => Cr ⟨.inr rfl, _, rfl, rfl, rfl⟩)))
 exact Rg 11 rfl (Rz h fun h => Ct rfl (Ck h fun _ _ h => Rg 1 rfl (Rz h fun h => Cr ⟨.inr rfl, _, rfl, rfl, rfl⟩)))
 exact Ct rfl (Ck h fun _ _ h => Rg 1 rfl (Rz h fun h => Cr ⟨.inr rfl, _, rfl, rfl, rfl⟩))
noncomputable def H16 : List D → R D := mkH (L2 (dR Tbl.enc) (dR Qry.enc)) (fun x => Tbl.ok x.1 ∧ Qry.ok x.2) (fun x => dI (m16 x.1 x.2))
theorem i16 : InjE (L2 (dR Tbl.enc) (dR Qry.enc)) := j2 (jR Tbl.inj) (jR Qry.inj)
end Go.Vm
