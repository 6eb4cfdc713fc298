/- The functions that the law calls: what they compute, and that the interpreter comes to it; sizes as their statements say. Printed by a program of this session's. -/
import Derived.Test.YtgcphfhmoabhnaaGreatDoorEnv
set_option linter.unusedVariables false
namespace Go.Vm
open Go.Proofs
variable {S : Nat → Option (List D → R D)}
theorem ty2 : TyF (EE S) 2 1 false := ⟨⟨_, Tryz.underlying2, rfl⟩, by kernel_rfl⟩
theorem ty3 : TyF (EE S) 3 1 false := ⟨⟨_, Tryz.underlying3, rfl⟩, by kernel_rfl⟩
theorem ty4 : TyF (EE S) 4 1 false := ⟨⟨_, Tryz.underlying4, rfl⟩, by kernel_rfl⟩
theorem ty9 : TyF (EE S) 9 1 false := ⟨⟨_, Tryz.underlying9, rfl⟩, by kernel_rfl⟩
theorem ty23 : TyF (EE S) 23 1 false := ⟨⟨_, Tryz.underlying23, rfl⟩, by kernel_rfl⟩
theorem ty26 : TyF (EE S) 26 1 false := ⟨⟨_, Tryz.underlying26, rfl⟩, by kernel_rfl⟩
theorem ty27 : TyF (EE S) 27 1 false := ⟨⟨_, Tryz.underlying27, rfl⟩, by kernel_rfl⟩
theorem ty29 : TyF (EE S) 29 4 true := ⟨⟨_, Tryz.underlying29, rfl⟩, by kernel_rfl⟩
theorem ty30 : TyF (EE S) 30 1 false := ⟨⟨_, Tryz.underlying30, rfl⟩, by kernel_rfl⟩
theorem ty32 : TyF (EE S) 32 8 true := ⟨⟨_, Tryz.underlying32, rfl⟩, by kernel_rfl⟩
theorem ty35 : TyF (EE S) 35 1 false := ⟨⟨_, Tryz.underlying35, rfl⟩, by kernel_rfl⟩
theorem ty36 : TyF (EE S) 36 1 false := ⟨⟨_, Tryz.underlying36, rfl⟩, by kernel_rfl⟩
theorem ty37 : TyF (EE S) 37 1 false := ⟨⟨_, Tryz.underlying37, rfl⟩, by kernel_rfl⟩
theorem ty39 : TyF (EE S) 39 5 true := ⟨⟨_, Tryz.underlying39, rfl⟩, by kernel_rfl⟩
theorem ty51 : TyF (EE S) 51 9 true := ⟨⟨_, Tryz.underlying51, rfl⟩, by kernel_rfl⟩
theorem ty53 : TyF (EE S) 53 11 true := ⟨⟨_, Tryz.underlying53, rfl⟩, by kernel_rfl⟩
theorem ty65 : TyF (EE S) 65 7 true := ⟨⟨_, Tryz.underlying65, rfl⟩, by kernel_rfl⟩
theorem ty72 : TyF (EE S) 72 3 true := ⟨⟨_, Tryz.underlying72, rfl⟩, by kernel_rfl⟩
theorem ty74 : TyF (EE S) 74 2 true := ⟨⟨_, Tryz.underlying74, rfl⟩, by kernel_rfl⟩
theorem fi29_0 : fieldI (EE S) 29 0 = .ok (3, 0, 1) := by kernel_rfl
theorem fi29_1 : fieldI (EE S) 29 1 = .ok (2, 1, 1) := by kernel_rfl
theorem fi29_2 : fieldI (EE S) 29 2 = .ok (27, 2, 1) := by kernel_rfl
theorem fi29_3 : fieldI (EE S) 29 3 = .ok (9, 3, 1) := by kernel_rfl
theorem fi32_0 : fieldI (EE S) 32 0 = .ok (3, 0, 1) := by kernel_rfl
theorem fi32_1 : fieldI (EE S) 32 1 = .ok (9, 1, 1) := by kernel_rfl
theorem fi32_2 : fieldI (EE S) 32 2 = .ok (3, 2, 1) := by kernel_rfl
theorem fi32_3 : fieldI (EE S) 32 3 = .ok (29, 3, 4) := by kernel_rfl
theorem fi32_4 : fieldI (EE S) 32 4 = .ok (30, 7, 1) := by kernel_rfl
theorem fi39_0 : fieldI (EE S) 39 0 = .ok (9, 0, 1) := by kernel_rfl
theorem fi39_1 : fieldI (EE S) 39 1 = .ok (35, 1, 1) := by kernel_rfl
theorem fi39_2 : fieldI (EE S) 39 2 = .ok (23, 2, 1) := by kernel_rfl
theorem fi39_3 : fieldI (EE S) 39 3 = .ok (36, 3, 1) := by kernel_rfl
theorem fi39_4 : fieldI (EE S) 39 4 = .ok (37, 4, 1) := by kernel_rfl
theorem fi41_2 : fieldI (EE S) 41 2 = .ok (23, 2, 1) := by kernel_rfl
theorem fi41_5 : fieldI (EE S) 41 5 = .ok (26, 5, 1) := by kernel_rfl
theorem fi41_7 : fieldI (EE S) 41 7 = .ok (23, 14, 1) := by kernel_rfl
theorem fi53_0 : fieldI (EE S) 53 0 = .ok (3, 0, 1) := by kernel_rfl
theorem fi65_0 : fieldI (EE S) 65 0 = .ok (9, 0, 1) := by kernel_rfl
theorem fi65_1 : fieldI (EE S) 65 1 = .ok (3, 1, 1) := by kernel_rfl
theorem fi65_2 : fieldI (EE S) 65 2 = .ok (4, 2, 1) := by kernel_rfl
theorem fi65_3 : fieldI (EE S) 65 3 = .ok (29, 3, 4) := by kernel_rfl
theorem fi72_0 : fieldI (EE S) 72 0 = .ok (9, 0, 1) := by kernel_rfl
theorem fi72_1 : fieldI (EE S) 72 1 = .ok (23, 1, 1) := by kernel_rfl
theorem fi74_0 : fieldI (EE S) 74 0 = .ok (23, 0, 1) := by kernel_rfl
theorem fi74_1 : fieldI (EE S) 74 1 = .ok (9, 1, 1) := by kernel_rfl
theorem bd29  : buildD (EE S) 29 [] = .ok (dR Val.enc Val.zero) := by kernel_rfl
theorem if3 : ((EE S).P.info? 3).map (fun i => (i.size, i.bytes)) = some (1, 8) := by kernel_rfl
def zc3 : List D := [.c (.int .i64 0)]
theorem z3 : zero (EE S) 3 = .ok zc3 := by kernel_rfl
def zc9 : List D := [.c (.str ⟨#[]⟩)]
theorem z9 : zero (EE S) 9 = .ok zc9 := by kernel_rfl
def zc29 : List D := [.c (.int .i64 0), .c (.int .i64 0), .c (.float .f64 0), .c (.str ⟨#[]⟩)]
theorem z29 : zero (EE S) 29 = .ok zc29 := by kernel_rfl
def zc39 : List D := [.c (.str ⟨#[]⟩), .c (.sl true []), .c (.sl true []), .c (.sl true []), .c (.sl true [])]
theorem z39 : zero (EE S) 39 = .ok zc39 := by kernel_rfl
def zc65 : List D := [.c (.str ⟨#[]⟩), .c (.int .i64 0), .c (.bool false), .c (.int .i64 0), .c (.int .i64 0), .c (.float .f64 0), .c (.str ⟨#[]⟩)]
theorem z65 : zero (EE S) 65 = .ok zc65 := by kernel_rfl
def zc72 : List D := [.c (.str ⟨#[]⟩), .c (.sl true []), .c (.bool false)]
theorem z72 : zero (EE S) 72 = .ok zc72 := by kernel_rfl
def zc74 : List D := [.c (.sl true []), .c (.str ⟨#[]⟩)]
theorem z74 : zero (EE S) 74 = .ok zc74 := by kernel_rfl
def m29 (t : Tbl) : Bool := (bif (ByteArray.toList t.name == ByteArray.toList (⟨#[]⟩)) then (((((((t.columns.length + t.key.length) + t.indexes.length) + t.refs.length) : Nat) : Int) : Int) == 0) else false)
theorem m29_ev  (t : Tbl)  (h_t : Tbl.ok t) : ∃ d σ', Ev (EE S) 29 [dR Tbl.enc t] St.empty d σ' ∧ plain d = true ∧ strip d = dB (m29 t) := by
 unfold m29
 have h : Ko 0 St.empty [] [] := Ko.empty
 refine Ev.wp (E := EE S) (fn := Tryz.f29) (nt := 24) Tryz.func29 rfl rfl (Ck h fun _ _ h => Rw.bx (d := dR Tbl.enc t) h (Nat.le_add_right _ 0) rfl rfl rfl rfl rfl rfl fun b1 _ h => Rg 1 rfl (Rw.nilK h (Nat.add_le_add_left (by decide : 1 ≤ 2) _) fun h => Ck h fun _ _ h => Rf fi39_0 rfl (Rl 0 h rfl (ty9.ldS rfl) (Rg 2 rfl ?_))))
 cases q1 : (ByteArray.toList t.name == ByteArray.toList (⟨#[]⟩))
 exact Rg 18 rfl (Rz h fun h => Cr ⟨.inr rfl, _, rfl, rfl, rfl⟩)
 exact Rf fi39_1 rfl (Rl 0 h rfl (ty35.ldS rfl) (Re Tryz.underlying35 rfl (Rf fi39_2 rfl (Rl 0 h rfl (ty23.ldS rfl) (Re Tryz.underlying23 rfl (Rs rfl (fun _ => op_add_int (v := ((t.columns.length + t.key.length : Nat) : Int)) rfl rfl (wrap_nat (by have := okL_len (Tbl.ok_columns h_t); have := okL_len (Tbl.ok_key h_t); omega))) (Rf fi39_3 rfl (Rl 0 h rfl (ty36.ldS rfl) (Re Tryz.underlying36 rfl (Rs rfl (fun _ => op_add_int (v := (((t.columns.length + t.key.length) + t.indexes.length : Nat) : Int)) rfl rfl (wrap_nat (by have := okL_len (Tbl.ok_columns h_t); have := okL_len (Tbl.ok_key h_t); have := okL_len (Tbl.ok_indexes h_t); omega))) (Rf fi39_4 rfl (Rl 0 h rfl (ty37.ldS rfl) (Re Tryz.underlying37 rfl (Rs rfl (fun _ => op_add_int (v := ((((t.columns.length + t.key.length) + t.indexes.length) + t.refs.length : Nat) : Int)) rfl rfl (wrap_nat (by have := okL_len (Tbl.ok_columns h_t); have := okL_len (Tbl.ok_key h_t); have := okL_len (Tbl.ok_indexes h_t); have := okL_len (Tbl.ok_refs h_t); omega))) (Rg 3 rfl (Rz h fun h => Cr ⟨.inr rfl, _, rfl, rfl, rfl⟩))))))))))))))))
noncomputable def H29 : List D → R D := mkH (L1 (dR Tbl.enc)) (fun x => Tbl.ok x) (fun x => dB (m29 x))
theorem i29 : InjE (L1 (dR Tbl.enc)) := j1 (jR Tbl.inj)
def m28 (e : Exr) : Bool := (bif ((e.kind : Int) == 0) then (bif (ByteArray.toList e.op == ByteArray.toList (⟨#[]⟩)) then (bif ((e.column : Int) == 0) then (bif ((((e.kids.length : Nat) : Int) : Int) == 0) then (bif ((e.value.kind : Int) == 0) then (bif ((e.value.n : Int) == 0) then (bif (((e.value.f : Int) : Int) == 0) then (ByteArray.toList e.value.s == ByteArray.toList (⟨#[]⟩)) else false) else false) else false) else false) else false) else false) else false)
theorem m28_ev  (c70 : S 70 = none) (e : Exr)  (h_e : Exr.ok e) : ∃ d σ', Ev (EE S) 28 [dR Exr.row e] St.empty d σ' ∧ plain d = true ∧ strip d = dB (m28 e) := by
 unfold m28
 have h : Ko 0 St.empty [] [] := Ko.empty
 refine Ev.wp (E := EE S) (fn := Tryz.f28) (nt := 46) Tryz.func28 rfl rfl (Ck h fun _ _ h => Rw.bx (d := dR Exr.row e) h (Nat.le_add_right _ 0) rfl rfl rfl rfl rfl rfl fun b1 _ h => Rg 1 rfl (Rw.nilK h (Nat.add_le_add_left (by decide : 1 ≤ 2) _) fun h => Ck h fun _ _ h => Rf fi32_3 rfl (Rw.ld (k := 0) (d := dR Val.enc e.value) h rfl rfl rfl rfl rfl (ty29.ldA rfl rfl) rfl (Rw.al (z := zc29) h (Nat.le_add_right _ 2) rfl rfl rfl (z29 (S := S)) rfl fun b2 _ h => Rw.st (k := 0) (cs' := (dC Val.enc e.value)) h (Nat.le_add_right _ 0) rfl rfl rfl rfl rfl ty29.hn rfl rfl rfl fun _ h => Rw.nilK h (Nat.add_le_add_left (by decide : 4 ≤ 4) _) fun h => Ck h fun _ _ h => Rf fi32_0 rfl (Rl 1 h rfl (ty3.ldS rfl) (Rg 2 rfl ?_))))))
 cases q1 : ((e.kind : Int) == 0)
 exact Rg 37 rfl (Rz h fun h => Cr ⟨.inr rfl, _, rfl, rfl, rfl⟩)
 refine Rf fi32_1 rfl (Rl 1 h rfl (ty9.ldS rfl) (Rg 3 rfl ?_))
 cases q2 : (ByteArray.toList e.op == ByteArray.toList (⟨#[]⟩))
 exact Rg 32 rfl (Rz h fun h => Cr ⟨.inr rfl, _, rfl, rfl, rfl⟩)
 refine Rf fi32_2 rfl (Rl 1 h rfl (ty3.ldS rfl) (Rg 3 rfl ?_))
 cases q3 : ((e.column : Int) == 0)
 exact Rg 27 rfl (Rz h fun h => Cr ⟨.inr rfl, _, rfl, rfl, rfl⟩)
 refine Rf fi32_4 rfl (Rl 1 h rfl (ty30.ldS rfl) (Re Tryz.underlying30 rfl (Rg 3 rfl ?_)))
 cases q4 : ((((e.kids.length : Nat) : Int) : Int) == 0)
 exact Rg 21 rfl (Rz h fun h => Cr ⟨.inr rfl, _, rfl, rfl, rfl⟩)
 refine Rf fi29_0 rfl (Rl 0 h rfl (ty3.ldS rfl) (Rg 3 rfl ?_))
 cases q5 : ((e.value.kind : Int) == 0)
 exact Rg 16 rfl (Rz h fun h => Cr ⟨.inr rfl, _, rfl, rfl, rfl⟩)
 refine Rf fi29_1 rfl (Rl 0 h rfl (ty2.ldS rfl) (Rg 3 rfl ?_))
 cases q6 : ((e.value.n : Int) == 0)
 exact Rg 11 rfl (Rz h fun h => Cr ⟨.inr rfl, _, rfl, rfl, rfl⟩)
 refine Rf fi29_2 rfl (Rl 0 h rfl (ty27.ldS rfl) (Rs rfl (fun _ => op_ext (d := D.c (.int .u64 e.value.f)) rfl rfl c70 rfl rfl rfl) (Rg 3 rfl ?_)))
 cases q7 : (((e.value.f : Int) : Int) == 0)
 exact Rg 5 rfl (Rz h fun h => Cr ⟨.inr rfl, _, rfl, rfl, rfl⟩)
 exact Rf fi29_3 rfl (Rl 0 h rfl (ty9.ldS rfl) (Rg 3 rfl (Rz h fun h => Cr ⟨.inr rfl, _, rfl, rfl, rfl⟩)))
noncomputable def H28 : List D → R D := mkH (L1 (dR Exr.row)) (fun x => Exr.ok x) (fun x => dB (m28 x))
theorem i28 : InjE (L1 (dR Exr.row)) := j1 (jR Exr.rinj)
def m36 (c : Int) : Bool := (bif ((c : Int) == 95) then true else (bif decide ((c : Int) ≥ 97) then (decide ((c : Int) ≤ 122)) else false))
theorem m36_ev  (c : Int)  : ∃ d σ', Ev (EE S) 36 [dU .u8 c] St.empty d σ' ∧ plain d = true ∧ strip d = dB (m36 c) := by
 unfold m36
 have h : Ko 0 St.empty [] [] := Ko.empty
 refine Ev.wp (E := EE S) (fn := Tryz.f36) (nt := 13) Tryz.func36 rfl rfl (Ck h fun _ _ h => Rg 1 rfl (Rz h fun h => Ck h fun _ _ h => Rg 3 rfl ?_))
 cases q1 : ((c : Int) == 95)
 refine Rg 3 rfl ?_
 cases q2 : decide ((c : Int) ≥ 97)
 exact Rg 5 rfl (Rz h fun h => Cr ⟨.inr rfl, _, rfl, rfl, rfl⟩)
 exact Rg 5 rfl (Rz h fun h => Cr ⟨.inr rfl, _, rfl, rfl, rfl⟩)
 exact Rg 8 rfl (Rz h fun h => Cr ⟨.inr rfl, _, rfl, rfl, rfl⟩)
noncomputable def H36 : List D → R D := mkH (L1 (dU .u8)) (fun _ => True) (fun x => dB (m36 x))
theorem i36 : InjE (L1 (dU .u8)) := j1 jU
def m38 (c : Int) : Bool := (bif decide ((c : Int) ≥ 48) then (decide ((c : Int) ≤ 57)) else false)
theorem m38_ev  (c : Int)  : ∃ d σ', Ev (EE S) 38 [dU .u8 c] St.empty d σ' ∧ plain d = true ∧ strip d = dB (m38 c) := by
 unfold m38
 have h : Ko 0 St.empty [] [] := Ko.empty
 refine Ev.wp (E := EE S) (fn := Tryz.f38) (nt := 9) Tryz.func38 rfl rfl (Ck h fun _ _ h => Rg 1 rfl (Rz h fun h => Ck h fun _ _ h => Rg 3 rfl ?_))
 cases q1 : decide ((c : Int) ≥ 48)
 exact Rg 4 rfl (Rz h fun h => Cr ⟨.inr rfl, _, rfl, rfl, rfl⟩)
 exact Rg 4 rfl (Rz h fun h => Cr ⟨.inr rfl, _, rfl, rfl, rfl⟩)
noncomputable def H38 : List D → R D := mkH (L1 (dU .u8)) (fun _ => True) (fun x => dB (m38 x))
theorem i38 : InjE (L1 (dU .u8)) := j1 jU
noncomputable def cm85_l1 : Code := (cl (cr (cl (cr (bodyOf Tryz.f85)))))
def m85_l1 (l : (List Int)) (v : Int) : Nat → Nat → Lo Unit Int
 | 0, _ => .on ()
 | rem1 + 1, i1 => (bif ((v : Int) == l.getD i1 default) then .out ((i1 : Nat) : Int) else m85_l1 l v rem1 (i1 + 1) )
def m85 (l : (List Int)) (v : Int) : Int := (match m85_l1 l v l.length 0  with | .out r => r | .on _ => (-1))
theorem m85_ev  (l : (List Int)) (v : Int)  (h_l : (okL okI) l) : ∃ d σ', Ev (EE S) 85 [dL encI l, dI v] St.empty d σ' ∧ plain d = true ∧ strip d = dI (m85 l v) := by
 unfold m85
 have h : Ko 0 St.empty [] [] := Ko.empty
 refine Ev.wp (E := EE S) (fn := Tryz.f85) (nt := 19) Tryz.func85 rfl rfl (Ck h fun _ _ h => Rg 1 rfl (Rz h fun h => Cs (Ck h fun _ _ h => Rg 1 rfl (Re Tryz.underlying23 rfl (Rg 1 rfl (Rz h fun h => Cb ?_))))))
 have hl1 : ∀ (rem1 i1 : Nat) (fr : Nat → D) (σ : St), i1 + rem1 = l.length → fr 0 = dL encI l → fr 1 = dI v → fr 7 = dN l.length → fr 8 = dN i1 → Ko 0 σ [] [] → Cw (EE S) cm85_l1 19 fr σ (fun oX gX sX => match m85_l1 l v rem1 i1  with | .on _ => oX = some (some 0) ∧ Ko 0 sX [] [] | .out r => Ou S Tryz.f85 (fun d _ => plain d = true ∧ strip d = dI r) oX gX sX) := by
  intro rem1
  induction rem1
  intro i1   fr σ hi  e0 e1 e7 e8 h
  have hlt1 : decide ((((i1 : Nat) : Int) : Int) < ((l.length : Nat) : Int)) = false := decF (by omega)
  rw [pin e0, pin e1, pin e7, pin e8]
  rw [m85_l1]
  exact Co (Ck h fun _ _ h => Rs rfl (fun _ => op_lss_int rfl rfl hlt1) (Rz h fun h => Cs (Cf rfl (Cw.exit (an2 rfl h)))))
  rename_i rem1 ih
  intro i1   fr σ hi  e0 e1 e7 e8 h
  have hlt1 : decide ((((i1 : Nat) : Int) : Int) < ((l.length : Nat) : Int)) = true := decT (by omega)
  have hil1 : i1 < l.length := by omega
  have hbq1 := okL_len h_l
  rw [pin e0, pin e1, pin e7, pin e8]
  rw [m85_l1]
  refine Co (Ck h fun _ _ h => Rs rfl (fun _ => op_lss_int rfl rfl hlt1) (Rz h fun h => Cs (Ct rfl (Ci (Cs (Cb (Ck h fun _ _ h => Rg 2 rfl (Rz h fun h => Ck h fun _ _ h => Rg 3 rfl (Rs rfl (fun _ => op_ix (n := i1) rfl rfl rfl Tryz.underlying23 ty3.hn (at_map hil1) rfl) (Rc (at_map hil1) ty3 rfl (Rg 1 rfl (Rz h fun h => ?_))))))))))))
  cases q1 : ((v : Int) == l.getD i1 default)
  exact Cf rfl (Ci (Cw.regionK h fun _ _ h => Rs rfl (fun _ => op_add_int (v := ((i1 + 1 : Nat) : Int)) rfl rfl (wrap_one (by omega))) (Rg 1 rfl (Rz h fun h => ih (i1 + 1)   _ _ (by omega)  rfl rfl rfl rfl h))))
  exact Ct rfl (Ck h fun _ _ h => Rg 2 rfl (Rz h fun h => Cr (And.intro rfl (Exists.intro _ (an3 rfl rfl rfl)))))
 refine Cw.mono (hl1 l.length 0   _ _ (by omega)  rfl rfl rfl rfl h) ?_
 intro oY gY sY hh
 generalize hzL1 : m85_l1 l v l.length 0  = zZ at hh ⊢
 rcases zZ with vZ | rZ
 dsimp only
 obtain ⟨rfl, h⟩ := hh
 have hbd1 := okL_len h_l
 exact Ck h fun _ _ h => Rg 1 rfl (Rz h fun h => Cr ⟨.inr rfl, _, rfl, rfl, rfl⟩)
 obtain ⟨rfl, w⟩ := hh
 exact ⟨.inr rfl, w⟩
noncomputable def H85 : List D → R D := mkH (L2 (dL encI) dI) (fun x => (okL okI) x.1) (fun x => dI (m85 x.1 x.2))
theorem i85 : InjE (L2 (dL encI) dI) := j2 (jL encI_inj) jI
def m52 (l : (List Int)) (v : Int) : Bool := (decide (((m85 l v) : Int) ≥ 0))
theorem m52_ev  (c85 : S 85 = some H85) (l : (List Int)) (v : Int)  (h_l : (okL okI) l) : ∃ d σ', Ev (EE S) 52 [dL encI l, dI v] St.empty d σ' ∧ plain d = true ∧ strip d = dB (m52 l v) := by
 unfold m52
 have h : Ko 0 St.empty [] [] := Ko.empty
 exact Ev.wp (E := EE S) (fn := Tryz.f52) (nt := 9) Tryz.func52 rfl rfl (Ck h fun _ _ h => Rg 1 rfl (Rz h fun h => Ck h fun _ _ h => Rg 2 rfl (Rs rfl (fun _ => op_call (d := dI (m85 l v)) rfl rfl c85 rfl (He i85 (l, v) h_l rfl)) (Rg 2 rfl (Rz h fun h => Cr ⟨.inr rfl, _, rfl, rfl, rfl⟩)))))
noncomputable def H52 : List D → R D := mkH (L2 (dL encI) dI) (fun x => (okL okI) x.1) (fun x => dB (m52 x.1 x.2))
theorem i52 : InjE (L2 (dL encI) dI) := j2 (jL encI_inj) jI
noncomputable def cm155_l1 : Code := (cl (cr (cl (cr (bodyOf Tryz.f155)))))
def m155_l1 (l : (List ByteArray)) (v : ByteArray) : Nat → Nat → Lo Unit Int
 | 0, _ => .on ()
 | rem1 + 1, i1 => (bif (ByteArray.toList v == ByteArray.toList (l.getD i1 default)) then .out ((i1 : Nat) : Int) else m155_l1 l v rem1 (i1 + 1) )
def m155 (l : (List ByteArray)) (v : ByteArray) : Int := (match m155_l1 l v l.length 0  with | .out r => r | .on _ => (-1))
theorem m155_ev  (l : (List ByteArray)) (v : ByteArray)  (h_l : (okL okS) l) (h_v : okS v) : ∃ d σ', Ev (EE S) 155 [dL encS l, dS v] St.empty d σ' ∧ plain d = true ∧ strip d = dI (m155 l v) := by
 unfold m155
 have h : Ko 0 St.empty [] [] := Ko.empty
 refine Ev.wp (E := EE S) (fn := Tryz.f155) (nt := 19) Tryz.func155 rfl rfl (Ck h fun _ _ h => Rg 1 rfl (Rz h fun h => Cs (Ck h fun _ _ h => Rg 1 rfl (Re Tryz.underlying97 rfl (Rg 1 rfl (Rz h fun h => Cb ?_))))))
 have hl1 : ∀ (rem1 i1 : Nat) (fr : Nat → D) (σ : St), i1 + rem1 = l.length → fr 0 = dL encS l → fr 1 = dS v → fr 7 = dN l.length → fr 8 = dN i1 → Ko 0 σ [] [] → Cw (EE S) cm155_l1 19 fr σ (fun oX gX sX => match m155_l1 l v rem1 i1  with | .on _ => oX = some (some 0) ∧ Ko 0 sX [] [] | .out r => Ou S Tryz.f155 (fun d _ => plain d = true ∧ strip d = dI r) oX gX sX) := by
  intro rem1
  induction rem1
  intro i1   fr σ hi  e0 e1 e7 e8 h
  have hlt1 : decide ((((i1 : Nat) : Int) : Int) < ((l.length : Nat) : Int)) = false := decF (by omega)
  rw [pin e0, pin e1, pin e7, pin e8]
  rw [m155_l1]
  exact Co (Ck h fun _ _ h => Rs rfl (fun _ => op_lss_int rfl rfl hlt1) (Rz h fun h => Cs (Cf rfl (Cw.exit (an2 rfl h)))))
  rename_i rem1 ih
  intro i1   fr σ hi  e0 e1 e7 e8 h
  have hlt1 : decide ((((i1 : Nat) : Int) : Int) < ((l.length : Nat) : Int)) = true := decT (by omega)
  have hil1 : i1 < l.length := by omega
  have hbq1 := okL_len h_l
  rw [pin e0, pin e1, pin e7, pin e8]
  rw [m155_l1]
  refine Co (Ck h fun _ _ h => Rs rfl (fun _ => op_lss_int rfl rfl hlt1) (Rz h fun h => Cs (Ct rfl (Ci (Cs (Cb (Ck h fun _ _ h => Rg 2 rfl (Rz h fun h => Ck h fun _ _ h => Rg 3 rfl (Rs rfl (fun _ => op_ix (n := i1) rfl rfl rfl Tryz.underlying97 ty9.hn (at_map hil1) rfl) (Rc (at_map hil1) ty9 rfl (Rg 1 rfl (Rz h fun h => ?_))))))))))))
  cases q1 : (ByteArray.toList v == ByteArray.toList (l.getD i1 default))
  exact Cf rfl (Ci (Cw.regionK h fun _ _ h => Rs rfl (fun _ => op_add_int (v := ((i1 + 1 : Nat) : Int)) rfl rfl (wrap_one (by omega))) (Rg 1 rfl (Rz h fun h => ih (i1 + 1)   _ _ (by omega)  rfl rfl rfl rfl h))))
  exact Ct rfl (Ck h fun _ _ h => Rg 2 rfl (Rz h fun h => Cr (And.intro rfl (Exists.intro _ (an3 rfl rfl rfl)))))
 refine Cw.mono (hl1 l.length 0   _ _ (by omega)  rfl rfl rfl rfl h) ?_
 intro oY gY sY hh
 generalize hzL1 : m155_l1 l v l.length 0  = zZ at hh ⊢
 rcases zZ with vZ | rZ
 dsimp only
 obtain ⟨rfl, h⟩ := hh
 have hbd1 := okL_len h_l
 exact Ck h fun _ _ h => Rg 1 rfl (Rz h fun h => Cr ⟨.inr rfl, _, rfl, rfl, rfl⟩)
 obtain ⟨rfl, w⟩ := hh
 exact ⟨.inr rfl, w⟩
noncomputable def H155 : List D → R D := mkH (L2 (dL encS) dS) (fun x => (okL okS) x.1 ∧ okS x.2) (fun x => dI (m155 x.1 x.2))
theorem i155 : InjE (L2 (dL encS) dS) := j2 (jL encS_inj) jS
def m134 (l : (List ByteArray)) (v : ByteArray) : Bool := (decide (((m155 l v) : Int) ≥ 0))
theorem m134_ev  (c155 : S 155 = some H155) (l : (List ByteArray)) (v : ByteArray)  (h_l : (okL okS) l) (h_v : okS v) : ∃ d σ', Ev (EE S) 134 [dL encS l, dS v] St.empty d σ' ∧ plain d = true ∧ strip d = dB (m134 l v) := by
 unfold m134
 have h : Ko 0 St.empty [] [] := Ko.empty
 exact Ev.wp (E := EE S) (fn := Tryz.f134) (nt := 9) Tryz.func134 rfl rfl (Ck h fun _ _ h => Rg 1 rfl (Rz h fun h => Ck h fun _ _ h => Rg 2 rfl (Rs rfl (fun _ => op_call (d := dI (m155 l v)) rfl rfl c155 rfl (He i155 (l, v) ⟨h_l, h_v⟩ rfl)) (Rg 2 rfl (Rz h fun h => Cr ⟨.inr rfl, _, rfl, rfl, rfl⟩)))))
noncomputable def H134 : List D → R D := mkH (L2 (dL encS) dS) (fun x => (okL okS) x.1 ∧ okS x.2) (fun x => dB (m134 x.1 x.2))
theorem i134 : InjE (L2 (dL encS) dS) := j2 (jL encS_inj) jS
noncomputable def cm39_l1 : Code := (cl (cr (cl (cr (bodyOf Tryz.f39)))))
def m39_l1 (t : Tbl) (l : (List Int)) : Nat → Nat → Lo Unit Bool
 | 0, _ => .on ()
 | rem1 + 1, i1 => (bif decide ((l.getD i1 default : Int) < 0) then .out false else (bif decide ((l.getD i1 default : Int) ≥ ((t.columns.length : Nat) : Int)) then .out false else (bif (m52 (l.take i1) (l.getD i1 default)) then .out false else m39_l1 t l rem1 (i1 + 1) )))
def m39 (t : Tbl) (l : (List Int)) : Bool := (match m39_l1 t l l.length 0  with | .out r => r | .on _ => true)
theorem m39_ev  (c52 : S 52 = some H52) (t : Tbl) (l : (List Int))  (h_t : Tbl.ok t) (h_l : (okL okI) l) : ∃ d σ', Ev (EE S) 39 [dR Tbl.enc t, dL encI l] St.empty d σ' ∧ plain d = true ∧ strip d = dB (m39 t l) := by
 unfold m39
 have h : Ko 0 St.empty [] [] := Ko.empty
 refine Ev.wp (E := EE S) (fn := Tryz.f39) (nt := 31) Tryz.func39 rfl rfl (Ck h fun _ _ h => Rw.bx (d := dR Tbl.enc t) h (Nat.le_add_right _ 0) rfl rfl rfl rfl rfl rfl fun b1 _ h => Rg 1 rfl (Rw.nilK h (Nat.add_le_add_left (by decide : 1 ≤ 2) _) fun h => Cs (Ck h fun _ _ h => Rg 1 rfl (Re Tryz.underlying23 rfl (Rg 1 rfl (Rz h fun h => Cb ?_))))))
 have hl1 : ∀ (rem1 i1 : Nat) (fr : Nat → D) (σ : St), i1 + rem1 = l.length → fr 1 = dL encI l → fr 2 = D.ptr b1 0 → fr 7 = dL encI l → fr 8 = dN l.length → fr 9 = dN i1 → Ko 0 σ [(b1, (dC Tbl.enc t))] [] → Cw (EE S) cm39_l1 31 fr σ (fun oX gX sX => match m39_l1 t l rem1 i1  with | .on _ => oX = some (some 0) ∧ Ko 0 sX [(b1, (dC Tbl.enc t))] [] | .out r => Ou S Tryz.f39 (fun d _ => plain d = true ∧ strip d = dB r) oX gX sX) := by
  intro rem1
  induction rem1
  intro i1   fr σ hi  e1 e2 e7 e8 e9 h
  have hlt1 : decide ((((i1 : Nat) : Int) : Int) < ((l.length : Nat) : Int)) = false := decF (by omega)
  rw [pin e1, pin e2, pin e7, pin e8, pin e9]
  rw [m39_l1]
  exact Co (Ck h fun _ _ h => Rs rfl (fun _ => op_lss_int rfl rfl hlt1) (Rz h fun h => Cs (Cf rfl (Cw.exit (an2 rfl h)))))
  rename_i rem1 ih
  intro i1   fr σ hi  e1 e2 e7 e8 e9 h
  have hlt1 : decide ((((i1 : Nat) : Int) : Int) < ((l.length : Nat) : Int)) = true := decT (by omega)
  have hil1 : i1 < l.length := by omega
  have hbq1 := okL_len h_l
  rw [pin e1, pin e2, pin e7, pin e8, pin e9]
  rw [m39_l1]
  refine Co (Ck h fun _ _ h => Rs rfl (fun _ => op_lss_int rfl rfl hlt1) (Rz h fun h => Cs (Ct rfl (Ci (Cs (Cb (Ck h fun _ _ h => Rg 1 rfl (Rs rfl (fun _ => op_ix (n := i1) rfl rfl rfl Tryz.underlying23 ty3.hn (at_map hil1) rfl) (Rc (at_map hil1) ty3 rfl (Rg 2 rfl (Rz h fun h => Ck h fun _ _ h => Rg 3 rfl ?_)))))))))))
  cases q1 : decide ((l.getD i1 default : Int) < 0)
  refine Rg 1 rfl (Rf fi39_1 rfl (Rl 0 h rfl (ty35.ldS rfl) (Re Tryz.underlying35 rfl (Rg 3 rfl ?_))))
  cases q2 : decide ((l.getD i1 default : Int) ≥ ((t.columns.length : Nat) : Int))
  refine Rg 2 rfl (Rs rfl (fun _ => op_slH (l := l) (h := i1) rfl rfl Tryz.underlying23 ty3.hn rfl (by omega) (fun _ => rfl)) (Rg 1 rfl (Rs rfl (fun _ => op_call (d := dB (m52 (l.take i1) (l.getD i1 default))) rfl rfl c52 rfl (He i52 ((l.take i1), (l.getD i1 default)) (okL_take h_l) rfl)) (Rg 1 rfl (Rz h fun h => ?_)))))
  cases q3 : (m52 (l.take i1) (l.getD i1 default))
  exact Cf rfl (Ci (Cw.regionK h fun _ _ h => Rs rfl (fun _ => op_add_int (v := ((i1 + 1 : Nat) : Int)) rfl rfl (wrap_one (by omega))) (Rg 1 rfl (Rz h fun h => ih (i1 + 1)   _ _ (by omega)  rfl rfl rfl rfl rfl h))))
  exact Ct rfl (Ck h fun _ _ h => Rg 1 rfl (Rz h fun h => Cr (And.intro rfl (Exists.intro _ (an3 rfl rfl rfl)))))
  exact Rg 6 rfl (Rz h fun h => Ct rfl (Ck h fun _ _ h => Rg 1 rfl (Rz h fun h => Cr (And.intro rfl (Exists.intro _ (an3 rfl rfl rfl))))))
  exact Rg 13 rfl (Rz h fun h => Ct rfl (Ck h fun _ _ h => Rg 1 rfl (Rz h fun h => Cr (And.intro rfl (Exists.intro _ (an3 rfl rfl rfl))))))
 refine Cw.mono (hl1 l.length 0   _ _ (by omega)  rfl rfl rfl rfl rfl h) ?_
 intro oY gY sY hh
 generalize hzL1 : m39_l1 t l l.length 0  = zZ at hh ⊢
 rcases zZ with vZ | rZ
 dsimp only
 obtain ⟨rfl, h⟩ := hh
 have hbd1 := okL_len h_l
 exact Ck h fun _ _ h => Rg 1 rfl (Rz h fun h => Cr ⟨.inr rfl, _, rfl, rfl, rfl⟩)
 obtain ⟨rfl, w⟩ := hh
 exact ⟨.inr rfl, w⟩
noncomputable def H39 : List D → R D := mkH (L2 (dR Tbl.enc) (dL encI)) (fun x => Tbl.ok x.1 ∧ (okL okI) x.2) (fun x => dB (m39 x.1 x.2))
theorem i39 : InjE (L2 (dR Tbl.enc) (dL encI)) := j2 (jR Tbl.inj) (jL encI_inj)
noncomputable def cm31_l1 : Code := (cl (cr (cl (cr (cr (bodyOf Tryz.f31))))))
def m31_l1 (t : Tbl) (l : (List Int)) : Nat → Nat → Lo Unit Bool
 | 0, _ => .on ()
 | rem1 + 1, i1 => (bif decide ((l.getD i1 default : Int) < 0) then .out false else (bif decide ((l.getD i1 default : Int) ≥ ((t.columns.length : Nat) : Int)) then .out false else (bif (m52 (l.take i1) (l.getD i1 default)) then .out false else m31_l1 t l rem1 (i1 + 1) )))
def m31 (t : Tbl) (l : (List Int)) : Bool := (bif decide ((((l.length : Nat) : Int) : Int) < 1) then false else (bif decide ((((l.length : Nat) : Int) : Int) > 64) then false else (match m31_l1 t l l.length 0  with | .out r => r | .on _ => true)))
theorem m31_ev  (c52 : S 52 = some H52) (t : Tbl) (l : (List Int))  (h_t : Tbl.ok t) (h_l : (okL okI) l) : ∃ d σ', Ev (EE S) 31 [dR Tbl.enc t, dL encI l] St.empty d σ' ∧ plain d = true ∧ strip d = dB (m31 t l) := by
 unfold m31
 have h : Ko 0 St.empty [] [] := Ko.empty
 refine Ev.wp (E := EE S) (fn := Tryz.f31) (nt := 39) Tryz.func31 rfl rfl (Ck h fun _ _ h => Rw.bx (d := dR Tbl.enc t) h (Nat.le_add_right _ 0) rfl rfl rfl rfl rfl rfl fun b1 _ h => Rg 1 rfl (Rw.nilK h (Nat.add_le_add_left (by decide : 1 ≤ 2) _) fun h => Cs (Ck h fun _ _ h => Rg 1 rfl (Re Tryz.underlying23 rfl (Rg 2 rfl ?_)))))
 cases q1 : decide ((((l.length : Nat) : Int) : Int) < 1)
 have p1 := of_decide_eq_false q1
 refine Rg 1 rfl (Re Tryz.underlying23 rfl (Rg 2 rfl (Rz h fun h => ?_)))
 cases q2 : decide ((((l.length : Nat) : Int) : Int) > 64)
 have p2 := of_decide_eq_false q2
 refine Cf rfl (Ci (Cs (Ck h fun _ _ h => Rg 1 rfl (Re Tryz.underlying23 rfl (Rg 1 rfl (Rz h fun h => Cb ?_))))))
 have hl1 : ∀ (rem1 i1 : Nat) (fr : Nat → D) (σ : St), i1 + rem1 = l.length → fr 1 = dL encI l → fr 2 = D.ptr b1 0 → fr 15 = dL encI l → fr 16 = dN l.length → fr 17 = dN i1 → Ko 0 σ [(b1, (dC Tbl.enc t))] [] → Cw (EE S) cm31_l1 39 fr σ (fun oX gX sX => match m31_l1 t l rem1 i1  with | .on _ => oX = some (some 0) ∧ Ko 0 sX [(b1, (dC Tbl.enc t))] [] | .out r => Ou S Tryz.f31 (fun d _ => plain d = true ∧ strip d = dB r) oX gX sX) := by
  intro rem1
  induction rem1
  intro i1   fr σ hi  e1 e2 e15 e16 e17 h
  have hlt1 : decide ((((i1 : Nat) : Int) : Int) < ((l.length : Nat) : Int)) = false := decF (by omega)
  rw [pin e1, pin e2, pin e15, pin e16, pin e17]
  rw [m31_l1]
  exact Co (Ck h fun _ _ h => Rs rfl (fun _ => op_lss_int rfl rfl hlt1) (Rz h fun h => Cs (Cf rfl (Cw.exit (an2 rfl h)))))
  rename_i rem1 ih
  intro i1   fr σ hi  e1 e2 e15 e16 e17 h
  have hlt1 : decide ((((i1 : Nat) : Int) : Int) < ((l.length : Nat) : Int)) = true := decT (by omega)
  have hil1 : i1 < l.length := by omega
  have hbq1 := okL_len h_l
  rw [pin e1, pin e2, pin e15, pin e16, pin e17]
  rw [m31_l1]
  refine Co (Ck h fun _ _ h => Rs rfl (fun _ => op_lss_int rfl rfl hlt1) (Rz h fun h => Cs (Ct rfl (Ci (Cs (Cb (Ck h fun _ _ h => Rg 1 rfl (Rs rfl (fun _ => op_ix (n := i1) rfl rfl rfl Tryz.underlying23 ty3.hn (at_map hil1) rfl) (Rc (at_map hil1) ty3 rfl (Rg 2 rfl (Rz h fun h => Ck h fun _ _ h => Rg 3 rfl ?_)))))))))))
  cases q3 : decide ((l.getD i1 default : Int) < 0)
  have p3 := of_decide_eq_false q3
  refine Rg 1 rfl (Rf fi39_1 rfl (Rl 0 h rfl (ty35.ldS rfl) (Re Tryz.underlying35 rfl (Rg 3 rfl ?_))))
  cases q4 : decide ((l.getD i1 default : Int) ≥ ((t.columns.length : Nat) : Int))
  have p4 := of_decide_eq_false q4
  refine Rg 2 rfl (Rs rfl (fun _ => op_slH (l := l) (h := i1) rfl rfl Tryz.underlying23 ty3.hn rfl (by omega) (fun _ => rfl)) (Rg 1 rfl (Rs rfl (fun _ => op_call (d := dB (m52 (l.take i1) (l.getD i1 default))) rfl rfl c52 rfl (He i52 ((l.take i1), (l.getD i1 default)) (okL_take h_l) rfl)) (Rg 1 rfl (Rz h fun h => ?_)))))
  cases q5 : (m52 (l.take i1) (l.getD i1 default))
  exact Cf rfl (Ci (Cw.regionK h fun _ _ h => Rs rfl (fun _ => op_add_int (v := ((i1 + 1 : Nat) : Int)) rfl rfl (wrap_one (by omega))) (Rg 1 rfl (Rz h fun h => ih (i1 + 1)   _ _ (by omega)  rfl rfl rfl rfl rfl h))))
  exact Ct rfl (Ck h fun _ _ h => Rg 1 rfl (Rz h fun h => Cr (And.intro rfl (Exists.intro _ (an3 rfl rfl rfl)))))
  have p4 := of_decide_eq_true q4
  exact Rg 6 rfl (Rz h fun h => Ct rfl (Ck h fun _ _ h => Rg 1 rfl (Rz h fun h => Cr (And.intro rfl (Exists.intro _ (an3 rfl rfl rfl))))))
  have p3 := of_decide_eq_true q3
  exact Rg 13 rfl (Rz h fun h => Ct rfl (Ck h fun _ _ h => Rg 1 rfl (Rz h fun h => Cr (And.intro rfl (Exists.intro _ (an3 rfl rfl rfl))))))
 refine Cw.mono (hl1 l.length 0   _ _ (by omega)  rfl rfl rfl rfl rfl h) ?_
 intro oY gY sY hh
 generalize hzL1 : m31_l1 t l l.length 0  = zZ at hh ⊢
 rcases zZ with vZ | rZ
 dsimp only
 obtain ⟨rfl, h⟩ := hh
 have hbd1 := okL_len h_l
 exact Ck h fun _ _ h => Rg 1 rfl (Rz h fun h => Cr ⟨.inr rfl, _, rfl, rfl, rfl⟩)
 obtain ⟨rfl, w⟩ := hh
 exact ⟨.inr rfl, w⟩
 have p2 := of_decide_eq_true q2
 exact Ct rfl (Ck h fun _ _ h => Rg 1 rfl (Rz h fun h => Cr ⟨.inr rfl, _, rfl, rfl, rfl⟩))
 have p1 := of_decide_eq_true q1
 exact Rg 4 rfl (Rz h fun h => Ct rfl (Ck h fun _ _ h => Rg 1 rfl (Rz h fun h => Cr ⟨.inr rfl, _, rfl, rfl, rfl⟩)))
noncomputable def H31 : List D → R D := mkH (L2 (dR Tbl.enc) (dL encI)) (fun x => Tbl.ok x.1 ∧ (okL okI) x.2) (fun x => dB (m31 x.1 x.2))
theorem i31 : InjE (L2 (dR Tbl.enc) (dL encI)) := j2 (jR Tbl.inj) (jL encI_inj)
noncomputable def cm40_l1 : Code := (cl (cr (cl (cr (cr (cr (bodyOf Tryz.f40)))))))
def m40_l1 (t : Tbl) (q : Qry) : Nat → Nat → (List Int) → Lo (List Int) (List Int)
 | 0, _, yl1_a1 => .on yl1_a1
 | rem1 + 1, i1, yl1_a1 => m40_l1 t q rem1 (i1 + 1) (yl1_a1 ++ ([((i1 : Nat) : Int)]))
def m40 (t : Tbl) (q : Qry) : (List Int) := (bif decide ((((q.columns.length : Nat) : Int) : Int) > 0) then q.columns else (match m40_l1 t q t.columns.length 0 ([]) with | .out r => r | .on yl1_a1 => yl1_a1))
theorem m40_ev  (t : Tbl) (q : Qry)  (h_t : Tbl.ok t) (h_q : Qry.ok q) : ∃ d σ', Ev (EE S) 40 [dR Tbl.enc t, dR Qry.enc q] St.empty d σ' ∧ plain d = true ∧ nrmT (strip d) = dL encI (m40 t q) := by
 unfold m40
 have h : Ko 0 St.empty [] [] := Ko.empty
 refine Ev.wp (E := EE S) (fn := Tryz.f40) (nt := 25) Tryz.func40 rfl rfl (Ck h fun _ _ h => Rw.bx (d := dR Tbl.enc t) h (Nat.le_add_right _ 0) rfl rfl rfl rfl rfl rfl fun b1 _ h => Rw.bx (d := dR Qry.enc q) h (Nat.le_add_right _ 0) rfl rfl rfl rfl rfl rfl fun b2 _ h => Rg 1 rfl (Rw.nilK h (Nat.add_le_add_left (by decide : 2 ≤ 3) _) fun h => Cs (Ck h fun _ _ h => Rf fi41_2 rfl (Rl 0 h rfl (ty23.ldS rfl) (Re Tryz.underlying23 rfl (Rg 1 rfl (Rz h fun h => ?_)))))))
 cases q1 : decide ((((q.columns.length : Nat) : Int) : Int) > 0)
 refine Cf rfl (Ci (Ck h fun _ _ h => Rg 1 rfl ?_))
 replace h := h.newAc (([] : (List Int)).map encI) 1
 refine Rz h fun h => Cs (Ck h fun _ _ h => Rf fi39_1 rfl (Rl 1 h rfl (ty35.ldS rfl) (Re Tryz.underlying35 rfl (Rg 1 rfl (Rz h fun h => Cb ?_)))))
 have hl1 : ∀ (rem1 i1 : Nat) (yl1_a1 : (List Int)) (el1_a1 : D) (fr : Nat → D) (σ : St), i1 + rem1 = t.columns.length → yl1_a1.length ≤ i1 → fr 5 = el1_a1 → fr 15 = dN t.columns.length → fr 16 = dN i1 → Ko 0 σ [(b2, (dC Qry.enc q)), (b1, (dC Tbl.enc t))] [(el1_a1, (yl1_a1).map encI, 1)] → Cw (EE S) cm40_l1 25 fr σ (fun oX gX sX => match m40_l1 t q rem1 i1 yl1_a1 with | .on yl1_a1 => ∃ el1_a1, oX = some (some 0) ∧ yl1_a1.length ≤ t.columns.length ∧ gX 5 = el1_a1 ∧ Ko 0 sX [(b2, (dC Qry.enc q)), (b1, (dC Tbl.enc t))] [(el1_a1, (yl1_a1).map encI, 1)] | .out r => Ou S Tryz.f40 (fun d _ => plain d = true ∧ nrmT (strip d) = dL encI r) oX gX sX) := by
  intro rem1
  induction rem1
  intro i1 yl1_a1 el1_a1 fr σ hi nyl1_a1 e5 e15 e16 h
  have hlt1 : decide ((((i1 : Nat) : Int) : Int) < ((t.columns.length : Nat) : Int)) = false := decF (by omega)
  rw [pin e5, pin e15, pin e16]
  rw [m40_l1]
  exact Co (Ck h fun _ _ h => Rs rfl (fun _ => op_lss_int rfl rfl hlt1) (Rz h fun h => Cs (Cf rfl (Cw.exit (Exists.intro el1_a1 (an4 rfl (by omega) rfl h))))))
  rename_i rem1 ih
  intro i1 yl1_a1 el1_a1 fr σ hi nyl1_a1 e5 e15 e16 h
  have hlt1 : decide ((((i1 : Nat) : Int) : Int) < ((t.columns.length : Nat) : Int)) = true := decT (by omega)
  have hil1 : i1 < t.columns.length := by omega
  have hbq1 := okL_len (Tbl.ok_columns h_t)
  rw [pin e5, pin e15, pin e16]
  rw [m40_l1]
  refine Co (Ck h fun _ _ h => Rs rfl (fun _ => op_lss_int rfl rfl hlt1) (Rz h fun h => Cs (Ct rfl (Ci (Cs (Cb (Ck h fun _ _ h => Rg 2 rfl (Rz h fun h => Cw.regionK h fun _ _ h => Rs rfl (fun _ => op_move rfl) (Rg 1 rfl (Rs rfl (fun _ => op_bs (xs := ([((i1 : Nat) : Int)] : List Int).map encI) Tryz.underlying23 ty3.hn (z3 (S := S)) rfl rfl rfl rfl rfl) (Rw.ap (j := 0) (ys := ([((i1 : Nat) : Int)]).map encI) h (Nat.le_add_right _ 3) rfl rfl rfl rfl rfl rfl rfl rfl (room_mk Tryz.underlying23 (if3 (S := S)) (z3 (S := S)) rfl rfl rfl rfl (by simp only [List.length_map, List.length_cons, List.length_nil]; omega)) (heads_map _ (fun _ => rfl)) rfl fun d1 _ h => ?_)))))))))))
  simp only [List.set_cons_zero, ← List.map_append] at h
  exact Rs rfl (fun _ => op_assign rfl) (Rw.nilK h (Nat.add_le_add_left (by decide : 4 ≤ 5) _) fun h => Cw.regionK h fun _ _ h => Rs rfl (fun _ => op_add_int (v := ((i1 + 1 : Nat) : Int)) rfl rfl (wrap_one (by omega))) (Rg 1 rfl (Rz h fun h => ih (i1 + 1) (yl1_a1 ++ ([((i1 : Nat) : Int)])) _ _ _ (by omega) (by simp only [List.length_append, List.length_cons, List.length_nil]; omega) rfl rfl rfl h)))
 refine Cw.mono (hl1 t.columns.length 0 ([]) _ _ _ (by omega) (by simp) rfl rfl rfl h) ?_
 intro oY gY sY hh
 generalize hzL1 : m40_l1 t q t.columns.length 0 ([]) = zZ at hh ⊢
 rcases zZ with yl1_a1 | rZ
 dsimp only
 obtain ⟨el1_a1, rfl, nyl1_a1, e5, h⟩ := hh
 rw [pin e5]
 have hbd1 := okL_len (Tbl.ok_columns h_t)
 exact Ck h fun _ _ h => Rs rfl (fun _ => op_move rfl) (Rs rfl (fun _ => op_assign rfl) (Rz h fun h => Cr ⟨.inr rfl, _, rfl, (h.ac _ (List.mem_of_getElem? (i := 0) rfl)).fin⟩))
 obtain ⟨rfl, w⟩ := hh
 exact ⟨.inr rfl, w⟩
 exact Ct rfl (Ck h fun _ _ h => Rf fi41_2 rfl (Rl 0 h rfl (ty23.ldS rfl) (Rg 1 rfl (Rz h fun h => Cr ⟨.inr rfl, _, rfl, rfl, rfl⟩))))
noncomputable def H40 : List D → R D := mkH (L2 (dR Tbl.enc) (dR Qry.enc)) (fun x => Tbl.ok x.1 ∧ Qry.ok x.2) (fun x => dL encI (m40 x.1 x.2))
theorem i40 : InjE (L2 (dR Tbl.enc) (dR Qry.enc)) := j2 (jR Tbl.inj) (jR Qry.inj)
noncomputable def cm128_l1 : Code := (cl (cr (cl (cr (bodyOf Tryz.f128)))))
def m128_l1 (l : (List Col)) (p : Col → Bool) : Nat → Nat → Lo Unit Int
 | 0, _ => .on ()
 | rem1 + 1, i1 => (bif (p (l.getD i1 default)) then .out ((i1 : Nat) : Int) else m128_l1 l p rem1 (i1 + 1) )
def m128 (l : (List Col)) (p : Col → Bool) : Int := (match m128_l1 l p l.length 0  with | .out r => r | .on _ => (-1))
theorem m128_ev  {lo : Nat} {σ : St} {bs : List (Nat × List D)} {acs : List (D × List (List C) × Nat)} (l : (List Col)) (p : Col → Bool)  (h_l : (okL Col.ok) l) (d_l : D) (r_l : rowsOf d_l = some (l.map Col.enc)) (g : Nat) (cap : List D) (hp : ∀ x : Col, x ∈ l → Col.ok x → ∀ (lo : Nat) (σ : St), Ko lo σ bs acs → ∃ d σ', Ev (EE S) g ([] ++ [dR Col.enc x] ++ cap) σ d σ' ∧ d = dB (p x) ∧ Ko lo σ' bs acs) (hg : S g = none) (hg2 : (EE S).ext g = none) (hne : ∀ x : Col, (([] ++ [dR Col.enc x] ++ cap).all plain1 && !(EE S).inl g) = false) (hcp : plain1 (D.fn g [] cap) = false) (h : Ko lo σ bs acs) : ∃ d σ', Ev (EE S) 128 [d_l, D.fn g [] cap] σ d σ' ∧ d = dI (m128 l p) ∧ Ko lo σ' bs acs := by
 unfold m128
 refine Ev.wp (E := EE S) (fn := Tryz.f128) (nt := 19) Tryz.func128 rfl rfl (Ck h fun _ _ h => Rg 1 rfl (Rz h fun h => Cs (Ck h fun _ _ h => Rs rfl (fun _ => op_move rfl) (Rs rfl (fun _ => op_lenN (n := l.length) rfl Tryz.underlying35 r_l (List.length_map ..)) (Rg 1 rfl (Rz h fun h => Cb ?_))))))
 have hl1 : ∀ (rem1 i1 : Nat) (fr : Nat → D) (σ : St), i1 + rem1 = l.length → fr 0 = d_l → fr 1 = D.fn g [] cap → fr 7 = dN l.length → fr 8 = dN i1 → Ko lo σ (bs) (acs) → Cw (EE S) cm128_l1 19 fr σ (fun oX gX sX => match m128_l1 l p rem1 i1  with | .on _ => oX = some (some 0) ∧ Ko lo sX (bs) (acs) | .out r => Ou S Tryz.f128 (fun d s => d = dI r ∧ Ko lo s bs acs) oX gX sX) := by
  intro rem1
  induction rem1
  intro i1   fr σ hi  e0 e1 e7 e8 h
  have hlt1 : decide ((((i1 : Nat) : Int) : Int) < ((l.length : Nat) : Int)) = false := decF (by omega)
  rw [pin e0, pin e1, pin e7, pin e8]
  rw [m128_l1]
  exact Co (Ck h fun _ _ h => Rs rfl (fun _ => op_lss_int rfl rfl hlt1) (Rz h fun h => Cs (Cf rfl (Cw.exit (an2 rfl h)))))
  rename_i rem1 ih
  intro i1   fr σ hi  e0 e1 e7 e8 h
  have hlt1 : decide ((((i1 : Nat) : Int) : Int) < ((l.length : Nat) : Int)) = true := decT (by omega)
  have hil1 : i1 < l.length := by omega
  have hbq1 := okL_len h_l
  rw [pin e0, pin e1, pin e7, pin e8]
  rw [m128_l1]
  refine Co (Ck h fun _ _ h => Rs rfl (fun _ => op_lss_int rfl rfl hlt1) (Rz h fun h => Cs (Ct rfl (Ci (Cs (Cb (Ck h fun _ _ h => Rg 2 rfl (Rz h fun h => Ck h fun _ _ h => Rs rfl (fun _ => op_move (d := D.fn g [] cap) rfl) (Rs rfl (fun _ => op_move rfl) (Rg 1 rfl (Rs rfl (fun _ => op_ix (n := i1) rfl rfl r_l Tryz.underlying35 ty65.hn (at_map hil1) rfl) (Rs rfl (fun _ => op_ldC (d := dR Col.enc (l.getD i1 default)) rfl (at_map hil1) (ty65.lcA rfl rfl)) ?_))))))))))))
  obtain ⟨dX, sX, hev, rfl, hKX⟩ := hp (l.getD i1 default) (getD_mem hil1) (okL_get h_l Col.zok i1) _ _ (h.ko (Nat.add_le_add_left (by decide : 0 ≤ 6) _))
  refine Rw.on (first := []) (cap := cap) rfl rfl rfl rfl rfl hg hg2 (hne _) hev rfl ?_
  replace h := h.back hKX rfl
  refine Rw.nilK h (Nat.add_le_add_left (by decide : 1 ≤ 6) _) fun h => ?_
  cases q1 : (p (l.getD i1 default))
  exact Cf rfl (Ci (Cw.regionK h fun _ _ h => Rs rfl (fun _ => op_add_int (v := ((i1 + 1 : Nat) : Int)) rfl rfl (wrap_one (by omega))) (Rg 1 rfl (Rz h fun h => ih (i1 + 1)   _ _ (by omega)  rfl rfl rfl rfl h))))
  exact Ct rfl (Ck h fun _ _ h => Rg 2 rfl (Rz h fun h => Cr (And.intro rfl (Exists.intro _ (an3 rfl rfl h)))))
 refine Cw.mono (hl1 l.length 0   _ _ (by omega)  rfl rfl rfl rfl h) ?_
 intro oY gY sY hh
 generalize hzL1 : m128_l1 l p l.length 0  = zZ at hh ⊢
 rcases zZ with vZ | rZ
 dsimp only
 obtain ⟨rfl, h⟩ := hh
 have hbd1 := okL_len h_l
 exact Ck h fun _ _ h => Rg 1 rfl (Rz h fun h => Cr ⟨.inr rfl, _, rfl, rfl, h⟩)
 obtain ⟨rfl, w⟩ := hh
 exact ⟨.inr rfl, w⟩
def m71 (l : (List Col)) (p : Col → Bool) : Bool := (decide (((m128 l p) : Int) ≥ 0))
theorem m71_ev  (n128 : S 128 = none) {lo : Nat} {σ : St} {bs : List (Nat × List D)} {acs : List (D × List (List C) × Nat)} (l : (List Col)) (p : Col → Bool)  (h_l : (okL Col.ok) l) (d_l : D) (r_l : rowsOf d_l = some (l.map Col.enc)) (g : Nat) (cap : List D) (hp : ∀ x : Col, x ∈ l → Col.ok x → ∀ (lo : Nat) (σ : St), Ko lo σ bs acs → ∃ d σ', Ev (EE S) g ([] ++ [dR Col.enc x] ++ cap) σ d σ' ∧ d = dB (p x) ∧ Ko lo σ' bs acs) (hg : S g = none) (hg2 : (EE S).ext g = none) (hne : ∀ x : Col, (([] ++ [dR Col.enc x] ++ cap).all plain1 && !(EE S).inl g) = false) (hcp : plain1 (D.fn g [] cap) = false) (h : Ko lo σ bs acs) : ∃ d σ', Ev (EE S) 71 [d_l, D.fn g [] cap] σ d σ' ∧ d = dB (m71 l p) ∧ Ko lo σ' bs acs := by
 unfold m71
 refine Ev.wp (E := EE S) (fn := Tryz.f71) (nt := 9) Tryz.func71 rfl rfl (Ck h fun _ _ h => Rg 1 rfl (Rz h fun h => Ck h fun _ _ h => Rs rfl (fun _ => op_move rfl) (Rs rfl (fun _ => op_move (d := D.fn g [] cap) rfl) ?_)))
 obtain ⟨dX, sX, hev, rfl, hKX⟩ := m128_ev  l p h_l d_l r_l g cap hp hg hg2 hne hcp (h.ko (Nat.add_le_add_left (by decide : 0 ≤ 5) _))
 refine Rw.on (first := []) (cap := []) (das := [d_l, D.fn g [] cap]) rfl rfl rfl rfl rfl n128 rfl (by simp only [List.nil_append, List.append_nil, List.all_cons, hcp, Bool.false_and, Bool.and_false]) hev rfl ?_
 replace h := h.back hKX rfl
 exact Rg 2 rfl (Rw.nilK h (Nat.add_le_add_left (by decide : 1 ≤ 5) _) fun h => Cr ⟨.inr rfl, _, rfl, rfl, h⟩)
noncomputable def cm74_l1 : Code := (cl (cr (cl (cr (bodyOf Tryz.f74)))))
def m74_l1 (l : (List Int)) (p : Int → Bool) : Nat → Nat → Lo Unit Int
 | 0, _ => .on ()
 | rem1 + 1, i1 => (bif (p (l.getD i1 default)) then .out ((i1 : Nat) : Int) else m74_l1 l p rem1 (i1 + 1) )
def m74 (l : (List Int)) (p : Int → Bool) : Int := (match m74_l1 l p l.length 0  with | .out r => r | .on _ => (-1))
theorem m74_ev  {lo : Nat} {σ : St} {bs : List (Nat × List D)} {acs : List (D × List (List C) × Nat)} (l : (List Int)) (p : Int → Bool)  (h_l : (okL okI) l) (d_l : D) (r_l : rowsOf d_l = some (l.map encI)) (g : Nat) (cap : List D) (hp : ∀ x : Int, x ∈ l → okI x → ∀ (lo : Nat) (σ : St), Ko lo σ bs acs → ∃ d σ', Ev (EE S) g ([] ++ [dI x] ++ cap) σ d σ' ∧ d = dB (p x) ∧ Ko lo σ' bs acs) (hg : S g = none) (hg2 : (EE S).ext g = none) (hne : ∀ x : Int, (([] ++ [dI x] ++ cap).all plain1 && !(EE S).inl g) = false) (hcp : plain1 (D.fn g [] cap) = false) (h : Ko lo σ bs acs) : ∃ d σ', Ev (EE S) 74 [d_l, D.fn g [] cap] σ d σ' ∧ d = dI (m74 l p) ∧ Ko lo σ' bs acs := by
 unfold m74
 refine Ev.wp (E := EE S) (fn := Tryz.f74) (nt := 19) Tryz.func74 rfl rfl (Ck h fun _ _ h => Rg 1 rfl (Rz h fun h => Cs (Ck h fun _ _ h => Rs rfl (fun _ => op_move rfl) (Rs rfl (fun _ => op_lenN (n := l.length) rfl Tryz.underlying23 r_l (List.length_map ..)) (Rg 1 rfl (Rz h fun h => Cb ?_))))))
 have hl1 : ∀ (rem1 i1 : Nat) (fr : Nat → D) (σ : St), i1 + rem1 = l.length → fr 0 = d_l → fr 1 = D.fn g [] cap → fr 7 = dN l.length → fr 8 = dN i1 → Ko lo σ (bs) (acs) → Cw (EE S) cm74_l1 19 fr σ (fun oX gX sX => match m74_l1 l p rem1 i1  with | .on _ => oX = some (some 0) ∧ Ko lo sX (bs) (acs) | .out r => Ou S Tryz.f74 (fun d s => d = dI r ∧ Ko lo s bs acs) oX gX sX) := by
  intro rem1
  induction rem1
  intro i1   fr σ hi  e0 e1 e7 e8 h
  have hlt1 : decide ((((i1 : Nat) : Int) : Int) < ((l.length : Nat) : Int)) = false := decF (by omega)
  rw [pin e0, pin e1, pin e7, pin e8]
  rw [m74_l1]
  exact Co (Ck h fun _ _ h => Rs rfl (fun _ => op_lss_int rfl rfl hlt1) (Rz h fun h => Cs (Cf rfl (Cw.exit (an2 rfl h)))))
  rename_i rem1 ih
  intro i1   fr σ hi  e0 e1 e7 e8 h
  have hlt1 : decide ((((i1 : Nat) : Int) : Int) < ((l.length : Nat) : Int)) = true := decT (by omega)
  have hil1 : i1 < l.length := by omega
  have hbq1 := okL_len h_l
  rw [pin e0, pin e1, pin e7, pin e8]
  rw [m74_l1]
  refine Co (Ck h fun _ _ h => Rs rfl (fun _ => op_lss_int rfl rfl hlt1) (Rz h fun h => Cs (Ct rfl (Ci (Cs (Cb (Ck h fun _ _ h => Rg 2 rfl (Rz h fun h => Ck h fun _ _ h => Rs rfl (fun _ => op_move (d := D.fn g [] cap) rfl) (Rs rfl (fun _ => op_move rfl) (Rg 1 rfl (Rs rfl (fun _ => op_ix (n := i1) rfl rfl r_l Tryz.underlying23 ty3.hn (at_map hil1) rfl) (Rc (at_map hil1) ty3 rfl ?_))))))))))))
  obtain ⟨dX, sX, hev, rfl, hKX⟩ := hp (l.getD i1 default) (getD_mem hil1) trivial _ _ (h.ko (Nat.add_le_add_left (by decide : 0 ≤ 6) _))
  refine Rw.on (first := []) (cap := cap) rfl rfl rfl rfl rfl hg hg2 (hne _) hev rfl ?_
  replace h := h.back hKX rfl
  refine Rw.nilK h (Nat.add_le_add_left (by decide : 1 ≤ 6) _) fun h => ?_
  cases q1 : (p (l.getD i1 default))
  exact Cf rfl (Ci (Cw.regionK h fun _ _ h => Rs rfl (fun _ => op_add_int (v := ((i1 + 1 : Nat) : Int)) rfl rfl (wrap_one (by omega))) (Rg 1 rfl (Rz h fun h => ih (i1 + 1)   _ _ (by omega)  rfl rfl rfl rfl h))))
  exact Ct rfl (Ck h fun _ _ h => Rg 2 rfl (Rz h fun h => Cr (And.intro rfl (Exists.intro _ (an3 rfl rfl h)))))
 refine Cw.mono (hl1 l.length 0   _ _ (by omega)  rfl rfl rfl rfl h) ?_
 intro oY gY sY hh
 generalize hzL1 : m74_l1 l p l.length 0  = zZ at hh ⊢
 rcases zZ with vZ | rZ
 dsimp only
 obtain ⟨rfl, h⟩ := hh
 have hbd1 := okL_len h_l
 exact Ck h fun _ _ h => Rg 1 rfl (Rz h fun h => Cr ⟨.inr rfl, _, rfl, rfl, h⟩)
 obtain ⟨rfl, w⟩ := hh
 exact ⟨.inr rfl, w⟩
def m32 (l : (List Int)) (p : Int → Bool) : Bool := (decide (((m74 l p) : Int) ≥ 0))
theorem m32_ev  (n74 : S 74 = none) {lo : Nat} {σ : St} {bs : List (Nat × List D)} {acs : List (D × List (List C) × Nat)} (l : (List Int)) (p : Int → Bool)  (h_l : (okL okI) l) (d_l : D) (r_l : rowsOf d_l = some (l.map encI)) (g : Nat) (cap : List D) (hp : ∀ x : Int, x ∈ l → okI x → ∀ (lo : Nat) (σ : St), Ko lo σ bs acs → ∃ d σ', Ev (EE S) g ([] ++ [dI x] ++ cap) σ d σ' ∧ d = dB (p x) ∧ Ko lo σ' bs acs) (hg : S g = none) (hg2 : (EE S).ext g = none) (hne : ∀ x : Int, (([] ++ [dI x] ++ cap).all plain1 && !(EE S).inl g) = false) (hcp : plain1 (D.fn g [] cap) = false) (h : Ko lo σ bs acs) : ∃ d σ', Ev (EE S) 32 [d_l, D.fn g [] cap] σ d σ' ∧ d = dB (m32 l p) ∧ Ko lo σ' bs acs := by
 unfold m32
 refine Ev.wp (E := EE S) (fn := Tryz.f32) (nt := 9) Tryz.func32 rfl rfl (Ck h fun _ _ h => Rg 1 rfl (Rz h fun h => Ck h fun _ _ h => Rs rfl (fun _ => op_move rfl) (Rs rfl (fun _ => op_move (d := D.fn g [] cap) rfl) ?_)))
 obtain ⟨dX, sX, hev, rfl, hKX⟩ := m74_ev  l p h_l d_l r_l g cap hp hg hg2 hne hcp (h.ko (Nat.add_le_add_left (by decide : 0 ≤ 5) _))
 refine Rw.on (first := []) (cap := []) (das := [d_l, D.fn g [] cap]) rfl rfl rfl rfl rfl n74 rfl (by simp only [List.nil_append, List.append_nil, List.all_cons, hcp, Bool.false_and, Bool.and_false]) hev rfl ?_
 replace h := h.back hKX rfl
 exact Rg 2 rfl (Rw.nilK h (Nat.add_le_add_left (by decide : 1 ≤ 5) _) fun h => Cr ⟨.inr rfl, _, rfl, rfl, h⟩)
noncomputable def cm75_l1 : Code := (cl (cr (cl (cr (bodyOf Tryz.f75)))))
def m75_l1 (l : (List Idx)) (p : Idx → Bool) : Nat → Nat → Lo Unit Int
 | 0, _ => .on ()
 | rem1 + 1, i1 => (bif (p (l.getD i1 default)) then .out ((i1 : Nat) : Int) else m75_l1 l p rem1 (i1 + 1) )
def m75 (l : (List Idx)) (p : Idx → Bool) : Int := (match m75_l1 l p l.length 0  with | .out r => r | .on _ => (-1))
theorem m75_ev  {lo : Nat} {σ : St} {bs : List (Nat × List D)} {acs : List (D × List (List C) × Nat)} (l : (List Idx)) (p : Idx → Bool)  (h_l : (okL Idx.ok) l) (d_l : D) (r_l : rowsOf d_l = some (l.map Idx.enc)) (g : Nat) (cap : List D) (hp : ∀ x : Idx, x ∈ l → Idx.ok x → ∀ (lo : Nat) (σ : St), Ko lo σ bs acs → ∃ d σ', Ev (EE S) g ([] ++ [dR Idx.enc x] ++ cap) σ d σ' ∧ d = dB (p x) ∧ Ko lo σ' bs acs) (hg : S g = none) (hg2 : (EE S).ext g = none) (hne : ∀ x : Idx, (([] ++ [dR Idx.enc x] ++ cap).all plain1 && !(EE S).inl g) = false) (hcp : plain1 (D.fn g [] cap) = false) (h : Ko lo σ bs acs) : ∃ d σ', Ev (EE S) 75 [d_l, D.fn g [] cap] σ d σ' ∧ d = dI (m75 l p) ∧ Ko lo σ' bs acs := by
 unfold m75
 refine Ev.wp (E := EE S) (fn := Tryz.f75) (nt := 19) Tryz.func75 rfl rfl (Ck h fun _ _ h => Rg 1 rfl (Rz h fun h => Cs (Ck h fun _ _ h => Rs rfl (fun _ => op_move rfl) (Rs rfl (fun _ => op_lenN (n := l.length) rfl Tryz.underlying36 r_l (List.length_map ..)) (Rg 1 rfl (Rz h fun h => Cb ?_))))))
 have hl1 : ∀ (rem1 i1 : Nat) (fr : Nat → D) (σ : St), i1 + rem1 = l.length → fr 0 = d_l → fr 1 = D.fn g [] cap → fr 7 = dN l.length → fr 8 = dN i1 → Ko lo σ (bs) (acs) → Cw (EE S) cm75_l1 19 fr σ (fun oX gX sX => match m75_l1 l p rem1 i1  with | .on _ => oX = some (some 0) ∧ Ko lo sX (bs) (acs) | .out r => Ou S Tryz.f75 (fun d s => d = dI r ∧ Ko lo s bs acs) oX gX sX) := by
  intro rem1
  induction rem1
  intro i1   fr σ hi  e0 e1 e7 e8 h
  have hlt1 : decide ((((i1 : Nat) : Int) : Int) < ((l.length : Nat) : Int)) = false := decF (by omega)
  rw [pin e0, pin e1, pin e7, pin e8]
  rw [m75_l1]
  exact Co (Ck h fun _ _ h => Rs rfl (fun _ => op_lss_int rfl rfl hlt1) (Rz h fun h => Cs (Cf rfl (Cw.exit (an2 rfl h)))))
  rename_i rem1 ih
  intro i1   fr σ hi  e0 e1 e7 e8 h
  have hlt1 : decide ((((i1 : Nat) : Int) : Int) < ((l.length : Nat) : Int)) = true := decT (by omega)
  have hil1 : i1 < l.length := by omega
  have hbq1 := okL_len h_l
  rw [pin e0, pin e1, pin e7, pin e8]
  rw [m75_l1]
  refine Co (Ck h fun _ _ h => Rs rfl (fun _ => op_lss_int rfl rfl hlt1) (Rz h fun h => Cs (Ct rfl (Ci (Cs (Cb (Ck h fun _ _ h => Rg 2 rfl (Rz h fun h => Ck h fun _ _ h => Rs rfl (fun _ => op_move (d := D.fn g [] cap) rfl) (Rs rfl (fun _ => op_move rfl) (Rg 1 rfl (Rs rfl (fun _ => op_ix (n := i1) rfl rfl r_l Tryz.underlying36 ty72.hn (at_map hil1) rfl) (Rs rfl (fun _ => op_ldC (d := dR Idx.enc (l.getD i1 default)) rfl (at_map hil1) (ty72.lcA rfl rfl)) ?_))))))))))))
  obtain ⟨dX, sX, hev, rfl, hKX⟩ := hp (l.getD i1 default) (getD_mem hil1) (okL_get h_l Idx.zok i1) _ _ (h.ko (Nat.add_le_add_left (by decide : 0 ≤ 6) _))
  refine Rw.on (first := []) (cap := cap) rfl rfl rfl rfl rfl hg hg2 (hne _) hev rfl ?_
  replace h := h.back hKX rfl
  refine Rw.nilK h (Nat.add_le_add_left (by decide : 1 ≤ 6) _) fun h => ?_
  cases q1 : (p (l.getD i1 default))
  exact Cf rfl (Ci (Cw.regionK h fun _ _ h => Rs rfl (fun _ => op_add_int (v := ((i1 + 1 : Nat) : Int)) rfl rfl (wrap_one (by omega))) (Rg 1 rfl (Rz h fun h => ih (i1 + 1)   _ _ (by omega)  rfl rfl rfl rfl h))))
  exact Ct rfl (Ck h fun _ _ h => Rg 2 rfl (Rz h fun h => Cr (And.intro rfl (Exists.intro _ (an3 rfl rfl h)))))
 refine Cw.mono (hl1 l.length 0   _ _ (by omega)  rfl rfl rfl rfl h) ?_
 intro oY gY sY hh
 generalize hzL1 : m75_l1 l p l.length 0  = zZ at hh ⊢
 rcases zZ with vZ | rZ
 dsimp only
 obtain ⟨rfl, h⟩ := hh
 have hbd1 := okL_len h_l
 exact Ck h fun _ _ h => Rg 1 rfl (Rz h fun h => Cr ⟨.inr rfl, _, rfl, rfl, h⟩)
 obtain ⟨rfl, w⟩ := hh
 exact ⟨.inr rfl, w⟩
def m34 (l : (List Idx)) (p : Idx → Bool) : Bool := (decide (((m75 l p) : Int) ≥ 0))
theorem m34_ev  (n75 : S 75 = none) {lo : Nat} {σ : St} {bs : List (Nat × List D)} {acs : List (D × List (List C) × Nat)} (l : (List Idx)) (p : Idx → Bool)  (h_l : (okL Idx.ok) l) (d_l : D) (r_l : rowsOf d_l = some (l.map Idx.enc)) (g : Nat) (cap : List D) (hp : ∀ x : Idx, x ∈ l → Idx.ok x → ∀ (lo : Nat) (σ : St), Ko lo σ bs acs → ∃ d σ', Ev (EE S) g ([] ++ [dR Idx.enc x] ++ cap) σ d σ' ∧ d = dB (p x) ∧ Ko lo σ' bs acs) (hg : S g = none) (hg2 : (EE S).ext g = none) (hne : ∀ x : Idx, (([] ++ [dR Idx.enc x] ++ cap).all plain1 && !(EE S).inl g) = false) (hcp : plain1 (D.fn g [] cap) = false) (h : Ko lo σ bs acs) : ∃ d σ', Ev (EE S) 34 [d_l, D.fn g [] cap] σ d σ' ∧ d = dB (m34 l p) ∧ Ko lo σ' bs acs := by
 unfold m34
 refine Ev.wp (E := EE S) (fn := Tryz.f34) (nt := 9) Tryz.func34 rfl rfl (Ck h fun _ _ h => Rg 1 rfl (Rz h fun h => Ck h fun _ _ h => Rs rfl (fun _ => op_move rfl) (Rs rfl (fun _ => op_move (d := D.fn g [] cap) rfl) ?_)))
 obtain ⟨dX, sX, hev, rfl, hKX⟩ := m75_ev  l p h_l d_l r_l g cap hp hg hg2 hne hcp (h.ko (Nat.add_le_add_left (by decide : 0 ≤ 5) _))
 refine Rw.on (first := []) (cap := []) (das := [d_l, D.fn g [] cap]) rfl rfl rfl rfl rfl n75 rfl (by simp only [List.nil_append, List.append_nil, List.all_cons, hcp, Bool.false_and, Bool.and_false]) hev rfl ?_
 replace h := h.back hKX rfl
 exact Rg 2 rfl (Rw.nilK h (Nat.add_le_add_left (by decide : 1 ≤ 5) _) fun h => Cr ⟨.inr rfl, _, rfl, rfl, h⟩)
noncomputable def cm77_l1 : Code := (cl (cr (cl (cr (bodyOf Tryz.f77)))))
def m77_l1 (l : (List (List Exr))) (p : (List Exr) → Bool) : Nat → Nat → Lo Unit Int
 | 0, _ => .on ()
 | rem1 + 1, i1 => (bif (p (l.getD i1 default)) then .out ((i1 : Nat) : Int) else m77_l1 l p rem1 (i1 + 1) )
def m77 (l : (List (List Exr))) (p : (List Exr) → Bool) : Int := (match m77_l1 l p l.length 0  with | .out r => r | .on _ => (-1))
theorem m77_ev  {lo : Nat} {σ : St} {bs : List (Nat × List D)} {acs : List (D × List (List C) × Nat)} (l : (List (List Exr))) (p : (List Exr) → Bool)  (h_l : (okL (okL Exr.ok)) l) (d_l : D) (r_l : rowsOf d_l = some (l.map encL_Exr_enc)) (g : Nat) (cap : List D) (hp : ∀ x : (List Exr), x ∈ l → (okL Exr.ok) x → ∀ (lo : Nat) (σ : St), Ko lo σ bs acs → ∃ d σ', Ev (EE S) g ([] ++ [dL Exr.enc x] ++ cap) σ d σ' ∧ d = dB (p x) ∧ Ko lo σ' bs acs) (hg : S g = none) (hg2 : (EE S).ext g = none) (hne : ∀ x : (List Exr), (([] ++ [dL Exr.enc x] ++ cap).all plain1 && !(EE S).inl g) = false) (hcp : plain1 (D.fn g [] cap) = false) (h : Ko lo σ bs acs) : ∃ d σ', Ev (EE S) 77 [d_l, D.fn g [] cap] σ d σ' ∧ d = dI (m77 l p) ∧ Ko lo σ' bs acs := by
 unfold m77
 refine Ev.wp (E := EE S) (fn := Tryz.f77) (nt := 19) Tryz.func77 rfl rfl (Ck h fun _ _ h => Rg 1 rfl (Rz h fun h => Cs (Ck h fun _ _ h => Rs rfl (fun _ => op_move rfl) (Rs rfl (fun _ => op_lenN (n := l.length) rfl Tryz.underlying24 r_l (List.length_map ..)) (Rg 1 rfl (Rz h fun h => Cb ?_))))))
 have hl1 : ∀ (rem1 i1 : Nat) (fr : Nat → D) (σ : St), i1 + rem1 = l.length → fr 0 = d_l → fr 1 = D.fn g [] cap → fr 7 = dN l.length → fr 8 = dN i1 → Ko lo σ (bs) (acs) → Cw (EE S) cm77_l1 19 fr σ (fun oX gX sX => match m77_l1 l p rem1 i1  with | .on _ => oX = some (some 0) ∧ Ko lo sX (bs) (acs) | .out r => Ou S Tryz.f77 (fun d s => d = dI r ∧ Ko lo s bs acs) oX gX sX) := by
  intro rem1
  induction rem1
  intro i1   fr σ hi  e0 e1 e7 e8 h
  have hlt1 : decide ((((i1 : Nat) : Int) : Int) < ((l.length : Nat) : Int)) = false := decF (by omega)
  rw [pin e0, pin e1, pin e7, pin e8]
  rw [m77_l1]
  exact Co (Ck h fun _ _ h => Rs rfl (fun _ => op_lss_int rfl rfl hlt1) (Rz h fun h => Cs (Cf rfl (Cw.exit (an2 rfl h)))))
  rename_i rem1 ih
  intro i1   fr σ hi  e0 e1 e7 e8 h
  have hlt1 : decide ((((i1 : Nat) : Int) : Int) < ((l.length : Nat) : Int)) = true := decT (by omega)
  have hil1 : i1 < l.length := by omega
  have hbq1 := okL_len h_l
  rw [pin e0, pin e1, pin e7, pin e8]
  rw [m77_l1]
  refine Co (Ck h fun _ _ h => Rs rfl (fun _ => op_lss_int rfl rfl hlt1) (Rz h fun h => Cs (Ct rfl (Ci (Cs (Cb (Ck h fun _ _ h => Rg 2 rfl (Rz h fun h => Ck h fun _ _ h => Rs rfl (fun _ => op_move (d := D.fn g [] cap) rfl) (Rs rfl (fun _ => op_move rfl) (Rg 1 rfl (Rs rfl (fun _ => op_ix (n := i1) rfl rfl r_l Tryz.underlying24 ty30.hn (at_map hil1) rfl) (Rc (at_map hil1) ty30 rfl ?_))))))))))))
  obtain ⟨dX, sX, hev, rfl, hKX⟩ := hp (l.getD i1 default) (getD_mem hil1) (okL_get h_l okL_nil i1) _ _ (h.ko (Nat.add_le_add_left (by decide : 0 ≤ 6) _))
  refine Rw.on (first := []) (cap := cap) rfl rfl rfl rfl rfl hg hg2 (hne _) hev rfl ?_
  replace h := h.back hKX rfl
  refine Rw.nilK h (Nat.add_le_add_left (by decide : 1 ≤ 6) _) fun h => ?_
  cases q1 : (p (l.getD i1 default))
  exact Cf rfl (Ci (Cw.regionK h fun _ _ h => Rs rfl (fun _ => op_add_int (v := ((i1 + 1 : Nat) : Int)) rfl rfl (wrap_one (by omega))) (Rg 1 rfl (Rz h fun h => ih (i1 + 1)   _ _ (by omega)  rfl rfl rfl rfl h))))
  exact Ct rfl (Ck h fun _ _ h => Rg 2 rfl (Rz h fun h => Cr (And.intro rfl (Exists.intro _ (an3 rfl rfl h)))))
 refine Cw.mono (hl1 l.length 0   _ _ (by omega)  rfl rfl rfl rfl h) ?_
 intro oY gY sY hh
 generalize hzL1 : m77_l1 l p l.length 0  = zZ at hh ⊢
 rcases zZ with vZ | rZ
 dsimp only
 obtain ⟨rfl, h⟩ := hh
 have hbd1 := okL_len h_l
 exact Ck h fun _ _ h => Rg 1 rfl (Rz h fun h => Cr ⟨.inr rfl, _, rfl, rfl, h⟩)
 obtain ⟨rfl, w⟩ := hh
 exact ⟨.inr rfl, w⟩
def m41 (l : (List (List Exr))) (p : (List Exr) → Bool) : Bool := (decide (((m77 l p) : Int) ≥ 0))
theorem m41_ev  (n77 : S 77 = none) {lo : Nat} {σ : St} {bs : List (Nat × List D)} {acs : List (D × List (List C) × Nat)} (l : (List (List Exr))) (p : (List Exr) → Bool)  (h_l : (okL (okL Exr.ok)) l) (d_l : D) (r_l : rowsOf d_l = some (l.map encL_Exr_enc)) (g : Nat) (cap : List D) (hp : ∀ x : (List Exr), x ∈ l → (okL Exr.ok) x → ∀ (lo : Nat) (σ : St), Ko lo σ bs acs → ∃ d σ', Ev (EE S) g ([] ++ [dL Exr.enc x] ++ cap) σ d σ' ∧ d = dB (p x) ∧ Ko lo σ' bs acs) (hg : S g = none) (hg2 : (EE S).ext g = none) (hne : ∀ x : (List Exr), (([] ++ [dL Exr.enc x] ++ cap).all plain1 && !(EE S).inl g) = false) (hcp : plain1 (D.fn g [] cap) = false) (h : Ko lo σ bs acs) : ∃ d σ', Ev (EE S) 41 [d_l, D.fn g [] cap] σ d σ' ∧ d = dB (m41 l p) ∧ Ko lo σ' bs acs := by
 unfold m41
 refine Ev.wp (E := EE S) (fn := Tryz.f41) (nt := 9) Tryz.func41 rfl rfl (Ck h fun _ _ h => Rg 1 rfl (Rz h fun h => Ck h fun _ _ h => Rs rfl (fun _ => op_move rfl) (Rs rfl (fun _ => op_move (d := D.fn g [] cap) rfl) ?_)))
 obtain ⟨dX, sX, hev, rfl, hKX⟩ := m77_ev  l p h_l d_l r_l g cap hp hg hg2 hne hcp (h.ko (Nat.add_le_add_left (by decide : 0 ≤ 5) _))
 refine Rw.on (first := []) (cap := []) (das := [d_l, D.fn g [] cap]) rfl rfl rfl rfl rfl n77 rfl (by simp only [List.nil_append, List.append_nil, List.all_cons, hcp, Bool.false_and, Bool.and_false]) hev rfl ?_
 replace h := h.back hKX rfl
 exact Rg 2 rfl (Rw.nilK h (Nat.add_le_add_left (by decide : 1 ≤ 5) _) fun h => Cr ⟨.inr rfl, _, rfl, rfl, h⟩)
noncomputable def cm80_l1 : Code := (cl (cr (cl (cr (bodyOf Tryz.f80)))))
def m80_l1 (l : (List Sst)) (p : Sst → Bool) : Nat → Nat → Lo Unit Int
 | 0, _ => .on ()
 | rem1 + 1, i1 => (bif (p (l.getD i1 default)) then .out ((i1 : Nat) : Int) else m80_l1 l p rem1 (i1 + 1) )
def m80 (l : (List Sst)) (p : Sst → Bool) : Int := (match m80_l1 l p l.length 0  with | .out r => r | .on _ => (-1))
theorem m80_ev  {lo : Nat} {σ : St} {bs : List (Nat × List D)} {acs : List (D × List (List C) × Nat)} (l : (List Sst)) (p : Sst → Bool)  (h_l : (okL Sst.ok) l) (d_l : D) (r_l : rowsOf d_l = some (l.map Sst.enc)) (g : Nat) (cap : List D) (hp : ∀ x : Sst, x ∈ l → Sst.ok x → ∀ (lo : Nat) (σ : St), Ko lo σ bs acs → ∃ d σ', Ev (EE S) g ([] ++ [dR Sst.enc x] ++ cap) σ d σ' ∧ d = dB (p x) ∧ Ko lo σ' bs acs) (hg : S g = none) (hg2 : (EE S).ext g = none) (hne : ∀ x : Sst, (([] ++ [dR Sst.enc x] ++ cap).all plain1 && !(EE S).inl g) = false) (hcp : plain1 (D.fn g [] cap) = false) (h : Ko lo σ bs acs) : ∃ d σ', Ev (EE S) 80 [d_l, D.fn g [] cap] σ d σ' ∧ d = dI (m80 l p) ∧ Ko lo σ' bs acs := by
 unfold m80
 refine Ev.wp (E := EE S) (fn := Tryz.f80) (nt := 19) Tryz.func80 rfl rfl (Ck h fun _ _ h => Rg 1 rfl (Rz h fun h => Cs (Ck h fun _ _ h => Rs rfl (fun _ => op_move rfl) (Rs rfl (fun _ => op_lenN (n := l.length) rfl Tryz.underlying25 r_l (List.length_map ..)) (Rg 1 rfl (Rz h fun h => Cb ?_))))))
 have hl1 : ∀ (rem1 i1 : Nat) (fr : Nat → D) (σ : St), i1 + rem1 = l.length → fr 0 = d_l → fr 1 = D.fn g [] cap → fr 7 = dN l.length → fr 8 = dN i1 → Ko lo σ (bs) (acs) → Cw (EE S) cm80_l1 19 fr σ (fun oX gX sX => match m80_l1 l p rem1 i1  with | .on _ => oX = some (some 0) ∧ Ko lo sX (bs) (acs) | .out r => Ou S Tryz.f80 (fun d s => d = dI r ∧ Ko lo s bs acs) oX gX sX) := by
  intro rem1
  induction rem1
  intro i1   fr σ hi  e0 e1 e7 e8 h
  have hlt1 : decide ((((i1 : Nat) : Int) : Int) < ((l.length : Nat) : Int)) = false := decF (by omega)
  rw [pin e0, pin e1, pin e7, pin e8]
  rw [m80_l1]
  exact Co (Ck h fun _ _ h => Rs rfl (fun _ => op_lss_int rfl rfl hlt1) (Rz h fun h => Cs (Cf rfl (Cw.exit (an2 rfl h)))))
  rename_i rem1 ih
  intro i1   fr σ hi  e0 e1 e7 e8 h
  have hlt1 : decide ((((i1 : Nat) : Int) : Int) < ((l.length : Nat) : Int)) = true := decT (by omega)
  have hil1 : i1 < l.length := by omega
  have hbq1 := okL_len h_l
  rw [pin e0, pin e1, pin e7, pin e8]
  rw [m80_l1]
  refine Co (Ck h fun _ _ h => Rs rfl (fun _ => op_lss_int rfl rfl hlt1) (Rz h fun h => Cs (Ct rfl (Ci (Cs (Cb (Ck h fun _ _ h => Rg 2 rfl (Rz h fun h => Ck h fun _ _ h => Rs rfl (fun _ => op_move (d := D.fn g [] cap) rfl) (Rs rfl (fun _ => op_move rfl) (Rg 1 rfl (Rs rfl (fun _ => op_ix (n := i1) rfl rfl r_l Tryz.underlying25 ty51.hn (at_map hil1) rfl) (Rs rfl (fun _ => op_ldC (d := dR Sst.enc (l.getD i1 default)) rfl (at_map hil1) (ty51.lcA rfl rfl)) ?_))))))))))))
  obtain ⟨dX, sX, hev, rfl, hKX⟩ := hp (l.getD i1 default) (getD_mem hil1) (okL_get h_l Sst.zok i1) _ _ (h.ko (Nat.add_le_add_left (by decide : 0 ≤ 6) _))
  refine Rw.on (first := []) (cap := cap) rfl rfl rfl rfl rfl hg hg2 (hne _) hev rfl ?_
  replace h := h.back hKX rfl
  refine Rw.nilK h (Nat.add_le_add_left (by decide : 1 ≤ 6) _) fun h => ?_
  cases q1 : (p (l.getD i1 default))
  exact Cf rfl (Ci (Cw.regionK h fun _ _ h => Rs rfl (fun _ => op_add_int (v := ((i1 + 1 : Nat) : Int)) rfl rfl (wrap_one (by omega))) (Rg 1 rfl (Rz h fun h => ih (i1 + 1)   _ _ (by omega)  rfl rfl rfl rfl h))))
  exact Ct rfl (Ck h fun _ _ h => Rg 2 rfl (Rz h fun h => Cr (And.intro rfl (Exists.intro _ (an3 rfl rfl h)))))
 refine Cw.mono (hl1 l.length 0   _ _ (by omega)  rfl rfl rfl rfl h) ?_
 intro oY gY sY hh
 generalize hzL1 : m80_l1 l p l.length 0  = zZ at hh ⊢
 rcases zZ with vZ | rZ
 dsimp only
 obtain ⟨rfl, h⟩ := hh
 have hbd1 := okL_len h_l
 exact Ck h fun _ _ h => Rg 1 rfl (Rz h fun h => Cr ⟨.inr rfl, _, rfl, rfl, h⟩)
 obtain ⟨rfl, w⟩ := hh
 exact ⟨.inr rfl, w⟩
def m45 (l : (List Sst)) (p : Sst → Bool) : Bool := (decide (((m80 l p) : Int) ≥ 0))
theorem m45_ev  (n80 : S 80 = none) {lo : Nat} {σ : St} {bs : List (Nat × List D)} {acs : List (D × List (List C) × Nat)} (l : (List Sst)) (p : Sst → Bool)  (h_l : (okL Sst.ok) l) (d_l : D) (r_l : rowsOf d_l = some (l.map Sst.enc)) (g : Nat) (cap : List D) (hp : ∀ x : Sst, x ∈ l → Sst.ok x → ∀ (lo : Nat) (σ : St), Ko lo σ bs acs → ∃ d σ', Ev (EE S) g ([] ++ [dR Sst.enc x] ++ cap) σ d σ' ∧ d = dB (p x) ∧ Ko lo σ' bs acs) (hg : S g = none) (hg2 : (EE S).ext g = none) (hne : ∀ x : Sst, (([] ++ [dR Sst.enc x] ++ cap).all plain1 && !(EE S).inl g) = false) (hcp : plain1 (D.fn g [] cap) = false) (h : Ko lo σ bs acs) : ∃ d σ', Ev (EE S) 45 [d_l, D.fn g [] cap] σ d σ' ∧ d = dB (m45 l p) ∧ Ko lo σ' bs acs := by
 unfold m45
 refine Ev.wp (E := EE S) (fn := Tryz.f45) (nt := 9) Tryz.func45 rfl rfl (Ck h fun _ _ h => Rg 1 rfl (Rz h fun h => Ck h fun _ _ h => Rs rfl (fun _ => op_move rfl) (Rs rfl (fun _ => op_move (d := D.fn g [] cap) rfl) ?_)))
 obtain ⟨dX, sX, hev, rfl, hKX⟩ := m80_ev  l p h_l d_l r_l g cap hp hg hg2 hne hcp (h.ko (Nat.add_le_add_left (by decide : 0 ≤ 5) _))
 refine Rw.on (first := []) (cap := []) (das := [d_l, D.fn g [] cap]) rfl rfl rfl rfl rfl n80 rfl (by simp only [List.nil_append, List.append_nil, List.all_cons, hcp, Bool.false_and, Bool.and_false]) hev rfl ?_
 replace h := h.back hKX rfl
 exact Rg 2 rfl (Rw.nilK h (Nat.add_le_add_left (by decide : 1 ≤ 5) _) fun h => Cr ⟨.inr rfl, _, rfl, rfl, h⟩)
noncomputable def cm140_l1 : Code := (cl (cr (cl (cr (bodyOf Tryz.f140)))))
def m140_l1 (l : (List Itm)) (p : Itm → Bool) : Nat → Nat → Lo Unit Int
 | 0, _ => .on ()
 | rem1 + 1, i1 => (bif (p (l.getD i1 default)) then .out ((i1 : Nat) : Int) else m140_l1 l p rem1 (i1 + 1) )
def m140 (l : (List Itm)) (p : Itm → Bool) : Int := (match m140_l1 l p l.length 0  with | .out r => r | .on _ => (-1))
theorem m140_ev  (l : (List Itm)) (p : Itm → Bool)  (h_l : (okL Itm.ok) l) (g : Nat) (hp : ∀ x : Itm, x ∈ l → Itm.ok x → ∃ d σ', Ev (EE S) g [dR Itm.enc x] St.empty d σ' ∧ plain d = true ∧ strip d = dB (p x)) (hg : S g = none) (hg2 : (EE S).ext g = none) (hni : (EE S).inl g = false) : ∃ d σ', Ev (EE S) 140 [dL Itm.enc l, D.fn g [] []] St.empty d σ' ∧ plain d = true ∧ strip d = dI (m140 l p) := by
 unfold m140
 have h : Ko 0 St.empty [] [] := Ko.empty
 refine Ev.wp (E := EE S) (fn := Tryz.f140) (nt := 19) Tryz.func140 rfl rfl (Ck h fun _ _ h => Rg 1 rfl (Rz h fun h => Cs (Ck h fun _ _ h => Rg 1 rfl (Re Tryz.underlying26 rfl (Rg 1 rfl (Rz h fun h => Cb ?_))))))
 have hl1 : ∀ (rem1 i1 : Nat) (fr : Nat → D) (σ : St), i1 + rem1 = l.length → fr 0 = dL Itm.enc l → fr 1 = D.fn g [] [] → fr 7 = dN l.length → fr 8 = dN i1 → Ko 0 σ [] [] → Cw (EE S) cm140_l1 19 fr σ (fun oX gX sX => match m140_l1 l p rem1 i1  with | .on _ => oX = some (some 0) ∧ Ko 0 sX [] [] | .out r => Ou S Tryz.f140 (fun d _ => plain d = true ∧ strip d = dI r) oX gX sX) := by
  intro rem1
  induction rem1
  intro i1   fr σ hi  e0 e1 e7 e8 h
  have hlt1 : decide ((((i1 : Nat) : Int) : Int) < ((l.length : Nat) : Int)) = false := decF (by omega)
  rw [pin e0, pin e1, pin e7, pin e8]
  rw [m140_l1]
  exact Co (Ck h fun _ _ h => Rs rfl (fun _ => op_lss_int rfl rfl hlt1) (Rz h fun h => Cs (Cf rfl (Cw.exit (an2 rfl h)))))
  rename_i rem1 ih
  intro i1   fr σ hi  e0 e1 e7 e8 h
  have hlt1 : decide ((((i1 : Nat) : Int) : Int) < ((l.length : Nat) : Int)) = true := decT (by omega)
  have hil1 : i1 < l.length := by omega
  have hbq1 := okL_len h_l
  rw [pin e0, pin e1, pin e7, pin e8]
  rw [m140_l1]
  refine Co (Ck h fun _ _ h => Rs rfl (fun _ => op_lss_int rfl rfl hlt1) (Rz h fun h => Cs (Ct rfl (Ci (Cs (Cb (Ck h fun _ _ h => Rg 2 rfl (Rz h fun h => Ck h fun _ _ h => Rs rfl (fun _ => op_move (d := D.fn g [] []) rfl) (Rg 2 rfl (Rs rfl (fun _ => op_ix (n := i1) rfl rfl rfl Tryz.underlying26 ty53.hn (at_map hil1) rfl) (Rs rfl (fun _ => op_ldC (d := dR Itm.enc (l.getD i1 default)) rfl (at_map hil1) (ty53.lcA rfl rfl)) ?_)))))))))))
  obtain ⟨dX, sX, hev, hpl, hst⟩ := hp (l.getD i1 default) (getD_mem hil1) (okL_get h_l Itm.zok i1)
  refine Rw.ev (das := [dR Itm.enc (l.getD i1 default)]) rfl rfl rfl rfl rfl hg hg2 hni rfl hev hpl rfl ?_
  rw [hst]
  refine Rz h fun h => ?_
  cases q1 : (p (l.getD i1 default))
  exact Cf rfl (Ci (Cw.regionK h fun _ _ h => Rs rfl (fun _ => op_add_int (v := ((i1 + 1 : Nat) : Int)) rfl rfl (wrap_one (by omega))) (Rg 1 rfl (Rz h fun h => ih (i1 + 1)   _ _ (by omega)  rfl rfl rfl rfl h))))
  exact Ct rfl (Ck h fun _ _ h => Rg 2 rfl (Rz h fun h => Cr (And.intro rfl (Exists.intro _ (an3 rfl rfl rfl)))))
 refine Cw.mono (hl1 l.length 0   _ _ (by omega)  rfl rfl rfl rfl h) ?_
 intro oY gY sY hh
 generalize hzL1 : m140_l1 l p l.length 0  = zZ at hh ⊢
 rcases zZ with vZ | rZ
 dsimp only
 obtain ⟨rfl, h⟩ := hh
 have hbd1 := okL_len h_l
 exact Ck h fun _ _ h => Rg 1 rfl (Rz h fun h => Cr ⟨.inr rfl, _, rfl, rfl, rfl⟩)
 obtain ⟨rfl, w⟩ := hh
 exact ⟨.inr rfl, w⟩
def m83 (l : (List Itm)) (p : Itm → Bool) : Bool := (decide (((m140 l p) : Int) ≥ 0))
theorem m83_ev  (n140 : S 140 = none) (l : (List Itm)) (p : Itm → Bool)  (h_l : (okL Itm.ok) l) (g : Nat) (hp : ∀ x : Itm, x ∈ l → Itm.ok x → ∃ d σ', Ev (EE S) g [dR Itm.enc x] St.empty d σ' ∧ plain d = true ∧ strip d = dB (p x)) (hg : S g = none) (hg2 : (EE S).ext g = none) (hni : (EE S).inl g = false) : ∃ d σ', Ev (EE S) 83 [dL Itm.enc l, D.fn g [] []] St.empty d σ' ∧ plain d = true ∧ strip d = dB (m83 l p) := by
 unfold m83
 have h : Ko 0 St.empty [] [] := Ko.empty
 refine Ev.wp (E := EE S) (fn := Tryz.f83) (nt := 9) Tryz.func83 rfl rfl (Ck h fun _ _ h => Rg 1 rfl (Rz h fun h => Ck h fun _ _ h => Rg 1 rfl (Rs rfl (fun _ => op_move (d := D.fn g [] []) rfl) ?_)))
 obtain ⟨dX, sX, hev, hpl, hst⟩ := m140_ev  l p h_l g hp hg hg2 hni
 refine Rw.ev (das := [dL Itm.enc l, D.fn g [] []]) rfl rfl rfl rfl rfl n140 rfl rfl rfl hev hpl rfl ?_
 rw [show strip dX = dI (m140 l p) from hst]
 exact Rg 2 rfl (Rz h fun h => Cr ⟨.inr rfl, _, rfl, rfl, rfl⟩)
def m72 (x : Col) (c : Col) : Bool := (ByteArray.toList x.name == ByteArray.toList c.name)
theorem m72_ev  {lo : Nat} {σ : St} {bs : List (Nat × List D)} {acs : List (D × List (List C) × Nat)} (x : Col) (c : Col)  (h_x : Col.ok x) (h_c : Col.ok c) (b_c kb_c : Nat) (hb_c : bs[kb_c]? = some (b_c, (dC Col.enc c))) (h : Ko lo σ bs acs) : ∃ d σ', Ev (EE S) 72 [dR Col.enc x, D.ptr b_c 0] σ d σ' ∧ d = dB (m72 x c) ∧ Ko lo σ' bs acs := by
 unfold m72
 exact Ev.wp (E := EE S) (fn := Tryz.f72) (nt := 9) Tryz.func72 rfl rfl (Ck h fun _ _ h => Rw.bx (d := dR Col.enc x) h (Nat.le_add_right _ 0) rfl rfl rfl rfl rfl rfl fun b1 _ h => Rg 1 rfl (Rw.nilK h (Nat.add_le_add_left (by decide : 1 ≤ 2) _) fun h => Ck h fun _ _ h => Rf fi65_0 rfl (Rl 0 h rfl (ty9.ldS rfl) (Rf fi65_0 rfl (Rw.ld (k := kb_c + 1) (d := dS c.name) h rfl rfl rfl rfl hb_c (ty9.ldS rfl) rfl (Rg 2 rfl (Rz h fun h => Cr ⟨.inr rfl, _, rfl, rfl, (h.dropBox (List.Sublist.cons _ (List.Sublist.refl _)))⟩)))))))
def wordsB : ByteArray := ⟨#[32, 97, 110, 100, 32, 98, 111, 111, 108, 32, 98, 121, 116, 101, 115, 32, 99, 114, 101, 97, 116, 101, 32, 100, 101, 102, 97, 117, 108, 116, 32, 102, 97, 108, 115, 101, 32, 102, 108, 111, 97, 116, 32, 102, 111, 114, 101, 105, 103, 110, 32, 105, 110, 32, 105, 110, 100, 101, 120, 32, 105, 110, 116, 32, 105, 115, 32, 107, 101, 121, 32, 110, 111, 116, 32, 110, 117, 108, 108, 32, 111, 114, 32, 112, 114, 105, 109, 97, 114, 121, 32, 114, 101, 102, 101, 114, 101, 110, 99, 101, 115, 32, 116, 97, 98, 108, 101, 32, 116, 101, 120, 116, 32, 116, 114, 117, 101, 32, 117, 110, 105, 113, 117, 101, 32, 97, 98, 111, 114, 116, 32, 97, 115, 32, 97, 115, 99, 32, 97, 116, 32, 97, 118, 103, 32, 98, 101, 103, 105, 110, 32, 98, 101, 116, 119, 101, 101, 110, 32, 98, 121, 32, 99, 111, 109, 109, 105, 116, 32, 99, 111, 117, 110, 116, 32, 100, 101, 108, 101, 116, 101, 32, 100, 101, 115, 99, 32, 100, 114, 111, 112, 32, 102, 114, 111, 109, 32, 103, 114, 111, 117, 112, 32, 105, 110, 115, 101, 114, 116, 32, 105, 110, 116, 111, 32, 108, 105, 109, 105, 116, 32, 109, 97, 120, 32, 109, 105, 110, 32, 111, 102, 32, 111, 114, 100, 101, 114, 32, 114, 101, 108, 101, 97, 115, 101, 32, 114, 111, 108, 108, 98, 97, 99, 107, 32, 115, 97, 118, 101, 112, 111, 105, 110, 116, 32, 115, 101, 108, 101, 99, 116, 32, 115, 101, 116, 32, 115, 117, 109, 32, 116, 111, 32, 117, 112, 100, 97, 116, 101, 32, 118, 97, 108, 117, 101, 115, 32, 119, 104, 101, 114, 101, 32, 119, 105, 116, 104, 32]⟩
abbrev H76 := containsH
theorem contains_eq (t : ByteArray) : containsH [D.c (.str wordsB), D.c (.str t)] = .ok (D.c (.bool (Lib.contains wordsB.data.toList t.data.toList))) := by
 simp only [containsH]
 rw [if_pos (of_decide_eq_true (by kernel_rfl))]
def m37 (s : ByteArray) : Bool := (Lib.contains wordsB.data.toList ((⟨#[32]⟩ ++ s) ++ ⟨#[32]⟩).data.toList)
set_option maxRecDepth 100000 in
theorem m37_ev  (c76 : S 76 = some H76) (s : ByteArray)  (h_s : okS s) : ∃ d σ', Ev (EE S) 37 [dS s] St.empty d σ' ∧ plain d = true ∧ strip d = dB (m37 s) := by
 unfold m37
 have h : Ko 0 St.empty [] [] := Ko.empty
 exact Ev.wp (E := EE S) (fn := Tryz.f37) (nt := 7) Tryz.func37 rfl rfl (Ck h fun _ _ h => Rg 1 rfl (Rz h fun h => Ck h fun _ _ h => Rg 1 rfl (Rs rfl (fun _ => op_add_str rfl rfl (by rw [show (⟨#[32]⟩ : ByteArray).size = 1 from rfl]; unfold okS at h_s; omega)) (Rs rfl (fun _ => op_add_str rfl rfl (by rw [ByteArray.size_append, show (⟨#[32]⟩ : ByteArray).size = 1 from rfl]; unfold okS at h_s; omega)) (Rs rfl (fun _ => op_call (d := D.c (.bool (Lib.contains wordsB.data.toList ((⟨#[32]⟩ ++ s) ++ ⟨#[32]⟩).data.toList))) rfl rfl c76 rfl (contains_eq _)) (Rg 1 rfl (Rz h fun h => Cr ⟨.inr rfl, _, rfl, rfl, rfl⟩)))))))
noncomputable def H37 : List D → R D := mkH (L1 dS) (fun x => okS x) (fun x => dB (m37 x))
theorem i37 : InjE (L1 dS) := j1 jS
noncomputable def cm15_l1 : Code := (cl (cr (cl (cr (cr (bodyOf Tryz.f15))))))
def m15_1 (s : ByteArray) (i1 : Nat) : Lo Bool Bool := (bif (!(m36 (byteAt s i1))) then .on (!(m38 (byteAt s i1))) else .on false)
def m15_l1 (s : ByteArray) : Nat → Nat → Lo Unit Bool
 | 0, _ => .on ()
 | rem1 + 1, i1 => (match m15_1 s i1 with | .out r => .out r | .on v1_37 => (bif v1_37 then .out false else m15_l1 s rem1 (i1 + 1) ))
def m15 (s : ByteArray) : Bool := (bif (ByteArray.toList s == ByteArray.toList (⟨#[]⟩)) then false else (bif decide ((((s.size : Nat) : Int) : Int) > 63) then false else (bif (!(m36 (byteAt s 0))) then false else (bif (m37 s) then false else (match m15_l1 s s.size 0  with | .out r => r | .on _ => true)))))
theorem m15_ev  (c36 : S 36 = some H36) (c37 : S 37 = some H37) (c38 : S 38 = some H38) (s : ByteArray)  (h_s : okS s) : ∃ d σ', Ev (EE S) 15 [dS s] St.empty d σ' ∧ plain d = true ∧ strip d = dB (m15 s) := by
 unfold m15
 have h : Ko 0 St.empty [] [] := Ko.empty
 refine Ev.wp (E := EE S) (fn := Tryz.f15) (nt := 39) Tryz.func15 rfl rfl (Ck h fun _ _ h => Rg 1 rfl (Rz h fun h => Cs (Ck h fun _ _ h => Rg 3 rfl ?_)))
 cases q1 : (ByteArray.toList s == ByteArray.toList (⟨#[]⟩))
 refine Rg 1 rfl (Rs rfl (fun _ => op_len_str rfl Tryz.underlying9) (Rg 3 rfl ?_))
 cases q2 : decide ((((s.size : Nat) : Int) : Int) > 63)
 have p2 := of_decide_eq_false q2
 refine Rg 1 rfl (Rs rfl (fun _ => op_ixS (n := 0) rfl rfl Tryz.underlying9 (str_pos q1)) (Rs rfl (fun _ => op_call (d := dB (m36 (byteAt s 0))) rfl rfl c36 rfl (He i36 (byteAt s 0) trivial rfl)) (Rg 3 rfl ?_)))
 cases q3 : (!(m36 (byteAt s 0)))
 refine Rg 1 rfl (Rs rfl (fun _ => op_call (d := dB (m37 s)) rfl rfl c37 rfl (He i37 s h_s rfl)) (Rg 1 rfl (Rz h fun h => ?_)))
 cases q4 : (m37 s)
 refine Cf rfl (Ci (Cs (Ck h fun _ _ h => Rg 1 rfl (Rs rfl (fun _ => op_len_str rfl Tryz.underlying9) (Rg 1 rfl (Rz h fun h => Cb ?_))))))
 have hl1 : ∀ (rem1 i1 : Nat) (fr : Nat → D) (σ : St), i1 + rem1 = s.size → fr 0 = dS s → fr 22 = dN s.size → fr 23 = dN i1 → Ko 0 σ [] [] → Cw (EE S) cm15_l1 39 fr σ (fun oX gX sX => match m15_l1 s rem1 i1  with | .on _ => oX = some (some 0) ∧ Ko 0 sX [] [] | .out r => Ou S Tryz.f15 (fun d _ => plain d = true ∧ strip d = dB r) oX gX sX) := by
  intro rem1
  induction rem1
  intro i1   fr σ hi  e0 e22 e23 h
  have hlt1 : decide ((((i1 : Nat) : Int) : Int) < ((s.size : Nat) : Int)) = false := decF (by omega)
  rw [pin e0, pin e22, pin e23]
  rw [m15_l1]
  exact Co (Ck h fun _ _ h => Rs rfl (fun _ => op_lss_int rfl rfl hlt1) (Rz h fun h => Cs (Cf rfl (Cw.exit (an2 rfl h)))))
  rename_i rem1 ih
  intro i1   fr σ hi  e0 e22 e23 h
  have hlt1 : decide ((((i1 : Nat) : Int) : Int) < ((s.size : Nat) : Int)) = true := decT (by omega)
  have hil1 : i1 < s.size := by omega
  have hbq1 := okS_len h_s
  rw [pin e0, pin e22, pin e23]
  rw [m15_l1]
  refine Co (Ck h fun _ _ h => Rs rfl (fun _ => op_lss_int rfl rfl hlt1) (Rz h fun h => Cs (Ct rfl (Ci (Cs (Cb (Ck h fun _ _ h => Rg 2 rfl (Rz h fun h => ?_))))))))
  refine Cw.seq (Cw.mono (Q := fun oX gX sX => match m15_1 s i1 with | .on v1_37 => oX = none ∧ gX 0 = dS s ∧ gX 22 = dN s.size ∧ gX 23 = dN i1 ∧ gX 37 = dB v1_37 ∧ Ko 0 sX [] [] | .out r => Ou S Tryz.f15 (fun d _ => plain d = true ∧ strip d = dB r) oX gX sX) ?_ ?_)
  unfold m15_1
  refine Cw.regionK h fun _ _ h => Rg 2 rfl (Rs rfl (fun _ => op_ixS (n := i1) rfl rfl Tryz.underlying9 hil1) (Rs rfl (fun _ => op_call (d := dB (m36 (byteAt s i1))) rfl rfl c36 rfl (He i36 (byteAt s i1) trivial rfl)) (Rg 2 rfl ?_)))
  cases q5 : (!(m36 (byteAt s i1)))
  exact Rg 6 rfl (Rz h fun h => an6 rfl rfl rfl rfl rfl h)
  exact Rg 2 rfl (Rs rfl (fun _ => op_ixS (n := i1) rfl rfl Tryz.underlying9 hil1) (Rs rfl (fun _ => op_call (d := dB (m38 (byteAt s i1))) rfl rfl c38 rfl (He i38 (byteAt s i1) trivial rfl)) (Rg 2 rfl (Rz h fun h => an6 rfl rfl rfl rfl rfl h))))
  intro oY gY sY hh
  generalize hzF1 : m15_1 s i1 = zZ at hh ⊢
  rcases zZ with v1_37 | rZ
  dsimp only
  obtain ⟨rfl, e0, e22, e23, e37, h⟩ := hh
  rw [pin e0, pin e22, pin e23, pin e37]
  cases q6 : v1_37
  exact Cf rfl (Ci (Cw.regionK h fun _ _ h => Rs rfl (fun _ => op_add_int (v := ((i1 + 1 : Nat) : Int)) rfl rfl (wrap_one (by omega))) (Rg 1 rfl (Rz h fun h => ih (i1 + 1)   _ _ (by omega)  rfl rfl rfl h))))
  exact Ct rfl (Ck h fun _ _ h => Rg 1 rfl (Rz h fun h => Cr (And.intro rfl (Exists.intro _ (an3 rfl rfl rfl)))))
  obtain ⟨rfl, w⟩ := hh
  exact ⟨rfl, w⟩
 refine Cw.mono (hl1 s.size 0   _ _ (by omega)  rfl rfl rfl h) ?_
 intro oY gY sY hh
 generalize hzL1 : m15_l1 s s.size 0  = zZ at hh ⊢
 rcases zZ with vZ | rZ
 dsimp only
 obtain ⟨rfl, h⟩ := hh
 have hbd1 := okS_len h_s
 exact Ck h fun _ _ h => Rg 1 rfl (Rz h fun h => Cr ⟨.inr rfl, _, rfl, rfl, rfl⟩)
 obtain ⟨rfl, w⟩ := hh
 exact ⟨.inr rfl, w⟩
 exact Ct rfl (Ck h fun _ _ h => Rg 1 rfl (Rz h fun h => Cr ⟨.inr rfl, _, rfl, rfl, rfl⟩))
 exact Rg 3 rfl (Rz h fun h => Ct rfl (Ck h fun _ _ h => Rg 1 rfl (Rz h fun h => Cr ⟨.inr rfl, _, rfl, rfl, rfl⟩)))
 have p2 := of_decide_eq_true q2
 exact Rg 9 rfl (Rz h fun h => Ct rfl (Ck h fun _ _ h => Rg 1 rfl (Rz h fun h => Cr ⟨.inr rfl, _, rfl, rfl, rfl⟩)))
 exact Rg 14 rfl (Rz h fun h => Ct rfl (Ck h fun _ _ h => Rg 1 rfl (Rz h fun h => Cr ⟨.inr rfl, _, rfl, rfl, rfl⟩)))
noncomputable def H15 : List D → R D := mkH (L1 dS) (fun x => okS x) (fun x => dB (m15 x))
theorem i15 : InjE (L1 dS) := j1 jS
abbrev H129 := validH
theorem valid_eq (s : ByteArray) (h : okS s) : validH [D.c (.str s)] = .ok (D.c (.bool (Lib.validD s.data.toList))) := by
 unfold okS at h
 simp only [validH]
 rw [if_pos (by omega)]
def m73_1 (v : Val) : Lo Bool Int := (bif ((v.kind : Int) == 4) then .on true else .on ((v.kind : Int) == 5))
def m73_3 (v : Val) (v1_3 : Bool) : Lo Bool Int := (bif decide ((v.kind : Int) < 0) then .on true else .on (decide ((v.kind : Int) > 5)))
def m73_4 (v : Val) (v1_3 : Bool) (v3_12 : Bool) : Lo Bool Int := (bif ((v.kind : Int) == 1) then (bif ((v.n : Int) != 0) then .on ((v.n : Int) != 1) else .on false) else .on false)
def m73_5 (v : Val) (v1_3 : Bool) (v3_12 : Bool) (v4_12 : Bool) : Lo Bool Int := (bif ((v.kind : Int) != 1) then (bif ((v.kind : Int) != 2) then .on ((v.n : Int) != 0) else .on false) else .on false)
def m73_6 (v : Val) (v1_3 : Bool) (v3_12 : Bool) (v4_12 : Bool) (v5_12 : Bool) : Lo Bool Int := (bif ((v.kind : Int) != 3) then .on (((v.f : Int) : Int) != 0) else .on false)
def m73_7 (v : Val) (v1_3 : Bool) (v3_12 : Bool) (v4_12 : Bool) (v5_12 : Bool) (v6_12 : Bool) : Lo Bool Int := (bif (!v1_3) then .on (!(ByteArray.toList v.s == ByteArray.toList (⟨#[]⟩))) else .on false)
def m73_2 (v : Val) (v1_3 : Bool) : Lo Bool Int := (match m73_3 v v1_3 with | .out r => .out r | .on v3_12 => (bif v3_12 then .on v3_12 else (match m73_4 v v1_3 false with | .out r => .out r | .on v4_12 => (bif v4_12 then .on v4_12 else (match m73_5 v v1_3 false false with | .out r => .out r | .on v5_12 => (bif v5_12 then .on v5_12 else (match m73_6 v v1_3 false false false with | .out r => .out r | .on v6_12 => (bif v6_12 then .on v6_12 else (match m73_7 v v1_3 false false false false with | .out r => .out r | .on v7_12 => (bif v7_12 then .on v7_12 else (bif ((v.kind : Int) == 4) then .on (!(Lib.validD v.s.data.toList)) else .on false)))))))))))
def m73 (v : Val) : Int := (match m73_1 v with | .out r => r | .on v1_3 => (match m73_2 v v1_3 with | .out r => r | .on v2_12 => (bif v2_12 then 10 else (bif decide ((((v.s.size : Nat) : Int) : Int) > 65536) then 3 else 0))))
theorem m73_ev  (c70 : S 70 = none) (c129 : S 129 = some H129) (v : Val)  (h_v : Val.ok v) : ∃ d σ', Ev (EE S) 73 [dR Val.enc v] St.empty d σ' ∧ plain d = true ∧ strip d = dI (m73 v) := by
 unfold m73
 have h : Ko 0 St.empty [] [] := Ko.empty
 refine Ev.wp (E := EE S) (fn := Tryz.f73) (nt := 77) Tryz.func73 rfl rfl (Ck h fun _ _ h => Rw.bx (d := dR Val.enc v) h (Nat.le_add_right _ 0) rfl rfl rfl rfl rfl rfl fun b1 _ h => Rg 1 rfl (Rw.nilK h (Nat.add_le_add_left (by decide : 1 ≤ 2) _) fun h => ?_))
 refine Cw.seq (Cw.mono (Q := fun oX gX sX => match m73_1 v with | .on v1_3 => oX = none ∧ gX 1 = D.ptr b1 0 ∧ gX 3 = dB v1_3 ∧ Ko 0 sX [(b1, (dC Val.enc v))] [] | .out r => Ou S Tryz.f73 (fun d _ => plain d = true ∧ strip d = dI r) oX gX sX) ?_ ?_)
 unfold m73_1
 refine Cw.regionK h fun _ _ h => Rf fi29_0 rfl (Rl 0 h rfl (ty3.ldS rfl) (Rg 2 rfl ?_))
 cases q1 : ((v.kind : Int) == 4)
 exact Rf fi29_0 rfl (Rl 0 h rfl (ty3.ldS rfl) (Rg 3 rfl (Rz h fun h => an4 rfl rfl rfl h)))
 exact Rg 5 rfl (Rz h fun h => an4 rfl rfl rfl h)
 intro oY gY sY hh
 generalize hzF1 : m73_1 v = zZ at hh ⊢
 rcases zZ with v1_3 | rZ
 dsimp only
 obtain ⟨rfl, e1, e3, h⟩ := hh
 rw [pin e1, pin e3]
 refine Cs (Cb ?_)
 refine Cw.seq (Cw.mono (Q := fun oX gX sX => match m73_2 v v1_3 with | .on v2_12 => oX = none ∧ gX 1 = D.ptr b1 0 ∧ gX 12 = dB v2_12 ∧ Ko 0 sX [(b1, (dC Val.enc v))] [] | .out r => Ou S Tryz.f73 (fun d _ => plain d = true ∧ strip d = dI r) oX gX sX) ?_ ?_)
 unfold m73_2
 refine Cw.seq (Cw.mono (Q := fun oX gX sX => match m73_3 v v1_3 with | .on v3_12 => oX = none ∧ gX 1 = D.ptr b1 0 ∧ gX 3 = dB v1_3 ∧ gX 12 = dB v3_12 ∧ Ko 0 sX [(b1, (dC Val.enc v))] [] | .out r => Ou S Tryz.f73 (fun d _ => plain d = true ∧ strip d = dI r) oX gX sX) ?_ ?_)
 unfold m73_3
 refine Cw.regionK h fun _ _ h => Rf fi29_0 rfl (Rl 0 h rfl (ty3.ldS rfl) (Rg 2 rfl ?_))
 cases q2 : decide ((v.kind : Int) < 0)
 exact Rf fi29_0 rfl (Rl 0 h rfl (ty3.ldS rfl) (Rg 3 rfl (Rz h fun h => an5 rfl rfl rfl rfl h)))
 exact Rg 5 rfl (Rz h fun h => an5 rfl rfl rfl rfl h)
 intro oY gY sY hh
 generalize hzF3 : m73_3 v v1_3 = zZ at hh ⊢
 rcases zZ with v3_12 | rZ
 dsimp only
 obtain ⟨rfl, e1, e3, e12, h⟩ := hh
 rw [pin e1, pin e3, pin e12]
 cases q3 : v3_12
 refine Cf rfl ?_
 refine Cw.seq (Cw.mono (Q := fun oX gX sX => match m73_4 v v1_3 false with | .on v4_12 => oX = none ∧ gX 1 = D.ptr b1 0 ∧ gX 3 = dB v1_3 ∧ gX 12 = dB v4_12 ∧ Ko 0 sX [(b1, (dC Val.enc v))] [] | .out r => Ou S Tryz.f73 (fun d _ => plain d = true ∧ strip d = dI r) oX gX sX) ?_ ?_)
 unfold m73_4
 refine Cw.regionK h fun _ _ h => Rf fi29_0 rfl (Rl 0 h rfl (ty3.ldS rfl) (Rg 2 rfl ?_))
 cases q4 : ((v.kind : Int) == 1)
 exact Rg 10 rfl (Rz h fun h => an5 rfl rfl rfl rfl h)
 refine Rf fi29_1 rfl (Rl 0 h rfl (ty2.ldS rfl) (Rg 3 rfl ?_))
 cases q5 : ((v.n : Int) != 0)
 exact Rg 5 rfl (Rz h fun h => an5 rfl rfl rfl rfl h)
 exact Rf fi29_1 rfl (Rl 0 h rfl (ty2.ldS rfl) (Rg 3 rfl (Rz h fun h => an5 rfl rfl rfl rfl h)))
 intro oY gY sY hh
 generalize hzF4 : m73_4 v v1_3 false = zZ at hh ⊢
 rcases zZ with v4_12 | rZ
 dsimp only
 obtain ⟨rfl, e1, e3, e12, h⟩ := hh
 rw [pin e1, pin e3, pin e12]
 cases q6 : v4_12
 refine Cf rfl ?_
 refine Cw.seq (Cw.mono (Q := fun oX gX sX => match m73_5 v v1_3 false false with | .on v5_12 => oX = none ∧ gX 1 = D.ptr b1 0 ∧ gX 3 = dB v1_3 ∧ gX 12 = dB v5_12 ∧ Ko 0 sX [(b1, (dC Val.enc v))] [] | .out r => Ou S Tryz.f73 (fun d _ => plain d = true ∧ strip d = dI r) oX gX sX) ?_ ?_)
 unfold m73_5
 refine Cw.regionK h fun _ _ h => Rf fi29_0 rfl (Rl 0 h rfl (ty3.ldS rfl) (Rg 2 rfl ?_))
 cases q7 : ((v.kind : Int) != 1)
 exact Rg 10 rfl (Rz h fun h => an5 rfl rfl rfl rfl h)
 refine Rf fi29_0 rfl (Rl 0 h rfl (ty3.ldS rfl) (Rg 3 rfl ?_))
 cases q8 : ((v.kind : Int) != 2)
 exact Rg 5 rfl (Rz h fun h => an5 rfl rfl rfl rfl h)
 exact Rf fi29_1 rfl (Rl 0 h rfl (ty2.ldS rfl) (Rg 3 rfl (Rz h fun h => an5 rfl rfl rfl rfl h)))
 intro oY gY sY hh
 generalize hzF5 : m73_5 v v1_3 false false = zZ at hh ⊢
 rcases zZ with v5_12 | rZ
 dsimp only
 obtain ⟨rfl, e1, e3, e12, h⟩ := hh
 rw [pin e1, pin e3, pin e12]
 cases q9 : v5_12
 refine Cf rfl ?_
 refine Cw.seq (Cw.mono (Q := fun oX gX sX => match m73_6 v v1_3 false false false with | .on v6_12 => oX = none ∧ gX 1 = D.ptr b1 0 ∧ gX 3 = dB v1_3 ∧ gX 12 = dB v6_12 ∧ Ko 0 sX [(b1, (dC Val.enc v))] [] | .out r => Ou S Tryz.f73 (fun d _ => plain d = true ∧ strip d = dI r) oX gX sX) ?_ ?_)
 unfold m73_6
 refine Cw.regionK h fun _ _ h => Rf fi29_0 rfl (Rl 0 h rfl (ty3.ldS rfl) (Rg 2 rfl ?_))
 cases q10 : ((v.kind : Int) != 3)
 exact Rg 6 rfl (Rz h fun h => an5 rfl rfl rfl rfl h)
 exact Rf fi29_2 rfl (Rl 0 h rfl (ty27.ldS rfl) (Rs rfl (fun _ => op_ext (d := D.c (.int .u64 v.f)) rfl rfl c70 rfl rfl rfl) (Rg 3 rfl (Rz h fun h => an5 rfl rfl rfl rfl h))))
 intro oY gY sY hh
 generalize hzF6 : m73_6 v v1_3 false false false = zZ at hh ⊢
 rcases zZ with v6_12 | rZ
 dsimp only
 obtain ⟨rfl, e1, e3, e12, h⟩ := hh
 rw [pin e1, pin e3, pin e12]
 cases q11 : v6_12
 refine Cf rfl ?_
 refine Cw.seq (Cw.mono (Q := fun oX gX sX => match m73_7 v v1_3 false false false false with | .on v7_12 => oX = none ∧ gX 1 = D.ptr b1 0 ∧ gX 12 = dB v7_12 ∧ Ko 0 sX [(b1, (dC Val.enc v))] [] | .out r => Ou S Tryz.f73 (fun d _ => plain d = true ∧ strip d = dI r) oX gX sX) ?_ ?_)
 unfold m73_7
 refine Cw.regionK h fun _ _ h => Rg 3 rfl ?_
 cases q12 : (!v1_3)
 exact Rg 5 rfl (Rz h fun h => an4 rfl rfl rfl h)
 exact Rf fi29_3 rfl (Rl 0 h rfl (ty9.ldS rfl) (Rg 3 rfl (Rz h fun h => an4 rfl rfl rfl h)))
 intro oY gY sY hh
 generalize hzF7 : m73_7 v v1_3 false false false false = zZ at hh ⊢
 rcases zZ with v7_12 | rZ
 dsimp only
 obtain ⟨rfl, e1, e12, h⟩ := hh
 rw [pin e1, pin e12]
 cases q13 : v7_12
 refine Cf rfl (Cw.regionK h fun _ _ h => Rf fi29_0 rfl (Rl 0 h rfl (ty3.ldS rfl) (Rg 2 rfl ?_)))
 cases q14 : ((v.kind : Int) == 4)
 exact Rg 6 rfl (Rz h fun h => an4 rfl rfl rfl h)
 exact Rf fi29_3 rfl (Rl 0 h rfl (ty9.ldS rfl) (Rs rfl (fun _ => op_call (d := D.c (.bool (Lib.validD v.s.data.toList))) rfl rfl c129 rfl (valid_eq _ (Val.ok_s h_v))) (Rg 3 rfl (Rz h fun h => an4 rfl rfl rfl h))))
 exact Ct rfl (Ci (an4 rfl rfl rfl h))
 obtain ⟨rfl, w⟩ := hh
 exact ⟨rfl, w⟩
 exact Ct rfl (Ci (an4 rfl rfl rfl h))
 obtain ⟨rfl, w⟩ := hh
 exact ⟨rfl, w⟩
 exact Ct rfl (Ci (an4 rfl rfl rfl h))
 obtain ⟨rfl, w⟩ := hh
 exact ⟨rfl, w⟩
 exact Ct rfl (Ci (an4 rfl rfl rfl h))
 obtain ⟨rfl, w⟩ := hh
 exact ⟨rfl, w⟩
 exact Ct rfl (Ci (an4 rfl rfl rfl h))
 obtain ⟨rfl, w⟩ := hh
 exact ⟨rfl, w⟩
 intro oY gY sY hh
 generalize hzF2 : m73_2 v v1_3 = zZ at hh ⊢
 rcases zZ with v2_12 | rZ
 dsimp only
 obtain ⟨rfl, e1, e12, h⟩ := hh
 rw [pin e1, pin e12]
 cases q15 : v2_12
 refine Cf rfl (Ck h fun _ _ h => Rf fi29_3 rfl (Rl 0 h rfl (ty9.ldS rfl) (Rs rfl (fun _ => op_len_str rfl Tryz.underlying9) (Rg 2 rfl (Rz h fun h => ?_)))))
 cases q16 : decide ((((v.s.size : Nat) : Int) : Int) > 65536)
 exact Cf rfl (Ci (Ck h fun _ _ h => Rg 1 rfl (Rz h fun h => Cr ⟨.inr rfl, _, rfl, rfl, rfl⟩)))
 exact Ct rfl (Ck h fun _ _ h => Rg 1 rfl (Rz h fun h => Cr ⟨.inr rfl, _, rfl, rfl, rfl⟩))
 exact Ct rfl (Ck h fun _ _ h => Rg 1 rfl (Rz h fun h => Cr ⟨.inr rfl, _, rfl, rfl, rfl⟩))
 obtain ⟨rfl, w⟩ := hh
 exact ⟨.inr rfl, w⟩
 obtain ⟨rfl, w⟩ := hh
 exact ⟨.inr rfl, w⟩
noncomputable def H73 : List D → R D := mkH (L1 (dR Val.enc)) (fun x => Val.ok x) (fun x => dI (m73 x))
theorem i73 : InjE (L1 (dR Val.enc)) := j1 (jR Val.inj)
noncomputable def cm30_l1 : Code := (cl (cr (cl (cr (bodyOf Tryz.f30)))))
def m30_2 (t : Tbl) (i1 : Nat) : Lo Bool Int := (bif decide (((t.columns.getD i1 default).kind : Int) < 1) then .on true else .on (decide (((t.columns.getD i1 default).kind : Int) > 5)))
def m30_1 (t : Tbl) (i1 : Nat) : Lo Bool Int := (match m30_2 t i1 with | .out r => .out r | .on v2_27 => (bif v2_27 then .on v2_27 else (bif (((m73 ((t.columns.getD i1 default).dflt)) : Int) != 0) then .on (((m73 ((t.columns.getD i1 default).dflt)) : Int) != 0) else (bif ((((t.columns.getD i1 default).dflt).kind : Int) != 0) then .on ((((t.columns.getD i1 default).dflt).kind : Int) != (t.columns.getD i1 default).kind) else .on false))))
def m30_l1 (t : Tbl) : Nat → Nat → Lo Unit Int
 | 0, _ => .on ()
 | rem1 + 1, i1 => (bif (!(m15 ((t.columns.getD i1 default).name))) then .out 30 else (bif (m71 (t.columns.take i1) (fun x => m72 x (t.columns.getD i1 default))) then .out 31 else (match m30_1 t i1 with | .out r => .out r | .on v1_27 => (bif v1_27 then .out 32 else m30_l1 t rem1 (i1 + 1) ))))
def m30 (t : Tbl) : Int := (match m30_l1 t t.columns.length 0  with | .out r => r | .on _ => 0)
theorem m30_ev  (c15 : S 15 = some H15) (c73 : S 73 = some H73) (n71 : S 71 = none) (n72 : S 72 = none) (n128 : S 128 = none) (t : Tbl)  (h_t : Tbl.ok t) : ∃ d σ', Ev (EE S) 30 [dR Tbl.enc t] St.empty d σ' ∧ plain d = true ∧ strip d = dI (m30 t) := by
 unfold m30
 have h : Ko 0 St.empty [] [] := Ko.empty
 refine Ev.wp (E := EE S) (fn := Tryz.f30) (nt := 53) Tryz.func30 rfl rfl (Ck h fun _ _ h => Rw.bx (d := dR Tbl.enc t) h (Nat.le_add_right _ 0) rfl rfl rfl rfl rfl rfl fun b1 _ h => Rg 1 rfl (Rw.nilK h (Nat.add_le_add_left (by decide : 1 ≤ 2) _) fun h => Cs (Ck h fun _ _ h => Rf fi39_1 rfl (Rl 0 h rfl (ty35.ldS rfl) (Re Tryz.underlying35 rfl (Rg 1 rfl (Rz h fun h => Cb ?_)))))))
 have hl1 : ∀ (rem1 i1 : Nat) (fr : Nat → D) (σ : St), i1 + rem1 = t.columns.length → fr 1 = D.ptr b1 0 → fr 7 = dL Col.enc t.columns → fr 8 = dN t.columns.length → fr 9 = dN i1 → Ko 0 σ [(b1, (dC Tbl.enc t))] [] → Cw (EE S) cm30_l1 53 fr σ (fun oX gX sX => match m30_l1 t rem1 i1  with | .on _ => oX = some (some 0) ∧ Ko 0 sX [(b1, (dC Tbl.enc t))] [] | .out r => Ou S Tryz.f30 (fun d _ => plain d = true ∧ strip d = dI r) oX gX sX) := by
  intro rem1
  induction rem1
  intro i1   fr σ hi  e1 e7 e8 e9 h
  have hlt1 : decide ((((i1 : Nat) : Int) : Int) < ((t.columns.length : Nat) : Int)) = false := decF (by omega)
  rw [pin e1, pin e7, pin e8, pin e9]
  rw [m30_l1]
  exact Co (Ck h fun _ _ h => Rs rfl (fun _ => op_lss_int rfl rfl hlt1) (Rz h fun h => Cs (Cf rfl (Cw.exit (an2 rfl h)))))
  rename_i rem1 ih
  intro i1   fr σ hi  e1 e7 e8 e9 h
  have hlt1 : decide ((((i1 : Nat) : Int) : Int) < ((t.columns.length : Nat) : Int)) = true := decT (by omega)
  have hil1 : i1 < t.columns.length := by omega
  have hbq1 := okL_len (Tbl.ok_columns h_t)
  rw [pin e1, pin e7, pin e8, pin e9]
  rw [m30_l1]
  refine Co (Ck h fun _ _ h => Rs rfl (fun _ => op_lss_int rfl rfl hlt1) (Rz h fun h => Cs (Ct rfl (Ci (Cs (Cb (Ck h fun _ _ h => Rg 1 rfl (Rs rfl (fun _ => op_ix (n := i1) rfl rfl rfl Tryz.underlying35 ty65.hn (at_map hil1) rfl) (Rs rfl (fun _ => op_ldC (d := dR Col.enc (t.columns.getD i1 default)) rfl (at_map hil1) (ty65.lcA rfl rfl)) (Rw.al (z := zc65) h (Nat.le_add_right _ 3) rfl rfl rfl (z65 (S := S)) rfl fun b2 _ h => Rg 1 rfl (Rw.st (k := 0) (cs' := (dC Col.enc (t.columns.getD i1 default))) h (Nat.le_add_right _ 1) rfl rfl rfl rfl rfl ty65.hn rfl rfl rfl fun _ h => Rw.nilK h (Nat.add_le_add_left (by decide : 6 ≤ 6) _) fun h => Ck h fun _ _ h => Rf fi39_1 rfl (Rl 1 h rfl (ty35.ldS rfl) (Rg 1 rfl (Rs rfl (fun _ => op_slH (l := t.columns) (h := i1) rfl rfl Tryz.underlying35 ty65.hn rfl (by omega) (fun _ => rfl)) (Rs rfl (fun _ => op_fn (a := []) (b := [D.ptr b2 0]) rfl rfl) ?_)))))))))))))))
  obtain ⟨dX, sX, hev, rfl, hKX⟩ := m71_ev n128 (t.columns.take i1) (fun x => m72 x (t.columns.getD i1 default)) (okL_take (Tbl.ok_columns h_t)) (dL Col.enc (t.columns.take i1)) rfl 72 [D.ptr b2 0] (fun x hm hx _ _ h => m72_ev  x (t.columns.getD i1 default) hx (okL_get (Tbl.ok_columns h_t) Col.zok i1)  b2 0 rfl h) n72 rfl (fun _ => rfl) rfl (h.ko (Nat.add_le_add_left (by decide : 0 ≤ 7) _))
  refine Rw.on (first := []) (cap := []) (das := [dL Col.enc (t.columns.take i1), D.fn 72 [] [D.ptr b2 0]]) rfl rfl rfl rfl rfl n71 rfl (all2F rfl) hev rfl ?_
  replace h := h.back hKX rfl
  refine Rg 1 rfl (Rw.nilK h (Nat.add_le_add_left (by decide : 1 ≤ 7) _) fun h => Cb (Ck h fun _ _ h => Rf fi65_0 rfl (Rl 0 h rfl (ty9.ldS rfl) (Rs rfl (fun _ => op_call (d := dB (m15 ((t.columns.getD i1 default).name))) rfl rfl c15 rfl (He i15 ((t.columns.getD i1 default).name) (Col.ok_name (okL_get (Tbl.ok_columns h_t) Col.zok i1)) rfl)) (Rg 2 rfl (Rz h fun h => ?_))))))
  cases q1 : (!(m15 ((t.columns.getD i1 default).name)))
  refine Cf rfl (Ck h fun _ _ h => Rg 2 rfl (Rz h fun h => ?_))
  cases q2 : (m71 (t.columns.take i1) (fun x => m72 x (t.columns.getD i1 default)))
  refine Cf rfl ?_
  refine Cw.seq (Cw.mono (Q := fun oX gX sX => match m30_1 t i1 with | .on v1_27 => oX = none ∧ gX 1 = D.ptr b1 0 ∧ gX 7 = dL Col.enc t.columns ∧ gX 8 = dN t.columns.length ∧ gX 9 = dN i1 ∧ gX 27 = dB v1_27 ∧ Ko 0 sX [(b2, (dC Col.enc (t.columns.getD i1 default))), (b1, (dC Tbl.enc t))] [] | .out r => Ou S Tryz.f30 (fun d _ => plain d = true ∧ strip d = dI r) oX gX sX) ?_ ?_)
  unfold m30_1
  refine Cw.seq (Cw.mono (Q := fun oX gX sX => match m30_2 t i1 with | .on v2_27 => oX = none ∧ gX 1 = D.ptr b1 0 ∧ gX 4 = D.ptr b2 0 ∧ gX 7 = dL Col.enc t.columns ∧ gX 8 = dN t.columns.length ∧ gX 9 = dN i1 ∧ gX 27 = dB v2_27 ∧ Ko 0 sX [(b2, (dC Col.enc (t.columns.getD i1 default))), (b1, (dC Tbl.enc t))] [] | .out r => Ou S Tryz.f30 (fun d _ => plain d = true ∧ strip d = dI r) oX gX sX) ?_ ?_)
  unfold m30_2
  refine Cw.regionK h fun _ _ h => Rf fi65_1 rfl (Rl 0 h rfl (ty3.ldS rfl) (Rg 2 rfl ?_))
  cases q3 : decide (((t.columns.getD i1 default).kind : Int) < 1)
  exact Rf fi65_1 rfl (Rl 0 h rfl (ty3.ldS rfl) (Rg 3 rfl (Rz h fun h => an8 rfl rfl rfl rfl rfl rfl rfl h)))
  exact Rg 5 rfl (Rz h fun h => an8 rfl rfl rfl rfl rfl rfl rfl h)
  intro oY gY sY hh
  generalize hzF2 : m30_2 t i1 = zZ at hh ⊢
  rcases zZ with v2_27 | rZ
  dsimp only
  obtain ⟨rfl, e1, e4, e7, e8, e9, e27, h⟩ := hh
  rw [pin e1, pin e4, pin e7, pin e8, pin e9, pin e27]
  cases q4 : v2_27
  refine Cf rfl (Ck h fun _ _ h => Rf fi65_3 rfl (Rw.ld (k := 0) (d := dR Val.enc ((t.columns.getD i1 default).dflt)) h rfl rfl rfl rfl rfl (ty29.ldA rfl rfl) rfl (Rs rfl (fun _ => op_call (d := dI (m73 ((t.columns.getD i1 default).dflt))) rfl rfl c73 rfl (He i73 ((t.columns.getD i1 default).dflt) (Col.ok_dflt (okL_get (Tbl.ok_columns h_t) Col.zok i1)) rfl)) (Rg 2 rfl (Rz h fun h => ?_)))))
  cases q5 : (((m73 ((t.columns.getD i1 default).dflt)) : Int) != 0)
  refine Cf rfl (Cw.regionK h fun _ _ h => Rf fi65_3 rfl (Rf fi29_0 rfl (Rl 0 h rfl (ty3.ldS rfl) (Rg 2 rfl ?_))))
  cases q6 : ((((t.columns.getD i1 default).dflt).kind : Int) != 0)
  exact Rg 8 rfl (Rz h fun h => an7 rfl rfl rfl rfl rfl rfl h)
  exact Rf fi65_3 rfl (Rf fi29_0 rfl (Rl 0 h rfl (ty3.ldS rfl) (Rf fi65_1 rfl (Rl 0 h rfl (ty3.ldS rfl) (Rg 3 rfl (Rz h fun h => an7 rfl rfl rfl rfl rfl rfl h))))))
  exact Ct rfl (Ci (an7 rfl rfl rfl rfl rfl rfl h))
  exact Ct rfl (Ci (an7 rfl rfl rfl rfl rfl rfl h))
  obtain ⟨rfl, w⟩ := hh
  exact ⟨rfl, w⟩
  intro oY gY sY hh
  generalize hzF1 : m30_1 t i1 = zZ at hh ⊢
  rcases zZ with v1_27 | rZ
  dsimp only
  obtain ⟨rfl, e1, e7, e8, e9, e27, h⟩ := hh
  rw [pin e1, pin e7, pin e8, pin e9, pin e27]
  cases q7 : v1_27
  exact Cf rfl (Ci (Cw.regionK h fun _ _ h => Rs rfl (fun _ => op_add_int (v := ((i1 + 1 : Nat) : Int)) rfl rfl (wrap_one (by omega))) (Rg 1 rfl (Rz h fun h => ih (i1 + 1)   _ _ (by omega)  rfl rfl rfl rfl (h.dropBox (List.Sublist.cons _ (List.Sublist.refl _)))))))
  exact Ct rfl (Ck h fun _ _ h => Rg 1 rfl (Rz h fun h => Cr (And.intro rfl (Exists.intro _ (an3 rfl rfl rfl)))))
  obtain ⟨rfl, w⟩ := hh
  exact ⟨rfl, w⟩
  exact Ct rfl (Ck h fun _ _ h => Rg 1 rfl (Rz h fun h => Cr (And.intro rfl (Exists.intro _ (an3 rfl rfl rfl)))))
  exact Ct rfl (Ck h fun _ _ h => Rg 1 rfl (Rz h fun h => Cr (And.intro rfl (Exists.intro _ (an3 rfl rfl rfl)))))
 refine Cw.mono (hl1 t.columns.length 0   _ _ (by omega)  rfl rfl rfl rfl h) ?_
 intro oY gY sY hh
 generalize hzL1 : m30_l1 t t.columns.length 0  = zZ at hh ⊢
 rcases zZ with vZ | rZ
 dsimp only
 obtain ⟨rfl, h⟩ := hh
 have hbd1 := okL_len (Tbl.ok_columns h_t)
 exact Ck h fun _ _ h => Rg 1 rfl (Rz h fun h => Cr ⟨.inr rfl, _, rfl, rfl, rfl⟩)
 obtain ⟨rfl, w⟩ := hh
 exact ⟨.inr rfl, w⟩
noncomputable def H30 : List D → R D := mkH (L1 (dR Tbl.enc)) (fun x => Tbl.ok x) (fun x => dI (m30 x))
theorem i30 : InjE (L1 (dR Tbl.enc)) := j1 (jR Tbl.inj)
theorem m31_l1_out {t : Tbl} {l : List Int} : ∀ (rem i : Nat) (r : Bool), m31_l1 t l rem i = .out r → r = false
  | 0, i, r, h => by rw [m31_l1] at h; cases h
  | rem + 1, i, r, h => by
    rw [m31_l1] at h
    cases q1 : decide ((l.getD i default : Int) < 0) with
    | true => simp only [q1, cond_true, Lo.out.injEq] at h; exact h.symm
    | false =>
      cases q2 : decide ((l.getD i default : Int) ≥ ((t.columns.length : Nat) : Int)) with
      | true => simp only [q1, q2, cond_true, cond_false, Lo.out.injEq] at h; exact h.symm
      | false =>
        simp only [q1, q2, cond_false] at h
        cases q3 : m52 (l.take i) (l.getD i default) with
        | true => simp only [q3, cond_true, Lo.out.injEq] at h; exact h.symm
        | false => simp only [q3, cond_false] at h; exact m31_l1_out rem (i + 1) r h
theorem m31_l1_on {t : Tbl} {l : List Int} : ∀ (rem i : Nat), m31_l1 t l rem i = .on () → ∀ j, i ≤ j → j < i + rem → 0 ≤ l.getD j default ∧ l.getD j default < (t.columns.length : Int)
  | 0, i, _, j, h1, h2 => by omega
  | rem + 1, i, h, j, h1, h2 => by
    rw [m31_l1] at h
    cases q1 : decide ((l.getD i default : Int) < 0) with
    | true => simp only [q1, cond_true, reduceCtorEq] at h
    | false =>
      cases q2 : decide ((l.getD i default : Int) ≥ ((t.columns.length : Nat) : Int)) with
      | true => simp only [q1, q2, cond_true, cond_false, reduceCtorEq] at h
      | false =>
        have p1 := of_decide_eq_false q1
        have p2 := of_decide_eq_false q2
        simp only [q1, q2, cond_false] at h
        by_cases hj : j = i
        · subst hj; exact ⟨by omega, by omega⟩
        · cases q3 : m52 (l.take i) (l.getD i default) with
          | true => simp only [q3, cond_true, reduceCtorEq] at h
          | false => simp only [q3, cond_false] at h; exact m31_l1_on rem (i + 1) h j (by omega) (by omega)
theorem m31_key {t : Tbl} {l : List Int} (h : m31 t l = true) : ∀ x ∈ l, 0 ≤ x ∧ x.toNat < t.columns.length := by
  intro x hx
  unfold m31 at h
  cases q1 : decide ((((l.length : Nat) : Int) : Int) < 1) with
  | true => simp only [q1, cond_true, reduceCtorEq] at h
  | false =>
    cases q2 : decide ((((l.length : Nat) : Int) : Int) > 64) with
    | true => simp only [q1, q2, cond_true, cond_false, reduceCtorEq] at h
    | false =>
      simp only [q1, q2, cond_false] at h
      cases q3 : m31_l1 t l l.length 0 with
      | out r => rw [q3] at h; simp only at h; rw [m31_l1_out _ _ _ q3] at h; cases h
      | on v =>
        obtain ⟨j, hj, rfl⟩ := mem_at hx
        obtain ⟨h1, h2⟩ := m31_l1_on l.length 0 (by rw [q3]) j (by omega) (by omega)
        exact ⟨h1, by omega⟩
def m33 (x : Int) (t : Tbl) : Bool := ((t.columns.getD x.toNat default).nul)
theorem m33_ev  {lo : Nat} {σ : St} {bs : List (Nat × List D)} {acs : List (D × List (List C) × Nat)} (x : Int) (t : Tbl)  (h_t : Tbl.ok t) (h_k : 0 ≤ x ∧ x.toNat < t.columns.length) (b_t kb_t : Nat) (hb_t : bs[kb_t]? = some (b_t, (dC Tbl.enc t))) (h : Ko lo σ bs acs) : ∃ d σ', Ev (EE S) 33 [dI x, D.ptr b_t 0] σ d σ' ∧ d = dB (m33 x t) ∧ Ko lo σ' bs acs := by
 unfold m33
 exact Ev.wp (E := EE S) (fn := Tryz.f33) (nt := 10) Tryz.func33 rfl rfl (Ck h fun _ _ h => Rg 1 rfl (Rz h fun h => Ck h fun _ _ h => Rf fi39_1 rfl (Rw.l (k := kb_t) h rfl rfl hb_t (ty35.ldS rfl) (Rg 1 rfl (Rs rfl (fun _ => op_ixI rfl rfl rfl Tryz.underlying35 ty65.hn h_k.1 (at_map h_k.2) rfl) (Rs rfl (fun _ => op_fr fi65_2 rfl rfl) (Rc (at_map h_k.2) ty4 rfl (Rg 1 rfl (Rz h fun h => Cr ⟨.inr rfl, _, rfl, rfl, h⟩)))))))))
def m35 (x : Idx) (y : Idx) : Bool := (ByteArray.toList x.name == ByteArray.toList y.name)
theorem m35_ev  {lo : Nat} {σ : St} {bs : List (Nat × List D)} {acs : List (D × List (List C) × Nat)} (x : Idx) (y : Idx)  (h_x : Idx.ok x) (h_y : Idx.ok y) (b_y kb_y : Nat) (hb_y : bs[kb_y]? = some (b_y, (dC Idx.enc y))) (h : Ko lo σ bs acs) : ∃ d σ', Ev (EE S) 35 [dR Idx.enc x, D.ptr b_y 0] σ d σ' ∧ d = dB (m35 x y) ∧ Ko lo σ' bs acs := by
 unfold m35
 exact Ev.wp (E := EE S) (fn := Tryz.f35) (nt := 9) Tryz.func35 rfl rfl (Ck h fun _ _ h => Rw.bx (d := dR Idx.enc x) h (Nat.le_add_right _ 0) rfl rfl rfl rfl rfl rfl fun b1 _ h => Rg 1 rfl (Rw.nilK h (Nat.add_le_add_left (by decide : 1 ≤ 2) _) fun h => Ck h fun _ _ h => Rf fi72_0 rfl (Rl 0 h rfl (ty9.ldS rfl) (Rf fi72_0 rfl (Rw.ld (k := kb_y + 1) (d := dS y.name) h rfl rfl rfl rfl hb_y (ty9.ldS rfl) rfl (Rg 2 rfl (Rz h fun h => Cr ⟨.inr rfl, _, rfl, rfl, (h.dropBox (List.Sublist.cons _ (List.Sublist.refl _)))⟩)))))))
noncomputable def cm14_l1 : Code := (cl (cr (cl (cr (cr (cr (cr (cr (bodyOf Tryz.f14)))))))))
def m14_l1 (t : Tbl) : Nat → Nat → Lo Unit Int
 | 0, _ => .on ()
 | rem1 + 1, i1 => (bif (!(m15 ((t.indexes.getD i1 default).name))) then .out 30 else (bif (m34 (t.indexes.take i1) (fun x => m35 x (t.indexes.getD i1 default))) then .out 31 else (bif (!(m31 t ((t.indexes.getD i1 default).columns))) then .out 33 else m14_l1 t rem1 (i1 + 1) )))
noncomputable def cm14_l2 : Code := (cl (cr (cl (cr (cr (cr (cr (cr (cr (bodyOf Tryz.f14))))))))))
def m14_l2 (t : Tbl) : Nat → Nat → Lo Unit Int
 | 0, _ => .on ()
 | rem2 + 1, i2 => (bif (!(m15 ((t.refs.getD i2 default).table))) then .out 30 else (bif (!(m31 t ((t.refs.getD i2 default).columns))) then .out 33 else m14_l2 t rem2 (i2 + 1) ))
def m14 (t : Tbl) : Int := (bif (!(m15 t.name)) then 30 else (bif decide ((((t.columns.length : Nat) : Int) : Int) < 1) then 2 else (bif decide ((((t.columns.length : Nat) : Int) : Int) > 64) then 2 else (bif decide ((((t.indexes.length : Nat) : Int) : Int) > 16) then 2 else (bif decide ((((t.refs.length : Nat) : Int) : Int) > 16) then 2 else (bif (((m30 t) : Int) != 0) then (m30 t) else (bif (!(m31 t t.key)) then 33 else (bif (m32 t.key (fun x => m33 x t)) then 33 else (match m14_l1 t t.indexes.length 0  with | .out r => r | .on _ => (match m14_l2 t t.refs.length 0  with | .out r => r | .on _ => 0))))))))))
theorem m14_ev  (c15 : S 15 = some H15) (c30 : S 30 = some H30) (c31 : S 31 = some H31) (n32 : S 32 = none) (n33 : S 33 = none) (n34 : S 34 = none) (n35 : S 35 = none) (n74 : S 74 = none) (n75 : S 75 = none) (t : Tbl)  (h_t : Tbl.ok t) : ∃ d σ', Ev (EE S) 14 [dR Tbl.enc t] St.empty d σ' ∧ plain d = true ∧ strip d = dI (m14 t) := by
 unfold m14
 have h : Ko 0 St.empty [] [] := Ko.empty
 refine Ev.wp (E := EE S) (fn := Tryz.f14) (nt := 100) Tryz.func14 rfl rfl (Ck h fun _ _ h => Rw.bx (d := dR Tbl.enc t) h (Nat.le_add_right _ 0) rfl rfl rfl rfl rfl rfl fun b1 _ h => Rg 1 rfl (Rw.nilK h (Nat.add_le_add_left (by decide : 1 ≤ 2) _) fun h => Ck h fun _ _ h => Rf fi39_1 rfl (Rl 0 h rfl (ty35.ldS rfl) (Re Tryz.underlying35 rfl (Rg 1 rfl (Rz h fun h => Cs (Cb (Ck h fun _ _ h => Rf fi39_0 rfl (Rl 0 h rfl (ty9.ldS rfl) (Rs rfl (fun _ => op_call (d := dB (m15 t.name)) rfl rfl c15 rfl (He i15 t.name (Tbl.ok_name h_t) rfl)) (Rg 2 rfl (Rz h fun h => ?_))))))))))))
 cases q1 : (!(m15 t.name))
 refine Cf rfl (Ck h fun _ _ h => Rg 3 rfl ?_)
 cases q2 : decide ((((t.columns.length : Nat) : Int) : Int) < 1)
 refine Rg 4 rfl ?_
 cases q3 : decide ((((t.columns.length : Nat) : Int) : Int) > 64)
 refine Rf fi39_3 rfl (Rl 0 h rfl (ty36.ldS rfl) (Re Tryz.underlying36 rfl (Rg 3 rfl ?_)))
 cases q4 : decide ((((t.indexes.length : Nat) : Int) : Int) > 16)
 refine Rf fi39_4 rfl (Rl 0 h rfl (ty37.ldS rfl) (Re Tryz.underlying37 rfl (Rg 3 rfl (Rz h fun h => ?_))))
 cases q5 : decide ((((t.refs.length : Nat) : Int) : Int) > 16)
 refine Cf rfl (Ci (Cs (Ck h fun _ _ h => Rw.ld (k := 0) (d := dR Tbl.enc t) h rfl rfl rfl rfl rfl (ty39.ldA rfl rfl) rfl (Rs rfl (fun _ => op_call (d := dI (m30 t)) rfl rfl c30 rfl (He i30 t h_t rfl)) (Rg 1 rfl (Rz h fun h => Ck h fun _ _ h => Rg 2 rfl (Rz h fun h => ?_)))))))
 cases q6 : (((m30 t) : Int) != 0)
 refine Cf rfl (Ci (Cs (Ck h fun _ _ h => Rw.ld (k := 0) (d := dR Tbl.enc t) h rfl rfl rfl rfl rfl (ty39.ldA rfl rfl) rfl (Rf fi39_2 rfl (Rl 0 h rfl (ty23.ldS rfl) (Rs rfl (fun _ => op_call (d := dB (m31 t t.key)) rfl rfl c31 rfl (He i31 (t, t.key) ⟨h_t, (Tbl.ok_key h_t)⟩ rfl)) (Rg 2 rfl ?_)))))))
 cases q7 : (!(m31 t t.key))
 refine Rf fi39_2 rfl (Rl 0 h rfl (ty23.ldS rfl) (Rs rfl (fun _ => op_fn (a := []) (b := [D.ptr b1 0]) rfl rfl) ?_))
 obtain ⟨dX, sX, hev, rfl, hKX⟩ := m32_ev n74 t.key (fun x => m33 x t) (Tbl.ok_key h_t) (dL encI t.key) rfl 33 [D.ptr b1 0] (fun x hm hx _ _ h => m33_ev  x t  h_t (m31_key (of_notF q7) x hm) b1 0 rfl h) n33 rfl (fun _ => rfl) rfl (h.ko (Nat.add_le_add_left (by decide : 0 ≤ 11) _))
 refine Rw.on (first := []) (cap := []) (das := [dL encI t.key, D.fn 33 [] [D.ptr b1 0]]) rfl rfl rfl rfl rfl n32 rfl (all2F rfl) hev rfl ?_
 replace h := h.back hKX rfl
 refine Rg 1 rfl (Rw.nilK h (Nat.add_le_add_left (by decide : 1 ≤ 11) _) fun h => ?_)
 cases q8 : (m32 t.key (fun x => m33 x t))
 refine Cf rfl (Ci (Cs (Ck h fun _ _ h => Rf fi39_3 rfl (Rl 0 h rfl (ty36.ldS rfl) (Re Tryz.underlying36 rfl (Rg 1 rfl (Rz h fun h => Cb ?_)))))))
 have hl1 : ∀ (rem1 i1 : Nat) (fr : Nat → D) (σ : St), i1 + rem1 = t.indexes.length → fr 1 = D.ptr b1 0 → fr 54 = dL Idx.enc t.indexes → fr 55 = dN t.indexes.length → fr 56 = dN i1 → Ko 0 σ [(b1, (dC Tbl.enc t))] [] → Cw (EE S) cm14_l1 100 fr σ (fun oX gX sX => match m14_l1 t rem1 i1  with | .on _ => oX = some (some 1) ∧ gX 1 = D.ptr b1 0 ∧ Ko 0 sX [(b1, (dC Tbl.enc t))] [] | .out r => Ou S Tryz.f14 (fun d _ => plain d = true ∧ strip d = dI r) oX gX sX) := by
  intro rem1
  induction rem1
  intro i1   fr σ hi  e1 e54 e55 e56 h
  have hlt1 : decide ((((i1 : Nat) : Int) : Int) < ((t.indexes.length : Nat) : Int)) = false := decF (by omega)
  rw [pin e1, pin e54, pin e55, pin e56]
  rw [m14_l1]
  exact Co (Ck h fun _ _ h => Rs rfl (fun _ => op_lss_int rfl rfl hlt1) (Rz h fun h => Cs (Cf rfl (Cw.exit (an3 rfl rfl h)))))
  rename_i rem1 ih
  intro i1   fr σ hi  e1 e54 e55 e56 h
  have hlt1 : decide ((((i1 : Nat) : Int) : Int) < ((t.indexes.length : Nat) : Int)) = true := decT (by omega)
  have hil1 : i1 < t.indexes.length := by omega
  have hbq1 := okL_len (Tbl.ok_indexes h_t)
  rw [pin e1, pin e54, pin e55, pin e56]
  rw [m14_l1]
  refine Co (Ck h fun _ _ h => Rs rfl (fun _ => op_lss_int rfl rfl hlt1) (Rz h fun h => Cs (Ct rfl (Ci (Cs (Cb (Ck h fun _ _ h => Rg 1 rfl (Rs rfl (fun _ => op_ix (n := i1) rfl rfl rfl Tryz.underlying36 ty72.hn (at_map hil1) rfl) (Rs rfl (fun _ => op_ldC (d := dR Idx.enc (t.indexes.getD i1 default)) rfl (at_map hil1) (ty72.lcA rfl rfl)) (Rw.al (z := zc72) h (Nat.le_add_right _ 3) rfl rfl rfl (z72 (S := S)) rfl fun b2 _ h => Rg 1 rfl (Rw.st (k := 0) (cs' := (dC Idx.enc (t.indexes.getD i1 default))) h (Nat.le_add_right _ 1) rfl rfl rfl rfl rfl ty72.hn rfl rfl rfl fun _ h => Rw.nilK h (Nat.add_le_add_left (by decide : 6 ≤ 6) _) fun h => Ck h fun _ _ h => Rf fi39_3 rfl (Rl 1 h rfl (ty36.ldS rfl) (Rg 1 rfl (Rs rfl (fun _ => op_slH (l := t.indexes) (h := i1) rfl rfl Tryz.underlying36 ty72.hn rfl (by omega) (fun _ => rfl)) (Rs rfl (fun _ => op_fn (a := []) (b := [D.ptr b2 0]) rfl rfl) ?_)))))))))))))))
  obtain ⟨dX, sX, hev, rfl, hKX⟩ := m34_ev n75 (t.indexes.take i1) (fun x => m35 x (t.indexes.getD i1 default)) (okL_take (Tbl.ok_indexes h_t)) (dL Idx.enc (t.indexes.take i1)) rfl 35 [D.ptr b2 0] (fun x hm hx _ _ h => m35_ev  x (t.indexes.getD i1 default) hx (okL_get (Tbl.ok_indexes h_t) Idx.zok i1)  b2 0 rfl h) n35 rfl (fun _ => rfl) rfl (h.ko (Nat.add_le_add_left (by decide : 0 ≤ 7) _))
  refine Rw.on (first := []) (cap := []) (das := [dL Idx.enc (t.indexes.take i1), D.fn 35 [] [D.ptr b2 0]]) rfl rfl rfl rfl rfl n34 rfl (all2F rfl) hev rfl ?_
  replace h := h.back hKX rfl
  refine Rg 1 rfl (Rw.nilK h (Nat.add_le_add_left (by decide : 1 ≤ 7) _) fun h => Cb (Ck h fun _ _ h => Rf fi72_0 rfl (Rl 0 h rfl (ty9.ldS rfl) (Rs rfl (fun _ => op_call (d := dB (m15 ((t.indexes.getD i1 default).name))) rfl rfl c15 rfl (He i15 ((t.indexes.getD i1 default).name) (Idx.ok_name (okL_get (Tbl.ok_indexes h_t) Idx.zok i1)) rfl)) (Rg 2 rfl (Rz h fun h => ?_))))))
  cases q9 : (!(m15 ((t.indexes.getD i1 default).name)))
  refine Cf rfl (Ck h fun _ _ h => Rg 2 rfl (Rz h fun h => ?_))
  cases q10 : (m34 (t.indexes.take i1) (fun x => m35 x (t.indexes.getD i1 default)))
  refine Cf rfl (Ck h fun _ _ h => Rw.ld (k := 1) (d := dR Tbl.enc t) h rfl rfl rfl rfl rfl (ty39.ldA rfl rfl) rfl (Rf fi72_1 rfl (Rl 0 h rfl (ty23.ldS rfl) (Rs rfl (fun _ => op_call (d := dB (m31 t ((t.indexes.getD i1 default).columns))) rfl rfl c31 rfl (He i31 (t, ((t.indexes.getD i1 default).columns)) ⟨h_t, (Idx.ok_columns (okL_get (Tbl.ok_indexes h_t) Idx.zok i1))⟩ rfl)) (Rg 2 rfl (Rz h fun h => ?_))))))
  cases q11 : (!(m31 t ((t.indexes.getD i1 default).columns)))
  exact Cf rfl (Ci (Cw.regionK h fun _ _ h => Rs rfl (fun _ => op_add_int (v := ((i1 + 1 : Nat) : Int)) rfl rfl (wrap_one (by omega))) (Rg 1 rfl (Rz h fun h => ih (i1 + 1)   _ _ (by omega)  rfl rfl rfl rfl (h.dropBox (List.Sublist.cons _ (List.Sublist.refl _)))))))
  exact Ct rfl (Ck h fun _ _ h => Rg 1 rfl (Rz h fun h => Cr (And.intro rfl (Exists.intro _ (an3 rfl rfl rfl)))))
  exact Ct rfl (Ck h fun _ _ h => Rg 1 rfl (Rz h fun h => Cr (And.intro rfl (Exists.intro _ (an3 rfl rfl rfl)))))
  exact Ct rfl (Ck h fun _ _ h => Rg 1 rfl (Rz h fun h => Cr (And.intro rfl (Exists.intro _ (an3 rfl rfl rfl)))))
 refine Cw.mono (hl1 t.indexes.length 0   _ _ (by omega)  rfl rfl rfl rfl h) ?_
 intro oY gY sY hh
 generalize hzL1 : m14_l1 t t.indexes.length 0  = zZ at hh ⊢
 rcases zZ with vZ | rZ
 dsimp only
 obtain ⟨rfl, e1, h⟩ := hh
 rw [pin e1]
 have hbd1 := okL_len (Tbl.ok_indexes h_t)
 refine Cs (Ck h fun _ _ h => Rf fi39_4 rfl (Rl 0 h rfl (ty37.ldS rfl) (Re Tryz.underlying37 rfl (Rg 1 rfl (Rz h fun h => Cb ?_)))))
 have hl2 : ∀ (rem2 i2 : Nat) (fr : Nat → D) (σ : St), i2 + rem2 = t.refs.length → fr 1 = D.ptr b1 0 → fr 82 = dL Rfr.enc t.refs → fr 83 = dN t.refs.length → fr 84 = dN i2 → Ko 0 σ [(b1, (dC Tbl.enc t))] [] → Cw (EE S) cm14_l2 100 fr σ (fun oX gX sX => match m14_l2 t rem2 i2  with | .on _ => oX = some (some 4) ∧ Ko 0 sX [(b1, (dC Tbl.enc t))] [] | .out r => Ou S Tryz.f14 (fun d _ => plain d = true ∧ strip d = dI r) oX gX sX) := by
  intro rem2
  induction rem2
  intro i2   fr σ hi  e1 e82 e83 e84 h
  have hlt2 : decide ((((i2 : Nat) : Int) : Int) < ((t.refs.length : Nat) : Int)) = false := decF (by omega)
  rw [pin e1, pin e82, pin e83, pin e84]
  rw [m14_l2]
  exact Co (Ck h fun _ _ h => Rs rfl (fun _ => op_lss_int rfl rfl hlt2) (Rz h fun h => Cs (Cf rfl (Cw.exit (an2 rfl h)))))
  rename_i rem2 ih
  intro i2   fr σ hi  e1 e82 e83 e84 h
  have hlt2 : decide ((((i2 : Nat) : Int) : Int) < ((t.refs.length : Nat) : Int)) = true := decT (by omega)
  have hil2 : i2 < t.refs.length := by omega
  have hbq2 := okL_len (Tbl.ok_refs h_t)
  rw [pin e1, pin e82, pin e83, pin e84]
  rw [m14_l2]
  refine Co (Ck h fun _ _ h => Rs rfl (fun _ => op_lss_int rfl rfl hlt2) (Rz h fun h => Cs (Ct rfl (Ci (Cs (Cb (Ck h fun _ _ h => Rs rfl (fun _ => op_ix (n := i2) rfl rfl rfl Tryz.underlying37 ty74.hn (at_map hil2) rfl) (Rs rfl (fun _ => op_ldC (d := dR Rfr.enc (t.refs.getD i2 default)) rfl (at_map hil2) (ty74.lcA rfl rfl)) (Rw.al (z := zc74) h (Nat.le_add_right _ 2) rfl rfl rfl (z74 (S := S)) rfl fun b3 _ h => Rw.st (k := 0) (cs' := (dC Rfr.enc (t.refs.getD i2 default))) h (Nat.le_add_right _ 0) rfl rfl rfl rfl rfl ty74.hn rfl rfl rfl fun _ h => Rw.nilK h (Nat.add_le_add_left (by decide : 4 ≤ 4) _) fun h => Cb (Ck h fun _ _ h => Rf fi74_1 rfl (Rl 0 h rfl (ty9.ldS rfl) (Rs rfl (fun _ => op_call (d := dB (m15 ((t.refs.getD i2 default).table))) rfl rfl c15 rfl (He i15 ((t.refs.getD i2 default).table) (Rfr.ok_table (okL_get (Tbl.ok_refs h_t) Rfr.zok i2)) rfl)) (Rg 2 rfl (Rz h fun h => ?_))))))))))))))
  cases q12 : (!(m15 ((t.refs.getD i2 default).table)))
  refine Cf rfl (Ck h fun _ _ h => Rw.ld (k := 1) (d := dR Tbl.enc t) h rfl rfl rfl rfl rfl (ty39.ldA rfl rfl) rfl (Rf fi74_0 rfl (Rl 0 h rfl (ty23.ldS rfl) (Rs rfl (fun _ => op_call (d := dB (m31 t ((t.refs.getD i2 default).columns))) rfl rfl c31 rfl (He i31 (t, ((t.refs.getD i2 default).columns)) ⟨h_t, (Rfr.ok_columns (okL_get (Tbl.ok_refs h_t) Rfr.zok i2))⟩ rfl)) (Rg 2 rfl (Rz h fun h => ?_))))))
  cases q13 : (!(m31 t ((t.refs.getD i2 default).columns)))
  exact Cf rfl (Ci (Cw.regionK h fun _ _ h => Rs rfl (fun _ => op_add_int (v := ((i2 + 1 : Nat) : Int)) rfl rfl (wrap_one (by omega))) (Rg 1 rfl (Rz h fun h => ih (i2 + 1)   _ _ (by omega)  rfl rfl rfl rfl (h.dropBox (List.Sublist.cons _ (List.Sublist.refl _)))))))
  exact Ct rfl (Ck h fun _ _ h => Rg 1 rfl (Rz h fun h => Cr (And.intro rfl (Exists.intro _ (an3 rfl rfl rfl)))))
  exact Ct rfl (Ck h fun _ _ h => Rg 1 rfl (Rz h fun h => Cr (And.intro rfl (Exists.intro _ (an3 rfl rfl rfl)))))
 refine Cw.mono (hl2 t.refs.length 0   _ _ (by omega)  rfl rfl rfl rfl h) ?_
 intro oY gY sY hh
 generalize hzL2 : m14_l2 t t.refs.length 0  = zZ at hh ⊢
 rcases zZ with vZ | rZ
 dsimp only
 obtain ⟨rfl, h⟩ := hh
 have hbd2 := okL_len (Tbl.ok_refs h_t)
 exact Ck h fun _ _ h => Rg 1 rfl (Rz h fun h => Cr ⟨.inr rfl, _, rfl, rfl, rfl⟩)
 obtain ⟨rfl, w⟩ := hh
 exact ⟨.inr rfl, w⟩
 obtain ⟨rfl, w⟩ := hh
 exact ⟨.inr rfl, w⟩
 exact Ct rfl (Ck h fun _ _ h => Rg 1 rfl (Rz h fun h => Cr ⟨.inr rfl, _, rfl, rfl, rfl⟩))
 exact Rg 5 rfl (Rz h fun h => Ct rfl (Ck h fun _ _ h => Rg 1 rfl (Rz h fun h => Cr ⟨.inr rfl, _, rfl, rfl, rfl⟩)))
 exact Ct rfl (Ck h fun _ _ h => Rg 2 rfl (Rz h fun h => Cr ⟨.inr rfl, _, rfl, rfl, rfl⟩))
 exact Ct rfl (Ck h fun _ _ h => Rg 1 rfl (Rz h fun h => Cr ⟨.inr rfl, _, rfl, rfl, rfl⟩))
 exact Rg 6 rfl (Rz h fun h => Ct rfl (Ck h fun _ _ h => Rg 1 rfl (Rz h fun h => Cr ⟨.inr rfl, _, rfl, rfl, rfl⟩)))
 exact Rg 12 rfl (Rz h fun h => Ct rfl (Ck h fun _ _ h => Rg 1 rfl (Rz h fun h => Cr ⟨.inr rfl, _, rfl, rfl, rfl⟩)))
 exact Rg 16 rfl (Rz h fun h => Ct rfl (Ck h fun _ _ h => Rg 1 rfl (Rz h fun h => Cr ⟨.inr rfl, _, rfl, rfl, rfl⟩)))
 exact Ct rfl (Ck h fun _ _ h => Rg 1 rfl (Rz h fun h => Cr ⟨.inr rfl, _, rfl, rfl, rfl⟩))
noncomputable def H14 : List D → R D := mkH (L1 (dR Tbl.enc)) (fun x => Tbl.ok x) (fun x => dI (m14 x))
theorem i14 : InjE (L1 (dR Tbl.enc)) := j1 (jR Tbl.inj)
def m133 (v : Val) : Bool := (bif ((v.kind : Int) == 0) then (bif ((v.n : Int) == 0) then (bif (((v.f : Int) : Int) == 0) then (ByteArray.toList v.s == ByteArray.toList (⟨#[]⟩)) else false) else false) else false)
theorem m133_ev  (c70 : S 70 = none) (v : Val)  (h_v : Val.ok v) : ∃ d σ', Ev (EE S) 133 [dR Val.enc v] St.empty d σ' ∧ plain d = true ∧ strip d = dB (m133 v) := by
 unfold m133
 have h : Ko 0 St.empty [] [] := Ko.empty
 refine Ev.wp (E := EE S) (fn := Tryz.f133) (nt := 22) Tryz.func133 rfl rfl (Ck h fun _ _ h => Rw.bx (d := dR Val.enc v) h (Nat.le_add_right _ 0) rfl rfl rfl rfl rfl rfl fun b1 _ h => Rg 1 rfl (Rw.nilK h (Nat.add_le_add_left (by decide : 1 ≤ 2) _) fun h => Ck h fun _ _ h => Rf fi29_0 rfl (Rl 0 h rfl (ty3.ldS rfl) (Rg 2 rfl ?_))))
 cases q1 : ((v.kind : Int) == 0)
 exact Rg 16 rfl (Rz h fun h => Cr ⟨.inr rfl, _, rfl, rfl, rfl⟩)
 refine Rf fi29_1 rfl (Rl 0 h rfl (ty2.ldS rfl) (Rg 3 rfl ?_))
 cases q2 : ((v.n : Int) == 0)
 exact Rg 11 rfl (Rz h fun h => Cr ⟨.inr rfl, _, rfl, rfl, rfl⟩)
 refine Rf fi29_2 rfl (Rl 0 h rfl (ty27.ldS rfl) (Rs rfl (fun _ => op_ext (d := D.c (.int .u64 v.f)) rfl rfl c70 rfl rfl rfl) (Rg 3 rfl ?_)))
 cases q3 : (((v.f : Int) : Int) == 0)
 exact Rg 5 rfl (Rz h fun h => Cr ⟨.inr rfl, _, rfl, rfl, rfl⟩)
 exact Rf fi29_3 rfl (Rl 0 h rfl (ty9.ldS rfl) (Rg 3 rfl (Rz h fun h => Cr ⟨.inr rfl, _, rfl, rfl, rfl⟩)))
noncomputable def H133 : List D → R D := mkH (L1 (dR Val.enc)) (fun x => Val.ok x) (fun x => dB (m133 x))
theorem i133 : InjE (L1 (dR Val.enc)) := j1 (jR Val.inj)
def m137 (k : Int) : Bool := (bif ((k : Int) == 2) then true else ((k : Int) == 3))
theorem m137_ev  (k : Int)  : ∃ d σ', Ev (EE S) 137 [dI k] St.empty d σ' ∧ plain d = true ∧ strip d = dB (m137 k) := by
 unfold m137
 have h : Ko 0 St.empty [] [] := Ko.empty
 refine Ev.wp (E := EE S) (fn := Tryz.f137) (nt := 9) Tryz.func137 rfl rfl (Ck h fun _ _ h => Rg 1 rfl (Rz h fun h => Ck h fun _ _ h => Rg 3 rfl ?_))
 cases q1 : ((k : Int) == 2)
 exact Rg 4 rfl (Rz h fun h => Cr ⟨.inr rfl, _, rfl, rfl, rfl⟩)
 exact Rg 4 rfl (Rz h fun h => Cr ⟨.inr rfl, _, rfl, rfl, rfl⟩)
noncomputable def H137 : List D → R D := mkH (L1 dI) (fun _ => True) (fun x => dB (m137 x))
theorem i137 : InjE (L1 dI) := j1 jI
def m138 (k : Int) : Bool := (bif ((k : Int) == 1) then true else ((k : Int) == 0))
theorem m138_ev  (k : Int)  : ∃ d σ', Ev (EE S) 138 [dI k] St.empty d σ' ∧ plain d = true ∧ strip d = dB (m138 k) := by
 unfold m138
 have h : Ko 0 St.empty [] [] := Ko.empty
 refine Ev.wp (E := EE S) (fn := Tryz.f138) (nt := 9) Tryz.func138 rfl rfl (Ck h fun _ _ h => Rg 1 rfl (Rz h fun h => Ck h fun _ _ h => Rg 3 rfl ?_))
 cases q1 : ((k : Int) == 1)
 exact Rg 4 rfl (Rz h fun h => Cr ⟨.inr rfl, _, rfl, rfl, rfl⟩)
 exact Rg 4 rfl (Rz h fun h => Cr ⟨.inr rfl, _, rfl, rfl, rfl⟩)
noncomputable def H138 : List D → R D := mkH (L1 dI) (fun _ => True) (fun x => dB (m138 x))
theorem i138 : InjE (L1 dI) := j1 jI
def m136 (a : Int) (b : Int) : Bool := (bif ((a : Int) == b) then true else (bif (m137 a) then (bif (m137 b) then true else (bif ((a : Int) == 0) then true else ((b : Int) == 0))) else (bif ((a : Int) == 0) then true else ((b : Int) == 0))))
theorem m136_ev  (c137 : S 137 = some H137) (a : Int) (b : Int)  : ∃ d σ', Ev (EE S) 136 [dI a, dI b] St.empty d σ' ∧ plain d = true ∧ strip d = dB (m136 a b) := by
 unfold m136
 have h : Ko 0 St.empty [] [] := Ko.empty
 refine Ev.wp (E := EE S) (fn := Tryz.f136) (nt := 24) Tryz.func136 rfl rfl (Ck h fun _ _ h => Rg 1 rfl (Rz h fun h => Ck h fun _ _ h => Rg 4 rfl ?_))
 cases q1 : ((a : Int) == b)
 refine Rg 1 rfl (Rs rfl (fun _ => op_call (d := dB (m137 a)) rfl rfl c137 rfl (He i137 a trivial rfl)) (Rg 1 rfl ?_))
 cases q2 : (m137 a)
 refine Rg 9 rfl ?_
 cases q3 : ((a : Int) == 0)
 exact Rg 4 rfl (Rz h fun h => Cr ⟨.inr rfl, _, rfl, rfl, rfl⟩)
 exact Rg 4 rfl (Rz h fun h => Cr ⟨.inr rfl, _, rfl, rfl, rfl⟩)
 refine Rg 1 rfl (Rs rfl (fun _ => op_call (d := dB (m137 b)) rfl rfl c137 rfl (He i137 b trivial rfl)) (Rg 3 rfl ?_))
 cases q4 : (m137 b)
 refine Rg 4 rfl ?_
 cases q5 : ((a : Int) == 0)
 exact Rg 4 rfl (Rz h fun h => Cr ⟨.inr rfl, _, rfl, rfl, rfl⟩)
 exact Rg 4 rfl (Rz h fun h => Cr ⟨.inr rfl, _, rfl, rfl, rfl⟩)
 exact Rg 8 rfl (Rz h fun h => Cr ⟨.inr rfl, _, rfl, rfl, rfl⟩)
 exact Rg 16 rfl (Rz h fun h => Cr ⟨.inr rfl, _, rfl, rfl, rfl⟩)
noncomputable def H136 : List D → R D := mkH (L2 dI dI) (fun _ => True) (fun x => dB (m136 x.1 x.2))
theorem i136 : InjE (L2 dI dI) := j2 jI jI
def m139_1 (op : ByteArray) (a : Int) (b : Int) : Lo (Int × Int) (Int × Bool) := (bif ((a : Int) == 0) then .on (b, a) else .on (a, b))
def m139_3 (op : ByteArray) (a : Int) (b : Int) (v1_1 : Int) (v1_2 : Int) : Lo Bool (Int × Bool) := (bif (!(m137 v1_1)) then .on true else (bif (!(m137 v1_2)) then .on ((v1_2 : Int) != 0) else .on false))
def m139_2 (op : ByteArray) (a : Int) (b : Int) (v1_1 : Int) (v1_2 : Int) : Lo Bool (Int × Bool) := (match m139_3 op a b v1_1 v1_2 with | .out r => .out r | .on v3_16 => (bif v3_16 then .on v3_16 else (bif (ByteArray.toList op == ByteArray.toList (⟨#[37]⟩)) then (bif ((v1_1 : Int) == 3) then .on true else .on ((v1_2 : Int) == 3)) else .on false)))
def m139 (op : ByteArray) (a : Int) (b : Int) : (Int × Bool) := (match m139_1 op a b with | .out r => r | .on (v1_1, v1_2) => (bif ((v1_1 : Int) == 0) then (v1_1, true) else (match m139_2 op a b v1_1 v1_2 with | .out r => r | .on v2_16 => (bif v2_16 then (0, false) else (bif ((v1_2 : Int) == 0) then (v1_1, true) else ((mx v1_1 v1_2), true))))))
theorem m139_ev  (c137 : S 137 = some H137) (op : ByteArray) (a : Int) (b : Int)  (h_op : okS op) : ∃ d σ', Ev (EE S) 139 [dS op, dI a, dI b] St.empty d σ' ∧ plain d = true ∧ strip d = D.tup [dI ((m139 op a b).1), dB ((m139 op a b).2)] := by
 unfold m139
 have h : Ko 0 St.empty [] [] := Ko.empty
 refine Ev.wp (E := EE S) (fn := Tryz.f139) (nt := 46) Tryz.func139 rfl rfl (Ck h fun _ _ h => Rg 2 rfl (Rz h fun h => ?_))
 refine Cw.seq (Cw.mono (Q := fun oX gX sX => match m139_1 op a b with | .on (v1_1, v1_2) => oX = none ∧ gX 0 = dS op ∧ gX 1 = dI v1_1 ∧ gX 2 = dI v1_2 ∧ Ko 0 sX [] [] | .out r => Ou S Tryz.f139 (fun d _ => plain d = true ∧ strip d = D.tup [dI r.1, dB r.2]) oX gX sX) ?_ ?_)
 unfold m139_1
 refine Ck h fun _ _ h => Rg 2 rfl (Rz h fun h => ?_)
 cases q1 : ((a : Int) == 0)
 exact Cf rfl (Ci (an5 rfl rfl rfl rfl h))
 exact Ct rfl (Cw.regionK h fun _ _ h => Rg 4 rfl (Rz h fun h => an5 rfl rfl rfl rfl h))
 intro oY gY sY hh
 generalize hzF1 : m139_1 op a b = zZ at hh ⊢
 rcases zZ with ⟨⟨v1_1, v1_2⟩⟩ | rZ
 dsimp only
 obtain ⟨rfl, e0, e1, e2, h⟩ := hh
 rw [pin e0, pin e1, pin e2]
 refine Cs (Cb (Ck h fun _ _ h => Rg 3 rfl (Rz h fun h => ?_)))
 cases q2 : ((v1_1 : Int) == 0)
 refine Cf rfl ?_
 refine Cw.seq (Cw.mono (Q := fun oX gX sX => match m139_2 op a b v1_1 v1_2 with | .on v2_16 => oX = none ∧ gX 1 = dI v1_1 ∧ gX 2 = dI v1_2 ∧ gX 16 = dB v2_16 ∧ Ko 0 sX [] [] | .out r => Ou S Tryz.f139 (fun d _ => plain d = true ∧ strip d = D.tup [dI r.1, dB r.2]) oX gX sX) ?_ ?_)
 unfold m139_2
 refine Cw.seq (Cw.mono (Q := fun oX gX sX => match m139_3 op a b v1_1 v1_2 with | .on v3_16 => oX = none ∧ gX 0 = dS op ∧ gX 1 = dI v1_1 ∧ gX 2 = dI v1_2 ∧ gX 16 = dB v3_16 ∧ Ko 0 sX [] [] | .out r => Ou S Tryz.f139 (fun d _ => plain d = true ∧ strip d = D.tup [dI r.1, dB r.2]) oX gX sX) ?_ ?_)
 unfold m139_3
 refine Cw.regionK h fun _ _ h => Rg 1 rfl (Rs rfl (fun _ => op_call (d := dB (m137 v1_1)) rfl rfl c137 rfl (He i137 v1_1 trivial rfl)) (Rg 2 rfl ?_))
 cases q3 : (!(m137 v1_1))
 refine Rg 1 rfl (Rs rfl (fun _ => op_call (d := dB (m137 v1_2)) rfl rfl c137 rfl (He i137 v1_2 trivial rfl)) (Rg 2 rfl ?_))
 cases q4 : (!(m137 v1_2))
 exact Rg 5 rfl (Rz h fun h => an6 rfl rfl rfl rfl rfl h)
 exact Rg 5 rfl (Rz h fun h => an6 rfl rfl rfl rfl rfl h)
 exact Rg 9 rfl (Rz h fun h => an6 rfl rfl rfl rfl rfl h)
 intro oY gY sY hh
 generalize hzF3 : m139_3 op a b v1_1 v1_2 = zZ at hh ⊢
 rcases zZ with v3_16 | rZ
 dsimp only
 obtain ⟨rfl, e0, e1, e2, e16, h⟩ := hh
 rw [pin e0, pin e1, pin e2, pin e16]
 cases q5 : v3_16
 refine Cf rfl (Cw.regionK h fun _ _ h => Rg 3 rfl ?_)
 cases q6 : (ByteArray.toList op == ByteArray.toList (⟨#[37]⟩))
 exact Rg 8 rfl (Rz h fun h => an5 rfl rfl rfl rfl h)
 refine Rg 3 rfl ?_
 cases q7 : ((v1_1 : Int) == 3)
 exact Rg 5 rfl (Rz h fun h => an5 rfl rfl rfl rfl h)
 exact Rg 5 rfl (Rz h fun h => an5 rfl rfl rfl rfl h)
 exact Ct rfl (Ci (an5 rfl rfl rfl rfl h))
 obtain ⟨rfl, w⟩ := hh
 exact ⟨rfl, w⟩
 intro oY gY sY hh
 generalize hzF2 : m139_2 op a b v1_1 v1_2 = zZ at hh ⊢
 rcases zZ with v2_16 | rZ
 dsimp only
 obtain ⟨rfl, e1, e2, e16, h⟩ := hh
 rw [pin e1, pin e2, pin e16]
 cases q8 : v2_16
 refine Cf rfl (Ck h fun _ _ h => Rg 3 rfl (Rz h fun h => ?_))
 cases q9 : ((v1_2 : Int) == 0)
 exact Cf rfl (Ci (Ck h fun _ _ h => Rg 2 rfl (Rs rfl (fun _ => op_max rfl rfl) (Rg 2 rfl (Rz h fun h => Cr ⟨.inr rfl, _, rfl, rfl, rfl⟩)))))
 exact Ct rfl (Ck h fun _ _ h => Rg 3 rfl (Rz h fun h => Cr ⟨.inr rfl, _, rfl, rfl, rfl⟩))
 exact Ct rfl (Ck h fun _ _ h => Rg 2 rfl (Rz h fun h => Cr ⟨.inr rfl, _, rfl, rfl, rfl⟩))
 obtain ⟨rfl, w⟩ := hh
 exact ⟨.inr rfl, w⟩
 exact Ct rfl (Ck h fun _ _ h => Rg 3 rfl (Rz h fun h => Cr ⟨.inr rfl, _, rfl, rfl, rfl⟩))
 obtain ⟨rfl, w⟩ := hh
 exact ⟨.inr rfl, w⟩
noncomputable def H139 : List D → R D := mkH (L3 dS dI dI) (fun x => okS x.1) (fun x => D.tup [dI ((m139 x.1 x.2.1 x.2.2).1), dB ((m139 x.1 x.2.1 x.2.2).2)])
theorem i139 : InjE (L3 dS dI dI) := j3 jS jI jI
noncomputable def cm12_l1 : Code := (cl (cr (cl (cr (bodyOf Tryz.f12)))))
def m12_l1 (l : (List Tbl)) : Nat → Nat → Lo Unit Int
 | 0, _ => .on ()
 | rem1 + 1, i1 => (bif (((m14 (l.getD i1 default)) : Int) != 0) then .out (m14 (l.getD i1 default)) else m12_l1 l rem1 (i1 + 1) )
def m12 (l : (List Tbl)) : Int := (match m12_l1 l l.length 0  with | .out r => r | .on _ => (bif decide ((((l.length : Nat) : Int) : Int) > 64) then 2 else 0))
theorem m12_ev  (c14 : S 14 = some H14) (l : (List Tbl))  (h_l : (okL Tbl.ok) l) : ∃ d σ', Ev (EE S) 12 [dL Tbl.enc l] St.empty d σ' ∧ plain d = true ∧ strip d = dI (m12 l) := by
 unfold m12
 have h : Ko 0 St.empty [] [] := Ko.empty
 refine Ev.wp (E := EE S) (fn := Tryz.f12) (nt := 21) Tryz.func12 rfl rfl (Ck h fun _ _ h => Rg 1 rfl (Rz h fun h => Cs (Ck h fun _ _ h => Rg 1 rfl (Re Tryz.underlying22 rfl (Rg 1 rfl (Rz h fun h => Cb ?_))))))
 have hl1 : ∀ (rem1 i1 : Nat) (fr : Nat → D) (σ : St), i1 + rem1 = l.length → fr 0 = dL Tbl.enc l → fr 6 = dL Tbl.enc l → fr 7 = dN l.length → fr 8 = dN i1 → Ko 0 σ [] [] → Cw (EE S) cm12_l1 21 fr σ (fun oX gX sX => match m12_l1 l rem1 i1  with | .on _ => oX = some (some 0) ∧ gX 0 = dL Tbl.enc l ∧ Ko 0 sX [] [] | .out r => Ou S Tryz.f12 (fun d _ => plain d = true ∧ strip d = dI r) oX gX sX) := by
  intro rem1
  induction rem1
  intro i1   fr σ hi  e0 e6 e7 e8 h
  have hlt1 : decide ((((i1 : Nat) : Int) : Int) < ((l.length : Nat) : Int)) = false := decF (by omega)
  rw [pin e0, pin e6, pin e7, pin e8]
  rw [m12_l1]
  exact Co (Ck h fun _ _ h => Rs rfl (fun _ => op_lss_int rfl rfl hlt1) (Rz h fun h => Cs (Cf rfl (Cw.exit (an3 rfl rfl h)))))
  rename_i rem1 ih
  intro i1   fr σ hi  e0 e6 e7 e8 h
  have hlt1 : decide ((((i1 : Nat) : Int) : Int) < ((l.length : Nat) : Int)) = true := decT (by omega)
  have hil1 : i1 < l.length := by omega
  have hbq1 := okL_len h_l
  rw [pin e0, pin e6, pin e7, pin e8]
  rw [m12_l1]
  refine Co (Ck h fun _ _ h => Rs rfl (fun _ => op_lss_int rfl rfl hlt1) (Rz h fun h => Cs (Ct rfl (Ci (Cs (Cb (Ck h fun _ _ h => Rs rfl (fun _ => op_ix (n := i1) rfl rfl rfl Tryz.underlying22 ty39.hn (at_map hil1) rfl) (Rs rfl (fun _ => op_ldC (d := dR Tbl.enc (l.getD i1 default)) rfl (at_map hil1) (ty39.lcA rfl rfl)) (Rw.al (z := zc39) h (Nat.le_add_right _ 2) rfl rfl rfl (z39 (S := S)) rfl fun b1 _ h => Rw.st (k := 0) (cs' := (dC Tbl.enc (l.getD i1 default))) h (Nat.le_add_right _ 0) rfl rfl rfl rfl rfl ty39.hn rfl rfl rfl fun _ h => Rw.nilK h (Nat.add_le_add_left (by decide : 4 ≤ 4) _) fun h => Ck h fun _ _ h => Rw.ld (k := 0) (d := dR Tbl.enc (l.getD i1 default)) h rfl rfl rfl rfl rfl (ty39.ldA rfl rfl) rfl (Rs rfl (fun _ => op_call (d := dI (m14 (l.getD i1 default))) rfl rfl c14 rfl (He i14 (l.getD i1 default) (okL_get h_l Tbl.zok i1) rfl)) (Rg 1 rfl (Rz h fun h => Ck h fun _ _ h => Rg 2 rfl (Rz h fun h => ?_)))))))))))))
  cases q1 : (((m14 (l.getD i1 default)) : Int) != 0)
  exact Cf rfl (Ci (Cw.regionK h fun _ _ h => Rs rfl (fun _ => op_add_int (v := ((i1 + 1 : Nat) : Int)) rfl rfl (wrap_one (by omega))) (Rg 1 rfl (Rz h fun h => ih (i1 + 1)   _ _ (by omega)  rfl rfl rfl rfl (h.dropBox (List.Sublist.cons _ (List.Sublist.refl _)))))))
  exact Ct rfl (Ck h fun _ _ h => Rg 2 rfl (Rz h fun h => Cr (And.intro rfl (Exists.intro _ (an3 rfl rfl rfl)))))
 refine Cw.mono (hl1 l.length 0   _ _ (by omega)  rfl rfl rfl rfl h) ?_
 intro oY gY sY hh
 generalize hzL1 : m12_l1 l l.length 0  = zZ at hh ⊢
 rcases zZ with vZ | rZ
 dsimp only
 obtain ⟨rfl, e0, h⟩ := hh
 rw [pin e0]
 have hbd1 := okL_len h_l
 refine Cs (Ck h fun _ _ h => Rg 1 rfl (Re Tryz.underlying22 rfl (Rg 1 rfl (Rz h fun h => ?_))))
 cases q2 : decide ((((l.length : Nat) : Int) : Int) > 64)
 exact Cf rfl (Ci (Ck h fun _ _ h => Rg 1 rfl (Rz h fun h => Cr ⟨.inr rfl, _, rfl, rfl, rfl⟩)))
 exact Ct rfl (Ck h fun _ _ h => Rg 1 rfl (Rz h fun h => Cr ⟨.inr rfl, _, rfl, rfl, rfl⟩))
 obtain ⟨rfl, w⟩ := hh
 exact ⟨.inr rfl, w⟩
noncomputable def H12 : List D → R D := mkH (L1 (dL Tbl.enc)) (fun x => (okL Tbl.ok) x) (fun x => dI (m12 x))
theorem i12 : InjE (L1 (dL Tbl.enc)) := j1 (jL Tbl.inj)
def m91 (c : Int) : Bool := (bif decide ((c : Int) ≥ 97) then (bif decide ((c : Int) ≤ 122) then true else ((c : Int) == 95)) else ((c : Int) == 95))
theorem m91_ev  (c : Int)  : ∃ d σ', Ev (EE S) 91 [dU .u8 c] St.empty d σ' ∧ plain d = true ∧ strip d = dB (m91 c) := by
 unfold m91
 have h : Ko 0 St.empty [] [] := Ko.empty
 refine Ev.wp (E := EE S) (fn := Tryz.f91) (nt := 13) Tryz.func91 rfl rfl (Ck h fun _ _ h => Rg 1 rfl (Rz h fun h => Ck h fun _ _ h => Rg 3 rfl ?_))
 cases q1 : decide ((c : Int) ≥ 97)
 exact Rg 8 rfl (Rz h fun h => Cr ⟨.inr rfl, _, rfl, rfl, rfl⟩)
 refine Rg 4 rfl ?_
 cases q2 : decide ((c : Int) ≤ 122)
 exact Rg 4 rfl (Rz h fun h => Cr ⟨.inr rfl, _, rfl, rfl, rfl⟩)
 exact Rg 4 rfl (Rz h fun h => Cr ⟨.inr rfl, _, rfl, rfl, rfl⟩)
noncomputable def H91 : List D → R D := mkH (L1 (dU .u8)) (fun _ => True) (fun x => dB (m91 x))
theorem i91 : InjE (L1 (dU .u8)) := j1 jU
def m94 (c : Int) : Bool := (bif decide ((c : Int) ≥ 48) then (decide ((c : Int) ≤ 57)) else false)
theorem m94_ev  (c : Int)  : ∃ d σ', Ev (EE S) 94 [dU .u8 c] St.empty d σ' ∧ plain d = true ∧ strip d = dB (m94 c) := by
 unfold m94
 have h : Ko 0 St.empty [] [] := Ko.empty
 refine Ev.wp (E := EE S) (fn := Tryz.f94) (nt := 9) Tryz.func94 rfl rfl (Ck h fun _ _ h => Rg 1 rfl (Rz h fun h => Ck h fun _ _ h => Rg 3 rfl ?_))
 cases q1 : decide ((c : Int) ≥ 48)
 exact Rg 4 rfl (Rz h fun h => Cr ⟨.inr rfl, _, rfl, rfl, rfl⟩)
 exact Rg 4 rfl (Rz h fun h => Cr ⟨.inr rfl, _, rfl, rfl, rfl⟩)
noncomputable def H94 : List D → R D := mkH (L1 (dU .u8)) (fun _ => True) (fun x => dB (m94 x))
theorem i94 : InjE (L1 (dU .u8)) := j1 jU
def m93  : (List ByteArray) := ([(⟨#[97, 110, 100]⟩), (⟨#[98, 111, 111, 108]⟩), (⟨#[98, 121, 116, 101, 115]⟩), (⟨#[99, 114, 101, 97, 116, 101]⟩), (⟨#[100, 101, 102, 97, 117, 108, 116]⟩), (⟨#[102, 97, 108, 115, 101]⟩), (⟨#[102, 108, 111, 97, 116]⟩), (⟨#[102, 111, 114, 101, 105, 103, 110]⟩), (⟨#[105, 110]⟩), (⟨#[105, 110, 100, 101, 120]⟩), (⟨#[105, 110, 116]⟩), (⟨#[105, 115]⟩), (⟨#[107, 101, 121]⟩), (⟨#[110, 111, 116]⟩), (⟨#[110, 117, 108, 108]⟩), (⟨#[111, 114]⟩), (⟨#[112, 114, 105, 109, 97, 114, 121]⟩), (⟨#[114, 101, 102, 101, 114, 101, 110, 99, 101, 115]⟩), (⟨#[116, 97, 98, 108, 101]⟩), (⟨#[116, 101, 120, 116]⟩), (⟨#[116, 114, 117, 101]⟩), (⟨#[117, 110, 105, 113, 117, 101]⟩), (⟨#[97, 98, 111, 114, 116]⟩), (⟨#[97, 115]⟩), (⟨#[97, 115, 99]⟩), (⟨#[97, 116]⟩), (⟨#[97, 118, 103]⟩), (⟨#[98, 101, 103, 105, 110]⟩), (⟨#[98, 101, 116, 119, 101, 101, 110]⟩), (⟨#[98, 121]⟩), (⟨#[99, 111, 109, 109, 105, 116]⟩), (⟨#[99, 111, 117, 110, 116]⟩), (⟨#[100, 101, 108, 101, 116, 101]⟩), (⟨#[100, 101, 115, 99]⟩), (⟨#[100, 114, 111, 112]⟩), (⟨#[102, 114, 111, 109]⟩), (⟨#[103, 114, 111, 117, 112]⟩), (⟨#[105, 110, 115, 101, 114, 116]⟩), (⟨#[105, 110, 116, 111]⟩), (⟨#[108, 105, 109, 105, 116]⟩), (⟨#[109, 97, 120]⟩), (⟨#[109, 105, 110]⟩), (⟨#[111, 102]⟩), (⟨#[111, 114, 100, 101, 114]⟩), (⟨#[114, 101, 108, 101, 97, 115, 101]⟩), (⟨#[114, 111, 108, 108, 98, 97, 99, 107]⟩), (⟨#[115, 97, 118, 101, 112, 111, 105, 110, 116]⟩), (⟨#[115, 101, 108, 101, 99, 116]⟩), (⟨#[115, 101, 116]⟩), (⟨#[115, 117, 109]⟩), (⟨#[116, 111]⟩), (⟨#[117, 112, 100, 97, 116, 101]⟩), (⟨#[118, 97, 108, 117, 101, 115]⟩), (⟨#[119, 104, 101, 114, 101]⟩), (⟨#[119, 105, 116, 104]⟩)])
set_option maxRecDepth 100000 in
theorem m93_ev    : ∃ d σ', Ev (EE S) 93 [] St.empty d σ' ∧ plain d = true ∧ nrmT (strip d) = dL encS (m93 ) := by
 unfold m93
 have h : Ko 0 St.empty [] [] := Ko.empty
 exact Ev.wp (E := EE S) (fn := Tryz.f93) (nt := 2) Tryz.func93 rfl rfl (Ck h fun _ _ h => Rg 1 rfl (Rz h fun h => Ck h fun _ _ h => Rs rfl (fun _ => op_bs (xs := ([(⟨#[97, 110, 100]⟩), (⟨#[98, 111, 111, 108]⟩), (⟨#[98, 121, 116, 101, 115]⟩), (⟨#[99, 114, 101, 97, 116, 101]⟩), (⟨#[100, 101, 102, 97, 117, 108, 116]⟩), (⟨#[102, 97, 108, 115, 101]⟩), (⟨#[102, 108, 111, 97, 116]⟩), (⟨#[102, 111, 114, 101, 105, 103, 110]⟩), (⟨#[105, 110]⟩), (⟨#[105, 110, 100, 101, 120]⟩), (⟨#[105, 110, 116]⟩), (⟨#[105, 115]⟩), (⟨#[107, 101, 121]⟩), (⟨#[110, 111, 116]⟩), (⟨#[110, 117, 108, 108]⟩), (⟨#[111, 114]⟩), (⟨#[112, 114, 105, 109, 97, 114, 121]⟩), (⟨#[114, 101, 102, 101, 114, 101, 110, 99, 101, 115]⟩), (⟨#[116, 97, 98, 108, 101]⟩), (⟨#[116, 101, 120, 116]⟩), (⟨#[116, 114, 117, 101]⟩), (⟨#[117, 110, 105, 113, 117, 101]⟩), (⟨#[97, 98, 111, 114, 116]⟩), (⟨#[97, 115]⟩), (⟨#[97, 115, 99]⟩), (⟨#[97, 116]⟩), (⟨#[97, 118, 103]⟩), (⟨#[98, 101, 103, 105, 110]⟩), (⟨#[98, 101, 116, 119, 101, 101, 110]⟩), (⟨#[98, 121]⟩), (⟨#[99, 111, 109, 109, 105, 116]⟩), (⟨#[99, 111, 117, 110, 116]⟩), (⟨#[100, 101, 108, 101, 116, 101]⟩), (⟨#[100, 101, 115, 99]⟩), (⟨#[100, 114, 111, 112]⟩), (⟨#[102, 114, 111, 109]⟩), (⟨#[103, 114, 111, 117, 112]⟩), (⟨#[105, 110, 115, 101, 114, 116]⟩), (⟨#[105, 110, 116, 111]⟩), (⟨#[108, 105, 109, 105, 116]⟩), (⟨#[109, 97, 120]⟩), (⟨#[109, 105, 110]⟩), (⟨#[111, 102]⟩), (⟨#[111, 114, 100, 101, 114]⟩), (⟨#[114, 101, 108, 101, 97, 115, 101]⟩), (⟨#[114, 111, 108, 108, 98, 97, 99, 107]⟩), (⟨#[115, 97, 118, 101, 112, 111, 105, 110, 116]⟩), (⟨#[115, 101, 108, 101, 99, 116]⟩), (⟨#[115, 101, 116]⟩), (⟨#[115, 117, 109]⟩), (⟨#[116, 111]⟩), (⟨#[117, 112, 100, 97, 116, 101]⟩), (⟨#[118, 97, 108, 117, 101, 115]⟩), (⟨#[119, 104, 101, 114, 101]⟩), (⟨#[119, 105, 116, 104]⟩)] : List ByteArray).map encS) Tryz.underlying97 ty9.hn (z9 (S := S)) rfl rfl rfl rfl rfl) (Rg 1 rfl (Rz h fun h => Cr ⟨.inr rfl, _, rfl, rfl, rfl⟩))))
noncomputable def H93 : List D → R D := mkH (L0) (fun _ => True) (fun _ => dL encS m93)
theorem i93 : InjE (L0) := j0
theorem words_ok : okL okS m93 := by
  refine ⟨of_decide_eq_true (by kernel_rfl), ?_⟩
  have h : (m93.all fun s => decide (s.size ≤ 1048576)) = true := by kernel_rfl
  intro x hx
  show x.size ≤ 1048576
  exact of_decide_eq_true (List.all_eq_true.1 h x hx)
noncomputable def cm92_l1 : Code := (cl (cr (cl (cr (bodyOf Tryz.f92)))))
def m92_l1 (l : (List ByteArray)) (s : ByteArray) : Nat → Nat → Lo Unit Bool
 | 0, _ => .on ()
 | rem1 + 1, i1 => (bif (ByteArray.toList (l.getD i1 default) == ByteArray.toList s) then .out true else m92_l1 l s rem1 (i1 + 1) )
def m92 (l : (List ByteArray)) (s : ByteArray) : Bool := (match m92_l1 l s l.length 0  with | .out r => r | .on _ => false)
theorem m92_ev  (l : (List ByteArray)) (s : ByteArray)  (h_l : (okL okS) l) (h_s : okS s) : ∃ d σ', Ev (EE S) 92 [dL encS l, dS s] St.empty d σ' ∧ plain d = true ∧ strip d = dB (m92 l s) := by
 unfold m92
 have h : Ko 0 St.empty [] [] := Ko.empty
 refine Ev.wp (E := EE S) (fn := Tryz.f92) (nt := 18) Tryz.func92 rfl rfl (Ck h fun _ _ h => Rg 1 rfl (Rz h fun h => Cs (Ck h fun _ _ h => Rg 1 rfl (Rz h fun h => Cb ?_))))
 have hl1 : ∀ (rem1 i1 : Nat) (fr : Nat → D) (σ : St), i1 + rem1 = l.length → fr 0 = dL encS l → fr 1 = dS s → fr 5 = dN i1 → Ko 0 σ [] [] → Cw (EE S) cm92_l1 18 fr σ (fun oX gX sX => match m92_l1 l s rem1 i1  with | .on _ => oX = some (some 0) ∧ Ko 0 sX [] [] | .out r => Ou S Tryz.f92 (fun d _ => plain d = true ∧ strip d = dB r) oX gX sX) := by
  intro rem1
  induction rem1
  intro i1   fr σ hi  e0 e1 e5 h
  have hlt1 : decide ((((i1 : Nat) : Int) : Int) < ((l.length : Nat) : Int)) = false := decF (by omega)
  rw [pin e0, pin e1, pin e5]
  rw [m92_l1]
  exact Co (Cs (Ck h fun _ _ h => Rg 2 rfl (Re Tryz.underlying97 rfl (Rs rfl (fun _ => op_lss_int rfl rfl hlt1) (Rz h fun h => Cf rfl (Cw.exit (an2 rfl h)))))))
  rename_i rem1 ih
  intro i1   fr σ hi  e0 e1 e5 h
  have hlt1 : decide ((((i1 : Nat) : Int) : Int) < ((l.length : Nat) : Int)) = true := decT (by omega)
  have hil1 : i1 < l.length := by omega
  have hbq1 := okL_len h_l
  rw [pin e0, pin e1, pin e5]
  rw [m92_l1]
  refine Co (Cs (Ck h fun _ _ h => Rg 2 rfl (Re Tryz.underlying97 rfl (Rs rfl (fun _ => op_lss_int rfl rfl hlt1) (Rz h fun h => Ct rfl (Ci (Cs (Cb (Ck h fun _ _ h => Rg 2 rfl (Rs rfl (fun _ => op_ix (n := i1) rfl rfl rfl Tryz.underlying97 ty9.hn (at_map hil1) rfl) (Rc (at_map hil1) ty9 rfl (Rg 2 rfl (Rz h fun h => ?_)))))))))))))
  cases q1 : (ByteArray.toList (l.getD i1 default) == ByteArray.toList s)
  exact Cf rfl (Ci (Cw.regionK h fun _ _ h => Rg 1 rfl (Rs rfl (fun _ => op_add_int (v := ((i1 + 1 : Nat) : Int)) rfl rfl (wrap_one (by omega))) (Rg 1 rfl (Rz h fun h => ih (i1 + 1)   _ _ (by omega)  rfl rfl rfl h)))))
  exact Ct rfl (Ck h fun _ _ h => Rg 1 rfl (Rz h fun h => Cr (And.intro rfl (Exists.intro _ (an3 rfl rfl rfl)))))
 refine Cw.mono (hl1 l.length 0   _ _ (by omega)  rfl rfl rfl h) ?_
 intro oY gY sY hh
 generalize hzL1 : m92_l1 l s l.length 0  = zZ at hh ⊢
 rcases zZ with vZ | rZ
 dsimp only
 obtain ⟨rfl, h⟩ := hh
 have hbd1 := okL_len h_l
 exact Ck h fun _ _ h => Rg 1 rfl (Rz h fun h => Cr ⟨.inr rfl, _, rfl, rfl, rfl⟩)
 obtain ⟨rfl, w⟩ := hh
 exact ⟨.inr rfl, w⟩
noncomputable def H92 : List D → R D := mkH (L2 (dL encS) dS) (fun x => (okL okS) x.1 ∧ okS x.2) (fun x => dB (m92 x.1 x.2))
theorem i92 : InjE (L2 (dL encS) dS) := j2 (jL encS_inj) jS
noncomputable def cm55_l1 : Code := (cl (cr (cl (cr (cr (bodyOf Tryz.f55))))))
def m55_1 (s : ByteArray) (i1 : Nat) : Lo Bool Bool := (bif (!(m91 (byteAt s i1))) then .on (!(m94 (byteAt s i1))) else .on false)
def m55_l1 (s : ByteArray) : Nat → Nat → Lo Unit Bool
 | 0, _ => .on ()
 | rem1 + 1, i1 => (match m55_1 s i1 with | .out r => .out r | .on v1_40 => (bif v1_40 then .out false else m55_l1 s rem1 (i1 + 1) ))
def m55 (s : ByteArray) : Bool := (bif decide ((((s.size : Nat) : Int) : Int) < 1) then false else (bif decide ((((s.size : Nat) : Int) : Int) > 63) then false else (bif (!(m91 (byteAt s 0))) then false else (bif (m92 m93 s) then false else (match m55_l1 s s.size 0  with | .out r => r | .on _ => true)))))
theorem m55_ev  (c91 : S 91 = some H91) (c92 : S 92 = some H92) (c93 : S 93 = some H93) (c94 : S 94 = some H94) (s : ByteArray)  (h_s : okS s) : ∃ d σ', Ev (EE S) 55 [dS s] St.empty d σ' ∧ plain d = true ∧ strip d = dB (m55 s) := by
 unfold m55
 have h : Ko 0 St.empty [] [] := Ko.empty
 refine Ev.wp (E := EE S) (fn := Tryz.f55) (nt := 41) Tryz.func55 rfl rfl (Ck h fun _ _ h => Rg 1 rfl (Rz h fun h => Cs (Ck h fun _ _ h => Rg 1 rfl (Rs rfl (fun _ => op_len_str rfl Tryz.underlying9) (Rg 2 rfl ?_)))))
 cases q1 : decide ((((s.size : Nat) : Int) : Int) < 1)
 have p1 := of_decide_eq_false q1
 refine Rg 1 rfl (Rs rfl (fun _ => op_len_str rfl Tryz.underlying9) (Rg 3 rfl ?_))
 cases q2 : decide ((((s.size : Nat) : Int) : Int) > 63)
 have p2 := of_decide_eq_false q2
 refine Rg 1 rfl (Rs rfl (fun _ => op_ixS (n := 0) rfl rfl Tryz.underlying9 (by omega)) (Rs rfl (fun _ => op_call (d := dB (m91 (byteAt s 0))) rfl rfl c91 rfl (He i91 (byteAt s 0) trivial rfl)) (Rg 3 rfl ?_)))
 cases q3 : (!(m91 (byteAt s 0)))
 refine Rs rfl (fun _ => op_call (d := dL encS m93) rfl rfl c93 rfl (He i93 () trivial rfl)) (Rg 1 rfl (Rs rfl (fun _ => op_call (d := dB (m92 m93 s)) rfl rfl c92 rfl (He i92 (m93, s) ⟨words_ok, h_s⟩ rfl)) (Rg 1 rfl (Rz h fun h => ?_))))
 cases q4 : (m92 m93 s)
 refine Cf rfl (Ci (Cs (Ck h fun _ _ h => Rg 1 rfl (Rz h fun h => Cb ?_))))
 have hl1 : ∀ (rem1 i1 : Nat) (fr : Nat → D) (σ : St), i1 + rem1 = s.size → fr 0 = dS s → fr 3 = dN i1 → Ko 0 σ [] [] → Cw (EE S) cm55_l1 41 fr σ (fun oX gX sX => match m55_l1 s rem1 i1  with | .on _ => oX = some (some 0) ∧ Ko 0 sX [] [] | .out r => Ou S Tryz.f55 (fun d _ => plain d = true ∧ strip d = dB r) oX gX sX) := by
  intro rem1
  induction rem1
  intro i1   fr σ hi  e0 e3 h
  have hlt1 : decide ((((i1 : Nat) : Int) : Int) < ((s.size : Nat) : Int)) = false := decF (by omega)
  rw [pin e0, pin e3]
  rw [m55_l1]
  exact Co (Cs (Ck h fun _ _ h => Rg 2 rfl (Rs rfl (fun _ => op_len_str rfl Tryz.underlying9) (Rs rfl (fun _ => op_lss_int rfl rfl hlt1) (Rz h fun h => Cf rfl (Cw.exit (an2 rfl h)))))))
  rename_i rem1 ih
  intro i1   fr σ hi  e0 e3 h
  have hlt1 : decide ((((i1 : Nat) : Int) : Int) < ((s.size : Nat) : Int)) = true := decT (by omega)
  have hil1 : i1 < s.size := by omega
  have hbq1 := okS_len h_s
  rw [pin e0, pin e3]
  rw [m55_l1]
  refine Co (Cs (Ck h fun _ _ h => Rg 2 rfl (Rs rfl (fun _ => op_len_str rfl Tryz.underlying9) (Rs rfl (fun _ => op_lss_int rfl rfl hlt1) (Rz h fun h => Ct rfl (Ci (Cs (Cb ?_))))))))
  refine Cw.seq (Cw.mono (Q := fun oX gX sX => match m55_1 s i1 with | .on v1_40 => oX = none ∧ gX 0 = dS s ∧ gX 3 = dN i1 ∧ gX 40 = dB v1_40 ∧ Ko 0 sX [] [] | .out r => Ou S Tryz.f55 (fun d _ => plain d = true ∧ strip d = dB r) oX gX sX) ?_ ?_)
  unfold m55_1
  refine Cw.regionK h fun _ _ h => Rg 2 rfl (Rs rfl (fun _ => op_ixS (n := i1) rfl rfl Tryz.underlying9 hil1) (Rs rfl (fun _ => op_call (d := dB (m91 (byteAt s i1))) rfl rfl c91 rfl (He i91 (byteAt s i1) trivial rfl)) (Rg 2 rfl ?_)))
  cases q5 : (!(m91 (byteAt s i1)))
  exact Rg 6 rfl (Rz h fun h => an5 rfl rfl rfl rfl h)
  exact Rg 2 rfl (Rs rfl (fun _ => op_ixS (n := i1) rfl rfl Tryz.underlying9 hil1) (Rs rfl (fun _ => op_call (d := dB (m94 (byteAt s i1))) rfl rfl c94 rfl (He i94 (byteAt s i1) trivial rfl)) (Rg 2 rfl (Rz h fun h => an5 rfl rfl rfl rfl h))))
  intro oY gY sY hh
  generalize hzF1 : m55_1 s i1 = zZ at hh ⊢
  rcases zZ with v1_40 | rZ
  dsimp only
  obtain ⟨rfl, e0, e3, e40, h⟩ := hh
  rw [pin e0, pin e3, pin e40]
  cases q6 : v1_40
  exact Cf rfl (Ci (Cw.regionK h fun _ _ h => Rg 1 rfl (Rs rfl (fun _ => op_add_int (v := ((i1 + 1 : Nat) : Int)) rfl rfl (wrap_one (by omega))) (Rg 1 rfl (Rz h fun h => ih (i1 + 1)   _ _ (by omega)  rfl rfl h)))))
  exact Ct rfl (Ck h fun _ _ h => Rg 1 rfl (Rz h fun h => Cr (And.intro rfl (Exists.intro _ (an3 rfl rfl rfl)))))
  obtain ⟨rfl, w⟩ := hh
  exact ⟨rfl, w⟩
 refine Cw.mono (hl1 s.size 0   _ _ (by omega)  rfl rfl h) ?_
 intro oY gY sY hh
 generalize hzL1 : m55_l1 s s.size 0  = zZ at hh ⊢
 rcases zZ with vZ | rZ
 dsimp only
 obtain ⟨rfl, h⟩ := hh
 have hbd1 := okS_len h_s
 exact Ck h fun _ _ h => Rg 1 rfl (Rz h fun h => Cr ⟨.inr rfl, _, rfl, rfl, rfl⟩)
 obtain ⟨rfl, w⟩ := hh
 exact ⟨.inr rfl, w⟩
 exact Ct rfl (Ck h fun _ _ h => Rg 1 rfl (Rz h fun h => Cr ⟨.inr rfl, _, rfl, rfl, rfl⟩))
 exact Rg 4 rfl (Rz h fun h => Ct rfl (Ck h fun _ _ h => Rg 1 rfl (Rz h fun h => Cr ⟨.inr rfl, _, rfl, rfl, rfl⟩)))
 have p2 := of_decide_eq_true q2
 exact Rg 10 rfl (Rz h fun h => Ct rfl (Ck h fun _ _ h => Rg 1 rfl (Rz h fun h => Cr ⟨.inr rfl, _, rfl, rfl, rfl⟩)))
 have p1 := of_decide_eq_true q1
 exact Rg 15 rfl (Rz h fun h => Ct rfl (Ck h fun _ _ h => Rg 1 rfl (Rz h fun h => Cr ⟨.inr rfl, _, rfl, rfl, rfl⟩)))
noncomputable def H55 : List D → R D := mkH (L1 dS) (fun x => okS x) (fun x => dB (m55 x))
theorem i55 : InjE (L1 dS) := j1 jS
noncomputable def cm87_l1 : Code := (cl (cr (cl (cr (cr (bodyOf Tryz.f87))))))
noncomputable def cm87_l2 : Code := (cl (cr (cr (cl (cl (cr (cl (cl (cr (cl (cr (cr (bodyOf Tryz.f87)))))))))))))
def m87_l2 (t : Tbl) (l : (List Int)) (i1 : Nat) : Nat → Nat → Lo Unit Bool
 | 0, _ => .on ()
 | rem2 + 1, i2 => (bif ((l.getD i2 default : Int) == l.getD i1 default) then .out false else m87_l2 t l i1 rem2 (i2 + 1) )
def m87_l1 (t : Tbl) (l : (List Int)) : Nat → Nat → Lo Unit Bool
 | 0, _ => .on ()
 | rem1 + 1, i1 => (bif decide ((l.getD i1 default : Int) < 0) then .out false else (bif decide ((l.getD i1 default : Int) ≥ ((t.columns.length : Nat) : Int)) then .out false else (match m87_l2 t l i1 i1 0  with | .out r => .out r | .on _ => m87_l1 t l rem1 (i1 + 1) )))
def m87 (t : Tbl) (l : (List Int)) : Bool := (bif decide ((((l.length : Nat) : Int) : Int) < 1) then false else (bif decide ((((l.length : Nat) : Int) : Int) > 64) then false else (match m87_l1 t l l.length 0  with | .out r => r | .on _ => true)))
theorem m87_ev  (t : Tbl) (l : (List Int))  (h_t : Tbl.ok t) (h_l : (okL okI) l) : ∃ d σ', Ev (EE S) 87 [dR Tbl.enc t, dL encI l] St.empty d σ' ∧ plain d = true ∧ strip d = dB (m87 t l) := by
 unfold m87
 have h : Ko 0 St.empty [] [] := Ko.empty
 refine Ev.wp (E := EE S) (fn := Tryz.f87) (nt := 50) Tryz.func87 rfl rfl (Ck h fun _ _ h => Rw.bx (d := dR Tbl.enc t) h (Nat.le_add_right _ 0) rfl rfl rfl rfl rfl rfl fun b1 _ h => Rg 1 rfl (Rw.nilK h (Nat.add_le_add_left (by decide : 1 ≤ 2) _) fun h => Cs (Ck h fun _ _ h => Rg 1 rfl (Re Tryz.underlying23 rfl (Rg 2 rfl ?_)))))
 cases q1 : decide ((((l.length : Nat) : Int) : Int) < 1)
 have p1 := of_decide_eq_false q1
 refine Rg 1 rfl (Re Tryz.underlying23 rfl (Rg 2 rfl (Rz h fun h => ?_)))
 cases q2 : decide ((((l.length : Nat) : Int) : Int) > 64)
 have p2 := of_decide_eq_false q2
 refine Cf rfl (Ci (Cs (Ck h fun _ _ h => Rg 1 rfl (Rz h fun h => Cb ?_))))
 have hl1 : ∀ (rem1 i1 : Nat) (fr : Nat → D) (σ : St), i1 + rem1 = l.length → fr 1 = dL encI l → fr 2 = D.ptr b1 0 → fr 5 = dN i1 → Ko 0 σ [(b1, (dC Tbl.enc t))] [] → Cw (EE S) cm87_l1 50 fr σ (fun oX gX sX => match m87_l1 t l rem1 i1  with | .on _ => oX = some (some 0) ∧ Ko 0 sX [(b1, (dC Tbl.enc t))] [] | .out r => Ou S Tryz.f87 (fun d _ => plain d = true ∧ strip d = dB r) oX gX sX) := by
  intro rem1
  induction rem1
  intro i1   fr σ hi  e1 e2 e5 h
  have hlt1 : decide ((((i1 : Nat) : Int) : Int) < ((l.length : Nat) : Int)) = false := decF (by omega)
  rw [pin e1, pin e2, pin e5]
  rw [m87_l1]
  exact Co (Cs (Ck h fun _ _ h => Rg 2 rfl (Re Tryz.underlying23 rfl (Rs rfl (fun _ => op_lss_int rfl rfl hlt1) (Rz h fun h => Cf rfl (Cw.exit (an2 rfl h)))))))
  rename_i rem1 ih
  intro i1   fr σ hi  e1 e2 e5 h
  have hlt1 : decide ((((i1 : Nat) : Int) : Int) < ((l.length : Nat) : Int)) = true := decT (by omega)
  have hil1 : i1 < l.length := by omega
  have hbq1 := okL_len h_l
  rw [pin e1, pin e2, pin e5]
  rw [m87_l1]
  refine Co (Cs (Ck h fun _ _ h => Rg 2 rfl (Re Tryz.underlying23 rfl (Rs rfl (fun _ => op_lss_int rfl rfl hlt1) (Rz h fun h => Ct rfl (Ci (Cs (Cb (Cs ?_)))))))))
  refine Cw.seq (Cw.regionD h fun _ _ h => ?_)
  refine Rg 2 rfl (Rs rfl (fun _ => op_ix (n := i1) rfl rfl rfl Tryz.underlying23 ty3.hn (at_map hil1) rfl) (Rc (at_map hil1) ty3 rfl (Rg 2 rfl ?_)))
  cases q3 : decide ((l.getD i1 default : Int) < 0)
  have p3 := of_decide_eq_false q3
  refine Rg 2 rfl (Rs rfl (fun _ => op_ix (n := i1) rfl rfl rfl Tryz.underlying23 ty3.hn (at_map hil1) rfl) (Rc (at_map hil1) ty3 rfl (Rf fi39_1 rfl (Rl 0 h rfl (ty35.ldS rfl) (Re Tryz.underlying35 rfl (Rg 2 rfl (Rz h fun h => ?_)))))))
  refine ⟨by kernel_rfl, ?_⟩
  cases q4 : decide ((l.getD i1 default : Int) ≥ ((t.columns.length : Nat) : Int))
  have p4 := of_decide_eq_false q4
  refine Cf rfl (Ci (Ck h fun _ _ h => Rg 1 rfl (Rz h fun h => Cb ?_)))
  have hl2 : ∀ (rem2 i2 : Nat) (fr : Nat → D) (σ : St), i2 + rem2 = i1 → fr 1 = dL encI l → fr 2 = D.ptr b1 0 → fr 5 = dN i1 → fr 6 = dN i2 → Ko 0 σ [(b1, (dC Tbl.enc t))] [] → Cw (EE S) cm87_l2 50 fr σ (fun oX gX sX => match m87_l2 t l i1 rem2 i2  with | .on _ => oX = some (some 2) ∧ gX 1 = dL encI l ∧ gX 2 = D.ptr b1 0 ∧ gX 5 = dN i1 ∧ Ko 0 sX [(b1, (dC Tbl.enc t))] [] | .out r => Ou S Tryz.f87 (fun d _ => plain d = true ∧ strip d = dB r) oX gX sX) := by
   intro rem2
   induction rem2
   intro i2   fr σ hi  e1 e2 e5 e6 h
   have hlt2 : decide ((((i2 : Nat) : Int) : Int) < ((i1 : Nat) : Int)) = false := decF (by omega)
   rw [pin e1, pin e2, pin e5, pin e6]
   rw [m87_l2]
   exact Co (Cs (Ck h fun _ _ h => Rg 2 rfl (Rs rfl (fun _ => op_lss_int rfl rfl hlt2) (Rz h fun h => Cf rfl (Cw.exit (an5 rfl rfl rfl rfl h))))))
   rename_i rem2 ih
   intro i2   fr σ hi  e1 e2 e5 e6 h
   have hlt2 : decide ((((i2 : Nat) : Int) : Int) < ((i1 : Nat) : Int)) = true := decT (by omega)
   have hil2 : i2 < i1 := by omega
   rw [pin e1, pin e2, pin e5, pin e6]
   rw [m87_l2]
   refine Co (Cs (Ck h fun _ _ h => Rg 2 rfl (Rs rfl (fun _ => op_lss_int rfl rfl hlt2) (Rz h fun h => Ct rfl (Ci (Cs (Cb ?_)))))))
   refine Cw.seq (Cw.regionD h fun _ _ h => ?_)
   refine Rg 2 rfl (Rs rfl (fun _ => op_ix (n := i2) rfl rfl rfl Tryz.underlying23 ty3.hn (at_map (by omega)) rfl) (Rc (at_map (by omega)) ty3 rfl (Rg 2 rfl (Rs rfl (fun _ => op_ix (n := i1) rfl rfl rfl Tryz.underlying23 ty3.hn (at_map hil1) rfl) (Rc (at_map hil1) ty3 rfl (Rg 1 rfl (Rz h fun h => ?_)))))))
   refine ⟨by kernel_rfl, ?_⟩
   cases q5 : ((l.getD i2 default : Int) == l.getD i1 default)
   have p5 := ne_of_beqF q5
   exact Cf rfl (Ci (Cw.regionK h fun _ _ h => Rg 1 rfl (Rs rfl (fun _ => op_add_int (v := ((i2 + 1 : Nat) : Int)) rfl rfl (wrap_one (by omega))) (Rg 1 rfl (Rz h fun h => ih (i2 + 1)   _ _ (by omega)  rfl rfl rfl rfl h)))))
   have p5 := eq_of_beq q5
   exact Ct rfl (Ck h fun _ _ h => Rg 1 rfl (Rz h fun h => Cr (And.intro rfl (Exists.intro _ (an3 rfl rfl rfl)))))
  refine Cw.mono (hl2 i1 0   _ _ (by omega)  rfl rfl rfl rfl h) ?_
  intro oY gY sY hh
  generalize hzL2 : m87_l2 t l i1 i1 0  = zZ at hh ⊢
  rcases zZ with vZ | rZ
  dsimp only
  obtain ⟨rfl, e1, e2, e5, h⟩ := hh
  rw [pin e1, pin e2, pin e5]
  exact Cw.regionK h fun _ _ h => Rg 1 rfl (Rs rfl (fun _ => op_add_int (v := ((i1 + 1 : Nat) : Int)) rfl rfl (wrap_one (by omega))) (Rg 1 rfl (Rz h fun h => ih (i1 + 1)   _ _ (by omega)  rfl rfl rfl h)))
  obtain ⟨rfl, w⟩ := hh
  exact ⟨rfl, w⟩
  have p4 := of_decide_eq_true q4
  exact Ct rfl (Ck h fun _ _ h => Rg 1 rfl (Rz h fun h => Cr (And.intro rfl (Exists.intro _ (an3 rfl rfl rfl)))))
  have p3 := of_decide_eq_true q3
  refine Rg 9 rfl (Rz h fun h => ?_)
  refine ⟨by kernel_rfl, ?_⟩
  exact Ct rfl (Ck h fun _ _ h => Rg 1 rfl (Rz h fun h => Cr (And.intro rfl (Exists.intro _ (an3 rfl rfl rfl)))))
 refine Cw.mono (hl1 l.length 0   _ _ (by omega)  rfl rfl rfl h) ?_
 intro oY gY sY hh
 generalize hzL1 : m87_l1 t l l.length 0  = zZ at hh ⊢
 rcases zZ with vZ | rZ
 dsimp only
 obtain ⟨rfl, h⟩ := hh
 have hbd1 := okL_len h_l
 exact Ck h fun _ _ h => Rg 1 rfl (Rz h fun h => Cr ⟨.inr rfl, _, rfl, rfl, rfl⟩)
 obtain ⟨rfl, w⟩ := hh
 exact ⟨.inr rfl, w⟩
 have p2 := of_decide_eq_true q2
 exact Ct rfl (Ck h fun _ _ h => Rg 1 rfl (Rz h fun h => Cr ⟨.inr rfl, _, rfl, rfl, rfl⟩))
 have p1 := of_decide_eq_true q1
 exact Rg 4 rfl (Rz h fun h => Ct rfl (Ck h fun _ _ h => Rg 1 rfl (Rz h fun h => Cr ⟨.inr rfl, _, rfl, rfl, rfl⟩)))
noncomputable def H87 : List D → R D := mkH (L2 (dR Tbl.enc) (dL encI)) (fun x => Tbl.ok x.1 ∧ (okL okI) x.2) (fun x => dB (m87 x.1 x.2))
theorem i87 : InjE (L2 (dR Tbl.enc) (dL encI)) := j2 (jR Tbl.inj) (jL encI_inj)
def m141_1 (v : Val) : Lo Bool Int := (bif ((v.kind : Int) == 1) then (bif ((v.n : Int) != 0) then (bif ((v.n : Int) != 1) then .on true else (bif ((v.kind : Int) != 1) then (bif ((v.kind : Int) != 2) then .on true else .on false) else .on false)) else (bif ((v.kind : Int) != 1) then (bif ((v.kind : Int) != 2) then .on false else .on false) else .on false)) else (bif ((v.kind : Int) != 1) then (bif ((v.kind : Int) != 2) then .on ((v.n : Int) != 0) else .on false) else .on false))
def m141_2 (v : Val) (v1_38 : Bool) : Lo Bool Int := (bif ((v.kind : Int) != 3) then .on (((v.f : Int) : Int) != 0) else .on false)
def m141_3 (v : Val) (v1_38 : Bool) (v2_47 : Bool) : Lo Bool Int := (bif ((v.kind : Int) != 4) then (bif ((v.kind : Int) != 5) then .on (!(ByteArray.toList v.s == ByteArray.toList (⟨#[]⟩))) else .on false) else .on false)
def m141_4 (v : Val) (v1_38 : Bool) (v2_47 : Bool) (v3_60 : Bool) : Lo Bool Int := (bif ((v.kind : Int) == 4) then .on (!(Lib.validD v.s.data.toList)) else .on false)
def m141 (v : Val) : Int := (bif decide ((v.kind : Int) < 0) then 10 else (bif decide ((v.kind : Int) > 5) then 10 else (match m141_1 v with | .out r => r | .on v1_38 => (bif v1_38 then 10 else (match m141_2 v false with | .out r => r | .on v2_47 => (bif v2_47 then 10 else (match m141_3 v false false with | .out r => r | .on v3_60 => (bif v3_60 then 10 else (match m141_4 v false false false with | .out r => r | .on v4_69 => (bif v4_69 then 10 else (bif decide ((((v.s.size : Nat) : Int) : Int) > 65536) then 3 else 0)))))))))))
theorem m141_ev  (c70 : S 70 = none) (c129 : S 129 = some H129) (v : Val)  (h_v : Val.ok v) : ∃ d σ', Ev (EE S) 141 [dR Val.enc v] St.empty d σ' ∧ plain d = true ∧ strip d = dI (m141 v) := by
 unfold m141
 have h : Ko 0 St.empty [] [] := Ko.empty
 refine Ev.wp (E := EE S) (fn := Tryz.f141) (nt := 74) Tryz.func141 rfl rfl (Ck h fun _ _ h => Rw.bx (d := dR Val.enc v) h (Nat.le_add_right _ 0) rfl rfl rfl rfl rfl rfl fun b1 _ h => Rg 1 rfl (Rw.nilK h (Nat.add_le_add_left (by decide : 1 ≤ 2) _) fun h => Cs (Ck h fun _ _ h => Rf fi29_0 rfl (Rl 0 h rfl (ty3.ldS rfl) (Rg 2 rfl ?_)))))
 cases q1 : decide ((v.kind : Int) < 0)
 refine Rf fi29_0 rfl (Rl 0 h rfl (ty3.ldS rfl) (Rg 2 rfl (Rz h fun h => ?_)))
 cases q2 : decide ((v.kind : Int) > 5)
 refine Cf rfl (Ci (Cs ?_))
 refine Cw.seq (Cw.mono (Q := fun oX gX sX => match m141_1 v with | .on v1_38 => oX = none ∧ gX 1 = D.ptr b1 0 ∧ gX 38 = dB v1_38 ∧ Ko 0 sX [(b1, (dC Val.enc v))] [] | .out r => Ou S Tryz.f141 (fun d _ => plain d = true ∧ strip d = dI r) oX gX sX) ?_ ?_)
 unfold m141_1
 refine Cw.regionK h fun _ _ h => Rf fi29_0 rfl (Rl 0 h rfl (ty3.ldS rfl) (Rg 2 rfl ?_))
 cases q3 : ((v.kind : Int) == 1)
 refine Rg 10 rfl (Rf fi29_0 rfl (Rl 0 h rfl (ty3.ldS rfl) (Rg 2 rfl ?_)))
 cases q4 : ((v.kind : Int) != 1)
 exact Rg 10 rfl (Rz h fun h => an4 rfl rfl rfl h)
 refine Rf fi29_0 rfl (Rl 0 h rfl (ty3.ldS rfl) (Rg 3 rfl ?_))
 cases q5 : ((v.kind : Int) != 2)
 exact Rg 5 rfl (Rz h fun h => an4 rfl rfl rfl h)
 exact Rf fi29_1 rfl (Rl 0 h rfl (ty2.ldS rfl) (Rg 3 rfl (Rz h fun h => an4 rfl rfl rfl h)))
 refine Rf fi29_1 rfl (Rl 0 h rfl (ty2.ldS rfl) (Rg 3 rfl ?_))
 cases q6 : ((v.n : Int) != 0)
 refine Rg 5 rfl (Rf fi29_0 rfl (Rl 0 h rfl (ty3.ldS rfl) (Rg 2 rfl ?_)))
 cases q7 : ((v.kind : Int) != 1)
 exact Rg 10 rfl (Rz h fun h => an4 rfl rfl rfl h)
 refine Rf fi29_0 rfl (Rl 0 h rfl (ty3.ldS rfl) (Rg 3 rfl ?_))
 cases q8 : ((v.kind : Int) != 2)
 exact Rg 5 rfl (Rz h fun h => an4 rfl rfl rfl h)
 exact Rf fi29_1 rfl (Rl 0 h rfl (ty2.ldS rfl) (Rs rfl (fun _ => op_neq_int rfl rfl q6) (Rg 2 rfl (Rz h fun h => an4 rfl rfl rfl h))))
 refine Rf fi29_1 rfl (Rl 0 h rfl (ty2.ldS rfl) (Rg 3 rfl ?_))
 cases q9 : ((v.n : Int) != 1)
 refine Rf fi29_0 rfl (Rl 0 h rfl (ty3.ldS rfl) (Rg 2 rfl ?_))
 cases q10 : ((v.kind : Int) != 1)
 exact Rg 10 rfl (Rz h fun h => an4 rfl rfl rfl h)
 refine Rf fi29_0 rfl (Rl 0 h rfl (ty3.ldS rfl) (Rg 3 rfl ?_))
 cases q11 : ((v.kind : Int) != 2)
 exact Rg 5 rfl (Rz h fun h => an4 rfl rfl rfl h)
 exact Rf fi29_1 rfl (Rl 0 h rfl (ty2.ldS rfl) (Rs rfl (fun _ => op_neq_int rfl rfl q6) (Rg 2 rfl (Rz h fun h => an4 rfl rfl rfl h))))
 exact Rg 14 rfl (Rz h fun h => an4 rfl rfl rfl h)
 intro oY gY sY hh
 generalize hzF1 : m141_1 v = zZ at hh ⊢
 rcases zZ with v1_38 | rZ
 dsimp only
 obtain ⟨rfl, e1, e38, h⟩ := hh
 rw [pin e1, pin e38]
 cases q12 : v1_38
 refine Cf rfl (Ci (Cs ?_))
 refine Cw.seq (Cw.mono (Q := fun oX gX sX => match m141_2 v false with | .on v2_47 => oX = none ∧ gX 1 = D.ptr b1 0 ∧ gX 47 = dB v2_47 ∧ Ko 0 sX [(b1, (dC Val.enc v))] [] | .out r => Ou S Tryz.f141 (fun d _ => plain d = true ∧ strip d = dI r) oX gX sX) ?_ ?_)
 unfold m141_2
 refine Cw.regionK h fun _ _ h => Rf fi29_0 rfl (Rl 0 h rfl (ty3.ldS rfl) (Rg 2 rfl ?_))
 cases q13 : ((v.kind : Int) != 3)
 exact Rg 5 rfl (Rz h fun h => an4 rfl rfl rfl h)
 exact Rf fi29_2 rfl (Rl 0 h rfl (ty27.ldS rfl) (Rs rfl (fun _ => op_ext (d := D.c (.int .u64 v.f)) rfl rfl c70 rfl rfl rfl) (Rg 2 rfl (Rz h fun h => an4 rfl rfl rfl h))))
 intro oY gY sY hh
 generalize hzF2 : m141_2 v false = zZ at hh ⊢
 rcases zZ with v2_47 | rZ
 dsimp only
 obtain ⟨rfl, e1, e47, h⟩ := hh
 rw [pin e1, pin e47]
 cases q14 : v2_47
 refine Cf rfl (Ci (Cs ?_))
 refine Cw.seq (Cw.mono (Q := fun oX gX sX => match m141_3 v false false with | .on v3_60 => oX = none ∧ gX 1 = D.ptr b1 0 ∧ gX 60 = dB v3_60 ∧ Ko 0 sX [(b1, (dC Val.enc v))] [] | .out r => Ou S Tryz.f141 (fun d _ => plain d = true ∧ strip d = dI r) oX gX sX) ?_ ?_)
 unfold m141_3
 refine Cw.regionK h fun _ _ h => Rf fi29_0 rfl (Rl 0 h rfl (ty3.ldS rfl) (Rg 2 rfl ?_))
 cases q15 : ((v.kind : Int) != 4)
 exact Rg 9 rfl (Rz h fun h => an4 rfl rfl rfl h)
 refine Rf fi29_0 rfl (Rl 0 h rfl (ty3.ldS rfl) (Rg 3 rfl ?_))
 cases q16 : ((v.kind : Int) != 5)
 exact Rg 4 rfl (Rz h fun h => an4 rfl rfl rfl h)
 exact Rf fi29_3 rfl (Rl 0 h rfl (ty9.ldS rfl) (Rg 2 rfl (Rz h fun h => an4 rfl rfl rfl h)))
 intro oY gY sY hh
 generalize hzF3 : m141_3 v false false = zZ at hh ⊢
 rcases zZ with v3_60 | rZ
 dsimp only
 obtain ⟨rfl, e1, e60, h⟩ := hh
 rw [pin e1, pin e60]
 cases q17 : v3_60
 refine Cf rfl (Ci (Cs ?_))
 refine Cw.seq (Cw.mono (Q := fun oX gX sX => match m141_4 v false false false with | .on v4_69 => oX = none ∧ gX 1 = D.ptr b1 0 ∧ gX 69 = dB v4_69 ∧ Ko 0 sX [(b1, (dC Val.enc v))] [] | .out r => Ou S Tryz.f141 (fun d _ => plain d = true ∧ strip d = dI r) oX gX sX) ?_ ?_)
 unfold m141_4
 refine Cw.regionK h fun _ _ h => Rf fi29_0 rfl (Rl 0 h rfl (ty3.ldS rfl) (Rg 2 rfl ?_))
 cases q18 : ((v.kind : Int) == 4)
 exact Rg 5 rfl (Rz h fun h => an4 rfl rfl rfl h)
 exact Rf fi29_3 rfl (Rl 0 h rfl (ty9.ldS rfl) (Rs rfl (fun _ => op_call (d := D.c (.bool (Lib.validD v.s.data.toList))) rfl rfl c129 rfl (valid_eq _ (Val.ok_s h_v))) (Rg 2 rfl (Rz h fun h => an4 rfl rfl rfl h))))
 intro oY gY sY hh
 generalize hzF4 : m141_4 v false false false = zZ at hh ⊢
 rcases zZ with v4_69 | rZ
 dsimp only
 obtain ⟨rfl, e1, e69, h⟩ := hh
 rw [pin e1, pin e69]
 cases q19 : v4_69
 refine Cf rfl (Ci (Cs (Ck h fun _ _ h => Rf fi29_3 rfl (Rl 0 h rfl (ty9.ldS rfl) (Rs rfl (fun _ => op_len_str rfl Tryz.underlying9) (Rg 1 rfl (Rz h fun h => ?_)))))))
 cases q20 : decide ((((v.s.size : Nat) : Int) : Int) > 65536)
 exact Cf rfl (Ci (Ck h fun _ _ h => Rg 1 rfl (Rz h fun h => Cr ⟨.inr rfl, _, rfl, rfl, rfl⟩)))
 exact Ct rfl (Ck h fun _ _ h => Rg 1 rfl (Rz h fun h => Cr ⟨.inr rfl, _, rfl, rfl, rfl⟩))
 exact Ct rfl (Ck h fun _ _ h => Rg 1 rfl (Rz h fun h => Cr ⟨.inr rfl, _, rfl, rfl, rfl⟩))
 obtain ⟨rfl, w⟩ := hh
 exact ⟨.inr rfl, w⟩
 exact Ct rfl (Ck h fun _ _ h => Rg 1 rfl (Rz h fun h => Cr ⟨.inr rfl, _, rfl, rfl, rfl⟩))
 obtain ⟨rfl, w⟩ := hh
 exact ⟨.inr rfl, w⟩
 exact Ct rfl (Ck h fun _ _ h => Rg 1 rfl (Rz h fun h => Cr ⟨.inr rfl, _, rfl, rfl, rfl⟩))
 obtain ⟨rfl, w⟩ := hh
 exact ⟨.inr rfl, w⟩
 exact Ct rfl (Ck h fun _ _ h => Rg 1 rfl (Rz h fun h => Cr ⟨.inr rfl, _, rfl, rfl, rfl⟩))
 obtain ⟨rfl, w⟩ := hh
 exact ⟨.inr rfl, w⟩
 exact Ct rfl (Ck h fun _ _ h => Rg 1 rfl (Rz h fun h => Cr ⟨.inr rfl, _, rfl, rfl, rfl⟩))
 exact Rg 4 rfl (Rz h fun h => Ct rfl (Ck h fun _ _ h => Rg 1 rfl (Rz h fun h => Cr ⟨.inr rfl, _, rfl, rfl, rfl⟩)))
noncomputable def H141 : List D → R D := mkH (L1 (dR Val.enc)) (fun x => Val.ok x) (fun x => dI (m141 x))
theorem i141 : InjE (L1 (dR Val.enc)) := j1 (jR Val.inj)
def m144 (a : Val) (b : Val) : Bool := (bif ((a.kind : Int) == b.kind) then (bif ((a.n : Int) == b.n) then (bif (((a.f : Int) : Int) == (b.f : Int)) then (ByteArray.toList a.s == ByteArray.toList b.s) else false) else false) else false)
theorem m144_ev  (c70 : S 70 = none) (a : Val) (b : Val)  (h_a : Val.ok a) (h_b : Val.ok b) : ∃ d σ', Ev (EE S) 144 [dR Val.enc a, dR Val.enc b] St.empty d σ' ∧ plain d = true ∧ strip d = dB (m144 a b) := by
 unfold m144
 have h : Ko 0 St.empty [] [] := Ko.empty
 refine Ev.wp (E := EE S) (fn := Tryz.f144) (nt := 33) Tryz.func144 rfl rfl (Ck h fun _ _ h => Rw.bx (d := dR Val.enc a) h (Nat.le_add_right _ 0) rfl rfl rfl rfl rfl rfl fun b1 _ h => Rw.bx (d := dR Val.enc b) h (Nat.le_add_right _ 0) rfl rfl rfl rfl rfl rfl fun b2 _ h => Rg 1 rfl (Rw.nilK h (Nat.add_le_add_left (by decide : 2 ≤ 3) _) fun h => ?_))
 refine Cw.seq (Cw.regionD h fun _ _ h => ?_)
 refine Rf fi29_0 rfl (Rl 1 h rfl (ty3.ldS rfl) (Rf fi29_0 rfl (Rl 0 h rfl (ty3.ldS rfl) (Rg 2 rfl ?_))))
 cases q1 : ((a.kind : Int) == b.kind)
 refine Rg 23 rfl (Rz h fun h => ?_)
 refine ⟨by kernel_rfl, ?_⟩
 exact Cr ⟨.inr rfl, _, rfl, rfl, rfl⟩
 refine Rf fi29_1 rfl (Rl 1 h rfl (ty2.ldS rfl) (Rf fi29_1 rfl (Rl 0 h rfl (ty2.ldS rfl) (Rg 3 rfl ?_))))
 cases q2 : ((a.n : Int) == b.n)
 refine Rg 16 rfl (Rz h fun h => ?_)
 refine ⟨by kernel_rfl, ?_⟩
 exact Cr ⟨.inr rfl, _, rfl, rfl, rfl⟩
 refine Rf fi29_2 rfl (Rl 1 h rfl (ty27.ldS rfl) (Rs rfl (fun _ => op_ext (d := D.c (.int .u64 a.f)) rfl rfl c70 rfl rfl rfl) (Rf fi29_2 rfl (Rl 0 h rfl (ty27.ldS rfl) (Rs rfl (fun _ => op_ext (d := D.c (.int .u64 b.f)) rfl rfl c70 rfl rfl rfl) (Rg 3 rfl ?_))))))
 cases q3 : (((a.f : Int) : Int) == (b.f : Int))
 refine Rg 7 rfl (Rz h fun h => ?_)
 refine ⟨by kernel_rfl, ?_⟩
 exact Cr ⟨.inr rfl, _, rfl, rfl, rfl⟩
 refine Rf fi29_3 rfl (Rl 1 h rfl (ty9.ldS rfl) (Rf fi29_3 rfl (Rl 0 h rfl (ty9.ldS rfl) (Rg 3 rfl (Rz h fun h => ?_)))))
 refine ⟨by kernel_rfl, ?_⟩
 exact Cr ⟨.inr rfl, _, rfl, rfl, rfl⟩
noncomputable def H144 : List D → R D := mkH (L2 (dR Val.enc) (dR Val.enc)) (fun x => Val.ok x.1 ∧ Val.ok x.2) (fun x => dB (m144 x.1 x.2))
theorem i144 : InjE (L2 (dR Val.enc) (dR Val.enc)) := j2 (jR Val.inj) (jR Val.inj)
noncomputable def cm86_l1 : Code := (cl (cr (cl (cr (bodyOf Tryz.f86)))))
noncomputable def cm86_l2 : Code := (cl (cr (cl (cr (cr (cl (cl (cr (cl (cl (cr (cl (cr (bodyOf Tryz.f86))))))))))))))
def m86_l2 (t : Tbl) (i1 : Nat) : Nat → Nat → Lo Unit Int
 | 0, _ => .on ()
 | rem2 + 1, i2 => (bif (ByteArray.toList ((t.columns.getD i2 default).name) == ByteArray.toList ((t.columns.getD i1 default).name)) then .out 31 else m86_l2 t i1 rem2 (i2 + 1) )
def m86_1 (t : Tbl) (i1 : Nat) : Lo Bool Int := (bif decide (((t.columns.getD i1 default).kind : Int) < 1) then .on true else (bif decide (((t.columns.getD i1 default).kind : Int) > 5) then .on true else (bif (((m141 ((t.columns.getD i1 default).dflt)) : Int) != 0) then .on true else (bif ((((t.columns.getD i1 default).dflt).kind : Int) != (t.columns.getD i1 default).kind) then .on ((((t.columns.getD i1 default).dflt).kind : Int) != 0) else .on false))))
def m86_l1 (t : Tbl) : Nat → Nat → Lo Unit Int
 | 0, _ => .on ()
 | rem1 + 1, i1 => (bif (!(m55 ((t.columns.getD i1 default).name))) then .out 30 else (match m86_l2 t i1 i1 0  with | .out r => .out r | .on _ => (match m86_1 t i1 with | .out r => .out r | .on v1_63 => (bif v1_63 then .out 32 else m86_l1 t rem1 (i1 + 1) ))))
def m86 (t : Tbl) : Int := (match m86_l1 t t.columns.length 0  with | .out r => r | .on _ => 0)
theorem m86_ev  (c55 : S 55 = some H55) (c141 : S 141 = some H141) (t : Tbl)  (h_t : Tbl.ok t) : ∃ d σ', Ev (EE S) 86 [dR Tbl.enc t] St.empty d σ' ∧ plain d = true ∧ strip d = dI (m86 t) := by
 unfold m86
 have h : Ko 0 St.empty [] [] := Ko.empty
 refine Ev.wp (E := EE S) (fn := Tryz.f86) (nt := 64) Tryz.func86 rfl rfl (Ck h fun _ _ h => Rw.bx (d := dR Tbl.enc t) h (Nat.le_add_right _ 0) rfl rfl rfl rfl rfl rfl fun b1 _ h => Rg 1 rfl (Rw.nilK h (Nat.add_le_add_left (by decide : 1 ≤ 2) _) fun h => Cs (Ck h fun _ _ h => Rg 1 rfl (Rz h fun h => Cb ?_))))
 have hl1 : ∀ (rem1 i1 : Nat) (fr : Nat → D) (σ : St), i1 + rem1 = t.columns.length → fr 1 = D.ptr b1 0 → fr 3 = dN i1 → Ko 0 σ [(b1, (dC Tbl.enc t))] [] → Cw (EE S) cm86_l1 64 fr σ (fun oX gX sX => match m86_l1 t rem1 i1  with | .on _ => oX = some (some 0) ∧ Ko 0 sX [(b1, (dC Tbl.enc t))] [] | .out r => Ou S Tryz.f86 (fun d _ => plain d = true ∧ strip d = dI r) oX gX sX) := by
  intro rem1
  induction rem1
  intro i1   fr σ hi  e1 e3 h
  have hlt1 : decide ((((i1 : Nat) : Int) : Int) < ((t.columns.length : Nat) : Int)) = false := decF (by omega)
  rw [pin e1, pin e3]
  rw [m86_l1]
  exact Co (Cs (Ck h fun _ _ h => Rg 1 rfl (Rf fi39_1 rfl (Rl 0 h rfl (ty35.ldS rfl) (Re Tryz.underlying35 rfl (Rs rfl (fun _ => op_lss_int rfl rfl hlt1) (Rz h fun h => Cf rfl (Cw.exit (an2 rfl h)))))))))
  rename_i rem1 ih
  intro i1   fr σ hi  e1 e3 h
  have hlt1 : decide ((((i1 : Nat) : Int) : Int) < ((t.columns.length : Nat) : Int)) = true := decT (by omega)
  have hil1 : i1 < t.columns.length := by omega
  have hbq1 := okL_len (Tbl.ok_columns h_t)
  rw [pin e1, pin e3]
  rw [m86_l1]
  refine Co (Cs (Ck h fun _ _ h => Rg 1 rfl (Rf fi39_1 rfl (Rl 0 h rfl (ty35.ldS rfl) (Re Tryz.underlying35 rfl (Rs rfl (fun _ => op_lss_int rfl rfl hlt1) (Rz h fun h => Ct rfl (Ci (Cs (Cb (Ck h fun _ _ h => Rf fi39_1 rfl (Rl 0 h rfl (ty35.ldS rfl) (Rg 1 rfl (Rs rfl (fun _ => op_ix (n := i1) rfl rfl rfl Tryz.underlying35 ty65.hn (at_map hil1) rfl) (Rs rfl (fun _ => op_ldC (d := dR Col.enc (t.columns.getD i1 default)) rfl (at_map hil1) (ty65.lcA rfl rfl)) (Rw.al (z := zc65) h (Nat.le_add_right _ 5) rfl rfl rfl (z65 (S := S)) rfl fun b2 _ h => Rw.st (k := 0) (cs' := (dC Col.enc (t.columns.getD i1 default))) h (Nat.le_add_right _ 0) rfl rfl rfl rfl rfl ty65.hn rfl rfl rfl fun _ h => Rw.nilK h (Nat.add_le_add_left (by decide : 7 ≤ 7) _) fun h => Cs (Ck h fun _ _ h => Rf fi65_0 rfl (Rl 0 h rfl (ty9.ldS rfl) (Rs rfl (fun _ => op_call (d := dB (m55 ((t.columns.getD i1 default).name))) rfl rfl c55 rfl (He i55 ((t.columns.getD i1 default).name) (Col.ok_name (okL_get (Tbl.ok_columns h_t) Col.zok i1)) rfl)) (Rg 1 rfl (Rz h fun h => ?_)))))))))))))))))))))
  cases q1 : (!(m55 ((t.columns.getD i1 default).name)))
  refine Cf rfl (Ci (Cs (Ck h fun _ _ h => Rg 1 rfl (Rz h fun h => Cb ?_))))
  have hl2 : ∀ (rem2 i2 : Nat) (fr : Nat → D) (σ : St), i2 + rem2 = i1 → fr 1 = D.ptr b1 0 → fr 3 = dN i1 → fr 4 = D.ptr b2 0 → fr 5 = dN i2 → Ko 0 σ [(b2, (dC Col.enc (t.columns.getD i1 default))), (b1, (dC Tbl.enc t))] [] → Cw (EE S) cm86_l2 64 fr σ (fun oX gX sX => match m86_l2 t i1 rem2 i2  with | .on _ => oX = some (some 2) ∧ gX 1 = D.ptr b1 0 ∧ gX 3 = dN i1 ∧ gX 4 = D.ptr b2 0 ∧ Ko 0 sX [(b2, (dC Col.enc (t.columns.getD i1 default))), (b1, (dC Tbl.enc t))] [] | .out r => Ou S Tryz.f86 (fun d _ => plain d = true ∧ strip d = dI r) oX gX sX) := by
   intro rem2
   induction rem2
   intro i2   fr σ hi  e1 e3 e4 e5 h
   have hlt2 : decide ((((i2 : Nat) : Int) : Int) < ((i1 : Nat) : Int)) = false := decF (by omega)
   rw [pin e1, pin e3, pin e4, pin e5]
   rw [m86_l2]
   exact Co (Cs (Ck h fun _ _ h => Rg 2 rfl (Rs rfl (fun _ => op_lss_int rfl rfl hlt2) (Rz h fun h => Cf rfl (Cw.exit (an5 rfl rfl rfl rfl h))))))
   rename_i rem2 ih
   intro i2   fr σ hi  e1 e3 e4 e5 h
   have hlt2 : decide ((((i2 : Nat) : Int) : Int) < ((i1 : Nat) : Int)) = true := decT (by omega)
   have hil2 : i2 < i1 := by omega
   rw [pin e1, pin e3, pin e4, pin e5]
   rw [m86_l2]
   refine Co (Cs (Ck h fun _ _ h => Rg 2 rfl (Rs rfl (fun _ => op_lss_int rfl rfl hlt2) (Rz h fun h => Ct rfl (Ci (Cs (Cb ?_)))))))
   refine Cw.seq (Cw.regionD h fun _ _ h => ?_)
   refine Rf fi39_1 rfl (Rl 1 h rfl (ty35.ldS rfl) (Rg 1 rfl (Rs rfl (fun _ => op_ix (n := i2) rfl rfl rfl Tryz.underlying35 ty65.hn (at_map (by omega)) rfl) (Rs rfl (fun _ => op_fr fi65_0 rfl rfl) (Rc (at_map (by omega)) ty9 rfl (Rf fi65_0 rfl (Rl 0 h rfl (ty9.ldS rfl) (Rg 1 rfl (Rz h fun h => ?_)))))))))
   refine ⟨by kernel_rfl, ?_⟩
   cases q2 : (ByteArray.toList ((t.columns.getD i2 default).name) == ByteArray.toList ((t.columns.getD i1 default).name))
   exact Cf rfl (Ci (Cw.regionK h fun _ _ h => Rg 1 rfl (Rs rfl (fun _ => op_add_int (v := ((i2 + 1 : Nat) : Int)) rfl rfl (wrap_one (by omega))) (Rg 1 rfl (Rz h fun h => ih (i2 + 1)   _ _ (by omega)  rfl rfl rfl rfl h)))))
   exact Ct rfl (Ck h fun _ _ h => Rg 1 rfl (Rz h fun h => Cr (And.intro rfl (Exists.intro _ (an3 rfl rfl rfl)))))
  refine Cw.mono (hl2 i1 0   _ _ (by omega)  rfl rfl rfl rfl h) ?_
  intro oY gY sY hh
  generalize hzL2 : m86_l2 t i1 i1 0  = zZ at hh ⊢
  rcases zZ with vZ | rZ
  dsimp only
  obtain ⟨rfl, e1, e3, e4, h⟩ := hh
  rw [pin e1, pin e3, pin e4]
  refine Cw.seq (Cw.mono (Q := fun oX gX sX => match m86_1 t i1 with | .on v1_63 => oX = none ∧ gX 1 = D.ptr b1 0 ∧ gX 3 = dN i1 ∧ gX 63 = dB v1_63 ∧ Ko 0 sX [(b2, (dC Col.enc (t.columns.getD i1 default))), (b1, (dC Tbl.enc t))] [] | .out r => Ou S Tryz.f86 (fun d _ => plain d = true ∧ strip d = dI r) oX gX sX) ?_ ?_)
  unfold m86_1
  refine Cw.regionK h fun _ _ h => Rf fi65_1 rfl (Rl 0 h rfl (ty3.ldS rfl) (Rg 2 rfl ?_))
  cases q3 : decide (((t.columns.getD i1 default).kind : Int) < 1)
  refine Rf fi65_1 rfl (Rl 0 h rfl (ty3.ldS rfl) (Rg 3 rfl ?_))
  cases q4 : decide (((t.columns.getD i1 default).kind : Int) > 5)
  refine Rf fi65_3 rfl (Rw.ld (k := 0) (d := dR Val.enc ((t.columns.getD i1 default).dflt)) h rfl rfl rfl rfl rfl (ty29.ldA rfl rfl) rfl (Rs rfl (fun _ => op_call (d := dI (m141 ((t.columns.getD i1 default).dflt))) rfl rfl c141 rfl (He i141 ((t.columns.getD i1 default).dflt) (Col.ok_dflt (okL_get (Tbl.ok_columns h_t) Col.zok i1)) rfl)) (Rg 3 rfl ?_)))
  cases q5 : (((m141 ((t.columns.getD i1 default).dflt)) : Int) != 0)
  refine Rf fi65_3 rfl (Rf fi29_0 rfl (Rl 0 h rfl (ty3.ldS rfl) (Rf fi65_1 rfl (Rl 0 h rfl (ty3.ldS rfl) (Rg 2 rfl ?_)))))
  cases q6 : ((((t.columns.getD i1 default).dflt).kind : Int) != (t.columns.getD i1 default).kind)
  exact Rg 6 rfl (Rz h fun h => an5 rfl rfl rfl rfl h)
  exact Rf fi65_3 rfl (Rf fi29_0 rfl (Rl 0 h rfl (ty3.ldS rfl) (Rg 3 rfl (Rz h fun h => an5 rfl rfl rfl rfl h))))
  exact Rg 13 rfl (Rz h fun h => an5 rfl rfl rfl rfl h)
  exact Rg 19 rfl (Rz h fun h => an5 rfl rfl rfl rfl h)
  exact Rg 24 rfl (Rz h fun h => an5 rfl rfl rfl rfl h)
  intro oY gY sY hh
  generalize hzF1 : m86_1 t i1 = zZ at hh ⊢
  rcases zZ with v1_63 | rZ
  dsimp only
  obtain ⟨rfl, e1, e3, e63, h⟩ := hh
  rw [pin e1, pin e3, pin e63]
  cases q7 : v1_63
  exact Cf rfl (Ci (Cw.regionK h fun _ _ h => Rg 1 rfl (Rs rfl (fun _ => op_add_int (v := ((i1 + 1 : Nat) : Int)) rfl rfl (wrap_one (by omega))) (Rg 1 rfl (Rz h fun h => ih (i1 + 1)   _ _ (by omega)  rfl rfl (h.dropBox (List.Sublist.cons _ (List.Sublist.refl _))))))))
  exact Ct rfl (Ck h fun _ _ h => Rg 1 rfl (Rz h fun h => Cr (And.intro rfl (Exists.intro _ (an3 rfl rfl rfl)))))
  obtain ⟨rfl, w⟩ := hh
  exact ⟨rfl, w⟩
  obtain ⟨rfl, w⟩ := hh
  exact ⟨rfl, w⟩
  exact Ct rfl (Ck h fun _ _ h => Rg 1 rfl (Rz h fun h => Cr (And.intro rfl (Exists.intro _ (an3 rfl rfl rfl)))))
 refine Cw.mono (hl1 t.columns.length 0   _ _ (by omega)  rfl rfl h) ?_
 intro oY gY sY hh
 generalize hzL1 : m86_l1 t t.columns.length 0  = zZ at hh ⊢
 rcases zZ with vZ | rZ
 dsimp only
 obtain ⟨rfl, h⟩ := hh
 have hbd1 := okL_len (Tbl.ok_columns h_t)
 exact Ck h fun _ _ h => Rg 1 rfl (Rz h fun h => Cr ⟨.inr rfl, _, rfl, rfl, rfl⟩)
 obtain ⟨rfl, w⟩ := hh
 exact ⟨.inr rfl, w⟩
noncomputable def H86 : List D → R D := mkH (L1 (dR Tbl.enc)) (fun x => Tbl.ok x) (fun x => dI (m86 x))
theorem i86 : InjE (L1 (dR Tbl.enc)) := j1 (jR Tbl.inj)
noncomputable def cm88_l1 : Code := (cl (cr (cl (cr (bodyOf Tryz.f88)))))
noncomputable def cm88_l2 : Code := (cl (cr (cl (cr (cr (cl (cl (cr (cl (cl (cr (cl (cr (bodyOf Tryz.f88))))))))))))))
def m88_l2 (t : Tbl) (i1 : Nat) : Nat → Nat → Lo Unit Int
 | 0, _ => .on ()
 | rem2 + 1, i2 => (bif (ByteArray.toList ((t.indexes.getD i2 default).name) == ByteArray.toList ((t.indexes.getD i1 default).name)) then .out 31 else m88_l2 t i1 rem2 (i2 + 1) )
def m88_l1 (t : Tbl) : Nat → Nat → Lo Unit Int
 | 0, _ => .on ()
 | rem1 + 1, i1 => (bif (!(m55 ((t.indexes.getD i1 default).name))) then .out 30 else (match m88_l2 t i1 i1 0  with | .out r => .out r | .on _ => (bif (!(m87 t ((t.indexes.getD i1 default).columns))) then .out 33 else m88_l1 t rem1 (i1 + 1) )))
def m88 (t : Tbl) : Int := (match m88_l1 t t.indexes.length 0  with | .out r => r | .on _ => 0)
theorem m88_ev  (c55 : S 55 = some H55) (c87 : S 87 = some H87) (t : Tbl)  (h_t : Tbl.ok t) : ∃ d σ', Ev (EE S) 88 [dR Tbl.enc t] St.empty d σ' ∧ plain d = true ∧ strip d = dI (m88 t) := by
 unfold m88
 have h : Ko 0 St.empty [] [] := Ko.empty
 refine Ev.wp (E := EE S) (fn := Tryz.f88) (nt := 41) Tryz.func88 rfl rfl (Ck h fun _ _ h => Rw.bx (d := dR Tbl.enc t) h (Nat.le_add_right _ 0) rfl rfl rfl rfl rfl rfl fun b1 _ h => Rg 1 rfl (Rw.nilK h (Nat.add_le_add_left (by decide : 1 ≤ 2) _) fun h => Cs (Ck h fun _ _ h => Rg 1 rfl (Rz h fun h => Cb ?_))))
 have hl1 : ∀ (rem1 i1 : Nat) (fr : Nat → D) (σ : St), i1 + rem1 = t.indexes.length → fr 1 = D.ptr b1 0 → fr 3 = dN i1 → Ko 0 σ [(b1, (dC Tbl.enc t))] [] → Cw (EE S) cm88_l1 41 fr σ (fun oX gX sX => match m88_l1 t rem1 i1  with | .on _ => oX = some (some 0) ∧ Ko 0 sX [(b1, (dC Tbl.enc t))] [] | .out r => Ou S Tryz.f88 (fun d _ => plain d = true ∧ strip d = dI r) oX gX sX) := by
  intro rem1
  induction rem1
  intro i1   fr σ hi  e1 e3 h
  have hlt1 : decide ((((i1 : Nat) : Int) : Int) < ((t.indexes.length : Nat) : Int)) = false := decF (by omega)
  rw [pin e1, pin e3]
  rw [m88_l1]
  exact Co (Cs (Ck h fun _ _ h => Rg 1 rfl (Rf fi39_3 rfl (Rl 0 h rfl (ty36.ldS rfl) (Re Tryz.underlying36 rfl (Rs rfl (fun _ => op_lss_int rfl rfl hlt1) (Rz h fun h => Cf rfl (Cw.exit (an2 rfl h)))))))))
  rename_i rem1 ih
  intro i1   fr σ hi  e1 e3 h
  have hlt1 : decide ((((i1 : Nat) : Int) : Int) < ((t.indexes.length : Nat) : Int)) = true := decT (by omega)
  have hil1 : i1 < t.indexes.length := by omega
  have hbq1 := okL_len (Tbl.ok_indexes h_t)
  rw [pin e1, pin e3]
  rw [m88_l1]
  refine Co (Cs (Ck h fun _ _ h => Rg 1 rfl (Rf fi39_3 rfl (Rl 0 h rfl (ty36.ldS rfl) (Re Tryz.underlying36 rfl (Rs rfl (fun _ => op_lss_int rfl rfl hlt1) (Rz h fun h => Ct rfl (Ci (Cs (Cb (Ck h fun _ _ h => Rf fi39_3 rfl (Rl 0 h rfl (ty36.ldS rfl) (Rg 1 rfl (Rs rfl (fun _ => op_ix (n := i1) rfl rfl rfl Tryz.underlying36 ty72.hn (at_map hil1) rfl) (Rs rfl (fun _ => op_ldC (d := dR Idx.enc (t.indexes.getD i1 default)) rfl (at_map hil1) (ty72.lcA rfl rfl)) (Rw.al (z := zc72) h (Nat.le_add_right _ 5) rfl rfl rfl (z72 (S := S)) rfl fun b2 _ h => Rw.st (k := 0) (cs' := (dC Idx.enc (t.indexes.getD i1 default))) h (Nat.le_add_right _ 0) rfl rfl rfl rfl rfl ty72.hn rfl rfl rfl fun _ h => Rw.nilK h (Nat.add_le_add_left (by decide : 7 ≤ 7) _) fun h => Cs (Ck h fun _ _ h => Rf fi72_0 rfl (Rl 0 h rfl (ty9.ldS rfl) (Rs rfl (fun _ => op_call (d := dB (m55 ((t.indexes.getD i1 default).name))) rfl rfl c55 rfl (He i55 ((t.indexes.getD i1 default).name) (Idx.ok_name (okL_get (Tbl.ok_indexes h_t) Idx.zok i1)) rfl)) (Rg 1 rfl (Rz h fun h => ?_)))))))))))))))))))))
  cases q1 : (!(m55 ((t.indexes.getD i1 default).name)))
  refine Cf rfl (Ci (Cs (Ck h fun _ _ h => Rg 1 rfl (Rz h fun h => Cb ?_))))
  have hl2 : ∀ (rem2 i2 : Nat) (fr : Nat → D) (σ : St), i2 + rem2 = i1 → fr 1 = D.ptr b1 0 → fr 3 = dN i1 → fr 4 = D.ptr b2 0 → fr 5 = dN i2 → Ko 0 σ [(b2, (dC Idx.enc (t.indexes.getD i1 default))), (b1, (dC Tbl.enc t))] [] → Cw (EE S) cm88_l2 41 fr σ (fun oX gX sX => match m88_l2 t i1 rem2 i2  with | .on _ => oX = some (some 2) ∧ gX 1 = D.ptr b1 0 ∧ gX 3 = dN i1 ∧ gX 4 = D.ptr b2 0 ∧ Ko 0 sX [(b2, (dC Idx.enc (t.indexes.getD i1 default))), (b1, (dC Tbl.enc t))] [] | .out r => Ou S Tryz.f88 (fun d _ => plain d = true ∧ strip d = dI r) oX gX sX) := by
   intro rem2
   induction rem2
   intro i2   fr σ hi  e1 e3 e4 e5 h
   have hlt2 : decide ((((i2 : Nat) : Int) : Int) < ((i1 : Nat) : Int)) = false := decF (by omega)
   rw [pin e1, pin e3, pin e4, pin e5]
   rw [m88_l2]
   exact Co (Cs (Ck h fun _ _ h => Rg 2 rfl (Rs rfl (fun _ => op_lss_int rfl rfl hlt2) (Rz h fun h => Cf rfl (Cw.exit (an5 rfl rfl rfl rfl h))))))
   rename_i rem2 ih
   intro i2   fr σ hi  e1 e3 e4 e5 h
   have hlt2 : decide ((((i2 : Nat) : Int) : Int) < ((i1 : Nat) : Int)) = true := decT (by omega)
   have hil2 : i2 < i1 := by omega
   rw [pin e1, pin e3, pin e4, pin e5]
   rw [m88_l2]
   refine Co (Cs (Ck h fun _ _ h => Rg 2 rfl (Rs rfl (fun _ => op_lss_int rfl rfl hlt2) (Rz h fun h => Ct rfl (Ci (Cs (Cb ?_)))))))
   refine Cw.seq (Cw.regionD h fun _ _ h => ?_)
   refine Rf fi39_3 rfl (Rl 1 h rfl (ty36.ldS rfl) (Rg 1 rfl (Rs rfl (fun _ => op_ix (n := i2) rfl rfl rfl Tryz.underlying36 ty72.hn (at_map (by omega)) rfl) (Rs rfl (fun _ => op_fr fi72_0 rfl rfl) (Rc (at_map (by omega)) ty9 rfl (Rf fi72_0 rfl (Rl 0 h rfl (ty9.ldS rfl) (Rg 1 rfl (Rz h fun h => ?_)))))))))
   refine ⟨by kernel_rfl, ?_⟩
   cases q2 : (ByteArray.toList ((t.indexes.getD i2 default).name) == ByteArray.toList ((t.indexes.getD i1 default).name))
   exact Cf rfl (Ci (Cw.regionK h fun _ _ h => Rg 1 rfl (Rs rfl (fun _ => op_add_int (v := ((i2 + 1 : Nat) : Int)) rfl rfl (wrap_one (by omega))) (Rg 1 rfl (Rz h fun h => ih (i2 + 1)   _ _ (by omega)  rfl rfl rfl rfl h)))))
   exact Ct rfl (Ck h fun _ _ h => Rg 1 rfl (Rz h fun h => Cr (And.intro rfl (Exists.intro _ (an3 rfl rfl rfl)))))
  refine Cw.mono (hl2 i1 0   _ _ (by omega)  rfl rfl rfl rfl h) ?_
  intro oY gY sY hh
  generalize hzL2 : m88_l2 t i1 i1 0  = zZ at hh ⊢
  rcases zZ with vZ | rZ
  dsimp only
  obtain ⟨rfl, e1, e3, e4, h⟩ := hh
  rw [pin e1, pin e3, pin e4]
  refine Ck h fun _ _ h => Rw.ld (k := 1) (d := dR Tbl.enc t) h rfl rfl rfl rfl rfl (ty39.ldA rfl rfl) rfl (Rf fi72_1 rfl (Rl 0 h rfl (ty23.ldS rfl) (Rs rfl (fun _ => op_call (d := dB (m87 t ((t.indexes.getD i1 default).columns))) rfl rfl c87 rfl (He i87 (t, ((t.indexes.getD i1 default).columns)) ⟨h_t, (Idx.ok_columns (okL_get (Tbl.ok_indexes h_t) Idx.zok i1))⟩ rfl)) (Rg 1 rfl (Rz h fun h => ?_)))))
  cases q3 : (!(m87 t ((t.indexes.getD i1 default).columns)))
  exact Cf rfl (Ci (Cw.regionK h fun _ _ h => Rg 1 rfl (Rs rfl (fun _ => op_add_int (v := ((i1 + 1 : Nat) : Int)) rfl rfl (wrap_one (by omega))) (Rg 1 rfl (Rz h fun h => ih (i1 + 1)   _ _ (by omega)  rfl rfl (h.dropBox (List.Sublist.cons _ (List.Sublist.refl _))))))))
  exact Ct rfl (Ck h fun _ _ h => Rg 1 rfl (Rz h fun h => Cr (And.intro rfl (Exists.intro _ (an3 rfl rfl rfl)))))
  obtain ⟨rfl, w⟩ := hh
  exact ⟨rfl, w⟩
  exact Ct rfl (Ck h fun _ _ h => Rg 1 rfl (Rz h fun h => Cr (And.intro rfl (Exists.intro _ (an3 rfl rfl rfl)))))
 refine Cw.mono (hl1 t.indexes.length 0   _ _ (by omega)  rfl rfl h) ?_
 intro oY gY sY hh
 generalize hzL1 : m88_l1 t t.indexes.length 0  = zZ at hh ⊢
 rcases zZ with vZ | rZ
 dsimp only
 obtain ⟨rfl, h⟩ := hh
 have hbd1 := okL_len (Tbl.ok_indexes h_t)
 exact Ck h fun _ _ h => Rg 1 rfl (Rz h fun h => Cr ⟨.inr rfl, _, rfl, rfl, rfl⟩)
 obtain ⟨rfl, w⟩ := hh
 exact ⟨.inr rfl, w⟩
noncomputable def H88 : List D → R D := mkH (L1 (dR Tbl.enc)) (fun x => Tbl.ok x) (fun x => dI (m88 x))
theorem i88 : InjE (L1 (dR Tbl.enc)) := j1 (jR Tbl.inj)
theorem m87_l2_out {t : Tbl} {l : List Int} {i1 : Nat} : ∀ (rem i : Nat) (r : Bool), m87_l2 t l i1 rem i = .out r → r = false
  | 0, i, r, h => by rw [m87_l2] at h; cases h
  | rem + 1, i, r, h => by
    rw [m87_l2] at h
    cases q1 : ((l.getD i default : Int) == l.getD i1 default) with
    | true => simp only [q1, cond_true, Lo.out.injEq] at h; exact h.symm
    | false => simp only [q1, cond_false] at h; exact m87_l2_out rem (i + 1) r h
theorem m87_l1_out {t : Tbl} {l : List Int} : ∀ (rem i : Nat) (r : Bool), m87_l1 t l rem i = .out r → r = false
  | 0, i, r, h => by rw [m87_l1] at h; cases h
  | rem + 1, i, r, h => by
    rw [m87_l1] at h
    cases q1 : decide ((l.getD i default : Int) < 0) with
    | true => simp only [q1, cond_true, Lo.out.injEq] at h; exact h.symm
    | false =>
      cases q2 : decide ((l.getD i default : Int) ≥ ((t.columns.length : Nat) : Int)) with
      | true => simp only [q1, q2, cond_true, cond_false, Lo.out.injEq] at h; exact h.symm
      | false =>
        simp only [q1, q2, cond_false] at h
        cases q3 : m87_l2 t l i i 0 with
        | out r' => simp only [q3, Lo.out.injEq] at h; rw [← h]; exact m87_l2_out _ _ _ q3
        | on v => simp only [q3] at h; exact m87_l1_out rem (i + 1) r h
theorem m87_l1_on {t : Tbl} {l : List Int} : ∀ (rem i : Nat), m87_l1 t l rem i = .on () → ∀ j, i ≤ j → j < i + rem → 0 ≤ l.getD j default ∧ l.getD j default < (t.columns.length : Int)
  | 0, i, _, j, h1, h2 => by omega
  | rem + 1, i, h, j, h1, h2 => by
    rw [m87_l1] at h
    cases q1 : decide ((l.getD i default : Int) < 0) with
    | true => simp only [q1, cond_true, reduceCtorEq] at h
    | false =>
      cases q2 : decide ((l.getD i default : Int) ≥ ((t.columns.length : Nat) : Int)) with
      | true => simp only [q1, q2, cond_true, cond_false, reduceCtorEq] at h
      | false =>
        have p1 := of_decide_eq_false q1
        have p2 := of_decide_eq_false q2
        simp only [q1, q2, cond_false] at h
        by_cases hj : j = i
        · subst hj; exact ⟨by omega, by omega⟩
        · cases q3 : m87_l2 t l i i 0 with
          | out r' => simp only [q3, reduceCtorEq] at h
          | on v => simp only [q3] at h; exact m87_l1_on rem (i + 1) h j (by omega) (by omega)
theorem m87_key {t : Tbl} {l : List Int} (h : m87 t l = true) : ∀ x ∈ l, 0 ≤ x ∧ x.toNat < t.columns.length := by
  intro x hx
  unfold m87 at h
  cases q1 : decide ((((l.length : Nat) : Int) : Int) < 1) with
  | true => simp only [q1, cond_true, reduceCtorEq] at h
  | false =>
    cases q2 : decide ((((l.length : Nat) : Int) : Int) > 64) with
    | true => simp only [q1, q2, cond_true, cond_false, reduceCtorEq] at h
    | false =>
      simp only [q1, q2, cond_false] at h
      cases q3 : m87_l1 t l l.length 0 with
      | out r => rw [q3] at h; simp only at h; rw [m87_l1_out _ _ _ q3] at h; cases h
      | on v =>
        obtain ⟨j, hj, rfl⟩ := mem_at hx
        obtain ⟨h1, h2⟩ := m87_l1_on l.length 0 (by rw [q3]) j (by omega) (by omega)
        exact ⟨h1, by omega⟩
noncomputable def cm53_l1 : Code := (cl (cr (cl (cr (cr (cr (cr (cr (bodyOf Tryz.f53)))))))))
def m53_l1 (t : Tbl) : Nat → Nat → Lo Unit Int
 | 0, _ => .on ()
 | rem1 + 1, i1 => (bif (t.columns.getD (t.key.getD i1 default).toNat default).nul then .out 33 else m53_l1 t rem1 (i1 + 1) )
noncomputable def cm53_l2 : Code := (cl (cr (cl (cr (cr (cr (cr (cr (cr (cr (bodyOf Tryz.f53)))))))))))
def m53_l2 (t : Tbl) : Nat → Nat → Lo Unit Int
 | 0, _ => .on ()
 | rem2 + 1, i2 => (bif (!(m55 ((t.refs.getD i2 default).table))) then .out 30 else (bif (!(m87 t ((t.refs.getD i2 default).columns))) then .out 33 else m53_l2 t rem2 (i2 + 1) ))
def m53 (t : Tbl) : Int := (bif (!(m55 t.name)) then 30 else (bif decide ((((t.columns.length : Nat) : Int) : Int) < 1) then 2 else (bif decide ((((t.columns.length : Nat) : Int) : Int) > 64) then 2 else (bif decide ((((t.indexes.length : Nat) : Int) : Int) > 16) then 2 else (bif decide ((((t.refs.length : Nat) : Int) : Int) > 16) then 2 else (bif (((m86 t) : Int) != 0) then (m86 t) else (bif (!(m87 t t.key)) then 33 else (match m53_l1 t t.key.length 0  with | .out r => r | .on _ => (bif (((m88 t) : Int) != 0) then (m88 t) else (match m53_l2 t t.refs.length 0  with | .out r => r | .on _ => 0))))))))))
theorem m53_ev  (c55 : S 55 = some H55) (c86 : S 86 = some H86) (c87 : S 87 = some H87) (c88 : S 88 = some H88) (t : Tbl)  (h_t : Tbl.ok t) : ∃ d σ', Ev (EE S) 53 [dR Tbl.enc t] St.empty d σ' ∧ plain d = true ∧ strip d = dI (m53 t) := by
 unfold m53
 have h : Ko 0 St.empty [] [] := Ko.empty
 refine Ev.wp (E := EE S) (fn := Tryz.f53) (nt := 89) Tryz.func53 rfl rfl (Ck h fun _ _ h => Rw.bx (d := dR Tbl.enc t) h (Nat.le_add_right _ 0) rfl rfl rfl rfl rfl rfl fun b1 _ h => Rg 1 rfl (Rw.nilK h (Nat.add_le_add_left (by decide : 1 ≤ 2) _) fun h => Cs (Ck h fun _ _ h => Rf fi39_0 rfl (Rl 0 h rfl (ty9.ldS rfl) (Rs rfl (fun _ => op_call (d := dB (m55 t.name)) rfl rfl c55 rfl (He i55 t.name (Tbl.ok_name h_t) rfl)) (Rg 1 rfl (Rz h fun h => ?_)))))))
 cases q1 : (!(m55 t.name))
 refine Cf rfl (Ci (Cs (Ck h fun _ _ h => Rf fi39_1 rfl (Rl 0 h rfl (ty35.ldS rfl) (Re Tryz.underlying35 rfl (Rg 2 rfl ?_))))))
 cases q2 : decide ((((t.columns.length : Nat) : Int) : Int) < 1)
 refine Rf fi39_1 rfl (Rl 0 h rfl (ty35.ldS rfl) (Re Tryz.underlying35 rfl (Rg 3 rfl ?_)))
 cases q3 : decide ((((t.columns.length : Nat) : Int) : Int) > 64)
 refine Rf fi39_3 rfl (Rl 0 h rfl (ty36.ldS rfl) (Re Tryz.underlying36 rfl (Rg 3 rfl ?_)))
 cases q4 : decide ((((t.indexes.length : Nat) : Int) : Int) > 16)
 refine Rf fi39_4 rfl (Rl 0 h rfl (ty37.ldS rfl) (Re Tryz.underlying37 rfl (Rg 2 rfl (Rz h fun h => ?_))))
 cases q5 : decide ((((t.refs.length : Nat) : Int) : Int) > 16)
 refine Cf rfl (Ci (Cs (Ck h fun _ _ h => Rw.ld (k := 0) (d := dR Tbl.enc t) h rfl rfl rfl rfl rfl (ty39.ldA rfl rfl) rfl (Rs rfl (fun _ => op_call (d := dI (m86 t)) rfl rfl c86 rfl (He i86 t h_t rfl)) (Rg 1 rfl (Rz h fun h => Ck h fun _ _ h => Rg 2 rfl (Rz h fun h => ?_)))))))
 cases q6 : (((m86 t) : Int) != 0)
 refine Cf rfl (Ci (Cs (Ck h fun _ _ h => Rw.ld (k := 0) (d := dR Tbl.enc t) h rfl rfl rfl rfl rfl (ty39.ldA rfl rfl) rfl (Rf fi39_2 rfl (Rl 0 h rfl (ty23.ldS rfl) (Rs rfl (fun _ => op_call (d := dB (m87 t t.key)) rfl rfl c87 rfl (He i87 (t, t.key) ⟨h_t, (Tbl.ok_key h_t)⟩ rfl)) (Rg 1 rfl (Rz h fun h => ?_))))))))
 cases q7 : (!(m87 t t.key))
 refine Cf rfl (Ci (Cs (Ck h fun _ _ h => Rg 1 rfl (Rz h fun h => Cb ?_))))
 have hl1 : ∀ (rem1 i1 : Nat) (fr : Nat → D) (σ : St), i1 + rem1 = t.key.length → fr 1 = D.ptr b1 0 → fr 4 = dN i1 → Ko 0 σ [(b1, (dC Tbl.enc t))] [] → Cw (EE S) cm53_l1 89 fr σ (fun oX gX sX => match m53_l1 t rem1 i1  with | .on _ => oX = some (some 0) ∧ gX 1 = D.ptr b1 0 ∧ Ko 0 sX [(b1, (dC Tbl.enc t))] [] | .out r => Ou S Tryz.f53 (fun d _ => plain d = true ∧ strip d = dI r) oX gX sX) := by
  intro rem1
  induction rem1
  intro i1   fr σ hi  e1 e4 h
  have hlt1 : decide ((((i1 : Nat) : Int) : Int) < ((t.key.length : Nat) : Int)) = false := decF (by omega)
  rw [pin e1, pin e4]
  rw [m53_l1]
  exact Co (Cs (Ck h fun _ _ h => Rg 1 rfl (Rf fi39_2 rfl (Rl 0 h rfl (ty23.ldS rfl) (Re Tryz.underlying23 rfl (Rs rfl (fun _ => op_lss_int rfl rfl hlt1) (Rz h fun h => Cf rfl (Cw.exit (an3 rfl rfl h)))))))))
  rename_i rem1 ih
  intro i1   fr σ hi  e1 e4 h
  have hlt1 : decide ((((i1 : Nat) : Int) : Int) < ((t.key.length : Nat) : Int)) = true := decT (by omega)
  have hil1 : i1 < t.key.length := by omega
  have hbq1 := okL_len (Tbl.ok_key h_t)
  rw [pin e1, pin e4]
  rw [m53_l1]
  refine Co (Cs (Ck h fun _ _ h => Rg 1 rfl (Rf fi39_2 rfl (Rl 0 h rfl (ty23.ldS rfl) (Re Tryz.underlying23 rfl (Rs rfl (fun _ => op_lss_int rfl rfl hlt1) (Rz h fun h => Ct rfl (Ci (Cs (Cb ?_))))))))))
  refine Cw.seq (Cw.regionD h fun _ _ h => ?_)
  refine Rf fi39_1 rfl (Rl 0 h rfl (ty35.ldS rfl) (Rf fi39_2 rfl (Rl 0 h rfl (ty23.ldS rfl) (Rg 1 rfl (Rs rfl (fun _ => op_ix (n := i1) rfl rfl rfl Tryz.underlying23 ty3.hn (at_map hil1) rfl) (Rc (at_map hil1) ty3 rfl (Rs rfl (fun _ => op_ixI rfl rfl rfl Tryz.underlying35 ty65.hn (m87_key (of_notF q7) _ (getD_mem hil1)).1 (at_map (m87_key (of_notF q7) _ (getD_mem hil1)).2) rfl) (Rs rfl (fun _ => op_fr fi65_2 rfl rfl) (Rc (at_map (m87_key (of_notF q7) _ (getD_mem hil1)).2) ty4 rfl (Rz h fun h => ?_))))))))))
  refine ⟨by kernel_rfl, ?_⟩
  cases q8 : (t.columns.getD (t.key.getD i1 default).toNat default).nul
  exact Cf rfl (Ci (Cw.regionK h fun _ _ h => Rg 1 rfl (Rs rfl (fun _ => op_add_int (v := ((i1 + 1 : Nat) : Int)) rfl rfl (wrap_one (by omega))) (Rg 1 rfl (Rz h fun h => ih (i1 + 1)   _ _ (by omega)  rfl rfl h)))))
  exact Ct rfl (Ck h fun _ _ h => Rg 1 rfl (Rz h fun h => Cr (And.intro rfl (Exists.intro _ (an3 rfl rfl rfl)))))
 refine Cw.mono (hl1 t.key.length 0   _ _ (by omega)  rfl rfl h) ?_
 intro oY gY sY hh
 generalize hzL1 : m53_l1 t t.key.length 0  = zZ at hh ⊢
 rcases zZ with vZ | rZ
 dsimp only
 obtain ⟨rfl, e1, h⟩ := hh
 rw [pin e1]
 have hbd1 := okL_len (Tbl.ok_key h_t)
 refine Cs (Ck h fun _ _ h => Rw.ld (k := 0) (d := dR Tbl.enc t) h rfl rfl rfl rfl rfl (ty39.ldA rfl rfl) rfl (Rs rfl (fun _ => op_call (d := dI (m88 t)) rfl rfl c88 rfl (He i88 t h_t rfl)) (Rg 1 rfl (Rz h fun h => Ck h fun _ _ h => Rg 2 rfl (Rz h fun h => ?_)))))
 cases q9 : (((m88 t) : Int) != 0)
 refine Cf rfl (Ci (Cs (Ck h fun _ _ h => Rg 1 rfl (Rz h fun h => Cb ?_))))
 have hl2 : ∀ (rem2 i2 : Nat) (fr : Nat → D) (σ : St), i2 + rem2 = t.refs.length → fr 1 = D.ptr b1 0 → fr 6 = dN i2 → Ko 0 σ [(b1, (dC Tbl.enc t))] [] → Cw (EE S) cm53_l2 89 fr σ (fun oX gX sX => match m53_l2 t rem2 i2  with | .on _ => oX = some (some 2) ∧ Ko 0 sX [(b1, (dC Tbl.enc t))] [] | .out r => Ou S Tryz.f53 (fun d _ => plain d = true ∧ strip d = dI r) oX gX sX) := by
  intro rem2
  induction rem2
  intro i2   fr σ hi  e1 e6 h
  have hlt2 : decide ((((i2 : Nat) : Int) : Int) < ((t.refs.length : Nat) : Int)) = false := decF (by omega)
  rw [pin e1, pin e6]
  rw [m53_l2]
  exact Co (Cs (Ck h fun _ _ h => Rg 1 rfl (Rf fi39_4 rfl (Rl 0 h rfl (ty37.ldS rfl) (Re Tryz.underlying37 rfl (Rs rfl (fun _ => op_lss_int rfl rfl hlt2) (Rz h fun h => Cf rfl (Cw.exit (an2 rfl h)))))))))
  rename_i rem2 ih
  intro i2   fr σ hi  e1 e6 h
  have hlt2 : decide ((((i2 : Nat) : Int) : Int) < ((t.refs.length : Nat) : Int)) = true := decT (by omega)
  have hil2 : i2 < t.refs.length := by omega
  have hbq2 := okL_len (Tbl.ok_refs h_t)
  rw [pin e1, pin e6]
  rw [m53_l2]
  refine Co (Cs (Ck h fun _ _ h => Rg 1 rfl (Rf fi39_4 rfl (Rl 0 h rfl (ty37.ldS rfl) (Re Tryz.underlying37 rfl (Rs rfl (fun _ => op_lss_int rfl rfl hlt2) (Rz h fun h => Ct rfl (Ci (Cs (Cb (Cs (Ck h fun _ _ h => Rf fi39_4 rfl (Rl 0 h rfl (ty37.ldS rfl) (Rg 1 rfl (Rs rfl (fun _ => op_ix (n := i2) rfl rfl rfl Tryz.underlying37 ty74.hn (at_map hil2) rfl) (Rs rfl (fun _ => op_fr fi74_1 rfl rfl) (Rc (at_map hil2) ty9 rfl (Rs rfl (fun _ => op_call (d := dB (m55 ((t.refs.getD i2 default).table))) rfl rfl c55 rfl (He i55 ((t.refs.getD i2 default).table) (Rfr.ok_table (okL_get (Tbl.ok_refs h_t) Rfr.zok i2)) rfl)) (Rg 1 rfl (Rz h fun h => ?_))))))))))))))))))))
  cases q10 : (!(m55 ((t.refs.getD i2 default).table)))
  refine Cf rfl (Ci ?_)
  refine Cw.seq (Cw.regionD h fun _ _ h => ?_)
  refine Rw.ld (k := 0) (d := dR Tbl.enc t) h rfl rfl rfl rfl rfl (ty39.ldA rfl rfl) rfl (Rf fi39_4 rfl (Rl 0 h rfl (ty37.ldS rfl) (Rg 1 rfl (Rs rfl (fun _ => op_ix (n := i2) rfl rfl rfl Tryz.underlying37 ty74.hn (at_map hil2) rfl) (Rs rfl (fun _ => op_fr fi74_0 rfl rfl) (Rc (at_map hil2) ty23 rfl (Rs rfl (fun _ => op_call (d := dB (m87 t ((t.refs.getD i2 default).columns))) rfl rfl c87 rfl (He i87 (t, ((t.refs.getD i2 default).columns)) ⟨h_t, (Rfr.ok_columns (okL_get (Tbl.ok_refs h_t) Rfr.zok i2))⟩ rfl)) (Rg 1 rfl (Rz h fun h => ?_)))))))))
  refine ⟨by kernel_rfl, ?_⟩
  cases q11 : (!(m87 t ((t.refs.getD i2 default).columns)))
  exact Cf rfl (Ci (Cw.regionK h fun _ _ h => Rg 1 rfl (Rs rfl (fun _ => op_add_int (v := ((i2 + 1 : Nat) : Int)) rfl rfl (wrap_one (by omega))) (Rg 1 rfl (Rz h fun h => ih (i2 + 1)   _ _ (by omega)  rfl rfl h)))))
  exact Ct rfl (Ck h fun _ _ h => Rg 1 rfl (Rz h fun h => Cr (And.intro rfl (Exists.intro _ (an3 rfl rfl rfl)))))
  exact Ct rfl (Ck h fun _ _ h => Rg 1 rfl (Rz h fun h => Cr (And.intro rfl (Exists.intro _ (an3 rfl rfl rfl)))))
 refine Cw.mono (hl2 t.refs.length 0   _ _ (by omega)  rfl rfl h) ?_
 intro oY gY sY hh
 generalize hzL2 : m53_l2 t t.refs.length 0  = zZ at hh ⊢
 rcases zZ with vZ | rZ
 dsimp only
 obtain ⟨rfl, h⟩ := hh
 have hbd2 := okL_len (Tbl.ok_refs h_t)
 exact Ck h fun _ _ h => Rg 1 rfl (Rz h fun h => Cr ⟨.inr rfl, _, rfl, rfl, rfl⟩)
 obtain ⟨rfl, w⟩ := hh
 exact ⟨.inr rfl, w⟩
 exact Ct rfl (Ck h fun _ _ h => Rg 2 rfl (Rz h fun h => Cr ⟨.inr rfl, _, rfl, rfl, rfl⟩))
 obtain ⟨rfl, w⟩ := hh
 exact ⟨.inr rfl, w⟩
 exact Ct rfl (Ck h fun _ _ h => Rg 1 rfl (Rz h fun h => Cr ⟨.inr rfl, _, rfl, rfl, rfl⟩))
 exact Ct rfl (Ck h fun _ _ h => Rg 2 rfl (Rz h fun h => Cr ⟨.inr rfl, _, rfl, rfl, rfl⟩))
 exact Ct rfl (Ck h fun _ _ h => Rg 1 rfl (Rz h fun h => Cr ⟨.inr rfl, _, rfl, rfl, rfl⟩))
 exact Rg 5 rfl (Rz h fun h => Ct rfl (Ck h fun _ _ h => Rg 1 rfl (Rz h fun h => Cr ⟨.inr rfl, _, rfl, rfl, rfl⟩)))
 exact Rg 11 rfl (Rz h fun h => Ct rfl (Ck h fun _ _ h => Rg 1 rfl (Rz h fun h => Cr ⟨.inr rfl, _, rfl, rfl, rfl⟩)))
 exact Rg 17 rfl (Rz h fun h => Ct rfl (Ck h fun _ _ h => Rg 1 rfl (Rz h fun h => Cr ⟨.inr rfl, _, rfl, rfl, rfl⟩)))
 exact Ct rfl (Ck h fun _ _ h => Rg 1 rfl (Rz h fun h => Cr ⟨.inr rfl, _, rfl, rfl, rfl⟩))
noncomputable def H53 : List D → R D := mkH (L1 (dR Tbl.enc)) (fun x => Tbl.ok x) (fun x => dI (m53 x))
theorem i53 : InjE (L1 (dR Tbl.enc)) := j1 (jR Tbl.inj)
noncomputable def cm143_l1 : Code := (cl (cr (cl (cr (cr (bodyOf Tryz.f143))))))
def m143_l1 (a : (List Int)) (b : (List Int)) : Nat → Nat → Lo Unit Bool
 | 0, _ => .on ()
 | rem1 + 1, i1 => (bif ((a.getD i1 default : Int) != b.getD i1 default) then .out false else m143_l1 a b rem1 (i1 + 1) )
def m143 (a : (List Int)) (b : (List Int)) : Bool := (bif ((((a.length : Nat) : Int) : Int) != ((b.length : Nat) : Int)) then false else (match m143_l1 a b a.length 0  with | .out r => r | .on _ => true))
theorem m143_ev  (a : (List Int)) (b : (List Int))  (h_a : (okL okI) a) (h_b : (okL okI) b) : ∃ d σ', Ev (EE S) 143 [dL encI a, dL encI b] St.empty d σ' ∧ plain d = true ∧ strip d = dB (m143 a b) := by
 unfold m143
 have h : Ko 0 St.empty [] [] := Ko.empty
 refine Ev.wp (E := EE S) (fn := Tryz.f143) (nt := 26) Tryz.func143 rfl rfl (Ck h fun _ _ h => Rg 1 rfl (Rz h fun h => Cs (Ck h fun _ _ h => Rg 1 rfl (Re Tryz.underlying23 rfl (Rg 1 rfl (Re Tryz.underlying23 rfl (Rg 1 rfl (Rz h fun h => ?_))))))))
 cases q1 : ((((a.length : Nat) : Int) : Int) != ((b.length : Nat) : Int))
 have p1 := eq_of_bneF q1
 refine Cf rfl (Ci (Cs (Ck h fun _ _ h => Rg 1 rfl (Rz h fun h => Cb ?_))))
 have hl1 : ∀ (rem1 i1 : Nat) (fr : Nat → D) (σ : St), i1 + rem1 = a.length → fr 0 = dL encI a → fr 1 = dL encI b → fr 5 = dN i1 → Ko 0 σ [] [] → Cw (EE S) cm143_l1 26 fr σ (fun oX gX sX => match m143_l1 a b rem1 i1  with | .on _ => oX = some (some 0) ∧ Ko 0 sX [] [] | .out r => Ou S Tryz.f143 (fun d _ => plain d = true ∧ strip d = dB r) oX gX sX) := by
  intro rem1
  induction rem1
  intro i1   fr σ hi  e0 e1 e5 h
  have hlt1 : decide ((((i1 : Nat) : Int) : Int) < ((a.length : Nat) : Int)) = false := decF (by omega)
  rw [pin e0, pin e1, pin e5]
  rw [m143_l1]
  exact Co (Cs (Ck h fun _ _ h => Rg 2 rfl (Re Tryz.underlying23 rfl (Rs rfl (fun _ => op_lss_int rfl rfl hlt1) (Rz h fun h => Cf rfl (Cw.exit (an2 rfl h)))))))
  rename_i rem1 ih
  intro i1   fr σ hi  e0 e1 e5 h
  have hlt1 : decide ((((i1 : Nat) : Int) : Int) < ((a.length : Nat) : Int)) = true := decT (by omega)
  have hil1 : i1 < a.length := by omega
  have hbq1 := okL_len h_a
  rw [pin e0, pin e1, pin e5]
  rw [m143_l1]
  refine Co (Cs (Ck h fun _ _ h => Rg 2 rfl (Re Tryz.underlying23 rfl (Rs rfl (fun _ => op_lss_int rfl rfl hlt1) (Rz h fun h => Ct rfl (Ci (Cs (Cb ?_))))))))
  refine Cw.seq (Cw.regionD h fun _ _ h => ?_)
  refine Rg 2 rfl (Rs rfl (fun _ => op_ix (n := i1) rfl rfl rfl Tryz.underlying23 ty3.hn (at_map hil1) rfl) (Rc (at_map hil1) ty3 rfl (Rg 2 rfl (Rs rfl (fun _ => op_ix (n := i1) rfl rfl rfl Tryz.underlying23 ty3.hn (at_map (by omega)) rfl) (Rc (at_map (by omega)) ty3 rfl (Rg 1 rfl (Rz h fun h => ?_)))))))
  refine ⟨by kernel_rfl, ?_⟩
  cases q2 : ((a.getD i1 default : Int) != b.getD i1 default)
  have p2 := eq_of_bneF q2
  exact Cf rfl (Ci (Cw.regionK h fun _ _ h => Rg 1 rfl (Rs rfl (fun _ => op_add_int (v := ((i1 + 1 : Nat) : Int)) rfl rfl (wrap_one (by omega))) (Rg 1 rfl (Rz h fun h => ih (i1 + 1)   _ _ (by omega)  rfl rfl rfl h)))))
  have p2 := ne_of_bneT q2
  exact Ct rfl (Ck h fun _ _ h => Rg 1 rfl (Rz h fun h => Cr (And.intro rfl (Exists.intro _ (an3 rfl rfl rfl)))))
 refine Cw.mono (hl1 a.length 0   _ _ (by omega)  rfl rfl rfl h) ?_
 intro oY gY sY hh
 generalize hzL1 : m143_l1 a b a.length 0  = zZ at hh ⊢
 rcases zZ with vZ | rZ
 dsimp only
 obtain ⟨rfl, h⟩ := hh
 have hbd1 := okL_len h_a
 exact Ck h fun _ _ h => Rg 1 rfl (Rz h fun h => Cr ⟨.inr rfl, _, rfl, rfl, rfl⟩)
 obtain ⟨rfl, w⟩ := hh
 exact ⟨.inr rfl, w⟩
 have p1 := ne_of_bneT q1
 exact Ct rfl (Ck h fun _ _ h => Rg 1 rfl (Rz h fun h => Cr ⟨.inr rfl, _, rfl, rfl, rfl⟩))
noncomputable def H143 : List D → R D := mkH (L2 (dL encI) (dL encI)) (fun x => (okL okI) x.1 ∧ (okL okI) x.2) (fun x => dB (m143 x.1 x.2))
theorem i143 : InjE (L2 (dL encI) (dL encI)) := j2 (jL encI_inj) (jL encI_inj)
noncomputable def cm90_l1 : Code := (cl (cr (cl (cr (cr (bodyOf Tryz.f90))))))
def m90_l1 (a : Tbl) (b : Tbl) : Nat → Nat → Lo Unit Bool
 | 0, _ => .on ()
 | rem1 + 1, i1 => .on ()
noncomputable def cm90_l2 : Code := (cl (cr (cl (cr (cr (cr (bodyOf Tryz.f90)))))))
def m90_l2 (a : Tbl) (b : Tbl) : Nat → Nat → Lo Unit Bool
 | 0, _ => .on ()
 | rem2 + 1, i2 => .on ()
noncomputable def cm90_l3 : Code := (cl (cr (cl (cr (cr (cr (cr (bodyOf Tryz.f90))))))))
def m90_l3 (a : Tbl) (b : Tbl) : Nat → Nat → Lo Unit Bool
 | 0, _ => .on ()
 | rem3 + 1, i3 => .on ()
def m90 (a : Tbl) (b : Tbl) : Bool := (bif (!(ByteArray.toList a.name == ByteArray.toList b.name)) then false else (bif ((((a.columns.length : Nat) : Int) : Int) != ((b.columns.length : Nat) : Int)) then false else (bif (!(m143 a.key b.key)) then false else (bif ((((a.indexes.length : Nat) : Int) : Int) != ((b.indexes.length : Nat) : Int)) then false else (bif ((((a.refs.length : Nat) : Int) : Int) != ((b.refs.length : Nat) : Int)) then false else (match m90_l1 a b a.columns.length 0  with | .out r => r | .on _ => (match m90_l2 a b a.indexes.length 0  with | .out r => r | .on _ => (match m90_l3 a b a.refs.length 0  with | .out r => r | .on _ => true))))))))
theorem m90_ev  (c143 : S 143 = some H143) (a : Tbl) (b : Tbl)  (h_a : Tbl.ok a) (h_b : Tbl.ok b) (h_z : b.columns.length = 0 ∧ b.indexes.length = 0 ∧ b.refs.length = 0) : ∃ d σ', Ev (EE S) 90 [dR Tbl.enc a, dR Tbl.enc b] St.empty d σ' ∧ plain d = true ∧ strip d = dB (m90 a b) := by
 unfold m90
 have h : Ko 0 St.empty [] [] := Ko.empty
 refine Ev.wp (E := EE S) (fn := Tryz.f90) (nt := 169) Tryz.func90 rfl rfl (Ck h fun _ _ h => Rw.bx (d := dR Tbl.enc a) h (Nat.le_add_right _ 0) rfl rfl rfl rfl rfl rfl fun b1 _ h => Rw.bx (d := dR Tbl.enc b) h (Nat.le_add_right _ 0) rfl rfl rfl rfl rfl rfl fun b2 _ h => Rg 1 rfl (Rw.nilK h (Nat.add_le_add_left (by decide : 2 ≤ 3) _) fun h => Cs (Ck h fun _ _ h => Rf fi39_0 rfl (Rl 1 h rfl (ty9.ldS rfl) (Rf fi39_0 rfl (Rl 0 h rfl (ty9.ldS rfl) (Rg 2 rfl ?_)))))))
 cases q1 : (!(ByteArray.toList a.name == ByteArray.toList b.name))
 refine Rf fi39_1 rfl (Rl 1 h rfl (ty35.ldS rfl) (Re Tryz.underlying35 rfl (Rf fi39_1 rfl (Rl 0 h rfl (ty35.ldS rfl) (Re Tryz.underlying35 rfl (Rg 3 rfl ?_))))))
 cases q2 : ((((a.columns.length : Nat) : Int) : Int) != ((b.columns.length : Nat) : Int))
 have p2 := eq_of_bneF q2
 refine Rf fi39_2 rfl (Rl 1 h rfl (ty23.ldS rfl) (Rf fi39_2 rfl (Rl 0 h rfl (ty23.ldS rfl) (Rs rfl (fun _ => op_call (d := dB (m143 a.key b.key)) rfl rfl c143 rfl (He i143 (a.key, b.key) ⟨(Tbl.ok_key h_a), (Tbl.ok_key h_b)⟩ rfl)) (Rg 3 rfl ?_)))))
 cases q3 : (!(m143 a.key b.key))
 refine Rf fi39_3 rfl (Rl 1 h rfl (ty36.ldS rfl) (Re Tryz.underlying36 rfl (Rf fi39_3 rfl (Rl 0 h rfl (ty36.ldS rfl) (Re Tryz.underlying36 rfl (Rg 3 rfl ?_))))))
 cases q4 : ((((a.indexes.length : Nat) : Int) : Int) != ((b.indexes.length : Nat) : Int))
 have p4 := eq_of_bneF q4
 refine Rf fi39_4 rfl (Rl 1 h rfl (ty37.ldS rfl) (Re Tryz.underlying37 rfl (Rf fi39_4 rfl (Rl 0 h rfl (ty37.ldS rfl) (Re Tryz.underlying37 rfl (Rg 2 rfl (Rz h fun h => ?_)))))))
 cases q5 : ((((a.refs.length : Nat) : Int) : Int) != ((b.refs.length : Nat) : Int))
 have p5 := eq_of_bneF q5
 refine Cf rfl (Ci (Cs (Ck h fun _ _ h => Rg 1 rfl (Rz h fun h => Cb ?_))))
 have hl1 : ∀ (rem1 i1 : Nat) (fr : Nat → D) (σ : St), i1 + rem1 = a.columns.length → fr 2 = D.ptr b1 0 → fr 3 = D.ptr b2 0 → fr 5 = dN i1 → Ko 0 σ [(b2, (dC Tbl.enc b)), (b1, (dC Tbl.enc a))] [] → Cw (EE S) cm90_l1 169 fr σ (fun oX gX sX => match m90_l1 a b rem1 i1  with | .on _ => oX = some (some 0) ∧ gX 2 = D.ptr b1 0 ∧ gX 3 = D.ptr b2 0 ∧ Ko 0 sX [(b2, (dC Tbl.enc b)), (b1, (dC Tbl.enc a))] [] | .out r => Ou S Tryz.f90 (fun d _ => plain d = true ∧ strip d = dB r) oX gX sX) := by
  intro rem1
  induction rem1
  intro i1   fr σ hi  e2 e3 e5 h
  have hlt1 : decide ((((i1 : Nat) : Int) : Int) < ((a.columns.length : Nat) : Int)) = false := decF (by omega)
  rw [pin e2, pin e3, pin e5]
  rw [m90_l1]
  exact Co (Cs (Ck h fun _ _ h => Rg 1 rfl (Rf fi39_1 rfl (Rl 1 h rfl (ty35.ldS rfl) (Re Tryz.underlying35 rfl (Rs rfl (fun _ => op_lss_int rfl rfl hlt1) (Rz h fun h => Cf rfl (Cw.exit (an4 rfl rfl rfl h)))))))))
  rename_i rem1 ih
  intro i1   fr σ hi  e2 e3 e5 h
  have hlt1 : decide ((((i1 : Nat) : Int) : Int) < ((a.columns.length : Nat) : Int)) = true := decT (by omega)
  have hil1 : i1 < a.columns.length := by omega
  have hbq1 := okL_len (Tbl.ok_columns h_a)
  rw [pin e2, pin e3, pin e5]
  exact absurd hil1 (by omega)
 refine Cw.mono (hl1 a.columns.length 0   _ _ (by omega)  rfl rfl rfl h) ?_
 intro oY gY sY hh
 generalize hzL1 : m90_l1 a b a.columns.length 0  = zZ at hh ⊢
 rcases zZ with vZ | rZ
 dsimp only
 obtain ⟨rfl, e2, e3, h⟩ := hh
 rw [pin e2, pin e3]
 have hbd1 := okL_len (Tbl.ok_columns h_a)
 refine Cs (Ck h fun _ _ h => Rg 1 rfl (Rz h fun h => Cb ?_))
 have hl2 : ∀ (rem2 i2 : Nat) (fr : Nat → D) (σ : St), i2 + rem2 = a.indexes.length → fr 2 = D.ptr b1 0 → fr 3 = D.ptr b2 0 → fr 8 = dN i2 → Ko 0 σ [(b2, (dC Tbl.enc b)), (b1, (dC Tbl.enc a))] [] → Cw (EE S) cm90_l2 169 fr σ (fun oX gX sX => match m90_l2 a b rem2 i2  with | .on _ => oX = some (some 2) ∧ gX 2 = D.ptr b1 0 ∧ gX 3 = D.ptr b2 0 ∧ Ko 0 sX [(b2, (dC Tbl.enc b)), (b1, (dC Tbl.enc a))] [] | .out r => Ou S Tryz.f90 (fun d _ => plain d = true ∧ strip d = dB r) oX gX sX) := by
  intro rem2
  induction rem2
  intro i2   fr σ hi  e2 e3 e8 h
  have hlt2 : decide ((((i2 : Nat) : Int) : Int) < ((a.indexes.length : Nat) : Int)) = false := decF (by omega)
  rw [pin e2, pin e3, pin e8]
  rw [m90_l2]
  exact Co (Cs (Ck h fun _ _ h => Rg 1 rfl (Rf fi39_3 rfl (Rl 1 h rfl (ty36.ldS rfl) (Re Tryz.underlying36 rfl (Rs rfl (fun _ => op_lss_int rfl rfl hlt2) (Rz h fun h => Cf rfl (Cw.exit (an4 rfl rfl rfl h)))))))))
  rename_i rem2 ih
  intro i2   fr σ hi  e2 e3 e8 h
  have hlt2 : decide ((((i2 : Nat) : Int) : Int) < ((a.indexes.length : Nat) : Int)) = true := decT (by omega)
  have hil2 : i2 < a.indexes.length := by omega
  have hbq2 := okL_len (Tbl.ok_indexes h_a)
  rw [pin e2, pin e3, pin e8]
  exact absurd hil2 (by omega)
 refine Cw.mono (hl2 a.indexes.length 0   _ _ (by omega)  rfl rfl rfl h) ?_
 intro oY gY sY hh
 generalize hzL2 : m90_l2 a b a.indexes.length 0  = zZ at hh ⊢
 rcases zZ with vZ | rZ
 dsimp only
 obtain ⟨rfl, e2, e3, h⟩ := hh
 rw [pin e2, pin e3]
 have hbd2 := okL_len (Tbl.ok_indexes h_a)
 refine Cs (Ck h fun _ _ h => Rg 1 rfl (Rz h fun h => Cb ?_))
 have hl3 : ∀ (rem3 i3 : Nat) (fr : Nat → D) (σ : St), i3 + rem3 = a.refs.length → fr 2 = D.ptr b1 0 → fr 3 = D.ptr b2 0 → fr 11 = dN i3 → Ko 0 σ [(b2, (dC Tbl.enc b)), (b1, (dC Tbl.enc a))] [] → Cw (EE S) cm90_l3 169 fr σ (fun oX gX sX => match m90_l3 a b rem3 i3  with | .on _ => oX = some (some 4) ∧ Ko 0 sX [(b2, (dC Tbl.enc b)), (b1, (dC Tbl.enc a))] [] | .out r => Ou S Tryz.f90 (fun d _ => plain d = true ∧ strip d = dB r) oX gX sX) := by
  intro rem3
  induction rem3
  intro i3   fr σ hi  e2 e3 e11 h
  have hlt3 : decide ((((i3 : Nat) : Int) : Int) < ((a.refs.length : Nat) : Int)) = false := decF (by omega)
  rw [pin e2, pin e3, pin e11]
  rw [m90_l3]
  exact Co (Cs (Ck h fun _ _ h => Rg 1 rfl (Rf fi39_4 rfl (Rl 1 h rfl (ty37.ldS rfl) (Re Tryz.underlying37 rfl (Rs rfl (fun _ => op_lss_int rfl rfl hlt3) (Rz h fun h => Cf rfl (Cw.exit (an2 rfl h)))))))))
  rename_i rem3 ih
  intro i3   fr σ hi  e2 e3 e11 h
  have hlt3 : decide ((((i3 : Nat) : Int) : Int) < ((a.refs.length : Nat) : Int)) = true := decT (by omega)
  have hil3 : i3 < a.refs.length := by omega
  have hbq3 := okL_len (Tbl.ok_refs h_a)
  rw [pin e2, pin e3, pin e11]
  exact absurd hil3 (by omega)
 refine Cw.mono (hl3 a.refs.length 0   _ _ (by omega)  rfl rfl rfl h) ?_
 intro oY gY sY hh
 generalize hzL3 : m90_l3 a b a.refs.length 0  = zZ at hh ⊢
 rcases zZ with vZ | rZ
 dsimp only
 obtain ⟨rfl, h⟩ := hh
 have hbd3 := okL_len (Tbl.ok_refs h_a)
 exact Ck h fun _ _ h => Rg 1 rfl (Rz h fun h => Cr ⟨.inr rfl, _, rfl, rfl, rfl⟩)
 obtain ⟨rfl, w⟩ := hh
 exact ⟨.inr rfl, w⟩
 obtain ⟨rfl, w⟩ := hh
 exact ⟨.inr rfl, w⟩
 obtain ⟨rfl, w⟩ := hh
 exact ⟨.inr rfl, w⟩
 have p5 := ne_of_bneT q5
 exact Ct rfl (Ck h fun _ _ h => Rg 1 rfl (Rz h fun h => Cr ⟨.inr rfl, _, rfl, rfl, rfl⟩))
 have p4 := ne_of_bneT q4
 exact Rg 8 rfl (Rz h fun h => Ct rfl (Ck h fun _ _ h => Rg 1 rfl (Rz h fun h => Cr ⟨.inr rfl, _, rfl, rfl, rfl⟩)))
 exact Rg 17 rfl (Rz h fun h => Ct rfl (Ck h fun _ _ h => Rg 1 rfl (Rz h fun h => Cr ⟨.inr rfl, _, rfl, rfl, rfl⟩)))
 have p2 := ne_of_bneT q2
 exact Rg 25 rfl (Rz h fun h => Ct rfl (Ck h fun _ _ h => Rg 1 rfl (Rz h fun h => Cr ⟨.inr rfl, _, rfl, rfl, rfl⟩)))
 exact Rg 34 rfl (Rz h fun h => Ct rfl (Ck h fun _ _ h => Rg 1 rfl (Rz h fun h => Cr ⟨.inr rfl, _, rfl, rfl, rfl⟩)))
noncomputable def H90 : List D → R D := mkH (L2 (dR Tbl.enc) (dR Tbl.enc)) (fun x => Tbl.ok x.1 ∧ Tbl.ok x.2 ∧ (x.2.columns.length = 0 ∧ x.2.indexes.length = 0 ∧ x.2.refs.length = 0)) (fun x => dB (m90 x.1 x.2))
theorem i90 : InjE (L2 (dR Tbl.enc) (dR Tbl.enc)) := j2 (jR Tbl.inj) (jR Tbl.inj)
noncomputable def cm20_l1 : Code := (cl (cr (cl (cr (cr (bodyOf Tryz.f20))))))
def m20_l1 (l : (List Tbl)) : Nat → Nat → Lo Unit Int
 | 0, _ => .on ()
 | rem1 + 1, i1 => (bif (((m53 (l.getD i1 default)) : Int) != 0) then .out (m53 (l.getD i1 default)) else m20_l1 l rem1 (i1 + 1) )
noncomputable def cm20_l2 : Code := (cl (cr (cl (cl (cr (cl (cr (bodyOf Tryz.f20))))))))
def m20_l2 (l : (List Tbl)) : Nat → Nat → Lo Unit Int
 | 0, _ => .on ()
 | rem2 + 1, i2 => (bif (((m53 (l.getD i2 default)) : Int) != 0) then .out (m53 (l.getD i2 default)) else m20_l2 l rem2 (i2 + 1) )
def m20 (l : (List Tbl)) : Int := (bif decide ((((l.length : Nat) : Int) : Int) > 64) then (match m20_l2 l l.length 0  with | .out r => r | .on _ => 2) else (match m20_l1 l l.length 0  with | .out r => r | .on _ => 0))
theorem m20_ev  (c53 : S 53 = some H53) (l : (List Tbl))  (h_l : (okL Tbl.ok) l) : ∃ d σ', Ev (EE S) 20 [dL Tbl.enc l] St.empty d σ' ∧ plain d = true ∧ strip d = dI (m20 l) := by
 unfold m20
 have h : Ko 0 St.empty [] [] := Ko.empty
 refine Ev.wp (E := EE S) (fn := Tryz.f20) (nt := 38) Tryz.func20 rfl rfl (Ck h fun _ _ h => Rg 1 rfl (Rz h fun h => Cs (Ck h fun _ _ h => Rg 1 rfl (Re Tryz.underlying22 rfl (Rg 1 rfl (Rz h fun h => ?_))))))
 cases q1 : decide ((((l.length : Nat) : Int) : Int) > 64)
 refine Cf rfl (Ci (Cs (Ck h fun _ _ h => Rg 1 rfl (Rz h fun h => Cb ?_))))
 have hl1 : ∀ (rem1 i1 : Nat) (fr : Nat → D) (σ : St), i1 + rem1 = l.length → fr 0 = dL Tbl.enc l → fr 5 = dN i1 → Ko 0 σ [] [] → Cw (EE S) cm20_l1 38 fr σ (fun oX gX sX => match m20_l1 l rem1 i1  with | .on _ => oX = some (some 2) ∧ Ko 0 sX [] [] | .out r => Ou S Tryz.f20 (fun d _ => plain d = true ∧ strip d = dI r) oX gX sX) := by
  intro rem1
  induction rem1
  intro i1   fr σ hi  e0 e5 h
  have hlt1 : decide ((((i1 : Nat) : Int) : Int) < ((l.length : Nat) : Int)) = false := decF (by omega)
  rw [pin e0, pin e5]
  rw [m20_l1]
  exact Co (Cs (Ck h fun _ _ h => Rg 2 rfl (Re Tryz.underlying22 rfl (Rs rfl (fun _ => op_lss_int rfl rfl hlt1) (Rz h fun h => Cf rfl (Cw.exit (an2 rfl h)))))))
  rename_i rem1 ih
  intro i1   fr σ hi  e0 e5 h
  have hlt1 : decide ((((i1 : Nat) : Int) : Int) < ((l.length : Nat) : Int)) = true := decT (by omega)
  have hil1 : i1 < l.length := by omega
  have hbq1 := okL_len h_l
  rw [pin e0, pin e5]
  rw [m20_l1]
  refine Co (Cs (Ck h fun _ _ h => Rg 2 rfl (Re Tryz.underlying22 rfl (Rs rfl (fun _ => op_lss_int rfl rfl hlt1) (Rz h fun h => Ct rfl (Ci (Cs (Cb (Ck h fun _ _ h => Rg 2 rfl (Rs rfl (fun _ => op_ix (n := i1) rfl rfl rfl Tryz.underlying22 ty39.hn (at_map hil1) rfl) (Rs rfl (fun _ => op_ldC (d := dR Tbl.enc (l.getD i1 default)) rfl (at_map hil1) (ty39.lcA rfl rfl)) (Rs rfl (fun _ => op_call (d := dI (m53 (l.getD i1 default))) rfl rfl c53 rfl (He i53 (l.getD i1 default) (okL_get h_l Tbl.zok i1) rfl)) (Rg 1 rfl (Rz h fun h => Ck h fun _ _ h => Rg 2 rfl (Rz h fun h => ?_)))))))))))))))
  cases q2 : (((m53 (l.getD i1 default)) : Int) != 0)
  exact Cf rfl (Ci (Cw.regionK h fun _ _ h => Rg 1 rfl (Rs rfl (fun _ => op_add_int (v := ((i1 + 1 : Nat) : Int)) rfl rfl (wrap_one (by omega))) (Rg 1 rfl (Rz h fun h => ih (i1 + 1)   _ _ (by omega)  rfl rfl h)))))
  exact Ct rfl (Ck h fun _ _ h => Rg 2 rfl (Rz h fun h => Cr (And.intro rfl (Exists.intro _ (an3 rfl rfl rfl)))))
 refine Cw.mono (hl1 l.length 0   _ _ (by omega)  rfl rfl h) ?_
 intro oY gY sY hh
 generalize hzL1 : m20_l1 l l.length 0  = zZ at hh ⊢
 rcases zZ with vZ | rZ
 dsimp only
 obtain ⟨rfl, h⟩ := hh
 have hbd1 := okL_len h_l
 exact Ck h fun _ _ h => Rg 1 rfl (Rz h fun h => Cr ⟨.inr rfl, _, rfl, rfl, rfl⟩)
 obtain ⟨rfl, w⟩ := hh
 exact ⟨.inr rfl, w⟩
 refine Ct rfl (Cs (Ck h fun _ _ h => Rg 1 rfl (Rz h fun h => Cb ?_)))
 have hl2 : ∀ (rem2 i2 : Nat) (fr : Nat → D) (σ : St), i2 + rem2 = l.length → fr 0 = dL Tbl.enc l → fr 3 = dN i2 → Ko 0 σ [] [] → Cw (EE S) cm20_l2 38 fr σ (fun oX gX sX => match m20_l2 l rem2 i2  with | .on _ => oX = some (some 0) ∧ Ko 0 sX [] [] | .out r => Ou S Tryz.f20 (fun d _ => plain d = true ∧ strip d = dI r) oX gX sX) := by
  intro rem2
  induction rem2
  intro i2   fr σ hi  e0 e3 h
  have hlt2 : decide ((((i2 : Nat) : Int) : Int) < ((l.length : Nat) : Int)) = false := decF (by omega)
  rw [pin e0, pin e3]
  rw [m20_l2]
  exact Co (Cs (Ck h fun _ _ h => Rg 2 rfl (Re Tryz.underlying22 rfl (Rs rfl (fun _ => op_lss_int rfl rfl hlt2) (Rz h fun h => Cf rfl (Cw.exit (an2 rfl h)))))))
  rename_i rem2 ih
  intro i2   fr σ hi  e0 e3 h
  have hlt2 : decide ((((i2 : Nat) : Int) : Int) < ((l.length : Nat) : Int)) = true := decT (by omega)
  have hil2 : i2 < l.length := by omega
  have hbq2 := okL_len h_l
  rw [pin e0, pin e3]
  rw [m20_l2]
  refine Co (Cs (Ck h fun _ _ h => Rg 2 rfl (Re Tryz.underlying22 rfl (Rs rfl (fun _ => op_lss_int rfl rfl hlt2) (Rz h fun h => Ct rfl (Ci (Cs (Cb (Ck h fun _ _ h => Rg 2 rfl (Rs rfl (fun _ => op_ix (n := i2) rfl rfl rfl Tryz.underlying22 ty39.hn (at_map hil2) rfl) (Rs rfl (fun _ => op_ldC (d := dR Tbl.enc (l.getD i2 default)) rfl (at_map hil2) (ty39.lcA rfl rfl)) (Rs rfl (fun _ => op_call (d := dI (m53 (l.getD i2 default))) rfl rfl c53 rfl (He i53 (l.getD i2 default) (okL_get h_l Tbl.zok i2) rfl)) (Rg 1 rfl (Rz h fun h => Ck h fun _ _ h => Rg 2 rfl (Rz h fun h => ?_)))))))))))))))
  cases q3 : (((m53 (l.getD i2 default)) : Int) != 0)
  exact Cf rfl (Ci (Cw.regionK h fun _ _ h => Rg 1 rfl (Rs rfl (fun _ => op_add_int (v := ((i2 + 1 : Nat) : Int)) rfl rfl (wrap_one (by omega))) (Rg 1 rfl (Rz h fun h => ih (i2 + 1)   _ _ (by omega)  rfl rfl h)))))
  exact Ct rfl (Ck h fun _ _ h => Rg 2 rfl (Rz h fun h => Cr (And.intro rfl (Exists.intro _ (an3 rfl rfl rfl)))))
 refine Cw.mono (hl2 l.length 0   _ _ (by omega)  rfl rfl h) ?_
 intro oY gY sY hh
 generalize hzL2 : m20_l2 l l.length 0  = zZ at hh ⊢
 rcases zZ with vZ | rZ
 dsimp only
 obtain ⟨rfl, h⟩ := hh
 have hbd2 := okL_len h_l
 exact Ck h fun _ _ h => Rg 1 rfl (Rz h fun h => Cr ⟨.inr rfl, _, rfl, rfl, rfl⟩)
 obtain ⟨rfl, w⟩ := hh
 exact ⟨.inr rfl, w⟩
noncomputable def H20 : List D → R D := mkH (L1 (dL Tbl.enc)) (fun x => (okL Tbl.ok) x) (fun x => dI (m20 x))
theorem i20 : InjE (L1 (dL Tbl.enc)) := j1 (jL Tbl.inj)
noncomputable def cm9_l1 : Code := (cl (cr (cl (cr (cr (bodyOf Tryz.f9))))))
def m9_l1 (l : (List Int)) : Nat → Nat → (List Int) → Lo (List Int) (List Int)
 | 0, _, yl1_a1 => .on yl1_a1
 | rem1 + 1, i1, yl1_a1 => m9_l1 l rem1 (i1 + 1) (yl1_a1 ++ ([(l.getD i1 default)]))
def m9 (l : (List Int)) : (List Int) := (match m9_l1 l l.length 0 ([]) with | .out r => r | .on yl1_a1 => yl1_a1)
theorem m9_ev  (l : (List Int))  (h_l : (okL okI) l) : ∃ d σ', Ev (EE S) 9 [dL encI l] St.empty d σ' ∧ plain d = true ∧ nrmT (strip d) = dL encI (m9 l) := by
 unfold m9
 have h : Ko 0 St.empty [] [] := Ko.empty
 refine Ev.wp (E := EE S) (fn := Tryz.f9) (nt := 20) Tryz.func9 rfl rfl (Ck h fun _ _ h => Rg 1 rfl (Rz h fun h => Ck h fun _ _ h => Rs rfl (fun _ => op_bs (xs := ([] : List Int).map encI) Tryz.underlying23 ty3.hn (z3 (S := S)) rfl rfl rfl rfl rfl) (Rg 1 rfl ?_)))
 replace h := h.newAc (([] : (List Int)).map encI) 1
 refine Rz h fun h => Cs (Ck h fun _ _ h => Rg 1 rfl (Rz h fun h => Cb ?_))
 have hl1 : ∀ (rem1 i1 : Nat) (yl1_a1 : (List Int)) (el1_a1 : D) (fr : Nat → D) (σ : St), i1 + rem1 = l.length → yl1_a1.length ≤ i1 → fr 0 = dL encI l → fr 3 = el1_a1 → fr 4 = dN i1 → Ko 0 σ [] [(el1_a1, (yl1_a1).map encI, 1)] → Cw (EE S) cm9_l1 20 fr σ (fun oX gX sX => match m9_l1 l rem1 i1 yl1_a1 with | .on yl1_a1 => ∃ el1_a1, oX = some (some 0) ∧ yl1_a1.length ≤ l.length ∧ gX 3 = el1_a1 ∧ Ko 0 sX [] [(el1_a1, (yl1_a1).map encI, 1)] | .out r => Ou S Tryz.f9 (fun d _ => plain d = true ∧ nrmT (strip d) = dL encI r) oX gX sX) := by
  intro rem1
  induction rem1
  intro i1 yl1_a1 el1_a1 fr σ hi nyl1_a1 e0 e3 e4 h
  have hlt1 : decide ((((i1 : Nat) : Int) : Int) < ((l.length : Nat) : Int)) = false := decF (by omega)
  rw [pin e0, pin e3, pin e4]
  rw [m9_l1]
  exact Co (Cs (Ck h fun _ _ h => Rg 2 rfl (Re Tryz.underlying23 rfl (Rs rfl (fun _ => op_lss_int rfl rfl hlt1) (Rz h fun h => Cf rfl (Cw.exit (Exists.intro el1_a1 (an4 rfl (by omega) rfl h))))))))
  rename_i rem1 ih
  intro i1 yl1_a1 el1_a1 fr σ hi nyl1_a1 e0 e3 e4 h
  have hlt1 : decide ((((i1 : Nat) : Int) : Int) < ((l.length : Nat) : Int)) = true := decT (by omega)
  have hil1 : i1 < l.length := by omega
  have hbq1 := okL_len h_l
  rw [pin e0, pin e3, pin e4]
  rw [m9_l1]
  refine Co (Cs (Ck h fun _ _ h => Rg 2 rfl (Re Tryz.underlying23 rfl (Rs rfl (fun _ => op_lss_int rfl rfl hlt1) (Rz h fun h => Ct rfl (Ci (Cs (Cb (Cw.regionK h fun _ _ h => Rs rfl (fun _ => op_move rfl) (Rg 2 rfl (Rs rfl (fun _ => op_ix (n := i1) rfl rfl rfl Tryz.underlying23 ty3.hn (at_map hil1) rfl) (Rc (at_map hil1) ty3 rfl (Rs rfl (fun _ => op_bs (xs := ([(l.getD i1 default)] : List Int).map encI) Tryz.underlying23 ty3.hn (z3 (S := S)) rfl rfl rfl rfl rfl) (Rw.ap (j := 0) (ys := ([(l.getD i1 default)]).map encI) h (Nat.le_add_right _ 6) rfl rfl rfl rfl rfl rfl rfl rfl (room_mk Tryz.underlying23 (if3 (S := S)) (z3 (S := S)) rfl rfl rfl rfl (by simp only [List.length_map, List.length_cons, List.length_nil]; omega)) (heads_map _ (fun _ => rfl)) rfl fun d1 _ h => ?_))))))))))))))
  simp only [List.set_cons_zero, ← List.map_append] at h
  exact Rs rfl (fun _ => op_assign rfl) (Rw.nilK h (Nat.add_le_add_left (by decide : 7 ≤ 8) _) fun h => Cw.regionK h fun _ _ h => Rg 1 rfl (Rs rfl (fun _ => op_add_int (v := ((i1 + 1 : Nat) : Int)) rfl rfl (wrap_one (by omega))) (Rg 1 rfl (Rz h fun h => ih (i1 + 1) (yl1_a1 ++ ([(l.getD i1 default)])) _ _ _ (by omega) (by simp only [List.length_append, List.length_cons, List.length_nil]; omega) rfl rfl rfl h))))
 refine Cw.mono (hl1 l.length 0 ([]) _ _ _ (by omega) (by simp) rfl rfl rfl h) ?_
 intro oY gY sY hh
 generalize hzL1 : m9_l1 l l.length 0 ([]) = zZ at hh ⊢
 rcases zZ with yl1_a1 | rZ
 dsimp only
 obtain ⟨el1_a1, rfl, nyl1_a1, e3, h⟩ := hh
 rw [pin e3]
 have hbd1 := okL_len h_l
 exact Ck h fun _ _ h => Rs rfl (fun _ => op_move rfl) (Rs rfl (fun _ => op_assign rfl) (Rz h fun h => Cr ⟨.inr rfl, _, rfl, (h.ac _ (List.mem_of_getElem? (i := 0) rfl)).fin⟩))
 obtain ⟨rfl, w⟩ := hh
 exact ⟨.inr rfl, w⟩
noncomputable def H9 : List D → R D := mkH (L1 (dL encI)) (fun x => (okL okI) x) (fun x => dL encI (m9 x))
theorem i9 : InjE (L1 (dL encI)) := j1 (jL encI_inj)
noncomputable def cm95_l1 : Code := (cl (cr (cl (cr (bodyOf Tryz.f95)))))
noncomputable def cm95_l2 : Code := (cl (cr (cr (cl (cl (cr (cl (cl (cr (cl (cr (bodyOf Tryz.f95))))))))))))
def m95_l2 (t : Tbl) (l : (List Int)) (i1 : Nat) : Nat → Nat → Lo Unit Bool
 | 0, _ => .on ()
 | rem2 + 1, i2 => (bif ((l.getD i2 default : Int) == l.getD i1 default) then .out false else m95_l2 t l i1 rem2 (i2 + 1) )
def m95_l1 (t : Tbl) (l : (List Int)) : Nat → Nat → Lo Unit Bool
 | 0, _ => .on ()
 | rem1 + 1, i1 => (bif decide ((l.getD i1 default : Int) < 0) then .out false else (bif decide ((l.getD i1 default : Int) ≥ ((t.columns.length : Nat) : Int)) then .out false else (match m95_l2 t l i1 i1 0  with | .out r => .out r | .on _ => m95_l1 t l rem1 (i1 + 1) )))
def m95 (t : Tbl) (l : (List Int)) : Bool := (match m95_l1 t l l.length 0  with | .out r => r | .on _ => true)
theorem m95_ev  (t : Tbl) (l : (List Int))  (h_t : Tbl.ok t) (h_l : (okL okI) l) : ∃ d σ', Ev (EE S) 95 [dR Tbl.enc t, dL encI l] St.empty d σ' ∧ plain d = true ∧ strip d = dB (m95 t l) := by
 unfold m95
 have h : Ko 0 St.empty [] [] := Ko.empty
 refine Ev.wp (E := EE S) (fn := Tryz.f95) (nt := 42) Tryz.func95 rfl rfl (Ck h fun _ _ h => Rw.bx (d := dR Tbl.enc t) h (Nat.le_add_right _ 0) rfl rfl rfl rfl rfl rfl fun b1 _ h => Rg 1 rfl (Rw.nilK h (Nat.add_le_add_left (by decide : 1 ≤ 2) _) fun h => Cs (Ck h fun _ _ h => Rg 1 rfl (Rz h fun h => Cb ?_))))
 have hl1 : ∀ (rem1 i1 : Nat) (fr : Nat → D) (σ : St), i1 + rem1 = l.length → fr 1 = dL encI l → fr 2 = D.ptr b1 0 → fr 5 = dN i1 → Ko 0 σ [(b1, (dC Tbl.enc t))] [] → Cw (EE S) cm95_l1 42 fr σ (fun oX gX sX => match m95_l1 t l rem1 i1  with | .on _ => oX = some (some 0) ∧ Ko 0 sX [(b1, (dC Tbl.enc t))] [] | .out r => Ou S Tryz.f95 (fun d _ => plain d = true ∧ strip d = dB r) oX gX sX) := by
  intro rem1
  induction rem1
  intro i1   fr σ hi  e1 e2 e5 h
  have hlt1 : decide ((((i1 : Nat) : Int) : Int) < ((l.length : Nat) : Int)) = false := decF (by omega)
  rw [pin e1, pin e2, pin e5]
  rw [m95_l1]
  exact Co (Cs (Ck h fun _ _ h => Rg 2 rfl (Re Tryz.underlying23 rfl (Rs rfl (fun _ => op_lss_int rfl rfl hlt1) (Rz h fun h => Cf rfl (Cw.exit (an2 rfl h)))))))
  rename_i rem1 ih
  intro i1   fr σ hi  e1 e2 e5 h
  have hlt1 : decide ((((i1 : Nat) : Int) : Int) < ((l.length : Nat) : Int)) = true := decT (by omega)
  have hil1 : i1 < l.length := by omega
  have hbq1 := okL_len h_l
  rw [pin e1, pin e2, pin e5]
  rw [m95_l1]
  refine Co (Cs (Ck h fun _ _ h => Rg 2 rfl (Re Tryz.underlying23 rfl (Rs rfl (fun _ => op_lss_int rfl rfl hlt1) (Rz h fun h => Ct rfl (Ci (Cs (Cb (Cs ?_)))))))))
  refine Cw.seq (Cw.regionD h fun _ _ h => ?_)
  refine Rg 2 rfl (Rs rfl (fun _ => op_ix (n := i1) rfl rfl rfl Tryz.underlying23 ty3.hn (at_map hil1) rfl) (Rc (at_map hil1) ty3 rfl (Rg 2 rfl ?_)))
  cases q1 : decide ((l.getD i1 default : Int) < 0)
  refine Rg 2 rfl (Rs rfl (fun _ => op_ix (n := i1) rfl rfl rfl Tryz.underlying23 ty3.hn (at_map hil1) rfl) (Rc (at_map hil1) ty3 rfl (Rf fi39_1 rfl (Rl 0 h rfl (ty35.ldS rfl) (Re Tryz.underlying35 rfl (Rg 2 rfl (Rz h fun h => ?_)))))))
  refine ⟨by kernel_rfl, ?_⟩
  cases q2 : decide ((l.getD i1 default : Int) ≥ ((t.columns.length : Nat) : Int))
  refine Cf rfl (Ci (Ck h fun _ _ h => Rg 1 rfl (Rz h fun h => Cb ?_)))
  have hl2 : ∀ (rem2 i2 : Nat) (fr : Nat → D) (σ : St), i2 + rem2 = i1 → fr 1 = dL encI l → fr 2 = D.ptr b1 0 → fr 5 = dN i1 → fr 6 = dN i2 → Ko 0 σ [(b1, (dC Tbl.enc t))] [] → Cw (EE S) cm95_l2 42 fr σ (fun oX gX sX => match m95_l2 t l i1 rem2 i2  with | .on _ => oX = some (some 2) ∧ gX 1 = dL encI l ∧ gX 2 = D.ptr b1 0 ∧ gX 5 = dN i1 ∧ Ko 0 sX [(b1, (dC Tbl.enc t))] [] | .out r => Ou S Tryz.f95 (fun d _ => plain d = true ∧ strip d = dB r) oX gX sX) := by
   intro rem2
   induction rem2
   intro i2   fr σ hi  e1 e2 e5 e6 h
   have hlt2 : decide ((((i2 : Nat) : Int) : Int) < ((i1 : Nat) : Int)) = false := decF (by omega)
   rw [pin e1, pin e2, pin e5, pin e6]
   rw [m95_l2]
   exact Co (Cs (Ck h fun _ _ h => Rg 2 rfl (Rs rfl (fun _ => op_lss_int rfl rfl hlt2) (Rz h fun h => Cf rfl (Cw.exit (an5 rfl rfl rfl rfl h))))))
   rename_i rem2 ih
   intro i2   fr σ hi  e1 e2 e5 e6 h
   have hlt2 : decide ((((i2 : Nat) : Int) : Int) < ((i1 : Nat) : Int)) = true := decT (by omega)
   have hil2 : i2 < i1 := by omega
   rw [pin e1, pin e2, pin e5, pin e6]
   rw [m95_l2]
   refine Co (Cs (Ck h fun _ _ h => Rg 2 rfl (Rs rfl (fun _ => op_lss_int rfl rfl hlt2) (Rz h fun h => Ct rfl (Ci (Cs (Cb ?_)))))))
   refine Cw.seq (Cw.regionD h fun _ _ h => ?_)
   refine Rg 2 rfl (Rs rfl (fun _ => op_ix (n := i2) rfl rfl rfl Tryz.underlying23 ty3.hn (at_map (by omega)) rfl) (Rc (at_map (by omega)) ty3 rfl (Rg 2 rfl (Rs rfl (fun _ => op_ix (n := i1) rfl rfl rfl Tryz.underlying23 ty3.hn (at_map hil1) rfl) (Rc (at_map hil1) ty3 rfl (Rg 1 rfl (Rz h fun h => ?_)))))))
   refine ⟨by kernel_rfl, ?_⟩
   cases q3 : ((l.getD i2 default : Int) == l.getD i1 default)
   exact Cf rfl (Ci (Cw.regionK h fun _ _ h => Rg 1 rfl (Rs rfl (fun _ => op_add_int (v := ((i2 + 1 : Nat) : Int)) rfl rfl (wrap_one (by omega))) (Rg 1 rfl (Rz h fun h => ih (i2 + 1)   _ _ (by omega)  rfl rfl rfl rfl h)))))
   exact Ct rfl (Ck h fun _ _ h => Rg 1 rfl (Rz h fun h => Cr (And.intro rfl (Exists.intro _ (an3 rfl rfl rfl)))))
  refine Cw.mono (hl2 i1 0   _ _ (by omega)  rfl rfl rfl rfl h) ?_
  intro oY gY sY hh
  generalize hzL2 : m95_l2 t l i1 i1 0  = zZ at hh ⊢
  rcases zZ with vZ | rZ
  dsimp only
  obtain ⟨rfl, e1, e2, e5, h⟩ := hh
  rw [pin e1, pin e2, pin e5]
  exact Cw.regionK h fun _ _ h => Rg 1 rfl (Rs rfl (fun _ => op_add_int (v := ((i1 + 1 : Nat) : Int)) rfl rfl (wrap_one (by omega))) (Rg 1 rfl (Rz h fun h => ih (i1 + 1)   _ _ (by omega)  rfl rfl rfl h)))
  obtain ⟨rfl, w⟩ := hh
  exact ⟨rfl, w⟩
  exact Ct rfl (Ck h fun _ _ h => Rg 1 rfl (Rz h fun h => Cr (And.intro rfl (Exists.intro _ (an3 rfl rfl rfl)))))
  refine Rg 9 rfl (Rz h fun h => ?_)
  refine ⟨by kernel_rfl, ?_⟩
  exact Ct rfl (Ck h fun _ _ h => Rg 1 rfl (Rz h fun h => Cr (And.intro rfl (Exists.intro _ (an3 rfl rfl rfl)))))
 refine Cw.mono (hl1 l.length 0   _ _ (by omega)  rfl rfl rfl h) ?_
 intro oY gY sY hh
 generalize hzL1 : m95_l1 t l l.length 0  = zZ at hh ⊢
 rcases zZ with vZ | rZ
 dsimp only
 obtain ⟨rfl, h⟩ := hh
 have hbd1 := okL_len h_l
 exact Ck h fun _ _ h => Rg 1 rfl (Rz h fun h => Cr ⟨.inr rfl, _, rfl, rfl, rfl⟩)
 obtain ⟨rfl, w⟩ := hh
 exact ⟨.inr rfl, w⟩
noncomputable def H95 : List D → R D := mkH (L2 (dR Tbl.enc) (dL encI)) (fun x => Tbl.ok x.1 ∧ (okL okI) x.2) (fun x => dB (m95 x.1 x.2))
theorem i95 : InjE (L2 (dR Tbl.enc) (dL encI)) := j2 (jR Tbl.inj) (jL encI_inj)
noncomputable def cm100_l1 : Code := (cl (cr (cl (cr (cr (bodyOf Tryz.f100))))))
def m100_1 (q : Qry) (i1 : Nat) (x1_3 : Bool) : Lo Bool Bool := (bif x1_3 then .on true else .on (((q.items.getD i1 default).fold : Int) != 0))
def m100_l1 (q : Qry) : Nat → Nat → Bool → Lo Bool Bool
 | 0, _, x1_3 => .on x1_3
 | rem1 + 1, i1, x1_3 => (match m100_1 q i1 x1_3 with | .out r => .out r | .on v1_3 => m100_l1 q rem1 (i1 + 1) v1_3)
def m100 (q : Qry) : Bool := (match m100_l1 q q.items.length 0 (decide ((((q.group.length : Nat) : Int) : Int) > 0)) with | .out r => r | .on x1_3 => x1_3)
theorem m100_ev  (q : Qry)  (h_q : Qry.ok q) : ∃ d σ', Ev (EE S) 100 [dR Qry.enc q] St.empty d σ' ∧ plain d = true ∧ strip d = dB (m100 q) := by
 unfold m100
 have h : Ko 0 St.empty [] [] := Ko.empty
 refine Ev.wp (E := EE S) (fn := Tryz.f100) (nt := 27) Tryz.func100 rfl rfl (Ck h fun _ _ h => Rw.bx (d := dR Qry.enc q) h (Nat.le_add_right _ 0) rfl rfl rfl rfl rfl rfl fun b1 _ h => Rg 1 rfl (Rw.nilK h (Nat.add_le_add_left (by decide : 1 ≤ 2) _) fun h => Ck h fun _ _ h => Rf fi41_7 rfl (Rl 0 h rfl (ty23.ldS rfl) (Re Tryz.underlying23 rfl (Rg 2 rfl (Rz h fun h => Cs (Ck h fun _ _ h => Rg 1 rfl (Rz h fun h => Cb ?_))))))))
 have hl1 : ∀ (rem1 i1 : Nat) (x1_3 : Bool) (fr : Nat → D) (σ : St), i1 + rem1 = q.items.length → fr 1 = D.ptr b1 0 → fr 3 = dB x1_3 → fr 4 = dN i1 → Ko 0 σ [(b1, (dC Qry.enc q))] [] → Cw (EE S) cm100_l1 27 fr σ (fun oX gX sX => match m100_l1 q rem1 i1 x1_3 with | .on x1_3 => oX = some (some 0) ∧ gX 3 = dB x1_3 ∧ Ko 0 sX [(b1, (dC Qry.enc q))] [] | .out r => Ou S Tryz.f100 (fun d _ => plain d = true ∧ strip d = dB r) oX gX sX) := by
  intro rem1
  induction rem1
  intro i1 x1_3  fr σ hi  e1 e3 e4 h
  have hlt1 : decide ((((i1 : Nat) : Int) : Int) < ((q.items.length : Nat) : Int)) = false := decF (by omega)
  rw [pin e1, pin e3, pin e4]
  rw [m100_l1]
  exact Co (Cs (Ck h fun _ _ h => Rg 1 rfl (Rf fi41_5 rfl (Rl 0 h rfl (ty26.ldS rfl) (Re Tryz.underlying26 rfl (Rs rfl (fun _ => op_lss_int rfl rfl hlt1) (Rz h fun h => Cf rfl (Cw.exit (an3 rfl rfl h)))))))))
  rename_i rem1 ih
  intro i1 x1_3  fr σ hi  e1 e3 e4 h
  have hlt1 : decide ((((i1 : Nat) : Int) : Int) < ((q.items.length : Nat) : Int)) = true := decT (by omega)
  have hil1 : i1 < q.items.length := by omega
  have hbq1 := okL_len (Qry.ok_items h_q)
  rw [pin e1, pin e3, pin e4]
  rw [m100_l1]
  refine Co (Cs (Ck h fun _ _ h => Rg 1 rfl (Rf fi41_5 rfl (Rl 0 h rfl (ty26.ldS rfl) (Re Tryz.underlying26 rfl (Rs rfl (fun _ => op_lss_int rfl rfl hlt1) (Rz h fun h => Ct rfl (Ci ?_))))))))
  refine Cw.seq (Cw.mono (Q := fun oX gX sX => match m100_1 q i1 x1_3 with | .on v1_3 => oX = none ∧ gX 1 = D.ptr b1 0 ∧ gX 3 = dB v1_3 ∧ gX 4 = dN i1 ∧ Ko 0 sX [(b1, (dC Qry.enc q))] [] | .out r => Ou S Tryz.f100 (fun d _ => plain d = true ∧ strip d = dB r) oX gX sX) ?_ ?_)
  unfold m100_1
  refine Cb (Cw.regionK h fun _ _ h => Rg 2 rfl ?_)
  cases q1 : x1_3
  exact Rf fi41_5 rfl (Rl 0 h rfl (ty26.ldS rfl) (Rg 1 rfl (Rs rfl (fun _ => op_ix (n := i1) rfl rfl rfl Tryz.underlying26 ty53.hn (at_map hil1) rfl) (Rs rfl (fun _ => op_fr fi53_0 rfl rfl) (Rc (at_map hil1) ty3 rfl (Rg 3 rfl (Rz h fun h => an5 rfl rfl rfl rfl h)))))))
  exact Rg 9 rfl (Rz h fun h => an5 rfl rfl rfl rfl h)
  intro oY gY sY hh
  generalize hzF1 : m100_1 q i1 x1_3 = zZ at hh ⊢
  rcases zZ with v1_3 | rZ
  dsimp only
  obtain ⟨rfl, e1, e3, e4, h⟩ := hh
  rw [pin e1, pin e3, pin e4]
  exact Cw.regionK h fun _ _ h => Rg 1 rfl (Rs rfl (fun _ => op_add_int (v := ((i1 + 1 : Nat) : Int)) rfl rfl (wrap_one (by omega))) (Rg 1 rfl (Rz h fun h => ih (i1 + 1) v1_3  _ _ (by omega)  rfl rfl rfl h)))
  obtain ⟨rfl, w⟩ := hh
  exact ⟨rfl, w⟩
 refine Cw.mono (hl1 q.items.length 0 (decide ((((q.group.length : Nat) : Int) : Int) > 0))  _ _ (by omega)  rfl rfl rfl h) ?_
 intro oY gY sY hh
 generalize hzL1 : m100_l1 q q.items.length 0 (decide ((((q.group.length : Nat) : Int) : Int) > 0)) = zZ at hh ⊢
 rcases zZ with x1_3 | rZ
 dsimp only
 obtain ⟨rfl, e3, h⟩ := hh
 rw [pin e3]
 have hbd1 := okL_len (Qry.ok_items h_q)
 exact Ck h fun _ _ h => Rg 2 rfl (Rz h fun h => Cr ⟨.inr rfl, _, rfl, rfl, rfl⟩)
 obtain ⟨rfl, w⟩ := hh
 exact ⟨.inr rfl, w⟩
noncomputable def H100 : List D → R D := mkH (L1 (dR Qry.enc)) (fun x => Qry.ok x) (fun x => dB (m100 x))
theorem i100 : InjE (L1 (dR Qry.enc)) := j1 (jR Qry.inj)
noncomputable def cm101_l1 : Code := (cl (cr (cl (cr (bodyOf Tryz.f101)))))
def m101_l1 (l : (List Int)) (x : Int) : Nat → Nat → Lo Unit Bool
 | 0, _ => .on ()
 | rem1 + 1, i1 => (bif ((l.getD i1 default : Int) == x) then .out true else m101_l1 l x rem1 (i1 + 1) )
def m101 (l : (List Int)) (x : Int) : Bool := (match m101_l1 l x l.length 0  with | .out r => r | .on _ => false)
theorem m101_ev  (l : (List Int)) (x : Int)  (h_l : (okL okI) l) : ∃ d σ', Ev (EE S) 101 [dL encI l, dI x] St.empty d σ' ∧ plain d = true ∧ strip d = dB (m101 l x) := by
 unfold m101
 have h : Ko 0 St.empty [] [] := Ko.empty
 refine Ev.wp (E := EE S) (fn := Tryz.f101) (nt := 18) Tryz.func101 rfl rfl (Ck h fun _ _ h => Rg 1 rfl (Rz h fun h => Cs (Ck h fun _ _ h => Rg 1 rfl (Rz h fun h => Cb ?_))))
 have hl1 : ∀ (rem1 i1 : Nat) (fr : Nat → D) (σ : St), i1 + rem1 = l.length → fr 0 = dL encI l → fr 1 = dI x → fr 5 = dN i1 → Ko 0 σ [] [] → Cw (EE S) cm101_l1 18 fr σ (fun oX gX sX => match m101_l1 l x rem1 i1  with | .on _ => oX = some (some 0) ∧ Ko 0 sX [] [] | .out r => Ou S Tryz.f101 (fun d _ => plain d = true ∧ strip d = dB r) oX gX sX) := by
  intro rem1
  induction rem1
  intro i1   fr σ hi  e0 e1 e5 h
  have hlt1 : decide ((((i1 : Nat) : Int) : Int) < ((l.length : Nat) : Int)) = false := decF (by omega)
  rw [pin e0, pin e1, pin e5]
  rw [m101_l1]
  exact Co (Cs (Ck h fun _ _ h => Rg 2 rfl (Re Tryz.underlying23 rfl (Rs rfl (fun _ => op_lss_int rfl rfl hlt1) (Rz h fun h => Cf rfl (Cw.exit (an2 rfl h)))))))
  rename_i rem1 ih
  intro i1   fr σ hi  e0 e1 e5 h
  have hlt1 : decide ((((i1 : Nat) : Int) : Int) < ((l.length : Nat) : Int)) = true := decT (by omega)
  have hil1 : i1 < l.length := by omega
  have hbq1 := okL_len h_l
  rw [pin e0, pin e1, pin e5]
  rw [m101_l1]
  refine Co (Cs (Ck h fun _ _ h => Rg 2 rfl (Re Tryz.underlying23 rfl (Rs rfl (fun _ => op_lss_int rfl rfl hlt1) (Rz h fun h => Ct rfl (Ci (Cs (Cb (Ck h fun _ _ h => Rg 2 rfl (Rs rfl (fun _ => op_ix (n := i1) rfl rfl rfl Tryz.underlying23 ty3.hn (at_map hil1) rfl) (Rc (at_map hil1) ty3 rfl (Rg 2 rfl (Rz h fun h => ?_)))))))))))))
  cases q1 : ((l.getD i1 default : Int) == x)
  exact Cf rfl (Ci (Cw.regionK h fun _ _ h => Rg 1 rfl (Rs rfl (fun _ => op_add_int (v := ((i1 + 1 : Nat) : Int)) rfl rfl (wrap_one (by omega))) (Rg 1 rfl (Rz h fun h => ih (i1 + 1)   _ _ (by omega)  rfl rfl rfl h)))))
  exact Ct rfl (Ck h fun _ _ h => Rg 1 rfl (Rz h fun h => Cr (And.intro rfl (Exists.intro _ (an3 rfl rfl rfl)))))
 refine Cw.mono (hl1 l.length 0   _ _ (by omega)  rfl rfl rfl h) ?_
 intro oY gY sY hh
 generalize hzL1 : m101_l1 l x l.length 0  = zZ at hh ⊢
 rcases zZ with vZ | rZ
 dsimp only
 obtain ⟨rfl, h⟩ := hh
 have hbd1 := okL_len h_l
 exact Ck h fun _ _ h => Rg 1 rfl (Rz h fun h => Cr ⟨.inr rfl, _, rfl, rfl, rfl⟩)
 obtain ⟨rfl, w⟩ := hh
 exact ⟨.inr rfl, w⟩
noncomputable def H101 : List D → R D := mkH (L2 (dL encI) dI) (fun x => (okL okI) x.1) (fun x => dB (m101 x.1 x.2))
theorem i101 : InjE (L2 (dL encI) dI) := j2 (jL encI_inj) jI
noncomputable def cm26_l1 : Code := (cl (cr (cl (cr (cr (bodyOf Tryz.f26))))))
def m26_l1 (l : (List Int)) : Nat → Nat → (List Int) → Lo (List Int) (List Int)
 | 0, _, yl1_a1 => .on yl1_a1
 | rem1 + 1, i1, yl1_a1 => m26_l1 l rem1 (i1 + 1) (yl1_a1 ++ ([(l.getD i1 default)]))
def m26 (l : (List Int)) : (List Int) := (match m26_l1 l l.length 0 ([]) with | .out r => r | .on yl1_a1 => yl1_a1)
theorem m26_ev  (l : (List Int))  (h_l : (okL okI) l) : ∃ d σ', Ev (EE S) 26 [dL encI l] St.empty d σ' ∧ plain d = true ∧ nrmT (strip d) = dL encI (m26 l) := by
 unfold m26
 have h : Ko 0 St.empty [] [] := Ko.empty
 refine Ev.wp (E := EE S) (fn := Tryz.f26) (nt := 20) Tryz.func26 rfl rfl (Ck h fun _ _ h => Rg 1 rfl (Rz h fun h => Ck h fun _ _ h => Rs rfl (fun _ => op_bs (xs := ([] : List Int).map encI) Tryz.underlying23 ty3.hn (z3 (S := S)) rfl rfl rfl rfl rfl) (Rg 1 rfl ?_)))
 replace h := h.newAc (([] : (List Int)).map encI) 1
 refine Rz h fun h => Cs (Ck h fun _ _ h => Rg 1 rfl (Rz h fun h => Cb ?_))
 have hl1 : ∀ (rem1 i1 : Nat) (yl1_a1 : (List Int)) (el1_a1 : D) (fr : Nat → D) (σ : St), i1 + rem1 = l.length → yl1_a1.length ≤ i1 → fr 0 = dL encI l → fr 3 = el1_a1 → fr 4 = dN i1 → Ko 0 σ [] [(el1_a1, (yl1_a1).map encI, 1)] → Cw (EE S) cm26_l1 20 fr σ (fun oX gX sX => match m26_l1 l rem1 i1 yl1_a1 with | .on yl1_a1 => ∃ el1_a1, oX = some (some 0) ∧ yl1_a1.length ≤ l.length ∧ gX 3 = el1_a1 ∧ Ko 0 sX [] [(el1_a1, (yl1_a1).map encI, 1)] | .out r => Ou S Tryz.f26 (fun d _ => plain d = true ∧ nrmT (strip d) = dL encI r) oX gX sX) := by
  intro rem1
  induction rem1
  intro i1 yl1_a1 el1_a1 fr σ hi nyl1_a1 e0 e3 e4 h
  have hlt1 : decide ((((i1 : Nat) : Int) : Int) < ((l.length : Nat) : Int)) = false := decF (by omega)
  rw [pin e0, pin e3, pin e4]
  rw [m26_l1]
  exact Co (Cs (Ck h fun _ _ h => Rg 2 rfl (Re Tryz.underlying23 rfl (Rs rfl (fun _ => op_lss_int rfl rfl hlt1) (Rz h fun h => Cf rfl (Cw.exit (Exists.intro el1_a1 (an4 rfl (by omega) rfl h))))))))
  rename_i rem1 ih
  intro i1 yl1_a1 el1_a1 fr σ hi nyl1_a1 e0 e3 e4 h
  have hlt1 : decide ((((i1 : Nat) : Int) : Int) < ((l.length : Nat) : Int)) = true := decT (by omega)
  have hil1 : i1 < l.length := by omega
  have hbq1 := okL_len h_l
  rw [pin e0, pin e3, pin e4]
  rw [m26_l1]
  refine Co (Cs (Ck h fun _ _ h => Rg 2 rfl (Re Tryz.underlying23 rfl (Rs rfl (fun _ => op_lss_int rfl rfl hlt1) (Rz h fun h => Ct rfl (Ci (Cs (Cb (Cw.regionK h fun _ _ h => Rs rfl (fun _ => op_move rfl) (Rg 2 rfl (Rs rfl (fun _ => op_ix (n := i1) rfl rfl rfl Tryz.underlying23 ty3.hn (at_map hil1) rfl) (Rc (at_map hil1) ty3 rfl (Rs rfl (fun _ => op_bs (xs := ([(l.getD i1 default)] : List Int).map encI) Tryz.underlying23 ty3.hn (z3 (S := S)) rfl rfl rfl rfl rfl) (Rw.ap (j := 0) (ys := ([(l.getD i1 default)]).map encI) h (Nat.le_add_right _ 6) rfl rfl rfl rfl rfl rfl rfl rfl (room_mk Tryz.underlying23 (if3 (S := S)) (z3 (S := S)) rfl rfl rfl rfl (by simp only [List.length_map, List.length_cons, List.length_nil]; omega)) (heads_map _ (fun _ => rfl)) rfl fun d1 _ h => ?_))))))))))))))
  simp only [List.set_cons_zero, ← List.map_append] at h
  exact Rs rfl (fun _ => op_assign rfl) (Rw.nilK h (Nat.add_le_add_left (by decide : 7 ≤ 8) _) fun h => Cw.regionK h fun _ _ h => Rg 1 rfl (Rs rfl (fun _ => op_add_int (v := ((i1 + 1 : Nat) : Int)) rfl rfl (wrap_one (by omega))) (Rg 1 rfl (Rz h fun h => ih (i1 + 1) (yl1_a1 ++ ([(l.getD i1 default)])) _ _ _ (by omega) (by simp only [List.length_append, List.length_cons, List.length_nil]; omega) rfl rfl rfl h))))
 refine Cw.mono (hl1 l.length 0 ([]) _ _ _ (by omega) (by simp) rfl rfl rfl h) ?_
 intro oY gY sY hh
 generalize hzL1 : m26_l1 l l.length 0 ([]) = zZ at hh ⊢
 rcases zZ with yl1_a1 | rZ
 dsimp only
 obtain ⟨el1_a1, rfl, nyl1_a1, e3, h⟩ := hh
 rw [pin e3]
 have hbd1 := okL_len h_l
 exact Ck h fun _ _ h => Rs rfl (fun _ => op_move rfl) (Rs rfl (fun _ => op_assign rfl) (Rz h fun h => Cr ⟨.inr rfl, _, rfl, (h.ac _ (List.mem_of_getElem? (i := 0) rfl)).fin⟩))
 obtain ⟨rfl, w⟩ := hh
 exact ⟨.inr rfl, w⟩
noncomputable def H26 : List D → R D := mkH (L1 (dL encI)) (fun x => (okL okI) x) (fun x => dL encI (m26 x))
theorem i26 : InjE (L1 (dL encI)) := j1 (jL encI_inj)
noncomputable def cm200_l1 : Code := (cl (cr (cl (cr (bodyOf Tryz.f200)))))
def m200_l1 (l : (List ByteArray)) (s : ByteArray) : Nat → Nat → Lo Unit Bool
 | 0, _ => .on ()
 | rem1 + 1, i1 => (bif (ByteArray.toList (l.getD i1 default) == ByteArray.toList s) then .out true else m200_l1 l s rem1 (i1 + 1) )
def m200 (l : (List ByteArray)) (s : ByteArray) : Bool := (match m200_l1 l s l.length 0  with | .out r => r | .on _ => false)
theorem m200_ev  (l : (List ByteArray)) (s : ByteArray)  (h_l : (okL okS) l) (h_s : okS s) : ∃ d σ', Ev (EE S) 200 [dL encS l, dS s] St.empty d σ' ∧ plain d = true ∧ strip d = dB (m200 l s) := by
 unfold m200
 have h : Ko 0 St.empty [] [] := Ko.empty
 refine Ev.wp (E := EE S) (fn := Tryz.f200) (nt := 18) Tryz.func200 rfl rfl (Ck h fun _ _ h => Rg 1 rfl (Rz h fun h => Cs (Ck h fun _ _ h => Rg 1 rfl (Rz h fun h => Cb ?_))))
 have hl1 : ∀ (rem1 i1 : Nat) (fr : Nat → D) (σ : St), i1 + rem1 = l.length → fr 0 = dL encS l → fr 1 = dS s → fr 5 = dN i1 → Ko 0 σ [] [] → Cw (EE S) cm200_l1 18 fr σ (fun oX gX sX => match m200_l1 l s rem1 i1  with | .on _ => oX = some (some 0) ∧ Ko 0 sX [] [] | .out r => Ou S Tryz.f200 (fun d _ => plain d = true ∧ strip d = dB r) oX gX sX) := by
  intro rem1
  induction rem1
  intro i1   fr σ hi  e0 e1 e5 h
  have hlt1 : decide ((((i1 : Nat) : Int) : Int) < ((l.length : Nat) : Int)) = false := decF (by omega)
  rw [pin e0, pin e1, pin e5]
  rw [m200_l1]
  exact Co (Cs (Ck h fun _ _ h => Rg 2 rfl (Re Tryz.underlying97 rfl (Rs rfl (fun _ => op_lss_int rfl rfl hlt1) (Rz h fun h => Cf rfl (Cw.exit (an2 rfl h)))))))
  rename_i rem1 ih
  intro i1   fr σ hi  e0 e1 e5 h
  have hlt1 : decide ((((i1 : Nat) : Int) : Int) < ((l.length : Nat) : Int)) = true := decT (by omega)
  have hil1 : i1 < l.length := by omega
  have hbq1 := okL_len h_l
  rw [pin e0, pin e1, pin e5]
  rw [m200_l1]
  refine Co (Cs (Ck h fun _ _ h => Rg 2 rfl (Re Tryz.underlying97 rfl (Rs rfl (fun _ => op_lss_int rfl rfl hlt1) (Rz h fun h => Ct rfl (Ci (Cs (Cb (Ck h fun _ _ h => Rg 2 rfl (Rs rfl (fun _ => op_ix (n := i1) rfl rfl rfl Tryz.underlying97 ty9.hn (at_map hil1) rfl) (Rc (at_map hil1) ty9 rfl (Rg 2 rfl (Rz h fun h => ?_)))))))))))))
  cases q1 : (ByteArray.toList (l.getD i1 default) == ByteArray.toList s)
  exact Cf rfl (Ci (Cw.regionK h fun _ _ h => Rg 1 rfl (Rs rfl (fun _ => op_add_int (v := ((i1 + 1 : Nat) : Int)) rfl rfl (wrap_one (by omega))) (Rg 1 rfl (Rz h fun h => ih (i1 + 1)   _ _ (by omega)  rfl rfl rfl h)))))
  exact Ct rfl (Ck h fun _ _ h => Rg 1 rfl (Rz h fun h => Cr (And.intro rfl (Exists.intro _ (an3 rfl rfl rfl)))))
 refine Cw.mono (hl1 l.length 0   _ _ (by omega)  rfl rfl rfl h) ?_
 intro oY gY sY hh
 generalize hzL1 : m200_l1 l s l.length 0  = zZ at hh ⊢
 rcases zZ with vZ | rZ
 dsimp only
 obtain ⟨rfl, h⟩ := hh
 have hbd1 := okL_len h_l
 exact Ck h fun _ _ h => Rg 1 rfl (Rz h fun h => Cr ⟨.inr rfl, _, rfl, rfl, rfl⟩)
 obtain ⟨rfl, w⟩ := hh
 exact ⟨.inr rfl, w⟩
noncomputable def H200 : List D → R D := mkH (L2 (dL encS) dS) (fun x => (okL okS) x.1 ∧ okS x.2) (fun x => dB (m200 x.1 x.2))
theorem i200 : InjE (L2 (dL encS) dS) := j2 (jL encS_inj) jS
def m201  : (List ByteArray) := ([(⟨#[45]⟩), (⟨#[110, 111, 116]⟩), (⟨#[105, 115, 32, 110, 117, 108, 108]⟩), (⟨#[105, 115, 32, 110, 111, 116, 32, 110, 117, 108, 108]⟩)])
set_option maxRecDepth 100000 in
theorem m201_ev    : ∃ d σ', Ev (EE S) 201 [] St.empty d σ' ∧ plain d = true ∧ nrmT (strip d) = dL encS (m201 ) := by
 unfold m201
 have h : Ko 0 St.empty [] [] := Ko.empty
 exact Ev.wp (E := EE S) (fn := Tryz.f201) (nt := 2) Tryz.func201 rfl rfl (Ck h fun _ _ h => Rg 1 rfl (Rz h fun h => Ck h fun _ _ h => Rs rfl (fun _ => op_bs (xs := ([(⟨#[45]⟩), (⟨#[110, 111, 116]⟩), (⟨#[105, 115, 32, 110, 117, 108, 108]⟩), (⟨#[105, 115, 32, 110, 111, 116, 32, 110, 117, 108, 108]⟩)] : List ByteArray).map encS) Tryz.underlying97 ty9.hn (z9 (S := S)) rfl rfl rfl rfl rfl) (Rg 1 rfl (Rz h fun h => Cr ⟨.inr rfl, _, rfl, rfl, rfl⟩))))
noncomputable def H201 : List D → R D := mkH (L0) (fun _ => True) (fun _ => dL encS m201)
theorem i201 : InjE (L0) := j0
theorem un_ok : okL okS m201 := lit_ok (by kernel_rfl) (by kernel_rfl)
def m202  : (List ByteArray) := ([(⟨#[43]⟩), (⟨#[45]⟩), (⟨#[42]⟩), (⟨#[47]⟩), (⟨#[37]⟩), (⟨#[61]⟩), (⟨#[60, 62]⟩), (⟨#[60]⟩), (⟨#[60, 61]⟩), (⟨#[62]⟩), (⟨#[62, 61]⟩), (⟨#[97, 110, 100]⟩), (⟨#[111, 114]⟩)])
set_option maxRecDepth 100000 in
theorem m202_ev    : ∃ d σ', Ev (EE S) 202 [] St.empty d σ' ∧ plain d = true ∧ nrmT (strip d) = dL encS (m202 ) := by
 unfold m202
 have h : Ko 0 St.empty [] [] := Ko.empty
 exact Ev.wp (E := EE S) (fn := Tryz.f202) (nt := 2) Tryz.func202 rfl rfl (Ck h fun _ _ h => Rg 1 rfl (Rz h fun h => Ck h fun _ _ h => Rs rfl (fun _ => op_bs (xs := ([(⟨#[43]⟩), (⟨#[45]⟩), (⟨#[42]⟩), (⟨#[47]⟩), (⟨#[37]⟩), (⟨#[61]⟩), (⟨#[60, 62]⟩), (⟨#[60]⟩), (⟨#[60, 61]⟩), (⟨#[62]⟩), (⟨#[62, 61]⟩), (⟨#[97, 110, 100]⟩), (⟨#[111, 114]⟩)] : List ByteArray).map encS) Tryz.underlying97 ty9.hn (z9 (S := S)) rfl rfl rfl rfl rfl) (Rg 1 rfl (Rz h fun h => Cr ⟨.inr rfl, _, rfl, rfl, rfl⟩))))
noncomputable def H202 : List D → R D := mkH (L0) (fun _ => True) (fun _ => dL encS m202)
theorem i202 : InjE (L0) := j0
theorem bin_ok : okL okS m202 := lit_ok (by kernel_rfl) (by kernel_rfl)
def m208 (op : ByteArray) : Bool := (m200 ([(⟨#[61]⟩), (⟨#[60, 62]⟩), (⟨#[60]⟩), (⟨#[60, 61]⟩), (⟨#[62]⟩), (⟨#[62, 61]⟩)]) op)
set_option maxRecDepth 100000 in
theorem m208_ev  (c200 : S 200 = some H200) (op : ByteArray)  (h_op : okS op) : ∃ d σ', Ev (EE S) 208 [dS op] St.empty d σ' ∧ plain d = true ∧ strip d = dB (m208 op) := by
 unfold m208
 have h : Ko 0 St.empty [] [] := Ko.empty
 exact Ev.wp (E := EE S) (fn := Tryz.f208) (nt := 6) Tryz.func208 rfl rfl (Ck h fun _ _ h => Rg 1 rfl (Rz h fun h => Ck h fun _ _ h => Rs rfl (fun _ => op_bs (xs := ([(⟨#[61]⟩), (⟨#[60, 62]⟩), (⟨#[60]⟩), (⟨#[60, 61]⟩), (⟨#[62]⟩), (⟨#[62, 61]⟩)] : List ByteArray).map encS) Tryz.underlying97 ty9.hn (z9 (S := S)) rfl rfl rfl rfl rfl) (Rg 1 rfl (Rs rfl (fun _ => op_call (d := dB (m200 ([(⟨#[61]⟩), (⟨#[60, 62]⟩), (⟨#[60]⟩), (⟨#[60, 61]⟩), (⟨#[62]⟩), (⟨#[62, 61]⟩)]) op)) rfl rfl c200 rfl (He i200 ((([(⟨#[61]⟩), (⟨#[60, 62]⟩), (⟨#[60]⟩), (⟨#[60, 61]⟩), (⟨#[62]⟩), (⟨#[62, 61]⟩)]) : (List ByteArray)), op) ⟨(lit_ok (by kernel_rfl) (by kernel_rfl)), h_op⟩ rfl)) (Rg 1 rfl (Rz h fun h => Cr ⟨.inr rfl, _, rfl, rfl, rfl⟩))))))
noncomputable def H208 : List D → R D := mkH (L1 dS) (fun x => okS x) (fun x => dB (m208 x))
theorem i208 : InjE (L1 dS) := j1 jS
def m206 (op : ByteArray) : Bool := (m200 ([(⟨#[43]⟩), (⟨#[45]⟩), (⟨#[42]⟩), (⟨#[47]⟩), (⟨#[37]⟩)]) op)
set_option maxRecDepth 100000 in
theorem m206_ev  (c200 : S 200 = some H200) (op : ByteArray)  (h_op : okS op) : ∃ d σ', Ev (EE S) 206 [dS op] St.empty d σ' ∧ plain d = true ∧ strip d = dB (m206 op) := by
 unfold m206
 have h : Ko 0 St.empty [] [] := Ko.empty
 exact Ev.wp (E := EE S) (fn := Tryz.f206) (nt := 6) Tryz.func206 rfl rfl (Ck h fun _ _ h => Rg 1 rfl (Rz h fun h => Ck h fun _ _ h => Rs rfl (fun _ => op_bs (xs := ([(⟨#[43]⟩), (⟨#[45]⟩), (⟨#[42]⟩), (⟨#[47]⟩), (⟨#[37]⟩)] : List ByteArray).map encS) Tryz.underlying97 ty9.hn (z9 (S := S)) rfl rfl rfl rfl rfl) (Rg 1 rfl (Rs rfl (fun _ => op_call (d := dB (m200 ([(⟨#[43]⟩), (⟨#[45]⟩), (⟨#[42]⟩), (⟨#[47]⟩), (⟨#[37]⟩)]) op)) rfl rfl c200 rfl (He i200 ((([(⟨#[43]⟩), (⟨#[45]⟩), (⟨#[42]⟩), (⟨#[47]⟩), (⟨#[37]⟩)]) : (List ByteArray)), op) ⟨(lit_ok (by kernel_rfl) (by kernel_rfl)), h_op⟩ rfl)) (Rg 1 rfl (Rz h fun h => Cr ⟨.inr rfl, _, rfl, rfl, rfl⟩))))))
noncomputable def H206 : List D → R D := mkH (L1 dS) (fun x => okS x) (fun x => dB (m206 x))
theorem i206 : InjE (L1 dS) := j1 jS
def m203 (k : Int) : Bool := (bif ((k : Int) == 2) then true else ((k : Int) == 3))
theorem m203_ev  (k : Int)  : ∃ d σ', Ev (EE S) 203 [dI k] St.empty d σ' ∧ plain d = true ∧ strip d = dB (m203 k) := by
 unfold m203
 have h : Ko 0 St.empty [] [] := Ko.empty
 refine Ev.wp (E := EE S) (fn := Tryz.f203) (nt := 9) Tryz.func203 rfl rfl (Ck h fun _ _ h => Rg 1 rfl (Rz h fun h => Ck h fun _ _ h => Rg 3 rfl ?_))
 cases q1 : ((k : Int) == 2)
 exact Rg 4 rfl (Rz h fun h => Cr ⟨.inr rfl, _, rfl, rfl, rfl⟩)
 exact Rg 4 rfl (Rz h fun h => Cr ⟨.inr rfl, _, rfl, rfl, rfl⟩)
noncomputable def H203 : List D → R D := mkH (L1 dI) (fun _ => True) (fun x => dB (m203 x))
theorem i203 : InjE (L1 dI) := j1 jI
def m204 (k : Int) : Bool := (bif ((k : Int) == 1) then true else ((k : Int) == 0))
theorem m204_ev  (k : Int)  : ∃ d σ', Ev (EE S) 204 [dI k] St.empty d σ' ∧ plain d = true ∧ strip d = dB (m204 k) := by
 unfold m204
 have h : Ko 0 St.empty [] [] := Ko.empty
 refine Ev.wp (E := EE S) (fn := Tryz.f204) (nt := 9) Tryz.func204 rfl rfl (Ck h fun _ _ h => Rg 1 rfl (Rz h fun h => Ck h fun _ _ h => Rg 3 rfl ?_))
 cases q1 : ((k : Int) == 1)
 exact Rg 4 rfl (Rz h fun h => Cr ⟨.inr rfl, _, rfl, rfl, rfl⟩)
 exact Rg 4 rfl (Rz h fun h => Cr ⟨.inr rfl, _, rfl, rfl, rfl⟩)
noncomputable def H204 : List D → R D := mkH (L1 dI) (fun _ => True) (fun x => dB (m204 x))
theorem i204 : InjE (L1 dI) := j1 jI
def m205 (a : Int) (b : Int) : Bool := (bif (m203 a) then (bif (m203 b) then true else (bif ((a : Int) == b) then true else (bif ((a : Int) == 0) then true else ((b : Int) == 0)))) else (bif ((a : Int) == b) then true else (bif ((a : Int) == 0) then true else ((b : Int) == 0))))
theorem m205_ev  (c203 : S 203 = some H203) (a : Int) (b : Int)  : ∃ d σ', Ev (EE S) 205 [dI a, dI b] St.empty d σ' ∧ plain d = true ∧ strip d = dB (m205 a b) := by
 unfold m205
 have h : Ko 0 St.empty [] [] := Ko.empty
 refine Ev.wp (E := EE S) (fn := Tryz.f205) (nt := 24) Tryz.func205 rfl rfl (Ck h fun _ _ h => Rg 1 rfl (Rz h fun h => Ck h fun _ _ h => Rg 1 rfl (Rs rfl (fun _ => op_call (d := dB (m203 a)) rfl rfl c203 rfl (He i203 a trivial rfl)) (Rg 1 rfl ?_))))
 cases q1 : (m203 a)
 refine Rg 9 rfl ?_
 cases q2 : ((a : Int) == b)
 refine Rg 4 rfl ?_
 cases q3 : ((a : Int) == 0)
 exact Rg 4 rfl (Rz h fun h => Cr ⟨.inr rfl, _, rfl, rfl, rfl⟩)
 exact Rg 4 rfl (Rz h fun h => Cr ⟨.inr rfl, _, rfl, rfl, rfl⟩)
 exact Rg 8 rfl (Rz h fun h => Cr ⟨.inr rfl, _, rfl, rfl, rfl⟩)
 refine Rg 1 rfl (Rs rfl (fun _ => op_call (d := dB (m203 b)) rfl rfl c203 rfl (He i203 b trivial rfl)) (Rg 2 rfl ?_))
 cases q4 : (m203 b)
 refine Rg 5 rfl ?_
 cases q5 : ((a : Int) == b)
 refine Rg 4 rfl ?_
 cases q6 : ((a : Int) == 0)
 exact Rg 4 rfl (Rz h fun h => Cr ⟨.inr rfl, _, rfl, rfl, rfl⟩)
 exact Rg 4 rfl (Rz h fun h => Cr ⟨.inr rfl, _, rfl, rfl, rfl⟩)
 exact Rg 8 rfl (Rz h fun h => Cr ⟨.inr rfl, _, rfl, rfl, rfl⟩)
 exact Rg 13 rfl (Rz h fun h => Cr ⟨.inr rfl, _, rfl, rfl, rfl⟩)
noncomputable def H205 : List D → R D := mkH (L2 dI dI) (fun _ => True) (fun x => dB (m205 x.1 x.2))
theorem i205 : InjE (L2 dI dI) := j2 jI jI
def m207_1 (op : ByteArray) (a : Int) (b : Int) : Lo (Int × Int) (Int × Bool) := (bif ((a : Int) == 0) then .on (b, a) else .on (a, b))
def m207_2 (op : ByteArray) (a : Int) (b : Int) (v1_1 : Int) (v1_2 : Int) : Lo Bool (Int × Bool) := (bif ((v1_1 : Int) == 2) then .on ((v1_2 : Int) == 2) else .on false)
def m207 (op : ByteArray) (a : Int) (b : Int) : (Int × Bool) := (match m207_1 op a b with | .out r => r | .on (v1_1, v1_2) => (bif ((v1_1 : Int) == 0) then (0, true) else (bif (ByteArray.toList op == ByteArray.toList (⟨#[37]⟩)) then (bif ((v1_1 : Int) == 2) then (bif ((v1_2 : Int) == 2) then (2, true) else (2, ((v1_2 : Int) == 0))) else (2, false)) else (bif ((v1_2 : Int) == 0) then (v1_1, (m203 v1_1)) else (bif (!(m203 v1_1)) then (0, false) else (bif (!(m203 v1_2)) then (0, false) else (match m207_2 op a b v1_1 v1_2 with | .out r => r | .on v2_44 => (bif v2_44 then (2, true) else (3, true)))))))))
theorem m207_ev  (c203 : S 203 = some H203) (op : ByteArray) (a : Int) (b : Int)  (h_op : okS op) : ∃ d σ', Ev (EE S) 207 [dS op, dI a, dI b] St.empty d σ' ∧ plain d = true ∧ strip d = D.tup [dI ((m207 op a b).1), dB ((m207 op a b).2)] := by
 unfold m207
 have h : Ko 0 St.empty [] [] := Ko.empty
 refine Ev.wp (E := EE S) (fn := Tryz.f207) (nt := 45) Tryz.func207 rfl rfl (Ck h fun _ _ h => Rg 2 rfl (Rz h fun h => ?_))
 refine Cw.seq (Cw.mono (Q := fun oX gX sX => match m207_1 op a b with | .on (v1_1, v1_2) => oX = none ∧ gX 0 = dS op ∧ gX 1 = dI v1_1 ∧ gX 2 = dI v1_2 ∧ Ko 0 sX [] [] | .out r => Ou S Tryz.f207 (fun d _ => plain d = true ∧ strip d = D.tup [dI r.1, dB r.2]) oX gX sX) ?_ ?_)
 unfold m207_1
 refine Ck h fun _ _ h => Rg 2 rfl (Rz h fun h => ?_)
 cases q1 : ((a : Int) == 0)
 exact Cf rfl (Ci (an5 rfl rfl rfl rfl h))
 exact Ct rfl (Cw.regionK h fun _ _ h => Rg 4 rfl (Rz h fun h => an5 rfl rfl rfl rfl h))
 intro oY gY sY hh
 generalize hzF1 : m207_1 op a b = zZ at hh ⊢
 rcases zZ with ⟨⟨v1_1, v1_2⟩⟩ | rZ
 dsimp only
 obtain ⟨rfl, e0, e1, e2, h⟩ := hh
 rw [pin e0, pin e1, pin e2]
 refine Cs (Ck h fun _ _ h => Rg 2 rfl (Rz h fun h => ?_))
 cases q2 : ((v1_1 : Int) == 0)
 refine Cf rfl (Ci (Cs (Ck h fun _ _ h => Rg 2 rfl (Rz h fun h => ?_))))
 cases q3 : (ByteArray.toList op == ByteArray.toList (⟨#[37]⟩))
 refine Cf rfl (Ci (Cs (Ck h fun _ _ h => Rg 2 rfl (Rz h fun h => ?_))))
 cases q4 : ((v1_2 : Int) == 0)
 refine Cf rfl (Ci (Cs (Ck h fun _ _ h => Rg 1 rfl (Rs rfl (fun _ => op_call (d := dB (m203 v1_1)) rfl rfl c203 rfl (He i203 v1_1 trivial rfl)) (Rg 2 rfl ?_)))))
 cases q5 : (!(m203 v1_1))
 refine Rg 1 rfl (Rs rfl (fun _ => op_call (d := dB (m203 v1_2)) rfl rfl c203 rfl (He i203 v1_2 trivial rfl)) (Rg 2 rfl (Rz h fun h => ?_)))
 cases q6 : (!(m203 v1_2))
 refine Cf rfl (Ci (Cs ?_))
 refine Cw.seq (Cw.mono (Q := fun oX gX sX => match m207_2 op a b v1_1 v1_2 with | .on v2_44 => oX = none ∧ gX 44 = dB v2_44 ∧ Ko 0 sX [] [] | .out r => Ou S Tryz.f207 (fun d _ => plain d = true ∧ strip d = D.tup [dI r.1, dB r.2]) oX gX sX) ?_ ?_)
 unfold m207_2
 refine Cw.regionK h fun _ _ h => Rg 3 rfl ?_
 cases q7 : ((v1_1 : Int) == 2)
 exact Rg 3 rfl (Rz h fun h => an3 rfl rfl h)
 exact Rg 3 rfl (Rz h fun h => an3 rfl rfl h)
 intro oY gY sY hh
 generalize hzF2 : m207_2 op a b v1_1 v1_2 = zZ at hh ⊢
 rcases zZ with v2_44 | rZ
 dsimp only
 obtain ⟨rfl, e44, h⟩ := hh
 rw [pin e44]
 cases q8 : v2_44
 exact Cf rfl (Ci (Ck h fun _ _ h => Rg 2 rfl (Rz h fun h => Cr ⟨.inr rfl, _, rfl, rfl, rfl⟩)))
 exact Ct rfl (Ck h fun _ _ h => Rg 2 rfl (Rz h fun h => Cr ⟨.inr rfl, _, rfl, rfl, rfl⟩))
 obtain ⟨rfl, w⟩ := hh
 exact ⟨.inr rfl, w⟩
 exact Ct rfl (Ck h fun _ _ h => Rg 2 rfl (Rz h fun h => Cr ⟨.inr rfl, _, rfl, rfl, rfl⟩))
 exact Rg 4 rfl (Rz h fun h => Ct rfl (Ck h fun _ _ h => Rg 2 rfl (Rz h fun h => Cr ⟨.inr rfl, _, rfl, rfl, rfl⟩)))
 exact Ct rfl (Ck h fun _ _ h => Rg 2 rfl (Rs rfl (fun _ => op_call (d := dB (m203 v1_1)) rfl rfl c203 rfl (He i203 v1_1 trivial rfl)) (Rg 2 rfl (Rz h fun h => Cr ⟨.inr rfl, _, rfl, rfl, rfl⟩))))
 refine Ct rfl (Ck h fun _ _ h => Rg 3 rfl ?_)
 cases q9 : ((v1_1 : Int) == 2)
 exact Rg 9 rfl (Rz h fun h => Cr ⟨.inr rfl, _, rfl, rfl, rfl⟩)
 refine Rg 3 rfl ?_
 cases q10 : ((v1_2 : Int) == 2)
 exact Rg 6 rfl (Rz h fun h => Cr ⟨.inr rfl, _, rfl, rfl, rfl⟩)
 exact Rg 6 rfl (Rz h fun h => Cr ⟨.inr rfl, _, rfl, rfl, rfl⟩)
 exact Ct rfl (Ck h fun _ _ h => Rg 2 rfl (Rz h fun h => Cr ⟨.inr rfl, _, rfl, rfl, rfl⟩))
 obtain ⟨rfl, w⟩ := hh
 exact ⟨.inr rfl, w⟩
noncomputable def H207 : List D → R D := mkH (L3 dS dI dI) (fun x => okS x.1) (fun x => D.tup [dI ((m207 x.1 x.2.1 x.2.2).1), dB ((m207 x.1 x.2.1 x.2.2).2)])
theorem i207 : InjE (L3 dS dI dI) := j3 jS jI jI
def m199 (v : Val) : Bool := (m144 v Val.zero)
theorem m199_ev  (c144 : S 144 = some H144) (v : Val)  (h_v : Val.ok v) : ∃ d σ', Ev (EE S) 199 [dR Val.enc v] St.empty d σ' ∧ plain d = true ∧ strip d = dB (m199 v) := by
 unfold m199
 have h : Ko 0 St.empty [] [] := Ko.empty
 exact Ev.wp (E := EE S) (fn := Tryz.f199) (nt := 6) Tryz.func199 rfl rfl (Ck h fun _ _ h => Rw.bx (d := dR Val.enc v) h (Nat.le_add_right _ 0) rfl rfl rfl rfl rfl rfl fun b1 _ h => Rg 1 rfl (Rw.nilK h (Nat.add_le_add_left (by decide : 1 ≤ 2) _) fun h => Ck h fun _ _ h => Rw.ld (k := 0) (d := dR Val.enc v) h rfl rfl rfl rfl rfl (ty29.ldA rfl rfl) rfl (Rs rfl (fun _ => op_buildS (qs := []) (d := dR Val.enc Val.zero) rfl (bd29 ..)) (Rs rfl (fun _ => op_call (d := dB (m144 v Val.zero)) rfl rfl c144 rfl (He i144 (v, Val.zero) ⟨h_v, Val.zok⟩ rfl)) (Rg 1 rfl (Rz h fun h => Cr ⟨.inr rfl, _, rfl, rfl, rfl⟩))))))
noncomputable def H199 : List D → R D := mkH (L1 (dR Val.enc)) (fun x => Val.ok x) (fun x => dB (m199 x))
theorem i199 : InjE (L1 (dR Val.enc)) := j1 (jR Val.inj)
noncomputable def cm146_b_l1 : Code := (cl (cr (cl (cr (cr (cr (cr (bodyOf Tryz.f146))))))))
def m146_b_l1 (rec : Exr → Int → Int → (Int × Bool)) (e : Exr) (had : Int) (deep : Int) : Nat → Nat → Int → Bool → Lo (Int × Bool) (Int × Bool)
 | 0, _, x1_1, x1_8 => .on (x1_1, x1_8)
 | rem1 + 1, i1, x1_1, x1_8 => (bif x1_8 then m146_b_l1 rec e had deep rem1 (i1 + 1) ((rec (e.kids.getD i1 default) x1_1 (IntKind.i64.wrap (deep + 1))).1) ((rec (e.kids.getD i1 default) x1_1 (IntKind.i64.wrap (deep + 1))).2) else .on (x1_1, x1_8))
def m146_b (rec : Exr → Int → Int → (Int × Bool)) (e : Exr) (had : Int) (deep : Int) : (Int × Bool) := (bif decide (((IntKind.i64.wrap (had + 1)) : Int) > 1024) then ((IntKind.i64.wrap (had + 1)), false) else (bif decide ((deep : Int) > 100) then ((IntKind.i64.wrap (had + 1)), false) else (match m146_b_l1 rec e had deep e.kids.length 0 (IntKind.i64.wrap (had + 1)) true with | .out r => r | .on (x1_1, x1_8) => (x1_1, x1_8))))
theorem m146_b_ev  (n146 : S 146 = none) (rec : Exr → Int → Int → (Int × Bool)) (e : Exr) (had : Int) (deep : Int)  (h_e : Exr.ok e) (ihR : ∀ (y0 : Exr) (y1 : Int) (y2 : Int), Exr.ok y0 → y0.depth < e.depth → ∃ d σ', Ev (EE S) 146 [dR Exr.row y0, dI y1, dI y2] St.empty d σ' ∧ plain d = true ∧ strip d = D.tup [dI ((rec y0 y1 y2).1), dB ((rec y0 y1 y2).2)]) : ∃ d σ', Ev (EE S) 146 [dR Exr.row e, dI had, dI deep] St.empty d σ' ∧ plain d = true ∧ strip d = D.tup [dI ((m146_b rec e had deep).1), dB ((m146_b rec e had deep).2)] := by
 unfold m146_b
 have h : Ko 0 St.empty [] [] := Ko.empty
 refine Ev.wp (E := EE S) (fn := Tryz.f146) (nt := 43) Tryz.func146 rfl rfl (Ck h fun _ _ h => Rw.bx (d := dR Exr.row e) h (Nat.le_add_right _ 0) rfl rfl rfl rfl rfl rfl fun b1 _ h => Rg 2 rfl (Rw.nilK h (Nat.add_le_add_left (by decide : 1 ≤ 3) _) fun h => Ck h fun _ _ h => Rg 1 rfl (Rs rfl (fun _ => op_add_int rfl rfl rfl) (Rg 1 rfl (Rz h fun h => Cs (Ck h fun _ _ h => Rg 3 rfl ?_))))))
 cases q1 : decide (((IntKind.i64.wrap (had + 1)) : Int) > 1024)
 refine Rg 3 rfl (Rz h fun h => ?_)
 cases q2 : decide ((deep : Int) > 100)
 refine Cf rfl (Ci (Ck h fun _ _ h => Rg 1 rfl (Rz h fun h => Cs (Ck h fun _ _ h => Rg 1 rfl (Rz h fun h => Cb ?_)))))
 have hl1 : ∀ (rem1 i1 : Nat) (x1_1 : Int) (x1_8 : Bool) (fr : Nat → D) (σ : St), i1 + rem1 = e.kids.length → fr 1 = dI x1_1 → fr 2 = dI deep → fr 3 = D.ptr b1 0 → fr 8 = dB x1_8 → fr 9 = dN i1 → Ko 0 σ [(b1, (dC Exr.row e))] [] → Cw (EE S) cm146_b_l1 43 fr σ (fun oX gX sX => match m146_b_l1 rec e had deep rem1 i1 x1_1 x1_8 with | .on (x1_1, x1_8) => oX = some (some 0) ∧ gX 1 = dI x1_1 ∧ gX 8 = dB x1_8 ∧ Ko 0 sX [(b1, (dC Exr.row e))] [] | .out r => Ou S Tryz.f146 (fun d _ => plain d = true ∧ strip d = D.tup [dI r.1, dB r.2]) oX gX sX) := by
  intro rem1
  induction rem1
  intro i1 x1_1 x1_8  fr σ hi  e1 e2 e3 e8 e9 h
  have hlt1 : decide ((((i1 : Nat) : Int) : Int) < ((e.kids.length : Nat) : Int)) = false := decF (by omega)
  rw [pin e1, pin e2, pin e3, pin e8, pin e9]
  rw [m146_b_l1]
  exact Co (Cs (Ck h fun _ _ h => Rg 1 rfl (Rf fi32_4 rfl (Rl 0 h rfl (ty30.ldS rfl) (Re Tryz.underlying30 rfl (Rs rfl (fun _ => op_lss_int rfl rfl hlt1) (Rg 3 rfl (Rz h fun h => Cf rfl (Cw.exit (an4 rfl rfl rfl h))))))))))
  rename_i rem1 ih
  intro i1 x1_1 x1_8  fr σ hi  e1 e2 e3 e8 e9 h
  have hlt1 : decide ((((i1 : Nat) : Int) : Int) < ((e.kids.length : Nat) : Int)) = true := decT (by omega)
  have hil1 : i1 < e.kids.length := by omega
  have hbq1 := okL_len (Exr.ok_kids h_e)
  rw [pin e1, pin e2, pin e3, pin e8, pin e9]
  rw [m146_b_l1]
  refine Co (Cs (Ck h fun _ _ h => Rg 1 rfl (Rf fi32_4 rfl (Rl 0 h rfl (ty30.ldS rfl) (Re Tryz.underlying30 rfl (Rs rfl (fun _ => op_lss_int rfl rfl hlt1) (Rg 3 rfl (Rz h fun h => ?_))))))))
  cases q3 : x1_8
  exact Cf rfl (Cw.exit (an4 rfl rfl rfl h))
  refine Ct rfl (Ci (Cs (Cb (Cw.regionK h fun _ _ h => Rf fi32_4 rfl (Rl 0 h rfl (ty30.ldS rfl) (Rg 1 rfl (Rs rfl (fun _ => op_ix (n := i1) rfl rfl rfl Tryz.underlying30 ty32.hn (at_Exr hil1) rfl) (Rs rfl (fun _ => op_ldC (d := dR Exr.row (e.kids.getD i1 default)) rfl (at_Exr hil1) (ty32.lcA rfl rfl)) (Rg 2 rfl (Rs rfl (fun _ => op_add_int rfl rfl rfl) ?_))))))))))
  obtain ⟨dX, sX, hev, hpl, hst⟩ := ihR (e.kids.getD i1 default) x1_1 (IntKind.i64.wrap (deep + 1)) (okL_get (Exr.ok_kids h_e) Exr.zok i1) (Exr.depth_kid hil1)
  refine Rw.ev (das := [dR Exr.row (e.kids.getD i1 default), dI x1_1, dI (IntKind.i64.wrap (deep + 1))]) rfl rfl rfl rfl rfl n146 rfl rfl rfl hev hpl rfl ?_
  rw [show strip dX = D.tup [dI ((rec (e.kids.getD i1 default) x1_1 (IntKind.i64.wrap (deep + 1))).1), dB ((rec (e.kids.getD i1 default) x1_1 (IntKind.i64.wrap (deep + 1))).2)] from hst]
  exact Rs rfl (fun _ => op_move (d := D.tup [dI ((rec (e.kids.getD i1 default) x1_1 (IntKind.i64.wrap (deep + 1))).1), dB ((rec (e.kids.getD i1 default) x1_1 (IntKind.i64.wrap (deep + 1))).2)]) rfl) (Rs rfl (fun _ => op_extract rfl rfl) (Rs rfl (fun _ => op_extract rfl rfl) (Rg 2 rfl (Rz h fun h => Cw.regionK h fun _ _ h => Rg 1 rfl (Rs rfl (fun _ => op_add_int (v := ((i1 + 1 : Nat) : Int)) rfl rfl (wrap_one (by omega))) (Rg 1 rfl (Rz h fun h => ih (i1 + 1) ((rec (e.kids.getD i1 default) x1_1 (IntKind.i64.wrap (deep + 1))).1) ((rec (e.kids.getD i1 default) x1_1 (IntKind.i64.wrap (deep + 1))).2)  _ _ (by omega)  rfl rfl rfl rfl rfl h)))))))
 refine Cw.mono (hl1 e.kids.length 0 (IntKind.i64.wrap (had + 1)) true  _ _ (by omega)  rfl rfl rfl rfl rfl h) ?_
 intro oY gY sY hh
 generalize hzL1 : m146_b_l1 rec e had deep e.kids.length 0 (IntKind.i64.wrap (had + 1)) true = zZ at hh ⊢
 rcases zZ with ⟨⟨x1_1, x1_8⟩⟩ | rZ
 dsimp only
 obtain ⟨rfl, e1, e8, h⟩ := hh
 rw [pin e1, pin e8]
 have hbd1 := okL_len (Exr.ok_kids h_e)
 exact Ck h fun _ _ h => Rg 4 rfl (Rz h fun h => Cr ⟨.inr rfl, _, rfl, rfl, rfl⟩)
 obtain ⟨rfl, w⟩ := hh
 exact ⟨.inr rfl, w⟩
 exact Ct rfl (Ck h fun _ _ h => Rg 3 rfl (Rz h fun h => Cr ⟨.inr rfl, _, rfl, rfl, rfl⟩))
 exact Rg 3 rfl (Rz h fun h => Ct rfl (Ck h fun _ _ h => Rg 3 rfl (Rz h fun h => Cr ⟨.inr rfl, _, rfl, rfl, rfl⟩)))
def m146 : Nat → Exr → Int → Int → (Int × Bool)
 | 0, _, _, _ => default
 | nZ + 1, e, had, deep => m146_b (m146 nZ) e had deep
theorem m146_all  (n146 : S 146 = none) : ∀ (nZ : Nat) (e : Exr) (had : Int) (deep : Int) (h_e : Exr.ok e), e.depth < nZ → ∃ d σ', Ev (EE S) 146 [dR Exr.row e, dI had, dI deep] St.empty d σ' ∧ plain d = true ∧ strip d = D.tup [dI ((m146 nZ e had deep).1), dB ((m146 nZ e had deep).2)]
 | 0, e, had, deep, _, hd => absurd hd (by omega)
 | nZ + 1, e, had, deep, h_e, hd => m146_b_ev n146 (m146 nZ) e had deep h_e  (fun y0 y1 y2 g0 hd' => m146_all n146 nZ y0 y1 y2 g0  (by omega))
def m146r (e : Exr) (had : Int) (deep : Int) : (Int × Bool) := m146 (e.depth + 1) e had deep
theorem m146r_ev  (n146 : S 146 = none) (e : Exr) (had : Int) (deep : Int) (h_e : Exr.ok e) : ∃ d σ', Ev (EE S) 146 [dR Exr.row e, dI had, dI deep] St.empty d σ' ∧ plain d = true ∧ strip d = D.tup [dI ((m146r e had deep).1), dB ((m146r e had deep).2)] := m146_all n146 _ e had deep h_e  (Nat.lt_succ_self _)
noncomputable def H146 : List D → R D := mkH (L3 (dR Exr.row) dI dI) (fun x => Exr.ok x.1) (fun x => D.tup [dI ((m146r x.1 x.2.1 x.2.2).1), dB ((m146r x.1 x.2.1 x.2.2).2)])
theorem i146 : InjE (L3 (dR Exr.row) dI dI) := j3 (jR Exr.rinj) jI jI
noncomputable def cm147_b_l1 : Code := (cl (cr (cl (cr (bodyOf Tryz.f147)))))
def m147_b_l1 (rec : Tbl → Exr → Bool) (t : Tbl) (e : Exr) : Nat → Nat → Lo Unit Bool
 | 0, _ => .on ()
 | rem1 + 1, i1 => (bif (!(rec t (e.kids.getD i1 default))) then .out false else m147_b_l1 rec t e rem1 (i1 + 1) )
def m147_b (rec : Tbl → Exr → Bool) (t : Tbl) (e : Exr) : Bool := (match m147_b_l1 rec t e e.kids.length 0  with | .out r => r | .on _ => (bif ((e.kind : Int) == 1) then (bif (ByteArray.toList e.op == ByteArray.toList (⟨#[]⟩)) then (bif ((e.column : Int) == 0) then (bif ((((e.kids.length : Nat) : Int) : Int) == 0) then (((m141 e.value) : Int) == 0) else false) else false) else false) else (bif ((e.kind : Int) == 2) then (bif (ByteArray.toList e.op == ByteArray.toList (⟨#[]⟩)) then (bif (m199 e.value) then (bif ((((e.kids.length : Nat) : Int) : Int) == 0) then (bif decide ((e.column : Int) ≥ 0) then (decide ((e.column : Int) < ((t.columns.length : Nat) : Int))) else false) else false) else false) else false) else (bif ((e.kind : Int) == 3) then (bif (m200 m201 e.op) then (bif ((e.column : Int) == 0) then (bif (m199 e.value) then ((((e.kids.length : Nat) : Int) : Int) == 1) else false) else false) else false) else (bif ((e.kind : Int) == 4) then (bif (m200 m202 e.op) then (bif ((e.column : Int) == 0) then (bif (m199 e.value) then ((((e.kids.length : Nat) : Int) : Int) == 2) else false) else false) else false) else (bif ((e.kind : Int) == 5) then (bif (ByteArray.toList e.op == ByteArray.toList (⟨#[]⟩)) then (bif ((e.column : Int) == 0) then (bif (m199 e.value) then (decide ((((e.kids.length : Nat) : Int) : Int) ≥ 2)) else false) else false) else false) else false))))))
theorem m147_b_ev  (c141 : S 141 = some H141) (c199 : S 199 = some H199) (c200 : S 200 = some H200) (c201 : S 201 = some H201) (c202 : S 202 = some H202) (n147 : S 147 = none) (rec : Tbl → Exr → Bool) (t : Tbl) (e : Exr)  (h_t : Tbl.ok t) (h_e : Exr.ok e) (ihR : ∀ (y0 : Tbl) (y1 : Exr), Tbl.ok y0 → Exr.ok y1 → y1.depth < e.depth → ∃ d σ', Ev (EE S) 147 [dR Tbl.enc y0, dR Exr.row y1] St.empty d σ' ∧ plain d = true ∧ strip d = dB (rec y0 y1)) : ∃ d σ', Ev (EE S) 147 [dR Tbl.enc t, dR Exr.row e] St.empty d σ' ∧ plain d = true ∧ strip d = dB (m147_b rec t e) := by
 unfold m147_b
 have h : Ko 0 St.empty [] [] := Ko.empty
 refine Ev.wp (E := EE S) (fn := Tryz.f147) (nt := 133) Tryz.func147 rfl rfl (Ck h fun _ _ h => Rw.bx (d := dR Tbl.enc t) h (Nat.le_add_right _ 0) rfl rfl rfl rfl rfl rfl fun b1 _ h => Rw.bx (d := dR Exr.row e) h (Nat.le_add_right _ 0) rfl rfl rfl rfl rfl rfl fun b2 _ h => Rg 1 rfl (Rw.nilK h (Nat.add_le_add_left (by decide : 2 ≤ 3) _) fun h => Cs (Ck h fun _ _ h => Rg 1 rfl (Rz h fun h => Cb ?_))))
 have hl1 : ∀ (rem1 i1 : Nat) (fr : Nat → D) (σ : St), i1 + rem1 = e.kids.length → fr 2 = D.ptr b1 0 → fr 3 = D.ptr b2 0 → fr 5 = dN i1 → Ko 0 σ [(b2, (dC Exr.row e)), (b1, (dC Tbl.enc t))] [] → Cw (EE S) cm147_b_l1 133 fr σ (fun oX gX sX => match m147_b_l1 rec t e rem1 i1  with | .on _ => oX = some (some 0) ∧ gX 2 = D.ptr b1 0 ∧ gX 3 = D.ptr b2 0 ∧ Ko 0 sX [(b2, (dC Exr.row e)), (b1, (dC Tbl.enc t))] [] | .out r => Ou S Tryz.f147 (fun d _ => plain d = true ∧ strip d = dB r) oX gX sX) := by
  intro rem1
  induction rem1
  intro i1   fr σ hi  e2 e3 e5 h
  have hlt1 : decide ((((i1 : Nat) : Int) : Int) < ((e.kids.length : Nat) : Int)) = false := decF (by omega)
  rw [pin e2, pin e3, pin e5]
  rw [m147_b_l1]
  exact Co (Cs (Ck h fun _ _ h => Rg 1 rfl (Rf fi32_4 rfl (Rl 0 h rfl (ty30.ldS rfl) (Re Tryz.underlying30 rfl (Rs rfl (fun _ => op_lss_int rfl rfl hlt1) (Rz h fun h => Cf rfl (Cw.exit (an4 rfl rfl rfl h)))))))))
  rename_i rem1 ih
  intro i1   fr σ hi  e2 e3 e5 h
  have hlt1 : decide ((((i1 : Nat) : Int) : Int) < ((e.kids.length : Nat) : Int)) = true := decT (by omega)
  have hil1 : i1 < e.kids.length := by omega
  have hbq1 := okL_len (Exr.ok_kids h_e)
  rw [pin e2, pin e3, pin e5]
  rw [m147_b_l1]
  refine Co (Cs (Ck h fun _ _ h => Rg 1 rfl (Rf fi32_4 rfl (Rl 0 h rfl (ty30.ldS rfl) (Re Tryz.underlying30 rfl (Rs rfl (fun _ => op_lss_int rfl rfl hlt1) (Rz h fun h => Ct rfl (Ci (Cs (Cb ?_))))))))))
  refine Cw.seq (Cw.regionD h fun _ _ h => ?_)
  refine Rw.ld (k := 1) (d := dR Tbl.enc t) h rfl rfl rfl rfl rfl (ty39.ldA rfl rfl) rfl (Rf fi32_4 rfl (Rl 0 h rfl (ty30.ldS rfl) (Rg 1 rfl (Rs rfl (fun _ => op_ix (n := i1) rfl rfl rfl Tryz.underlying30 ty32.hn (at_Exr hil1) rfl) (Rs rfl (fun _ => op_ldC (d := dR Exr.row (e.kids.getD i1 default)) rfl (at_Exr hil1) (ty32.lcA rfl rfl)) ?_)))))
  obtain ⟨dX, sX, hev, hpl, hst⟩ := ihR t (e.kids.getD i1 default) h_t (okL_get (Exr.ok_kids h_e) Exr.zok i1) (Exr.depth_kid hil1)
  refine Rw.ev (das := [dR Tbl.enc t, dR Exr.row (e.kids.getD i1 default)]) rfl rfl rfl rfl rfl n147 rfl rfl rfl hev hpl rfl ?_
  rw [show strip dX = dB (rec t (e.kids.getD i1 default)) from hst]
  refine Rg 1 rfl (Rz h fun h => ?_)
  refine ⟨by kernel_rfl, ?_⟩
  cases q1 : (!(rec t (e.kids.getD i1 default)))
  exact Cf rfl (Ci (Cw.regionK h fun _ _ h => Rg 1 rfl (Rs rfl (fun _ => op_add_int (v := ((i1 + 1 : Nat) : Int)) rfl rfl (wrap_one (by omega))) (Rg 1 rfl (Rz h fun h => ih (i1 + 1)   _ _ (by omega)  rfl rfl rfl h)))))
  exact Ct rfl (Ck h fun _ _ h => Rg 1 rfl (Rz h fun h => Cr (And.intro rfl (Exists.intro _ (an3 rfl rfl rfl)))))
 refine Cw.mono (hl1 e.kids.length 0   _ _ (by omega)  rfl rfl rfl h) ?_
 intro oY gY sY hh
 generalize hzL1 : m147_b_l1 rec t e e.kids.length 0  = zZ at hh ⊢
 rcases zZ with vZ | rZ
 dsimp only
 obtain ⟨rfl, e2, e3, h⟩ := hh
 rw [pin e2, pin e3]
 have hbd1 := okL_len (Exr.ok_kids h_e)
 refine Ck h fun _ _ h => Rf fi32_4 rfl (Rl 0 h rfl (ty30.ldS rfl) (Re Tryz.underlying30 rfl (Rg 1 rfl (Rz h fun h => Cs (Ck h fun _ _ h => Rf fi32_0 rfl (Rl 0 h rfl (ty3.ldS rfl) (Rz h fun h => Cb (Ck h fun _ _ h => Rg 2 rfl (Rz h fun h => ?_)))))))))
 cases q2 : ((e.kind : Int) == 1)
 refine Cf rfl (Ck h fun _ _ h => Rg 2 rfl (Rz h fun h => ?_))
 cases q3 : ((e.kind : Int) == 2)
 refine Cf rfl (Ck h fun _ _ h => Rg 2 rfl (Rz h fun h => ?_))
 cases q4 : ((e.kind : Int) == 3)
 refine Cf rfl (Ck h fun _ _ h => Rg 2 rfl (Rz h fun h => ?_))
 cases q5 : ((e.kind : Int) == 4)
 refine Cf rfl (Ck h fun _ _ h => Rg 2 rfl (Rz h fun h => ?_))
 cases q6 : ((e.kind : Int) == 5)
 exact Cf rfl (Ci (Ck h fun _ _ h => Rg 1 rfl (Rz h fun h => Cr ⟨.inr rfl, _, rfl, rfl, rfl⟩)))
 refine Ct rfl (Ck h fun _ _ h => Rf fi32_1 rfl (Rl 0 h rfl (ty9.ldS rfl) (Rg 2 rfl ?_)))
 cases q7 : (ByteArray.toList e.op == ByteArray.toList (⟨#[]⟩))
 exact Rg 14 rfl (Rz h fun h => Cr ⟨.inr rfl, _, rfl, rfl, rfl⟩)
 refine Rf fi32_2 rfl (Rl 0 h rfl (ty3.ldS rfl) (Rg 3 rfl ?_))
 cases q8 : ((e.column : Int) == 0)
 exact Rg 9 rfl (Rz h fun h => Cr ⟨.inr rfl, _, rfl, rfl, rfl⟩)
 refine Rf fi32_3 rfl (Rw.ld (k := 0) (d := dR Val.enc e.value) h rfl rfl rfl rfl rfl (ty29.ldA rfl rfl) rfl (Rs rfl (fun _ => op_call (d := dB (m199 e.value)) rfl rfl c199 rfl (He i199 e.value (Exr.ok_value h_e) rfl)) (Rg 2 rfl ?_)))
 cases q9 : (m199 e.value)
 exact Rg 4 rfl (Rz h fun h => Cr ⟨.inr rfl, _, rfl, rfl, rfl⟩)
 exact Rg 4 rfl (Rz h fun h => Cr ⟨.inr rfl, _, rfl, rfl, rfl⟩)
 refine Ct rfl ?_
 refine Cw.seq (Cw.regionD h fun _ _ h => ?_)
 refine Rs rfl (fun _ => op_call (d := dL encS m202) rfl rfl c202 rfl (He i202 () trivial rfl)) (Rf fi32_1 rfl (Rl 0 h rfl (ty9.ldS rfl) (Rs rfl (fun _ => op_call (d := dB (m200 m202 e.op)) rfl rfl c200 rfl (He i200 (m202, e.op) ⟨bin_ok, (Exr.ok_op h_e)⟩ rfl)) (Rg 1 rfl ?_))))
 cases q10 : (m200 m202 e.op)
 refine Rg 14 rfl (Rz h fun h => ?_)
 refine ⟨by kernel_rfl, ?_⟩
 exact Cr ⟨.inr rfl, _, rfl, rfl, rfl⟩
 refine Rf fi32_2 rfl (Rl 0 h rfl (ty3.ldS rfl) (Rg 3 rfl ?_))
 cases q11 : ((e.column : Int) == 0)
 refine Rg 9 rfl (Rz h fun h => ?_)
 refine ⟨by kernel_rfl, ?_⟩
 exact Cr ⟨.inr rfl, _, rfl, rfl, rfl⟩
 refine Rf fi32_3 rfl (Rw.ld (k := 0) (d := dR Val.enc e.value) h rfl rfl rfl rfl rfl (ty29.ldA rfl rfl) rfl (Rs rfl (fun _ => op_call (d := dB (m199 e.value)) rfl rfl c199 rfl (He i199 e.value (Exr.ok_value h_e) rfl)) (Rg 2 rfl ?_)))
 cases q12 : (m199 e.value)
 refine Rg 4 rfl (Rz h fun h => ?_)
 refine ⟨by kernel_rfl, ?_⟩
 exact Cr ⟨.inr rfl, _, rfl, rfl, rfl⟩
 refine Rg 4 rfl (Rz h fun h => ?_)
 refine ⟨by kernel_rfl, ?_⟩
 exact Cr ⟨.inr rfl, _, rfl, rfl, rfl⟩
 refine Ct rfl ?_
 refine Cw.seq (Cw.regionD h fun _ _ h => ?_)
 refine Rs rfl (fun _ => op_call (d := dL encS m201) rfl rfl c201 rfl (He i201 () trivial rfl)) (Rf fi32_1 rfl (Rl 0 h rfl (ty9.ldS rfl) (Rs rfl (fun _ => op_call (d := dB (m200 m201 e.op)) rfl rfl c200 rfl (He i200 (m201, e.op) ⟨un_ok, (Exr.ok_op h_e)⟩ rfl)) (Rg 1 rfl ?_))))
 cases q13 : (m200 m201 e.op)
 refine Rg 14 rfl (Rz h fun h => ?_)
 refine ⟨by kernel_rfl, ?_⟩
 exact Cr ⟨.inr rfl, _, rfl, rfl, rfl⟩
 refine Rf fi32_2 rfl (Rl 0 h rfl (ty3.ldS rfl) (Rg 3 rfl ?_))
 cases q14 : ((e.column : Int) == 0)
 refine Rg 9 rfl (Rz h fun h => ?_)
 refine ⟨by kernel_rfl, ?_⟩
 exact Cr ⟨.inr rfl, _, rfl, rfl, rfl⟩
 refine Rf fi32_3 rfl (Rw.ld (k := 0) (d := dR Val.enc e.value) h rfl rfl rfl rfl rfl (ty29.ldA rfl rfl) rfl (Rs rfl (fun _ => op_call (d := dB (m199 e.value)) rfl rfl c199 rfl (He i199 e.value (Exr.ok_value h_e) rfl)) (Rg 2 rfl ?_)))
 cases q15 : (m199 e.value)
 refine Rg 4 rfl (Rz h fun h => ?_)
 refine ⟨by kernel_rfl, ?_⟩
 exact Cr ⟨.inr rfl, _, rfl, rfl, rfl⟩
 refine Rg 4 rfl (Rz h fun h => ?_)
 refine ⟨by kernel_rfl, ?_⟩
 exact Cr ⟨.inr rfl, _, rfl, rfl, rfl⟩
 refine Ct rfl (Ck h fun _ _ h => Rf fi32_1 rfl (Rl 0 h rfl (ty9.ldS rfl) (Rg 2 rfl ?_)))
 cases q16 : (ByteArray.toList e.op == ByteArray.toList (⟨#[]⟩))
 exact Rg 22 rfl (Rz h fun h => Cr ⟨.inr rfl, _, rfl, rfl, rfl⟩)
 refine Rf fi32_3 rfl (Rw.ld (k := 0) (d := dR Val.enc e.value) h rfl rfl rfl rfl rfl (ty29.ldA rfl rfl) rfl (Rs rfl (fun _ => op_call (d := dB (m199 e.value)) rfl rfl c199 rfl (He i199 e.value (Exr.ok_value h_e) rfl)) (Rg 2 rfl ?_)))
 cases q17 : (m199 e.value)
 exact Rg 17 rfl (Rz h fun h => Cr ⟨.inr rfl, _, rfl, rfl, rfl⟩)
 refine Rg 4 rfl ?_
 cases q18 : ((((e.kids.length : Nat) : Int) : Int) == 0)
 exact Rg 13 rfl (Rz h fun h => Cr ⟨.inr rfl, _, rfl, rfl, rfl⟩)
 refine Rf fi32_2 rfl (Rl 0 h rfl (ty3.ldS rfl) (Rg 3 rfl ?_))
 cases q19 : decide ((e.column : Int) ≥ 0)
 exact Rg 8 rfl (Rz h fun h => Cr ⟨.inr rfl, _, rfl, rfl, rfl⟩)
 exact Rf fi32_2 rfl (Rl 0 h rfl (ty3.ldS rfl) (Rf fi39_1 rfl (Rl 1 h rfl (ty35.ldS rfl) (Re Tryz.underlying35 rfl (Rg 3 rfl (Rz h fun h => Cr ⟨.inr rfl, _, rfl, rfl, rfl⟩))))))
 refine Ct rfl (Ck h fun _ _ h => Rf fi32_1 rfl (Rl 0 h rfl (ty9.ldS rfl) (Rg 2 rfl ?_)))
 cases q20 : (ByteArray.toList e.op == ByteArray.toList (⟨#[]⟩))
 exact Rg 15 rfl (Rz h fun h => Cr ⟨.inr rfl, _, rfl, rfl, rfl⟩)
 refine Rf fi32_2 rfl (Rl 0 h rfl (ty3.ldS rfl) (Rg 3 rfl ?_))
 cases q21 : ((e.column : Int) == 0)
 exact Rg 10 rfl (Rz h fun h => Cr ⟨.inr rfl, _, rfl, rfl, rfl⟩)
 refine Rg 4 rfl ?_
 cases q22 : ((((e.kids.length : Nat) : Int) : Int) == 0)
 exact Rg 6 rfl (Rz h fun h => Cr ⟨.inr rfl, _, rfl, rfl, rfl⟩)
 exact Rf fi32_3 rfl (Rw.ld (k := 0) (d := dR Val.enc e.value) h rfl rfl rfl rfl rfl (ty29.ldA rfl rfl) rfl (Rs rfl (fun _ => op_call (d := dI (m141 e.value)) rfl rfl c141 rfl (He i141 e.value (Exr.ok_value h_e) rfl)) (Rg 3 rfl (Rz h fun h => Cr ⟨.inr rfl, _, rfl, rfl, rfl⟩))))
 obtain ⟨rfl, w⟩ := hh
 exact ⟨.inr rfl, w⟩
def m147 : Nat → Tbl → Exr → Bool
 | 0, _, _ => default
 | nZ + 1, t, e => m147_b (m147 nZ) t e
theorem m147_all  (c141 : S 141 = some H141) (c199 : S 199 = some H199) (c200 : S 200 = some H200) (c201 : S 201 = some H201) (c202 : S 202 = some H202) (n147 : S 147 = none) : ∀ (nZ : Nat) (t : Tbl) (e : Exr) (h_t : Tbl.ok t) (h_e : Exr.ok e), e.depth < nZ → ∃ d σ', Ev (EE S) 147 [dR Tbl.enc t, dR Exr.row e] St.empty d σ' ∧ plain d = true ∧ strip d = dB (m147 nZ t e)
 | 0, t, e, _, _, hd => absurd hd (by omega)
 | nZ + 1, t, e, h_t, h_e, hd => m147_b_ev c141 c199 c200 c201 c202 n147 (m147 nZ) t e h_t h_e  (fun y0 y1 g0 g1 hd' => m147_all c141 c199 c200 c201 c202 n147 nZ y0 y1 g0 g1  (by omega))
def m147r (t : Tbl) (e : Exr) : Bool := m147 (e.depth + 1) t e
theorem m147r_ev  (c141 : S 141 = some H141) (c199 : S 199 = some H199) (c200 : S 200 = some H200) (c201 : S 201 = some H201) (c202 : S 202 = some H202) (n147 : S 147 = none) (t : Tbl) (e : Exr) (h_t : Tbl.ok t) (h_e : Exr.ok e) : ∃ d σ', Ev (EE S) 147 [dR Tbl.enc t, dR Exr.row e] St.empty d σ' ∧ plain d = true ∧ strip d = dB (m147r t e) := m147_all c141 c199 c200 c201 c202 n147 _ t e h_t h_e  (Nat.lt_succ_self _)
noncomputable def H147 : List D → R D := mkH (L2 (dR Tbl.enc) (dR Exr.row)) (fun x => Tbl.ok x.1 ∧ Exr.ok x.2) (fun x => dB (m147r x.1 x.2))
theorem i147 : InjE (L2 (dR Tbl.enc) (dR Exr.row)) := j2 (jR Tbl.inj) (jR Exr.rinj)
end Go.Vm
