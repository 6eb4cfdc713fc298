/- The functions that the law calls: what they compute, and that the interpreter comes to it; sizes as their statements say. Printed by a program of this session's. -/
import Derived.Test.YtgcphfhmoabhnaaGreatDoorG3
set_option linter.unusedVariables false
namespace Go.Vm
open Go.Proofs
variable {S : Nat → Option (List D → R D)}
theorem fi72_2 : fieldI (EE S) 72 2 = .ok (4, 2, 1) := by kernel_rfl
theorem bd32_0_1_2_3  (a0 : Int) (a1 : ByteArray) (a2 : Int) (a3 : Val) : buildD (EE S) 32 [(0, dI a0), (1, dS a1), (2, dI a2), (3, dR Val.enc a3)] = .ok (D.agg [D.c (.int .i64 (Exr.mk a0 a1 a2 a3 ([])).kind), D.c (.str (Exr.mk a0 a1 a2 a3 ([])).op), D.c (.int .i64 (Exr.mk a0 a1 a2 a3 ([])).column), D.c (.int .i64 (Exr.mk a0 a1 a2 a3 ([])).value.kind), D.c (.int .i64 (Exr.mk a0 a1 a2 a3 ([])).value.n), D.c (.float .f64 (Exr.mk a0 a1 a2 a3 ([])).value.f), D.c (.str (Exr.mk a0 a1 a2 a3 ([])).value.s), D.c (.sl true ((Exr.mk a0 a1 a2 a3 ([])).kids.map Exr.enc))]) := by kernel_rfl
theorem bd39_0_2  (a0 : ByteArray) (a2 : (List Int)) : buildD (EE S) 39 [(0, dS a0), (2, dL encI a2)] = .ok (D.agg [D.c (.str (⟨a0, [], a2, [], []⟩ : Tbl).name), D.c (.sl true ((⟨a0, [], a2, [], []⟩ : Tbl).columns.map Col.enc)), D.c (.sl false ((⟨a0, [], a2, [], []⟩ : Tbl).key.map encI)), D.c (.sl true ((⟨a0, [], a2, [], []⟩ : Tbl).indexes.map Idx.enc)), D.c (.sl true ((⟨a0, [], a2, [], []⟩ : Tbl).refs.map Rfr.enc))]) := by kernel_rfl
theorem bd72_0_1_2  (a0 : ByteArray) (a1 : (List Int)) (a2 : Bool) : buildD (EE S) 72 [(0, dS a0), (1, dL encI a1), (2, dB a2)] = .ok (dR Idx.enc (⟨a0, a1, a2⟩ : Idx)) := by kernel_rfl
theorem bd74_0_1  (a0 : (List Int)) (a1 : ByteArray) : buildD (EE S) 74 [(0, dL encI a0), (1, dS a1)] = .ok (dR Rfr.enc (⟨a0, a1⟩ : Rfr)) := by kernel_rfl
theorem bd51_0_1  (a0 : Int) (a1 : Exr) : buildD (EE S) 51 [(0, dI a0), (1, dR Exr.row a1)] = .ok (dR Sst.enc (⟨a0, a1⟩ : Sst)) := by kernel_rfl
theorem if39 : ((EE S).P.info? 39).map (fun i => (i.size, i.bytes)) = some (5, 112) := by kernel_rfl
theorem if30 : ((EE S).P.info? 30).map (fun i => (i.size, i.bytes)) = some (1, 24) := by kernel_rfl
theorem if51 : ((EE S).P.info? 51).map (fun i => (i.size, i.bytes)) = some (9, 104) := by kernel_rfl
theorem if53 : ((EE S).P.info? 53).map (fun i => (i.size, i.bytes)) = some (11, 128) := by kernel_rfl
theorem if32 : ((EE S).P.info? 32).map (fun i => (i.size, i.bytes)) = some (8, 96) := by kernel_rfl
theorem if55 : ((EE S).P.info? 55).map (fun i => (i.size, i.bytes)) = some (2, 16) := by kernel_rfl
theorem if65 : ((EE S).P.info? 65).map (fun i => (i.size, i.bytes)) = some (7, 72) := by kernel_rfl
theorem if72 : ((EE S).P.info? 72).map (fun i => (i.size, i.bytes)) = some (3, 48) := by kernel_rfl
theorem if74 : ((EE S).P.info? 74).map (fun i => (i.size, i.bytes)) = some (2, 40) := by kernel_rfl
def zc30 : List D := [.c (.sl true [])]
theorem z30 : zero (EE S) 30 = .ok zc30 := by kernel_rfl
theorem stripC_c (c : C) : stripC (.c c) = .c c := rfl
theorem plainCell_c (c : C) : plainCell (.c c) = true := rfl
theorem nrm_len {α : Type} {f : α → List C} {rs : List (List C)} {l : List α} (h : normRows rs = l.map f) : rs.length = l.length := by
  have := congrArg List.length h
  rw [normRows_eq, List.length_map, List.length_map] at this
  exact this
theorem nrm_app {α : Type} {f : α → List C} {rs ss : List (List C)} {l m : List α} (h : normRows rs = l.map f) (g : normRows ss = m.map f) : normRows (rs ++ ss) = (l ++ m).map f := by
  rw [normRows_eq] at *
  rw [List.map_append, h, g, List.map_append]
theorem heads_nrm {α : Type} {f : α → List C} {z : Nat} {rs : List (List C)} {l : List α} (h : normRows rs = l.map f) (hz : ∀ x, (f x).length = z) : headFits rs z = true := by
  cases rs with
  | nil => rfl
  | cons r rs =>
    cases l with
    | nil => simp [normRows] at h
    | cons x l =>
      simp only [normRows, List.map_cons, List.cons.injEq] at h
      have := congrArg List.length h.1
      rw [normRow_eq, List.length_map, hz] at this
      simp only [headFits, this, Nat.beq_refl]
theorem nrm_of {α : Type} {f : α → List C} {l : List α} (h : ∀ x ∈ l, normRow (f x) = f x) : normRows (l.map f) = l.map f := by
  rw [normRows_eq, List.map_map]
  exact List.map_congr_left h
theorem nrm_encI (l : List Int) : normRows (l.map encI) = l.map encI := nrm_of fun _ _ => rfl
theorem nrm_Col_enc (l : List Col) : normRows (l.map Col.enc) = l.map Col.enc := nrm_of fun _ _ => rfl
theorem nrm_Odr_enc (l : List Odr) : normRows (l.map Odr.enc) = l.map Odr.enc := nrm_of fun _ _ => rfl
theorem nrm_Idx_enc (l : List Idx) : normRows (l.map Idx.enc) = l.map Idx.enc := nrm_of fun x _ => by simp only [Idx.enc, normRow, normC, nrm_encI]
theorem nrm_Rfr_enc (l : List Rfr) : normRows (l.map Rfr.enc) = l.map Rfr.enc := nrm_of fun x _ => by simp only [Rfr.enc, normRow, normC, nrm_encI]
theorem nrm_Exr1 : ∀ (n : Nat) (e : Exr), e.depth < n → normRow (Exr.enc e) = Exr.enc e
  | 0, _, h => absurd h (by omega)
  | n + 1, e, h => by
    have hk : normRows (e.kids.map Exr.enc) = e.kids.map Exr.enc := nrm_of fun x hx => by
      obtain ⟨j, hj, rfl⟩ := mem_at hx
      exact nrm_Exr1 n _ (by have := Exr.depth_kid hj; omega)
    rw [Exr.enc_row]
    simp only [Exr.row, normRow, normC, hk]
theorem nrm_Exr_enc (l : List Exr) : normRows (l.map Exr.enc) = l.map Exr.enc := nrm_of fun x _ => nrm_Exr1 _ x (Nat.lt_succ_self _)
theorem nrm_Sst_enc (l : List Sst) : normRows (l.map Sst.enc) = l.map Sst.enc := nrm_of fun x _ => by simp only [Sst.enc, normRow, normC, nrm_Exr_enc]
theorem nrm_Itm_enc (l : List Itm) : normRows (l.map Itm.enc) = l.map Itm.enc := nrm_of fun x _ => by simp only [Itm.enc, normRow, normC, nrm_Exr_enc]
theorem nrm_one {f : Bool} (x : List Exr) (h : normRows (x.map Exr.enc) = x.map Exr.enc) : normRows [[C.sl f (x.map Exr.enc)]] = [x].map encL_Exr_enc := by
  simp only [normRows, normRow, normC, h]; rfl
theorem op_bsA {E : Env} {e : Operand → Option D} {r : Evs} {id : Nat} {σ : St} {t el : TypeId} {x : Operand} {d : D} {z : List D} {c : C} (ht : E.P.underlying t = some (.slice el)) (hk : size E el = .ok 1) (hz : zero E el = .ok z) (hl : Nat.beq z.length 1 = true) (hc : toC d = some c) (hx : e x = some d) :
    evOp E r e id σ (.buildSlice t 1 #[(0, x)]) = .ok (0, .c (.sl true [[c]]), σ) := by
  have hd : d.cells = [d] ∧ cellLike d = true := by
    cases d <;> first | exact ⟨rfl, rfl⟩ | cases hc
  have hz' : ∃ z0, z = [z0] := by
    cases z with
    | nil => cases hl
    | cons z0 z => cases z with
      | nil => exact ⟨z0, rfl⟩
      | cons => cases hl
  obtain ⟨z0, rfl⟩ := hz'
  refine op_bs (cs := [d]) ht hk hz rfl hl (qs := [(0, d)]) (by simp only [mapO, hx, Option.map_some]) ?_ ?_
  · simp only [repl, List.append_nil, fill, hd.1, List.length_singleton, List.all_cons, List.all_nil, hd.2]; rfl
  · simp only [rowsFrom, List.take, mapO, hc]
theorem m26_l1_eq (l : List Int) : ∀ (rem i : Nat), i + rem = l.length → m26_l1 l rem i (l.take i) = .on l
  | 0, i, h => by rw [m26_l1, List.take_of_length_le (by omega)]
  | rem + 1, i, h => by
    have hi : i < l.length := by omega
    have e : l.take i ++ [l.getD i default] = l.take (i + 1) := by
      rw [List.getD, List.getElem?_eq_getElem hi, Option.getD_some, List.take_append_getElem hi]
    rw [m26_l1, e]
    exact m26_l1_eq l rem (i + 1) (by omega)
theorem m26_eq (l : List Int) : m26 l = l := by
  unfold m26
  have := m26_l1_eq l l.length 0 (by omega)
  rw [List.take_zero] at this
  rw [this]
theorem m9_l1_eq (l : List Int) : ∀ (rem i : Nat), i + rem = l.length → m9_l1 l rem i (l.take i) = .on l
  | 0, i, h => by rw [m9_l1, List.take_of_length_le (by omega)]
  | rem + 1, i, h => by
    have hi : i < l.length := by omega
    have e : l.take i ++ [l.getD i default] = l.take (i + 1) := by
      rw [List.getD, List.getElem?_eq_getElem hi, Option.getD_some, List.take_append_getElem hi]
    rw [m9_l1, e]
    exact m9_l1_eq l rem (i + 1) (by omega)
theorem m9_eq (l : List Int) : m9 l = l := by
  unfold m9
  have := m9_l1_eq l l.length 0 (by omega)
  rw [List.take_zero] at this
  rw [this]
theorem m26_ok {l : List Int} (h : okL okI l) : okL okI (m26 l) := by rw [m26_eq]; exact h
theorem m9_ok {l : List Int} (h : okL okI l) : okL okI (m9 l) := by rw [m9_eq]; exact h
def Exr.rowW (x : Exr) (f : Bool) (rs : List (List C)) : List C := [.int .i64 x.kind, .str x.op, .int .i64 x.column, .int .i64 x.value.kind, .int .i64 x.value.n, .float .f64 x.value.f, .str x.value.s, .sl f rs]
theorem nrm_kid (x : Exr) {f : Bool} {rs : List (List C)} (h : normRows rs = x.kids.map Exr.enc) : normRows [[.int .i64 x.kind, .str x.op, .int .i64 x.column, .int .i64 x.value.kind, .int .i64 x.value.n, .float .f64 x.value.f, .str x.value.s, .sl f rs]] = [x].map Exr.enc := by
  simp only [normRows, normRow, normC, h, List.map_cons, List.map_nil, Exr.enc_row, Exr.row]
theorem nrmD_kid (x : Exr) {f : Bool} {rs : List (List C)} (h : normRows rs = x.kids.map Exr.enc) : nrmD (D.agg ((Exr.rowW x f rs).map D.c)) = D.agg ((Exr.row x).map D.c) := by
  simp only [nrmD, nrmA, Exr.rowW, Exr.row, List.map_cons, List.map_nil, nrm1, normC, h]
theorem one_Exr (x : Exr) : [x].map Exr.enc = [Exr.row x] := congrArg (fun r => [r]) (Exr.enc_row x)
theorem all_Exr (l : List Exr) : ((l.map Exr.enc).all fun r => Nat.beq r.length 8) = true := by
  rw [List.all_eq_true]
  intro r hr
  obtain ⟨x, _, rfl⟩ := List.mem_map.1 hr
  rw [Exr.enc_row]; rfl
theorem deepT {P : D → St → Prop} {m : Exr} (h : ∃ d σ', P d σ' ∧ plain d = true ∧ ∃ f rs, strip d = D.agg ((Exr.rowW m f rs).map D.c) ∧ normRows rs = m.kids.map Exr.enc) : ∃ d σ', P d σ' ∧ plain d = true ∧ nrmD (strip d) = D.agg ((Exr.row m).map D.c) := by
  obtain ⟨d, σ', h1, h2, f, rs, h3, h4⟩ := h
  exact ⟨d, σ', h1, h2, by rw [h3]; exact nrmD_kid m h4⟩
noncomputable def cm25_b_l1 : Code := (cl (cr (cl (cr (cr (bodyOf Tryz.f25))))))
def m25_b_l1 (rec : Exr → Exr) (e : Exr) : Nat → Nat → (List Exr) → Lo (List Exr) Exr
 | 0, _, yl1_a1 => .on yl1_a1
 | rem1 + 1, i1, yl1_a1 => m25_b_l1 rec e rem1 (i1 + 1) (yl1_a1 ++ ([(rec (e.kids.getD i1 default))]))
def m25_b (rec : Exr → Exr) (e : Exr) : Exr := (match m25_b_l1 rec e e.kids.length 0 ([]) with | .out r => r | .on yl1_a1 => (Exr.mk e.kind e.op e.column e.value yl1_a1))
theorem m25_b_ev  (n25 : S 25 = none) (rec : Exr → Exr) (e : Exr)  (h_e : Exr.ok e) (ihR : ∀ (y0 : Exr), Exr.ok y0 → y0.depth < e.depth → ∃ d σ', Ev (EE S) 25 [dR Exr.row y0] St.empty d σ' ∧ plain d = true ∧ ∃ f rs, strip d = D.agg ((Exr.rowW (rec y0) f rs).map D.c) ∧ normRows rs = (rec y0).kids.map Exr.enc) : ∃ d σ', Ev (EE S) 25 [dR Exr.row e] St.empty d σ' ∧ plain d = true ∧ ∃ f rs, strip d = D.agg ((Exr.rowW (m25_b rec e) f rs).map D.c) ∧ normRows rs = (m25_b rec e).kids.map Exr.enc := by
 unfold m25_b
 have h : Ko 0 St.empty [] [] := Ko.empty
 refine Ev.wp (E := EE S) (fn := Tryz.f25) (nt := 33) Tryz.func25 rfl rfl (Ck h fun _ _ h => Rw.bx (d := dR Exr.row e) h (Nat.le_add_right _ 0) rfl rfl rfl rfl rfl rfl fun b1 _ h => Rw.al (z := zc32) h (Nat.le_add_right _ 0) rfl rfl rfl (z32 (S := S)) rfl fun b2 _ h => Rw.nilK h (Nat.add_le_add_left (by decide : 2 ≤ 2) _) fun h => Ck h fun _ _ h => Rf fi32_0 rfl (Rl 1 h rfl (ty3.ldS rfl) (Rf fi32_1 rfl (Rl 1 h rfl (ty9.ldS rfl) (Rf fi32_2 rfl (Rl 1 h rfl (ty3.ldS rfl) (Rf fi32_3 rfl (Rw.ld (k := 1) (d := dR Val.enc e.value) h rfl rfl rfl rfl rfl (ty29.ldA rfl rfl) rfl (Rs rfl (fun _ => op_buildS (qs := [(0, dI e.kind), (1, dS e.op), (2, dI e.column), (3, dR Val.enc e.value)]) (d := D.agg [D.c (.int .i64 (Exr.mk e.kind e.op e.column e.value ([])).kind), D.c (.str (Exr.mk e.kind e.op e.column e.value ([])).op), D.c (.int .i64 (Exr.mk e.kind e.op e.column e.value ([])).column), D.c (.int .i64 (Exr.mk e.kind e.op e.column e.value ([])).value.kind), D.c (.int .i64 (Exr.mk e.kind e.op e.column e.value ([])).value.n), D.c (.float .f64 (Exr.mk e.kind e.op e.column e.value ([])).value.f), D.c (.str (Exr.mk e.kind e.op e.column e.value ([])).value.s), D.c (.sl true ((Exr.mk e.kind e.op e.column e.value ([])).kids.map Exr.enc))]) rfl (bd32_0_1_2_3 ..)) (Rw.al (z := zc32) h (Nat.le_add_right _ 9) rfl rfl rfl (z32 (S := S)) rfl fun b3 _ h => Rw.st (k := 0) (cs' := [D.c (.int .i64 (Exr.mk e.kind e.op e.column e.value ([])).kind), D.c (.str (Exr.mk e.kind e.op e.column e.value ([])).op), D.c (.int .i64 (Exr.mk e.kind e.op e.column e.value ([])).column), D.c (.int .i64 (Exr.mk e.kind e.op e.column e.value ([])).value.kind), D.c (.int .i64 (Exr.mk e.kind e.op e.column e.value ([])).value.n), D.c (.float .f64 (Exr.mk e.kind e.op e.column e.value ([])).value.f), D.c (.str (Exr.mk e.kind e.op e.column e.value ([])).value.s), D.c (.sl true ((Exr.mk e.kind e.op e.column e.value ([])).kids.map Exr.enc))]) h (Nat.le_add_right _ 0) rfl rfl rfl rfl rfl ty32.hn rfl rfl rfl fun _ h => ?_))))))))))
 replace h := h.newAc ([] : List (List C)) 8
 refine Rw.nilK h (Nat.add_le_add_left (by decide : 11 ≤ 11) _) fun h => Cs (Ck h fun _ _ h => Rg 1 rfl (Rz h fun h => Cb ?_))
 have hl1 : ∀ (rem1 i1 : Nat) (yl1_a1 : (List Exr)) (el1_a1 : D) (rl1_a1 : List (List C)) (fr : Nat → D) (σ : St), i1 + rem1 = e.kids.length → yl1_a1.length ≤ i1 → normRows rl1_a1 = yl1_a1.map Exr.enc → fr 1 = D.ptr b1 0 → fr 2 = D.ptr b2 0 → fr 3 = D.ptr b3 0 → fr 4 = dN i1 → Ko 0 σ [(b3, [D.c (.int .i64 (Exr.mk e.kind e.op e.column e.value ([])).kind), D.c (.str (Exr.mk e.kind e.op e.column e.value ([])).op), D.c (.int .i64 (Exr.mk e.kind e.op e.column e.value ([])).column), D.c (.int .i64 (Exr.mk e.kind e.op e.column e.value ([])).value.kind), D.c (.int .i64 (Exr.mk e.kind e.op e.column e.value ([])).value.n), D.c (.float .f64 (Exr.mk e.kind e.op e.column e.value ([])).value.f), D.c (.str (Exr.mk e.kind e.op e.column e.value ([])).value.s), el1_a1]), (b2, zc32), (b1, (dC Exr.row e))] [(el1_a1, rl1_a1, 8)] → Cw (EE S) cm25_b_l1 33 fr σ (fun oX gX sX => match m25_b_l1 rec e rem1 i1 yl1_a1 with | .on yl1_a1 => ∃ el1_a1 rl1_a1, oX = some (some 0) ∧ yl1_a1.length ≤ e.kids.length ∧ normRows rl1_a1 = yl1_a1.map Exr.enc ∧ gX 2 = D.ptr b2 0 ∧ gX 3 = D.ptr b3 0 ∧ Ko 0 sX [(b3, [D.c (.int .i64 (Exr.mk e.kind e.op e.column e.value ([])).kind), D.c (.str (Exr.mk e.kind e.op e.column e.value ([])).op), D.c (.int .i64 (Exr.mk e.kind e.op e.column e.value ([])).column), D.c (.int .i64 (Exr.mk e.kind e.op e.column e.value ([])).value.kind), D.c (.int .i64 (Exr.mk e.kind e.op e.column e.value ([])).value.n), D.c (.float .f64 (Exr.mk e.kind e.op e.column e.value ([])).value.f), D.c (.str (Exr.mk e.kind e.op e.column e.value ([])).value.s), el1_a1]), (b2, zc32), (b1, (dC Exr.row e))] [(el1_a1, rl1_a1, 8)] | .out r => Ou S Tryz.f25 (fun d _ => plain d = true ∧ ∃ f rs, strip d = D.agg ((Exr.rowW r f rs).map D.c) ∧ normRows rs = r.kids.map Exr.enc) oX gX sX) := by
  intro rem1
  induction rem1
  intro i1 yl1_a1 el1_a1 rl1_a1 fr σ hi nyl1_a1 kyl1_a1 e1 e2 e3 e4 h
  have hlt1 : decide ((((i1 : Nat) : Int) : Int) < ((e.kids.length : Nat) : Int)) = false := decF (by omega)
  rw [pin e1, pin e2, pin e3, pin e4]
  rw [m25_b_l1]
  exact Co (Cs (Ck h fun _ _ h => Rg 1 rfl (Rf fi32_4 rfl (Rl 2 h rfl (ty30.ldS rfl) (Re Tryz.underlying30 rfl (Rs rfl (fun _ => op_lss_int rfl rfl hlt1) (Rz h fun h => Cf rfl (Cw.exit (Exists.intro el1_a1 (Exists.intro rl1_a1 (an6 rfl (by omega) kyl1_a1 rfl rfl h)))))))))))
  rename_i rem1 ih
  intro i1 yl1_a1 el1_a1 rl1_a1 fr σ hi nyl1_a1 kyl1_a1 e1 e2 e3 e4 h
  have hlt1 : decide ((((i1 : Nat) : Int) : Int) < ((e.kids.length : Nat) : Int)) = true := decT (by omega)
  have hil1 : i1 < e.kids.length := by omega
  have hbq1 := okL_len (Exr.ok_kids h_e)
  rw [pin e1, pin e2, pin e3, pin e4]
  rw [m25_b_l1]
  refine Co (Cs (Ck h fun _ _ h => Rg 1 rfl (Rf fi32_4 rfl (Rl 2 h rfl (ty30.ldS rfl) (Re Tryz.underlying30 rfl (Rs rfl (fun _ => op_lss_int rfl rfl hlt1) (Rz h fun h => Ct rfl (Ci (Cs (Cb (Cw.regionD h fun _ _ h => Rf fi32_4 rfl (Rw.ld (k := 0) (d := el1_a1) h rfl rfl rfl rfl rfl (ty30.ldS rfl) rfl (Rf fi32_4 rfl (Rl 2 h rfl (ty30.ldS rfl) (Rg 1 rfl (Rs rfl (fun _ => op_ix (n := i1) rfl rfl rfl Tryz.underlying30 ty32.hn (at_Exr hil1) rfl) (Rs rfl (fun _ => op_ldC (d := dR Exr.row (e.kids.getD i1 default)) rfl (at_Exr hil1) (ty32.lcA rfl rfl)) ?_)))))))))))))))))
  obtain ⟨dX, sX, hev, hpl, fX, rX, hst, hnr⟩ := ihR (e.kids.getD i1 default) (okL_get (Exr.ok_kids h_e) Exr.zok i1) (Exr.depth_kid hil1)
  refine Rw.ev (das := [dR Exr.row (e.kids.getD i1 default)]) rfl rfl rfl rfl rfl n25 rfl rfl rfl hev hpl rfl ?_
  rw [show strip dX = D.agg [D.c (.int .i64 (rec (e.kids.getD i1 default)).kind), D.c (.str (rec (e.kids.getD i1 default)).op), D.c (.int .i64 (rec (e.kids.getD i1 default)).column), D.c (.int .i64 (rec (e.kids.getD i1 default)).value.kind), D.c (.int .i64 (rec (e.kids.getD i1 default)).value.n), D.c (.float .f64 (rec (e.kids.getD i1 default)).value.f), D.c (.str (rec (e.kids.getD i1 default)).value.s), D.c (.sl fX rX)] from hst]
  refine Rs rfl (fun _ => op_bs (xs := [[.int .i64 (rec (e.kids.getD i1 default)).kind, .str (rec (e.kids.getD i1 default)).op, .int .i64 (rec (e.kids.getD i1 default)).column, .int .i64 (rec (e.kids.getD i1 default)).value.kind, .int .i64 (rec (e.kids.getD i1 default)).value.n, .float .f64 (rec (e.kids.getD i1 default)).value.f, .str (rec (e.kids.getD i1 default)).value.s, .sl fX rX]]) Tryz.underlying30 ty32.hn (z32 (S := S)) rfl rfl rfl rfl rfl) ?_
  have hnl := nrm_len kyl1_a1
  refine Rw.ap (j := 0) (ys := [[.int .i64 (rec (e.kids.getD i1 default)).kind, .str (rec (e.kids.getD i1 default)).op, .int .i64 (rec (e.kids.getD i1 default)).column, .int .i64 (rec (e.kids.getD i1 default)).value.kind, .int .i64 (rec (e.kids.getD i1 default)).value.n, .float .f64 (rec (e.kids.getD i1 default)).value.f, .str (rec (e.kids.getD i1 default)).value.s, .sl fX rX]]) h (Nat.le_add_right _ 9) rfl rfl rfl rfl rfl rfl rfl rfl (room_mk Tryz.underlying30 (if32 (S := S)) (z32 (S := S)) rfl rfl rfl rfl (by simp only [List.length_cons, List.length_nil]; omega)) (heads_nrm kyl1_a1 (fun x => by rw [Exr.enc_row]; rfl)) rfl fun d1 _ h => ?_
  simp only [List.set_cons_zero] at h
  refine Rf fi32_4 rfl (Rw.stA (k := 0) (j := 0) (cs' := [D.c (.int .i64 (Exr.mk e.kind e.op e.column e.value ([])).kind), D.c (.str (Exr.mk e.kind e.op e.column e.value ([])).op), D.c (.int .i64 (Exr.mk e.kind e.op e.column e.value ([])).column), D.c (.int .i64 (Exr.mk e.kind e.op e.column e.value ([])).value.kind), D.c (.int .i64 (Exr.mk e.kind e.op e.column e.value ([])).value.n), D.c (.float .f64 (Exr.mk e.kind e.op e.column e.value ([])).value.f), D.c (.str (Exr.mk e.kind e.op e.column e.value ([])).value.s), d1]) h (Nat.le_add_right _ 1) rfl rfl rfl rfl rfl ty30.hn rfl rfl rfl fun _ h => Rw.nilK h (Nat.add_le_add_left (by decide : 12 ≤ 12) _) fun h => ?_)
  refine ⟨by kernel_rfl, ?_⟩
  exact Cw.regionK h fun _ _ h => Rg 1 rfl (Rs rfl (fun _ => op_add_int (v := ((i1 + 1 : Nat) : Int)) rfl rfl (wrap_one (by omega))) (Rg 1 rfl (Rz h fun h => ih (i1 + 1) (yl1_a1 ++ ([(rec (e.kids.getD i1 default))])) _ _ _ _ (by omega) (by simp only [List.length_append, List.length_cons, List.length_nil]; omega) (nrm_app kyl1_a1 (nrm_kid (rec (e.kids.getD i1 default)) hnr)) rfl rfl rfl rfl h)))
 refine Cw.mono (hl1 e.kids.length 0 ([]) _ _ _ _ (by omega) (by simp) rfl rfl rfl rfl rfl h) ?_
 intro oY gY sY hh
 generalize hzL1 : m25_b_l1 rec e e.kids.length 0 ([]) = zZ at hh ⊢
 rcases zZ with yl1_a1 | rZ
 dsimp only
 obtain ⟨el1_a1, rl1_a1, rfl, nyl1_a1, kyl1_a1, e2, e3, h⟩ := hh
 rw [pin e2, pin e3]
 have hbd1 := okL_len (Exr.ok_kids h_e)
 refine Ck h fun _ _ h => Rw.ld (k := 0) (d := D.agg [D.c (.int .i64 (Exr.mk e.kind e.op e.column e.value ([])).kind), D.c (.str (Exr.mk e.kind e.op e.column e.value ([])).op), D.c (.int .i64 (Exr.mk e.kind e.op e.column e.value ([])).column), D.c (.int .i64 (Exr.mk e.kind e.op e.column e.value ([])).value.kind), D.c (.int .i64 (Exr.mk e.kind e.op e.column e.value ([])).value.n), D.c (.float .f64 (Exr.mk e.kind e.op e.column e.value ([])).value.f), D.c (.str (Exr.mk e.kind e.op e.column e.value ([])).value.s), el1_a1]) h rfl rfl rfl rfl rfl (ty32.ldA rfl rfl) rfl ?_
 have hcl0 := (h.ac _ (List.mem_of_getElem? (i := 0) rfl)).plain.2.2.1
 refine Rw.st (k := 1) (d := D.agg [D.c (.int .i64 (Exr.mk e.kind e.op e.column e.value ([])).kind), D.c (.str (Exr.mk e.kind e.op e.column e.value ([])).op), D.c (.int .i64 (Exr.mk e.kind e.op e.column e.value ([])).column), D.c (.int .i64 (Exr.mk e.kind e.op e.column e.value ([])).value.kind), D.c (.int .i64 (Exr.mk e.kind e.op e.column e.value ([])).value.n), D.c (.float .f64 (Exr.mk e.kind e.op e.column e.value ([])).value.f), D.c (.str (Exr.mk e.kind e.op e.column e.value ([])).value.s), el1_a1]) (cs' := [D.c (.int .i64 (Exr.mk e.kind e.op e.column e.value ([])).kind), D.c (.str (Exr.mk e.kind e.op e.column e.value ([])).op), D.c (.int .i64 (Exr.mk e.kind e.op e.column e.value ([])).column), D.c (.int .i64 (Exr.mk e.kind e.op e.column e.value ([])).value.kind), D.c (.int .i64 (Exr.mk e.kind e.op e.column e.value ([])).value.n), D.c (.float .f64 (Exr.mk e.kind e.op e.column e.value ([])).value.f), D.c (.str (Exr.mk e.kind e.op e.column e.value ([])).value.s), el1_a1]) h (Nat.le_add_right _ 1) rfl rfl rfl rfl rfl ty32.hn rfl (by simp only [D.cells, List.length_cons, List.length_nil, List.all_cons, List.all_nil, hcl0]; rfl) rfl fun _ h => Rw.nilK h (Nat.add_le_add_left (by decide : 2 ≤ 2) _) fun h => Cr ?_
 obtain ⟨_, hfp0, _, ff0, _, hfs0, _⟩ := (h.ac _ (List.mem_of_getElem? (i := 0) rfl)).plain
 exact ⟨.inr rfl, (D.agg [D.c (.int .i64 (Exr.mk e.kind e.op e.column e.value ([])).kind), D.c (.str (Exr.mk e.kind e.op e.column e.value ([])).op), D.c (.int .i64 (Exr.mk e.kind e.op e.column e.value ([])).column), D.c (.int .i64 (Exr.mk e.kind e.op e.column e.value ([])).value.kind), D.c (.int .i64 (Exr.mk e.kind e.op e.column e.value ([])).value.n), D.c (.float .f64 (Exr.mk e.kind e.op e.column e.value ([])).value.f), D.c (.str (Exr.mk e.kind e.op e.column e.value ([])).value.s), el1_a1]), (res_cell (k := 1) h rfl rfl (ty32.ldA rfl rfl)), (by simp only [plain, plain1, List.all_cons, List.all_nil, hfp0]; rfl), ff0, _, (by simp only [strip, strip1, List.map_cons, List.map_nil, hfs0]; rfl), kyl1_a1⟩
 obtain ⟨rfl, w⟩ := hh
 exact ⟨.inr rfl, w⟩
def m25 : Nat → Exr → Exr
 | 0, _ => default
 | nZ + 1, e => m25_b (m25 nZ) e
theorem m25_all  (n25 : S 25 = none) : ∀ (nZ : Nat) (e : Exr) (h_e : Exr.ok e), e.depth < nZ → ∃ d σ', Ev (EE S) 25 [dR Exr.row e] St.empty d σ' ∧ plain d = true ∧ ∃ f rs, strip d = D.agg ((Exr.rowW (m25 nZ e) f rs).map D.c) ∧ normRows rs = (m25 nZ e).kids.map Exr.enc
 | 0, e, _, hd => absurd hd (by omega)
 | nZ + 1, e, h_e, hd => m25_b_ev n25 (m25 nZ) e h_e  (fun y0 g0 hd' => m25_all n25 nZ y0 g0  (by omega))
def m25r (e : Exr) : Exr := m25 (e.depth + 1) e
theorem m25r_ev  (n25 : S 25 = none) (e : Exr) (h_e : Exr.ok e) : ∃ d σ', Ev (EE S) 25 [dR Exr.row e] St.empty d σ' ∧ plain d = true ∧ ∃ f rs, strip d = D.agg ((Exr.rowW (m25r e) f rs).map D.c) ∧ normRows rs = (m25r e).kids.map Exr.enc := m25_all n25 _ e h_e  (Nat.lt_succ_self _)
noncomputable def H25 : List D → R D := mkH (L1 (dR Exr.row)) (fun x => Exr.ok x) (fun x => dR Exr.row (m25r x))
theorem i25 : InjE (L1 (dR Exr.row)) := j1 (jR Exr.rinj)
noncomputable def cm11_l1 : Code := (cl (cr (cl (cr (cr (bodyOf Tryz.f11))))))
def m11_l1 (t : Tbl) : Nat → Nat → (List Col) → Lo (List Col) Tbl
 | 0, _, yl1_a1 => .on yl1_a1
 | rem1 + 1, i1, yl1_a1 => m11_l1 t rem1 (i1 + 1) (yl1_a1 ++ ([(t.columns.getD i1 default)]))
noncomputable def cm11_l2 : Code := (cl (cr (cl (cr (cr (cr (bodyOf Tryz.f11)))))))
def m11_l2 (t : Tbl) (yl1_a1 : (List Col)) : Nat → Nat → (List Idx) → Lo (List Idx) Tbl
 | 0, _, yl2_a2 => .on yl2_a2
 | rem2 + 1, i2, yl2_a2 => m11_l2 t yl1_a1 rem2 (i2 + 1) (yl2_a2 ++ ([(⟨((t.indexes.getD i2 default).name), (m26 ((t.indexes.getD i2 default).columns)), ((t.indexes.getD i2 default).unique)⟩ : Idx)]))
noncomputable def cm11_l3 : Code := (cl (cr (cl (cr (cr (cr (cr (bodyOf Tryz.f11))))))))
def m11_l3 (t : Tbl) (yl1_a1 : (List Col)) (yl2_a2 : (List Idx)) : Nat → Nat → (List Rfr) → Lo (List Rfr) Tbl
 | 0, _, yl3_a3 => .on yl3_a3
 | rem3 + 1, i3, yl3_a3 => m11_l3 t yl1_a1 yl2_a2 rem3 (i3 + 1) (yl3_a3 ++ ([(⟨(m26 ((t.refs.getD i3 default).columns)), ((t.refs.getD i3 default).table)⟩ : Rfr)]))
def m11 (t : Tbl) : Tbl := (match m11_l1 t t.columns.length 0 ([]) with | .out r => r | .on yl1_a1 => (match m11_l2 t yl1_a1 t.indexes.length 0 ([]) with | .out r => r | .on yl2_a2 => (match m11_l3 t yl1_a1 yl2_a2 t.refs.length 0 ([]) with | .out r => r | .on yl3_a3 => (⟨(⟨(⟨(⟨t.name, [], (m26 t.key), [], []⟩ : Tbl).name, yl1_a1, (⟨t.name, [], (m26 t.key), [], []⟩ : Tbl).key, (⟨t.name, [], (m26 t.key), [], []⟩ : Tbl).indexes, (⟨t.name, [], (m26 t.key), [], []⟩ : Tbl).refs⟩ : Tbl).name, (⟨(⟨t.name, [], (m26 t.key), [], []⟩ : Tbl).name, yl1_a1, (⟨t.name, [], (m26 t.key), [], []⟩ : Tbl).key, (⟨t.name, [], (m26 t.key), [], []⟩ : Tbl).indexes, (⟨t.name, [], (m26 t.key), [], []⟩ : Tbl).refs⟩ : Tbl).columns, (⟨(⟨t.name, [], (m26 t.key), [], []⟩ : Tbl).name, yl1_a1, (⟨t.name, [], (m26 t.key), [], []⟩ : Tbl).key, (⟨t.name, [], (m26 t.key), [], []⟩ : Tbl).indexes, (⟨t.name, [], (m26 t.key), [], []⟩ : Tbl).refs⟩ : Tbl).key, yl2_a2, (⟨(⟨t.name, [], (m26 t.key), [], []⟩ : Tbl).name, yl1_a1, (⟨t.name, [], (m26 t.key), [], []⟩ : Tbl).key, (⟨t.name, [], (m26 t.key), [], []⟩ : Tbl).indexes, (⟨t.name, [], (m26 t.key), [], []⟩ : Tbl).refs⟩ : Tbl).refs⟩ : Tbl).name, (⟨(⟨(⟨t.name, [], (m26 t.key), [], []⟩ : Tbl).name, yl1_a1, (⟨t.name, [], (m26 t.key), [], []⟩ : Tbl).key, (⟨t.name, [], (m26 t.key), [], []⟩ : Tbl).indexes, (⟨t.name, [], (m26 t.key), [], []⟩ : Tbl).refs⟩ : Tbl).name, (⟨(⟨t.name, [], (m26 t.key), [], []⟩ : Tbl).name, yl1_a1, (⟨t.name, [], (m26 t.key), [], []⟩ : Tbl).key, (⟨t.name, [], (m26 t.key), [], []⟩ : Tbl).indexes, (⟨t.name, [], (m26 t.key), [], []⟩ : Tbl).refs⟩ : Tbl).columns, (⟨(⟨t.name, [], (m26 t.key), [], []⟩ : Tbl).name, yl1_a1, (⟨t.name, [], (m26 t.key), [], []⟩ : Tbl).key, (⟨t.name, [], (m26 t.key), [], []⟩ : Tbl).indexes, (⟨t.name, [], (m26 t.key), [], []⟩ : Tbl).refs⟩ : Tbl).key, yl2_a2, (⟨(⟨t.name, [], (m26 t.key), [], []⟩ : Tbl).name, yl1_a1, (⟨t.name, [], (m26 t.key), [], []⟩ : Tbl).key, (⟨t.name, [], (m26 t.key), [], []⟩ : Tbl).indexes, (⟨t.name, [], (m26 t.key), [], []⟩ : Tbl).refs⟩ : Tbl).refs⟩ : Tbl).columns, (⟨(⟨(⟨t.name, [], (m26 t.key), [], []⟩ : Tbl).name, yl1_a1, (⟨t.name, [], (m26 t.key), [], []⟩ : Tbl).key, (⟨t.name, [], (m26 t.key), [], []⟩ : Tbl).indexes, (⟨t.name, [], (m26 t.key), [], []⟩ : Tbl).refs⟩ : Tbl).name, (⟨(⟨t.name, [], (m26 t.key), [], []⟩ : Tbl).name, yl1_a1, (⟨t.name, [], (m26 t.key), [], []⟩ : Tbl).key, (⟨t.name, [], (m26 t.key), [], []⟩ : Tbl).indexes, (⟨t.name, [], (m26 t.key), [], []⟩ : Tbl).refs⟩ : Tbl).columns, (⟨(⟨t.name, [], (m26 t.key), [], []⟩ : Tbl).name, yl1_a1, (⟨t.name, [], (m26 t.key), [], []⟩ : Tbl).key, (⟨t.name, [], (m26 t.key), [], []⟩ : Tbl).indexes, (⟨t.name, [], (m26 t.key), [], []⟩ : Tbl).refs⟩ : Tbl).key, yl2_a2, (⟨(⟨t.name, [], (m26 t.key), [], []⟩ : Tbl).name, yl1_a1, (⟨t.name, [], (m26 t.key), [], []⟩ : Tbl).key, (⟨t.name, [], (m26 t.key), [], []⟩ : Tbl).indexes, (⟨t.name, [], (m26 t.key), [], []⟩ : Tbl).refs⟩ : Tbl).refs⟩ : Tbl).key, (⟨(⟨(⟨t.name, [], (m26 t.key), [], []⟩ : Tbl).name, yl1_a1, (⟨t.name, [], (m26 t.key), [], []⟩ : Tbl).key, (⟨t.name, [], (m26 t.key), [], []⟩ : Tbl).indexes, (⟨t.name, [], (m26 t.key), [], []⟩ : Tbl).refs⟩ : Tbl).name, (⟨(⟨t.name, [], (m26 t.key), [], []⟩ : Tbl).name, yl1_a1, (⟨t.name, [], (m26 t.key), [], []⟩ : Tbl).key, (⟨t.name, [], (m26 t.key), [], []⟩ : Tbl).indexes, (⟨t.name, [], (m26 t.key), [], []⟩ : Tbl).refs⟩ : Tbl).columns, (⟨(⟨t.name, [], (m26 t.key), [], []⟩ : Tbl).name, yl1_a1, (⟨t.name, [], (m26 t.key), [], []⟩ : Tbl).key, (⟨t.name, [], (m26 t.key), [], []⟩ : Tbl).indexes, (⟨t.name, [], (m26 t.key), [], []⟩ : Tbl).refs⟩ : Tbl).key, yl2_a2, (⟨(⟨t.name, [], (m26 t.key), [], []⟩ : Tbl).name, yl1_a1, (⟨t.name, [], (m26 t.key), [], []⟩ : Tbl).key, (⟨t.name, [], (m26 t.key), [], []⟩ : Tbl).indexes, (⟨t.name, [], (m26 t.key), [], []⟩ : Tbl).refs⟩ : Tbl).refs⟩ : Tbl).indexes, yl3_a3⟩ : Tbl))))
theorem m11_ev  (c26 : S 26 = some H26) (t : Tbl)  (h_t : Tbl.ok t) : ∃ d σ', Ev (EE S) 11 [dR Tbl.enc t] St.empty d σ' ∧ plain d = true ∧ nrmT (strip d) = dR Tbl.enc (m11 t) := by
 unfold m11
 have h : Ko 0 St.empty [] [] := Ko.empty
 refine Ev.wp (E := EE S) (fn := Tryz.f11) (nt := 89) Tryz.func11 rfl rfl (Ck h fun _ _ h => Rw.bx (d := dR Tbl.enc t) h (Nat.le_add_right _ 0) rfl rfl rfl rfl rfl rfl fun b1 _ h => Rw.al (z := zc39) h (Nat.le_add_right _ 0) rfl rfl rfl (z39 (S := S)) rfl fun b2 _ h => Rw.nilK h (Nat.add_le_add_left (by decide : 2 ≤ 2) _) fun h => Cs (Cw.regionT 6 zc39 h fun n0 _ τ hτ hT h => Rw3.s rfl (fun _ => op_fp fi39_0 rfl rfl) (Rw3.l (k := 1) h (hT _ _ (h.box _ (List.mem_of_getElem? (i := 1) rfl)).2) rfl rfl rfl (ty9.ldS rfl) (Rw3.s rfl (fun _ => op_fp fi39_2 rfl rfl) (Rw3.l (k := 1) h (hT _ _ (h.box _ (List.mem_of_getElem? (i := 1) rfl)).2) rfl rfl rfl (ty23.ldS rfl) (Rw3.s rfl (fun _ => op_call (d := dL encI (m26 t.key)) rfl rfl c26 rfl (He i26 t.key (Tbl.ok_key h_t) rfl)) (Rw3.s rfl (fun _ => op_buildS (qs := [(0, dS t.name), (2, dL encI (m26 t.key))]) (d := D.agg [D.c (.str (⟨t.name, [], (m26 t.key), [], []⟩ : Tbl).name), D.c (.sl true ((⟨t.name, [], (m26 t.key), [], []⟩ : Tbl).columns.map Col.enc)), D.c (.sl false ((⟨t.name, [], (m26 t.key), [], []⟩ : Tbl).key.map encI)), D.c (.sl true ((⟨t.name, [], (m26 t.key), [], []⟩ : Tbl).indexes.map Idx.enc)), D.c (.sl true ((⟨t.name, [], (m26 t.key), [], []⟩ : Tbl).refs.map Rfr.enc))]) rfl (bd39_0_2 ..)) (Rw3.al h (Nat.le_add_right _ 6) rfl rfl (z39 (S := S)) fun b3 _ _ hσ h => Rw3.st (k := 0) (cs' := [D.c (.str (⟨t.name, [], (m26 t.key), [], []⟩ : Tbl).name), D.c (.sl true ((⟨t.name, [], (m26 t.key), [], []⟩ : Tbl).columns.map Col.enc)), D.c (.sl false ((⟨t.name, [], (m26 t.key), [], []⟩ : Tbl).key.map encI)), D.c (.sl true ((⟨t.name, [], (m26 t.key), [], []⟩ : Tbl).indexes.map Idx.enc)), D.c (.sl true ((⟨t.name, [], (m26 t.key), [], []⟩ : Tbl).refs.map Rfr.enc))]) h (Nat.le_add_right _ 0) rfl rfl rfl rfl rfl ty39.hn rfl rfl rfl fun _ h => ?_))))))))
 replace h := h.newAc (([] : (List Col)).map Col.enc) 7
 replace h := h.newAc (([] : (List Idx)).map Idx.enc) 3
 replace h := h.newAc (([] : (List Rfr)).map Rfr.enc) 2
 refine Rw3.nilK h (Nat.add_le_add_left (by decide : 8 ≤ 8) _) fun h => ?_
 refine ⟨by kernel_rfl, congrArg some (hσ.trans hτ.symm), ?_⟩
 refine Cs (Ck h fun _ _ h => Rg 1 rfl (Rz h fun h => Cb ?_))
 have hl1 : ∀ (rem1 i1 : Nat) (yl1_a1 : (List Col)) (el1_a1 : D) (fr : Nat → D) (σ : St), i1 + rem1 = t.columns.length → yl1_a1.length ≤ i1 → (∀ y ∈ yl1_a1, Col.ok y) → fr 1 = D.ptr b1 0 → fr 2 = D.ptr b2 0 → fr 3 = D.ptr b3 0 → fr 4 = dN i1 → Ko 0 σ [(b3, [D.c (.str (⟨t.name, [], (m26 t.key), [], []⟩ : Tbl).name), el1_a1, D.c (.sl false ((⟨t.name, [], (m26 t.key), [], []⟩ : Tbl).key.map encI)), (D.c (.sl true (([] : (List Idx)).map Idx.enc))), (D.c (.sl true (([] : (List Rfr)).map Rfr.enc)))]), (b2, zc39), (b1, (dC Tbl.enc t))] [((D.c (.sl true (([] : (List Rfr)).map Rfr.enc))), ([]).map Rfr.enc, 2), ((D.c (.sl true (([] : (List Idx)).map Idx.enc))), ([]).map Idx.enc, 3), (el1_a1, (yl1_a1).map Col.enc, 7)] → Cw (EE S) cm11_l1 89 fr σ (fun oX gX sX => match m11_l1 t rem1 i1 yl1_a1 with | .on yl1_a1 => ∃ el1_a1, oX = some (some 0) ∧ yl1_a1.length ≤ t.columns.length ∧ (∀ y ∈ yl1_a1, Col.ok y) ∧ gX 1 = D.ptr b1 0 ∧ gX 2 = D.ptr b2 0 ∧ gX 3 = D.ptr b3 0 ∧ Ko 0 sX [(b3, [D.c (.str (⟨t.name, [], (m26 t.key), [], []⟩ : Tbl).name), el1_a1, D.c (.sl false ((⟨t.name, [], (m26 t.key), [], []⟩ : Tbl).key.map encI)), (D.c (.sl true (([] : (List Idx)).map Idx.enc))), (D.c (.sl true (([] : (List Rfr)).map Rfr.enc)))]), (b2, zc39), (b1, (dC Tbl.enc t))] [((D.c (.sl true (([] : (List Rfr)).map Rfr.enc))), ([]).map Rfr.enc, 2), ((D.c (.sl true (([] : (List Idx)).map Idx.enc))), ([]).map Idx.enc, 3), (el1_a1, (yl1_a1).map Col.enc, 7)] | .out r => Ou S Tryz.f11 (fun d _ => plain d = true ∧ nrmT (strip d) = dR Tbl.enc r) oX gX sX) := by
  intro rem1
  induction rem1
  intro i1 yl1_a1 el1_a1 fr σ hi nyl1_a1 myl1_a1 e1 e2 e3 e4 h
  have hlt1 : decide ((((i1 : Nat) : Int) : Int) < ((t.columns.length : Nat) : Int)) = false := decF (by omega)
  rw [pin e1, pin e2, pin e3, pin e4]
  rw [m11_l1]
  exact Co (Cs (Ck h fun _ _ h => Rg 1 rfl (Rf fi39_1 rfl (Rl 2 h rfl (ty35.ldS rfl) (Re Tryz.underlying35 rfl (Rs rfl (fun _ => op_lss_int rfl rfl hlt1) (Rz h fun h => Cf rfl (Cw.exit (Exists.intro el1_a1 (an7 rfl (by omega) myl1_a1 rfl rfl rfl h))))))))))
  rename_i rem1 ih
  intro i1 yl1_a1 el1_a1 fr σ hi nyl1_a1 myl1_a1 e1 e2 e3 e4 h
  have hlt1 : decide ((((i1 : Nat) : Int) : Int) < ((t.columns.length : Nat) : Int)) = true := decT (by omega)
  have hil1 : i1 < t.columns.length := by omega
  have hbq1 := okL_len (Tbl.ok_columns h_t)
  rw [pin e1, pin e2, pin e3, pin e4]
  rw [m11_l1]
  refine Co (Cs (Ck h fun _ _ h => Rg 1 rfl (Rf fi39_1 rfl (Rl 2 h rfl (ty35.ldS rfl) (Re Tryz.underlying35 rfl (Rs rfl (fun _ => op_lss_int rfl rfl hlt1) (Rz h fun h => Ct rfl (Ci (Cs (Cb (Cw.regionD h fun _ _ h => Rf fi39_1 rfl (Rw.ld (k := 0) (d := el1_a1) h rfl rfl rfl rfl rfl (ty35.ldS rfl) rfl (Rf fi39_1 rfl (Rl 2 h rfl (ty35.ldS rfl) (Rg 1 rfl (Rs rfl (fun _ => op_ix (n := i1) rfl rfl rfl Tryz.underlying35 ty65.hn (at_map hil1) rfl) (Rs rfl (fun _ => op_ldC (d := dR Col.enc (t.columns.getD i1 default)) rfl (at_map hil1) (ty65.lcA rfl rfl)) (Rs rfl (fun _ => op_bs (xs := ([(t.columns.getD i1 default)] : List Col).map Col.enc) Tryz.underlying35 ty65.hn (z65 (S := S)) rfl rfl rfl rfl rfl) (Rw.ap (j := 2) (ys := ([(t.columns.getD i1 default)]).map Col.enc) h (Nat.le_add_right _ 8) rfl rfl rfl rfl rfl rfl rfl rfl (room_mk Tryz.underlying35 (if65 (S := S)) (z65 (S := S)) rfl rfl rfl rfl (by simp only [List.length_map, List.length_cons, List.length_nil]; omega)) (heads_map _ (fun _ => rfl)) rfl fun d1 _ h => ?_)))))))))))))))))))
  simp only [List.set_cons_zero, List.set_cons_succ, ← List.map_append] at h
  refine Rf fi39_1 rfl (Rw.stA (k := 0) (j := 2) (cs' := [D.c (.str (⟨t.name, [], (m26 t.key), [], []⟩ : Tbl).name), d1, D.c (.sl false ((⟨t.name, [], (m26 t.key), [], []⟩ : Tbl).key.map encI)), (D.c (.sl true (([] : (List Idx)).map Idx.enc))), (D.c (.sl true (([] : (List Rfr)).map Rfr.enc)))]) h (Nat.le_add_right _ 1) rfl rfl rfl rfl rfl ty35.hn rfl rfl rfl fun _ h => Rw.nilK h (Nat.add_le_add_left (by decide : 11 ≤ 11) _) fun h => ?_)
  refine ⟨by kernel_rfl, ?_⟩
  exact Cw.regionK h fun _ _ h => Rg 1 rfl (Rs rfl (fun _ => op_add_int (v := ((i1 + 1 : Nat) : Int)) rfl rfl (wrap_one (by omega))) (Rg 1 rfl (Rz h fun h => ih (i1 + 1) (yl1_a1 ++ ([(t.columns.getD i1 default)])) _ _ _ (by omega) (by simp only [List.length_append, List.length_cons, List.length_nil]; omega) (all_snoc myl1_a1 (okL_get (Tbl.ok_columns h_t) Col.zok i1)) rfl rfl rfl rfl h)))
 refine Cw.mono (hl1 t.columns.length 0 ([]) _ _ _ (by omega) (by simp) (by simp) rfl rfl rfl rfl h) ?_
 intro oY gY sY hh
 generalize hzL1 : m11_l1 t t.columns.length 0 ([]) = zZ at hh ⊢
 rcases zZ with yl1_a1 | rZ
 dsimp only
 obtain ⟨el1_a1, rfl, nyl1_a1, myl1_a1, e1, e2, e3, h⟩ := hh
 rw [pin e1, pin e2, pin e3]
 have hbd1 := okL_len (Tbl.ok_columns h_t)
 refine Cs (Ck h fun _ _ h => Rg 1 rfl (Rz h fun h => Cb ?_))
 have hl2 : ∀ (rem2 i2 : Nat) (yl2_a2 : (List Idx)) (el2_a2 : D) (fr : Nat → D) (σ : St), i2 + rem2 = t.indexes.length → yl2_a2.length ≤ i2 → (∀ y ∈ yl2_a2, Idx.ok y) → fr 1 = D.ptr b1 0 → fr 2 = D.ptr b2 0 → fr 3 = D.ptr b3 0 → fr 5 = dN i2 → Ko 0 σ [(b3, [D.c (.str (⟨t.name, [], (m26 t.key), [], []⟩ : Tbl).name), el1_a1, D.c (.sl false ((⟨t.name, [], (m26 t.key), [], []⟩ : Tbl).key.map encI)), el2_a2, (D.c (.sl true (([] : (List Rfr)).map Rfr.enc)))]), (b2, zc39), (b1, (dC Tbl.enc t))] [((D.c (.sl true (([] : (List Rfr)).map Rfr.enc))), ([]).map Rfr.enc, 2), (el2_a2, (yl2_a2).map Idx.enc, 3), (el1_a1, (yl1_a1).map Col.enc, 7)] → Cw (EE S) cm11_l2 89 fr σ (fun oX gX sX => match m11_l2 t yl1_a1 rem2 i2 yl2_a2 with | .on yl2_a2 => ∃ el2_a2, oX = some (some 2) ∧ yl2_a2.length ≤ t.indexes.length ∧ (∀ y ∈ yl2_a2, Idx.ok y) ∧ gX 1 = D.ptr b1 0 ∧ gX 2 = D.ptr b2 0 ∧ gX 3 = D.ptr b3 0 ∧ Ko 0 sX [(b3, [D.c (.str (⟨t.name, [], (m26 t.key), [], []⟩ : Tbl).name), el1_a1, D.c (.sl false ((⟨t.name, [], (m26 t.key), [], []⟩ : Tbl).key.map encI)), el2_a2, (D.c (.sl true (([] : (List Rfr)).map Rfr.enc)))]), (b2, zc39), (b1, (dC Tbl.enc t))] [((D.c (.sl true (([] : (List Rfr)).map Rfr.enc))), ([]).map Rfr.enc, 2), (el2_a2, (yl2_a2).map Idx.enc, 3), (el1_a1, (yl1_a1).map Col.enc, 7)] | .out r => Ou S Tryz.f11 (fun d _ => plain d = true ∧ nrmT (strip d) = dR Tbl.enc r) oX gX sX) := by
  intro rem2
  induction rem2
  intro i2 yl2_a2 el2_a2 fr σ hi nyl2_a2 myl2_a2 e1 e2 e3 e5 h
  have hlt2 : decide ((((i2 : Nat) : Int) : Int) < ((t.indexes.length : Nat) : Int)) = false := decF (by omega)
  rw [pin e1, pin e2, pin e3, pin e5]
  rw [m11_l2]
  exact Co (Cs (Ck h fun _ _ h => Rg 1 rfl (Rf fi39_3 rfl (Rl 2 h rfl (ty36.ldS rfl) (Re Tryz.underlying36 rfl (Rs rfl (fun _ => op_lss_int rfl rfl hlt2) (Rz h fun h => Cf rfl (Cw.exit (Exists.intro el2_a2 (an7 rfl (by omega) myl2_a2 rfl rfl rfl h))))))))))
  rename_i rem2 ih
  intro i2 yl2_a2 el2_a2 fr σ hi nyl2_a2 myl2_a2 e1 e2 e3 e5 h
  have hlt2 : decide ((((i2 : Nat) : Int) : Int) < ((t.indexes.length : Nat) : Int)) = true := decT (by omega)
  have hil2 : i2 < t.indexes.length := by omega
  have hbq2 := okL_len (Tbl.ok_indexes h_t)
  rw [pin e1, pin e2, pin e3, pin e5]
  rw [m11_l2]
  refine Co (Cs (Ck h fun _ _ h => Rg 1 rfl (Rf fi39_3 rfl (Rl 2 h rfl (ty36.ldS rfl) (Re Tryz.underlying36 rfl (Rs rfl (fun _ => op_lss_int rfl rfl hlt2) (Rz h fun h => Ct rfl (Ci (Cs (Cb (Cw.regionD h fun _ _ h => Rf fi39_3 rfl (Rw.ld (k := 0) (d := el2_a2) h rfl rfl rfl rfl rfl (ty36.ldS rfl) rfl (Rf fi39_3 rfl (Rl 2 h rfl (ty36.ldS rfl) (Rg 1 rfl (Rs rfl (fun _ => op_ix (n := i2) rfl rfl rfl Tryz.underlying36 ty72.hn (at_map hil2) rfl) (Rs rfl (fun _ => op_fr fi72_0 rfl rfl) (Rc (at_map hil2) ty9 rfl (Rf fi39_3 rfl (Rl 2 h rfl (ty36.ldS rfl) (Rg 1 rfl (Rs rfl (fun _ => op_ix (n := i2) rfl rfl rfl Tryz.underlying36 ty72.hn (at_map hil2) rfl) (Rs rfl (fun _ => op_fr fi72_1 rfl rfl) (Rc (at_map hil2) ty23 rfl (Rs rfl (fun _ => op_call (d := dL encI (m26 ((t.indexes.getD i2 default).columns))) rfl rfl c26 rfl (He i26 ((t.indexes.getD i2 default).columns) (Idx.ok_columns (okL_get (Tbl.ok_indexes h_t) Idx.zok i2)) rfl)) (Rf fi39_3 rfl (Rl 2 h rfl (ty36.ldS rfl) (Rg 1 rfl (Rs rfl (fun _ => op_ix (n := i2) rfl rfl rfl Tryz.underlying36 ty72.hn (at_map hil2) rfl) (Rs rfl (fun _ => op_fr fi72_2 rfl rfl) (Rc (at_map hil2) ty4 rfl (Rs rfl (fun _ => op_buildS (qs := [(0, dS ((t.indexes.getD i2 default).name)), (1, dL encI (m26 ((t.indexes.getD i2 default).columns))), (2, dB ((t.indexes.getD i2 default).unique))]) (d := dR Idx.enc (⟨((t.indexes.getD i2 default).name), (m26 ((t.indexes.getD i2 default).columns)), ((t.indexes.getD i2 default).unique)⟩ : Idx)) rfl (bd72_0_1_2 ..)) (Rs rfl (fun _ => op_bs (xs := ([(⟨((t.indexes.getD i2 default).name), (m26 ((t.indexes.getD i2 default).columns)), ((t.indexes.getD i2 default).unique)⟩ : Idx)] : List Idx).map Idx.enc) Tryz.underlying36 ty72.hn (z72 (S := S)) rfl rfl rfl rfl rfl) (Rw.ap (j := 1) (ys := ([(⟨((t.indexes.getD i2 default).name), (m26 ((t.indexes.getD i2 default).columns)), ((t.indexes.getD i2 default).unique)⟩ : Idx)]).map Idx.enc) h (Nat.le_add_right _ 23) rfl rfl rfl rfl rfl rfl rfl rfl (room_mk Tryz.underlying36 (if72 (S := S)) (z72 (S := S)) rfl rfl rfl rfl (by simp only [List.length_map, List.length_cons, List.length_nil]; omega)) (heads_map _ (fun _ => rfl)) rfl fun d2 _ h => ?_))))))))))))))))))))))))))))))))))
  simp only [List.set_cons_zero, List.set_cons_succ, ← List.map_append] at h
  refine Rf fi39_3 rfl (Rw.stA (k := 0) (j := 1) (cs' := [D.c (.str (⟨t.name, [], (m26 t.key), [], []⟩ : Tbl).name), el1_a1, D.c (.sl false ((⟨t.name, [], (m26 t.key), [], []⟩ : Tbl).key.map encI)), d2, (D.c (.sl true (([] : (List Rfr)).map Rfr.enc)))]) h (Nat.le_add_right _ 1) rfl rfl rfl rfl rfl ty36.hn rfl rfl rfl fun _ h => Rw.nilK h (Nat.add_le_add_left (by decide : 26 ≤ 26) _) fun h => ?_)
  refine ⟨by kernel_rfl, ?_⟩
  exact Cw.regionK h fun _ _ h => Rg 1 rfl (Rs rfl (fun _ => op_add_int (v := ((i2 + 1 : Nat) : Int)) rfl rfl (wrap_one (by omega))) (Rg 1 rfl (Rz h fun h => ih (i2 + 1) (yl2_a2 ++ ([(⟨((t.indexes.getD i2 default).name), (m26 ((t.indexes.getD i2 default).columns)), ((t.indexes.getD i2 default).unique)⟩ : Idx)])) _ _ _ (by omega) (by simp only [List.length_append, List.length_cons, List.length_nil]; omega) (all_snoc myl2_a2 (⟨(have h := (Idx.ok_name (okL_get (Tbl.ok_indexes h_t) Idx.zok i2)); h), (have h := (m26_ok (Idx.ok_columns (okL_get (Tbl.ok_indexes h_t) Idx.zok i2))); h)⟩ : Idx.ok (⟨((t.indexes.getD i2 default).name), (m26 ((t.indexes.getD i2 default).columns)), ((t.indexes.getD i2 default).unique)⟩ : Idx))) rfl rfl rfl rfl h)))
 refine Cw.mono (hl2 t.indexes.length 0 ([]) _ _ _ (by omega) (by simp) (by simp) rfl rfl rfl rfl h) ?_
 intro oY gY sY hh
 generalize hzL2 : m11_l2 t yl1_a1 t.indexes.length 0 ([]) = zZ at hh ⊢
 rcases zZ with yl2_a2 | rZ
 dsimp only
 obtain ⟨el2_a2, rfl, nyl2_a2, myl2_a2, e1, e2, e3, h⟩ := hh
 rw [pin e1, pin e2, pin e3]
 have hbd2 := okL_len (Tbl.ok_indexes h_t)
 refine Cs (Ck h fun _ _ h => Rg 1 rfl (Rz h fun h => Cb ?_))
 have hl3 : ∀ (rem3 i3 : Nat) (yl3_a3 : (List Rfr)) (el3_a3 : D) (fr : Nat → D) (σ : St), i3 + rem3 = t.refs.length → yl3_a3.length ≤ i3 → (∀ y ∈ yl3_a3, Rfr.ok y) → fr 1 = D.ptr b1 0 → fr 2 = D.ptr b2 0 → fr 3 = D.ptr b3 0 → fr 6 = dN i3 → Ko 0 σ [(b3, [D.c (.str (⟨t.name, [], (m26 t.key), [], []⟩ : Tbl).name), el1_a1, D.c (.sl false ((⟨t.name, [], (m26 t.key), [], []⟩ : Tbl).key.map encI)), el2_a2, el3_a3]), (b2, zc39), (b1, (dC Tbl.enc t))] [(el3_a3, (yl3_a3).map Rfr.enc, 2), (el2_a2, (yl2_a2).map Idx.enc, 3), (el1_a1, (yl1_a1).map Col.enc, 7)] → Cw (EE S) cm11_l3 89 fr σ (fun oX gX sX => match m11_l3 t yl1_a1 yl2_a2 rem3 i3 yl3_a3 with | .on yl3_a3 => ∃ el3_a3, oX = some (some 4) ∧ yl3_a3.length ≤ t.refs.length ∧ (∀ y ∈ yl3_a3, Rfr.ok y) ∧ gX 2 = D.ptr b2 0 ∧ gX 3 = D.ptr b3 0 ∧ Ko 0 sX [(b3, [D.c (.str (⟨t.name, [], (m26 t.key), [], []⟩ : Tbl).name), el1_a1, D.c (.sl false ((⟨t.name, [], (m26 t.key), [], []⟩ : Tbl).key.map encI)), el2_a2, el3_a3]), (b2, zc39), (b1, (dC Tbl.enc t))] [(el3_a3, (yl3_a3).map Rfr.enc, 2), (el2_a2, (yl2_a2).map Idx.enc, 3), (el1_a1, (yl1_a1).map Col.enc, 7)] | .out r => Ou S Tryz.f11 (fun d _ => plain d = true ∧ nrmT (strip d) = dR Tbl.enc r) oX gX sX) := by
  intro rem3
  induction rem3
  intro i3 yl3_a3 el3_a3 fr σ hi nyl3_a3 myl3_a3 e1 e2 e3 e6 h
  have hlt3 : decide ((((i3 : Nat) : Int) : Int) < ((t.refs.length : Nat) : Int)) = false := decF (by omega)
  rw [pin e1, pin e2, pin e3, pin e6]
  rw [m11_l3]
  exact Co (Cs (Ck h fun _ _ h => Rg 1 rfl (Rf fi39_4 rfl (Rl 2 h rfl (ty37.ldS rfl) (Re Tryz.underlying37 rfl (Rs rfl (fun _ => op_lss_int rfl rfl hlt3) (Rz h fun h => Cf rfl (Cw.exit (Exists.intro el3_a3 (an6 rfl (by omega) myl3_a3 rfl rfl h))))))))))
  rename_i rem3 ih
  intro i3 yl3_a3 el3_a3 fr σ hi nyl3_a3 myl3_a3 e1 e2 e3 e6 h
  have hlt3 : decide ((((i3 : Nat) : Int) : Int) < ((t.refs.length : Nat) : Int)) = true := decT (by omega)
  have hil3 : i3 < t.refs.length := by omega
  have hbq3 := okL_len (Tbl.ok_refs h_t)
  rw [pin e1, pin e2, pin e3, pin e6]
  rw [m11_l3]
  refine Co (Cs (Ck h fun _ _ h => Rg 1 rfl (Rf fi39_4 rfl (Rl 2 h rfl (ty37.ldS rfl) (Re Tryz.underlying37 rfl (Rs rfl (fun _ => op_lss_int rfl rfl hlt3) (Rz h fun h => Ct rfl (Ci (Cs (Cb (Cw.regionD h fun _ _ h => Rf fi39_4 rfl (Rw.ld (k := 0) (d := el3_a3) h rfl rfl rfl rfl rfl (ty37.ldS rfl) rfl (Rf fi39_4 rfl (Rl 2 h rfl (ty37.ldS rfl) (Rg 1 rfl (Rs rfl (fun _ => op_ix (n := i3) rfl rfl rfl Tryz.underlying37 ty74.hn (at_map hil3) rfl) (Rs rfl (fun _ => op_fr fi74_0 rfl rfl) (Rc (at_map hil3) ty23 rfl (Rs rfl (fun _ => op_call (d := dL encI (m26 ((t.refs.getD i3 default).columns))) rfl rfl c26 rfl (He i26 ((t.refs.getD i3 default).columns) (Rfr.ok_columns (okL_get (Tbl.ok_refs h_t) Rfr.zok i3)) rfl)) (Rf fi39_4 rfl (Rl 2 h rfl (ty37.ldS rfl) (Rg 1 rfl (Rs rfl (fun _ => op_ix (n := i3) rfl rfl rfl Tryz.underlying37 ty74.hn (at_map hil3) rfl) (Rs rfl (fun _ => op_fr fi74_1 rfl rfl) (Rc (at_map hil3) ty9 rfl (Rs rfl (fun _ => op_buildS (qs := [(0, dL encI (m26 ((t.refs.getD i3 default).columns))), (1, dS ((t.refs.getD i3 default).table))]) (d := dR Rfr.enc (⟨(m26 ((t.refs.getD i3 default).columns)), ((t.refs.getD i3 default).table)⟩ : Rfr)) rfl (bd74_0_1 ..)) (Rs rfl (fun _ => op_bs (xs := ([(⟨(m26 ((t.refs.getD i3 default).columns)), ((t.refs.getD i3 default).table)⟩ : Rfr)] : List Rfr).map Rfr.enc) Tryz.underlying37 ty74.hn (z74 (S := S)) rfl rfl rfl rfl rfl) (Rw.ap (j := 0) (ys := ([(⟨(m26 ((t.refs.getD i3 default).columns)), ((t.refs.getD i3 default).table)⟩ : Rfr)]).map Rfr.enc) h (Nat.le_add_right _ 17) rfl rfl rfl rfl rfl rfl rfl rfl (room_mk Tryz.underlying37 (if74 (S := S)) (z74 (S := S)) rfl rfl rfl rfl (by simp only [List.length_map, List.length_cons, List.length_nil]; omega)) (heads_map _ (fun _ => rfl)) rfl fun d3 _ h => ?_))))))))))))))))))))))))))))
  simp only [List.set_cons_zero, ← List.map_append] at h
  refine Rf fi39_4 rfl (Rw.stA (k := 0) (j := 0) (cs' := [D.c (.str (⟨t.name, [], (m26 t.key), [], []⟩ : Tbl).name), el1_a1, D.c (.sl false ((⟨t.name, [], (m26 t.key), [], []⟩ : Tbl).key.map encI)), el2_a2, d3]) h (Nat.le_add_right _ 1) rfl rfl rfl rfl rfl ty37.hn rfl rfl rfl fun _ h => Rw.nilK h (Nat.add_le_add_left (by decide : 20 ≤ 20) _) fun h => ?_)
  refine ⟨by kernel_rfl, ?_⟩
  exact Cw.regionK h fun _ _ h => Rg 1 rfl (Rs rfl (fun _ => op_add_int (v := ((i3 + 1 : Nat) : Int)) rfl rfl (wrap_one (by omega))) (Rg 1 rfl (Rz h fun h => ih (i3 + 1) (yl3_a3 ++ ([(⟨(m26 ((t.refs.getD i3 default).columns)), ((t.refs.getD i3 default).table)⟩ : Rfr)])) _ _ _ (by omega) (by simp only [List.length_append, List.length_cons, List.length_nil]; omega) (all_snoc myl3_a3 (⟨(have h := (m26_ok (Rfr.ok_columns (okL_get (Tbl.ok_refs h_t) Rfr.zok i3))); h), (have h := (Rfr.ok_table (okL_get (Tbl.ok_refs h_t) Rfr.zok i3)); h)⟩ : Rfr.ok (⟨(m26 ((t.refs.getD i3 default).columns)), ((t.refs.getD i3 default).table)⟩ : Rfr))) rfl rfl rfl rfl h)))
 refine Cw.mono (hl3 t.refs.length 0 ([]) _ _ _ (by omega) (by simp) (by simp) rfl rfl rfl rfl h) ?_
 intro oY gY sY hh
 generalize hzL3 : m11_l3 t yl1_a1 yl2_a2 t.refs.length 0 ([]) = zZ at hh ⊢
 rcases zZ with yl3_a3 | rZ
 dsimp only
 obtain ⟨el3_a3, rfl, nyl3_a3, myl3_a3, e2, e3, h⟩ := hh
 rw [pin e2, pin e3]
 have hbd3 := okL_len (Tbl.ok_refs h_t)
 refine Ck h fun _ _ h => Rw.ld (k := 0) (d := D.agg [D.c (.str (⟨t.name, [], (m26 t.key), [], []⟩ : Tbl).name), el1_a1, D.c (.sl false ((⟨t.name, [], (m26 t.key), [], []⟩ : Tbl).key.map encI)), el2_a2, el3_a3]) h rfl rfl rfl rfl rfl (ty39.ldA rfl rfl) rfl ?_
 have hcl0 := (h.ac _ (List.mem_of_getElem? (i := 2) rfl)).plain.2.2.1
 have hcl1 := (h.ac _ (List.mem_of_getElem? (i := 1) rfl)).plain.2.2.1
 have hcl2 := (h.ac _ (List.mem_of_getElem? (i := 0) rfl)).plain.2.2.1
 refine Rw.st (k := 1) (d := D.agg [D.c (.str (⟨t.name, [], (m26 t.key), [], []⟩ : Tbl).name), el1_a1, D.c (.sl false ((⟨t.name, [], (m26 t.key), [], []⟩ : Tbl).key.map encI)), el2_a2, el3_a3]) (cs' := [D.c (.str (⟨t.name, [], (m26 t.key), [], []⟩ : Tbl).name), el1_a1, D.c (.sl false ((⟨t.name, [], (m26 t.key), [], []⟩ : Tbl).key.map encI)), el2_a2, el3_a3]) h (Nat.le_add_right _ 1) rfl rfl rfl rfl rfl ty39.hn rfl (by simp only [D.cells, List.length_cons, List.length_nil, List.all_cons, List.all_nil, hcl0, hcl1, hcl2]; rfl) rfl fun _ h => Rw.nilK h (Nat.add_le_add_left (by decide : 2 ≤ 2) _) fun h => Cr ?_
 obtain ⟨_, hfp0, _, ff0, _, hfs0, _⟩ := (h.ac _ (List.mem_of_getElem? (i := 2) rfl)).plain
 obtain ⟨_, hfp1, _, ff1, _, hfs1, _⟩ := (h.ac _ (List.mem_of_getElem? (i := 1) rfl)).plain
 obtain ⟨_, hfp2, _, ff2, _, hfs2, _⟩ := (h.ac _ (List.mem_of_getElem? (i := 0) rfl)).plain
 exact ⟨.inr rfl, (D.agg [D.c (.str (⟨t.name, [], (m26 t.key), [], []⟩ : Tbl).name), el1_a1, D.c (.sl false ((⟨t.name, [], (m26 t.key), [], []⟩ : Tbl).key.map encI)), el2_a2, el3_a3]), (res_cell (k := 1) h rfl rfl (ty39.ldA rfl rfl)), (by simp only [plain, plain1, List.all_cons, List.all_nil, hfp0, hfp1, hfp2]; rfl), (by simp only [strip, strip1, List.map_cons, List.map_nil, hfs0, hfs1, hfs2]; rfl)⟩
 obtain ⟨rfl, w⟩ := hh
 exact ⟨.inr rfl, w⟩
 obtain ⟨rfl, w⟩ := hh
 exact ⟨.inr rfl, w⟩
 obtain ⟨rfl, w⟩ := hh
 exact ⟨.inr rfl, w⟩
noncomputable def H11 : List D → R D := mkH (L1 (dR Tbl.enc)) (fun x => Tbl.ok x) (fun x => dR Tbl.enc (m11 x))
theorem i11 : InjE (L1 (dR Tbl.enc)) := j1 (jR Tbl.inj)
theorem take_snoc {α : Type} [Inhabited α] (l : List α) {i : Nat} (hi : i < l.length) : l.take i ++ [l.getD i default] = l.take (i + 1) := by
  rw [List.getD, List.getElem?_eq_getElem hi, Option.getD_some, List.take_append_getElem hi]
theorem m25_l1_eq {rec : Exr → Exr} {e : Exr} (hr : ∀ i, i < e.kids.length → rec (e.kids.getD i default) = e.kids.getD i default) : ∀ (rem i : Nat), i + rem = e.kids.length → m25_b_l1 rec e rem i (e.kids.take i) = .on e.kids
  | 0, i, h => by rw [m25_b_l1, List.take_of_length_le (by omega)]
  | rem + 1, i, h => by
    rw [m25_b_l1, hr i (by omega), take_snoc _ (by omega)]
    exact m25_l1_eq hr rem (i + 1) (by omega)
theorem m25_n_eq : ∀ (n : Nat) (e : Exr), e.depth < n → m25 n e = e
  | 0, _, h => absurd h (by omega)
  | n + 1, e, h => by
    have := m25_l1_eq (rec := m25 n) (e := e) (fun i hi => m25_n_eq n _ (by have := Exr.depth_kid hi; omega)) e.kids.length 0 (by omega)
    rw [List.take_zero] at this
    rw [m25, m25_b, this]
    cases e
    rfl
theorem m25r_eq (e : Exr) : m25r e = e := m25_n_eq _ e (Nat.lt_succ_self _)
theorem m25r_ok {e : Exr} (h : Exr.ok e) : Exr.ok (m25r e) := by rw [m25r_eq]; exact h
theorem m11_l1_eq (t : Tbl) : ∀ (rem i : Nat), i + rem = t.columns.length → m11_l1 t rem i (t.columns.take i) = .on t.columns
  | 0, i, h => by rw [m11_l1, List.take_of_length_le (by omega)]
  | rem + 1, i, h => by rw [m11_l1, take_snoc _ (by omega)]; exact m11_l1_eq t rem (i + 1) (by omega)
theorem m11_l2_eq (t : Tbl) (y : List Col) : ∀ (rem i : Nat), i + rem = t.indexes.length → m11_l2 t y rem i (t.indexes.take i) = .on t.indexes
  | 0, i, h => by rw [m11_l2, List.take_of_length_le (by omega)]
  | rem + 1, i, h => by rw [m11_l2, m26_eq]; exact Eq.trans (congrArg _ (take_snoc _ (by omega))) (m11_l2_eq t y rem (i + 1) (by omega))
theorem m11_l3_eq (t : Tbl) (y : List Col) (z : List Idx) : ∀ (rem i : Nat), i + rem = t.refs.length → m11_l3 t y z rem i (t.refs.take i) = .on t.refs
  | 0, i, h => by rw [m11_l3, List.take_of_length_le (by omega)]
  | rem + 1, i, h => by rw [m11_l3, m26_eq]; exact Eq.trans (congrArg _ (take_snoc _ (by omega))) (m11_l3_eq t y z rem (i + 1) (by omega))
theorem m11_eq (t : Tbl) : m11 t = t := by
  have h1 := m11_l1_eq t t.columns.length 0 (by omega)
  have h2 := m11_l2_eq t t.columns t.indexes.length 0 (by omega)
  have h3 := m11_l3_eq t t.columns t.indexes t.refs.length 0 (by omega)
  rw [List.take_zero] at h1 h2 h3
  unfold m11
  rw [h1]; simp only
  rw [h2]; simp only
  rw [h3, m26_eq]
theorem m11_ok {t : Tbl} (h : Tbl.ok t) : Tbl.ok (m11 t) := by rw [m11_eq]; exact h
def m10 (e : Exr) : Exr := (bif (m24 e) then Exr.zero else (m25r e))
theorem m10_ev  (c24 : S 24 = some H24) (c25 : S 25 = some H25) (e : Exr)  (h_e : Exr.ok e) : ∃ d σ', Ev (EE S) 10 [dR Exr.row e] St.empty d σ' ∧ plain d = true ∧ nrmT (strip d) = dR Exr.row (m10 e) := by
 unfold m10
 have h : Ko 0 St.empty [] [] := Ko.empty
 refine Ev.wp (E := EE S) (fn := Tryz.f10) (nt := 8) Tryz.func10 rfl rfl (Ck h fun _ _ h => Rw.bx (d := dR Exr.row e) h (Nat.le_add_right _ 0) rfl rfl rfl rfl rfl rfl fun b1 _ h => Rw.al (z := zc32) h (Nat.le_add_right _ 0) rfl rfl rfl (z32 (S := S)) rfl fun b2 _ h => Rw.nilK h (Nat.add_le_add_left (by decide : 2 ≤ 2) _) fun h => Cs (Ck h fun _ _ h => Rw.ld (k := 1) (d := dR Exr.row e) h rfl rfl rfl rfl rfl (ty32.ldA rfl rfl) rfl (Rs rfl (fun _ => op_call (d := dB (m24 e)) rfl rfl c24 rfl (He i24 e h_e rfl)) (Rz h fun h => ?_))))
 cases q1 : (m24 e)
 exact Cf rfl (Ci (Ck h fun _ _ h => Rw.ld (k := 1) (d := dR Exr.row e) h rfl rfl rfl rfl rfl (ty32.ldA rfl rfl) rfl (Rs rfl (fun _ => op_call (d := dR Exr.row (m25r e)) rfl rfl c25 rfl (He i25 e h_e rfl)) (Rw.st (k := 0) (cs' := (dC Exr.row (m25r e))) h (Nat.le_add_right _ 2) rfl rfl rfl rfl rfl ty32.hn rfl rfl rfl fun _ h => Rw.nilK h (Nat.add_le_add_left (by decide : 3 ≤ 3) _) fun h => Cr ⟨.inr rfl, _, res_cell (k := 0) h rfl rfl (ty32.ldA rfl rfl), rfl, rfl⟩))))
 exact Ct rfl (Ck h fun _ _ h => Rs rfl (fun _ => op_buildS (qs := []) (d := D.agg [D.c (.int .i64 Exr.zero.kind), D.c (.str Exr.zero.op), D.c (.int .i64 Exr.zero.column), D.c (.int .i64 Exr.zero.value.kind), D.c (.int .i64 Exr.zero.value.n), D.c (.float .f64 Exr.zero.value.f), D.c (.str Exr.zero.value.s), D.c (.sl true (Exr.zero.kids.map Exr.enc))]) rfl (bd32 ..)) (Rw.st (k := 0) (cs' := [D.c (.int .i64 Exr.zero.kind), D.c (.str Exr.zero.op), D.c (.int .i64 Exr.zero.column), D.c (.int .i64 Exr.zero.value.kind), D.c (.int .i64 Exr.zero.value.n), D.c (.float .f64 Exr.zero.value.f), D.c (.str Exr.zero.value.s), D.c (.sl true (Exr.zero.kids.map Exr.enc))]) h (Nat.le_add_right _ 1) rfl rfl rfl rfl rfl ty32.hn rfl rfl rfl fun _ h => Rw.nilK h (Nat.add_le_add_left (by decide : 2 ≤ 2) _) fun h => Cr ⟨.inr rfl, _, res_cell (k := 0) h rfl rfl (ty32.ldA rfl rfl), rfl, rfl⟩))
noncomputable def H10 : List D → R D := mkH (L1 (dR Exr.row)) (fun x => Exr.ok x) (fun x => dR Exr.row (m10 x))
theorem i10 : InjE (L1 (dR Exr.row)) := j1 (jR Exr.rinj)
theorem m10_ok {e : Exr} (h : Exr.ok e) : Exr.ok (m10 e) := by
  unfold m10
  cases m24 e with
  | true => exact Exr.zok
  | false => exact m25r_ok h
noncomputable def cm4_l1 : Code := (cl (cr (cl (cr (cr (cr (bodyOf Tryz.f4)))))))
noncomputable def cm4_l2 : Code := (cl (cr (cl (cr (cl (cl (cr (cl (cl (cr (cl (cr (cr (cr (bodyOf Tryz.f4)))))))))))))))
def m4_l2 (q : Qry) (i1 : Nat) (yl1_a1 : (List (List Exr))) : Nat → Nat → (List Exr) → Lo (List Exr) Qry
 | 0, _, yl2_a5 => .on yl2_a5
 | rem2 + 1, i2, yl2_a5 => m4_l2 q i1 yl1_a1 rem2 (i2 + 1) (yl2_a5 ++ ([(m10 ((q.rows.getD i1 default).getD i2 default))]))
def m4_l1 (q : Qry) : Nat → Nat → (List (List Exr)) → Lo (List (List Exr)) Qry
 | 0, _, yl1_a1 => .on yl1_a1
 | rem1 + 1, i1, yl1_a1 => (match m4_l2 q i1 yl1_a1 ((q.rows.getD i1 default).length) 0 ([]) with | .out r => .out r | .on yl2_a5 => m4_l1 q rem1 (i1 + 1) (yl1_a1 ++ ([yl2_a5])))
noncomputable def cm4_l3 : Code := (cl (cr (cl (cr (cr (cr (cr (bodyOf Tryz.f4))))))))
def m4_l3 (q : Qry) (yl1_a1 : (List (List Exr))) : Nat → Nat → (List Sst) → Lo (List Sst) Qry
 | 0, _, yl3_a2 => .on yl3_a2
 | rem3 + 1, i3, yl3_a2 => m4_l3 q yl1_a1 rem3 (i3 + 1) (yl3_a2 ++ ([(⟨((q.sets.getD i3 default).column), (m10 ((q.sets.getD i3 default).expr))⟩ : Sst)]))
noncomputable def cm4_l4 : Code := (cl (cr (cl (cr (cr (cr (cr (cr (bodyOf Tryz.f4)))))))))
def m4_l4 (q : Qry) (yl1_a1 : (List (List Exr))) (yl3_a2 : (List Sst)) : Nat → Nat → (List Itm) → Lo (List Itm) Qry
 | 0, _, yl4_a3 => .on yl4_a3
 | rem4 + 1, i4, yl4_a3 => m4_l4 q yl1_a1 yl3_a2 rem4 (i4 + 1) (yl4_a3 ++ ([(⟨(q.items.getD i4 default).fold, (q.items.getD i4 default).all, (m10 ((q.items.getD i4 default).expr)), (q.items.getD i4 default).name⟩ : Itm)]))
noncomputable def cm4_l5 : Code := (cl (cr (cl (cr (cr (cr (cr (cr (cr (bodyOf Tryz.f4))))))))))
def m4_l5 (q : Qry) (yl1_a1 : (List (List Exr))) (yl3_a2 : (List Sst)) (yl4_a3 : (List Itm)) : Nat → Nat → (List Odr) → Lo (List Odr) Qry
 | 0, _, yl5_a4 => .on yl5_a4
 | rem5 + 1, i5, yl5_a4 => m4_l5 q yl1_a1 yl3_a2 yl4_a3 rem5 (i5 + 1) (yl5_a4 ++ ([(q.order.getD i5 default)]))
def m4 (q : Qry) : Qry := (match m4_l1 q q.rows.length 0 ([]) with | .out r => r | .on yl1_a1 => (match m4_l3 q yl1_a1 q.sets.length 0 ([]) with | .out r => r | .on yl3_a2 => (match m4_l4 q yl1_a1 yl3_a2 q.items.length 0 ([]) with | .out r => r | .on yl4_a3 => (match m4_l5 q yl1_a1 yl3_a2 yl4_a3 q.order.length 0 ([]) with | .out r => r | .on yl5_a4 => ({ { { { { { { { { { { { q with columns := (m9 q.columns) } with group := (m9 q.group) } with rows := [] } with sets := [] } with items := [] } with order := [] } with wher := (m10 q.wher) } with create := (m11 q.create) } with rows := yl1_a1 } with sets := yl3_a2 } with items := yl4_a3 } with order := yl5_a4 })))))
theorem m4_ev  (c9 : S 9 = some H9) (c10 : S 10 = some H10) (c11 : S 11 = some H11) (q : Qry)  (h_q : Qry.ok q) : ∃ d σ', Ev (EE S) 4 [dR Qry.enc q] St.empty d σ' ∧ plain d = true ∧ nrmD (strip d) = dR Qry.enc (m4 q) := by
 unfold m4
 have h : Ko 0 St.empty [] [] := Ko.empty
 refine Ev.wp (E := EE S) (fn := Tryz.f4) (nt := 134) Tryz.func4 rfl rfl (Ck h fun _ _ h => Rw.bx (d := dR Qry.enc q) h (Nat.le_add_right _ 0) rfl rfl rfl rfl rfl rfl fun b1 _ h => Rw.al (z := zc41) h (Nat.le_add_right _ 0) rfl rfl rfl (z41 (S := S)) rfl fun b2 _ h => Rw.nilK h (Nat.add_le_add_left (by decide : 2 ≤ 2) _) fun h => Ck h fun _ _ h => Rw.ld (k := 1) (d := dR Qry.enc q) h rfl rfl rfl rfl rfl (ty41.ldA rfl rfl) rfl (Rw.al (z := zc41) h (Nat.le_add_right _ 1) rfl rfl rfl (z41 (S := S)) rfl fun b3 _ h => Rw.st (k := 0) (cs' := (dC Qry.enc q)) h (Nat.le_add_right _ 0) rfl rfl rfl rfl rfl ty41.hn rfl rfl rfl fun _ h => Rw.nilK h (Nat.add_le_add_left (by decide : 3 ≤ 3) _) fun h => ?_))
 refine Cw.seq (Cw.regionD h fun _ _ h => ?_)
 refine Rf fi41_2 rfl (Rl 2 h rfl (ty23.ldS rfl) (Rs rfl (fun _ => op_call (d := dL encI (m9 q.columns)) rfl rfl c9 rfl (He i9 q.columns (Qry.ok_columns h_q) rfl)) (Rf fi41_7 rfl (Rl 2 h rfl (ty23.ldS rfl) (Rs rfl (fun _ => op_call (d := dL encI (m9 q.group)) rfl rfl c9 rfl (He i9 q.group (Qry.ok_group h_q) rfl)) (Rf fi41_2 rfl ?_))))))
 refine Rw.st (k := 0) (cs' := (dC Qry.enc ({ q with columns := (m9 q.columns) }))) h (Nat.le_add_right _ 7) rfl rfl rfl rfl rfl ty23.hn rfl rfl rfl fun _ h => ?_
 refine Rf fi41_7 rfl ?_
 refine Rw.st (k := 0) (cs' := (dC Qry.enc ({ { q with columns := (m9 q.columns) } with group := (m9 q.group) }))) h (Nat.le_add_right _ 1) rfl rfl rfl rfl rfl ty23.hn rfl rfl rfl fun _ h => ?_
 refine Rf fi41_3 rfl (Rw.st (k := 0) (cs' := [D.c (.int .i64 q.kind), D.c (.int .i64 q.table), D.c (.sl false ((m9 q.columns).map encI)), D.c (.sl true ([].map encL_Exr_enc)), D.c (.sl false (q.sets.map Sst.enc)), D.c (.sl false (q.items.map Itm.enc)), D.c (.int .i64 q.wher.kind), D.c (.str q.wher.op), D.c (.int .i64 q.wher.column), D.c (.int .i64 q.wher.value.kind), D.c (.int .i64 q.wher.value.n), D.c (.float .f64 q.wher.value.f), D.c (.str q.wher.value.s), D.c (.sl false (q.wher.kids.map Exr.enc)), D.c (.sl false ((m9 q.group).map encI)), D.c (.sl false (q.order.map Odr.enc)), D.c (.int .i64 q.limit), D.c (.int .i64 q.level), D.c (.int .u64 q.stamp), D.c (.str q.name), D.c (.str q.create.name), D.c (.sl false (q.create.columns.map Col.enc)), D.c (.sl false (q.create.key.map encI)), D.c (.sl false (q.create.indexes.map Idx.enc)), D.c (.sl false (q.create.refs.map Rfr.enc))]) h (Nat.le_add_right _ 1) rfl rfl rfl rfl rfl ty24.hn rfl rfl rfl fun _ h => ?_)
 replace h := h.newAc ([] : List (List C)) 1
 refine Rf fi41_4 rfl (Rw.st (k := 0) (cs' := [D.c (.int .i64 q.kind), D.c (.int .i64 q.table), D.c (.sl false ((m9 q.columns).map encI)), (D.c (.sl true ([] : List (List C)))), D.c (.sl true ([].map Sst.enc)), D.c (.sl false (q.items.map Itm.enc)), D.c (.int .i64 q.wher.kind), D.c (.str q.wher.op), D.c (.int .i64 q.wher.column), D.c (.int .i64 q.wher.value.kind), D.c (.int .i64 q.wher.value.n), D.c (.float .f64 q.wher.value.f), D.c (.str q.wher.value.s), D.c (.sl false (q.wher.kids.map Exr.enc)), D.c (.sl false ((m9 q.group).map encI)), D.c (.sl false (q.order.map Odr.enc)), D.c (.int .i64 q.limit), D.c (.int .i64 q.level), D.c (.int .u64 q.stamp), D.c (.str q.name), D.c (.str q.create.name), D.c (.sl false (q.create.columns.map Col.enc)), D.c (.sl false (q.create.key.map encI)), D.c (.sl false (q.create.indexes.map Idx.enc)), D.c (.sl false (q.create.refs.map Rfr.enc))]) h (Nat.le_add_right _ 1) rfl rfl rfl rfl rfl ty25.hn rfl rfl rfl fun _ h => ?_)
 replace h := h.newAc (([] : (List Sst)).map Sst.enc) 9
 refine Rf fi41_5 rfl (Rw.st (k := 0) (cs' := [D.c (.int .i64 q.kind), D.c (.int .i64 q.table), D.c (.sl false ((m9 q.columns).map encI)), (D.c (.sl true ([] : List (List C)))), (D.c (.sl true (([] : (List Sst)).map Sst.enc))), D.c (.sl true ([].map Itm.enc)), D.c (.int .i64 q.wher.kind), D.c (.str q.wher.op), D.c (.int .i64 q.wher.column), D.c (.int .i64 q.wher.value.kind), D.c (.int .i64 q.wher.value.n), D.c (.float .f64 q.wher.value.f), D.c (.str q.wher.value.s), D.c (.sl false (q.wher.kids.map Exr.enc)), D.c (.sl false ((m9 q.group).map encI)), D.c (.sl false (q.order.map Odr.enc)), D.c (.int .i64 q.limit), D.c (.int .i64 q.level), D.c (.int .u64 q.stamp), D.c (.str q.name), D.c (.str q.create.name), D.c (.sl false (q.create.columns.map Col.enc)), D.c (.sl false (q.create.key.map encI)), D.c (.sl false (q.create.indexes.map Idx.enc)), D.c (.sl false (q.create.refs.map Rfr.enc))]) h (Nat.le_add_right _ 1) rfl rfl rfl rfl rfl ty26.hn rfl rfl rfl fun _ h => ?_)
 replace h := h.newAc (([] : (List Itm)).map Itm.enc) 11
 refine Rf fi41_8 rfl (Rw.st (k := 0) (cs' := [D.c (.int .i64 q.kind), D.c (.int .i64 q.table), D.c (.sl false ((m9 q.columns).map encI)), (D.c (.sl true ([] : List (List C)))), (D.c (.sl true (([] : (List Sst)).map Sst.enc))), (D.c (.sl true (([] : (List Itm)).map Itm.enc))), D.c (.int .i64 q.wher.kind), D.c (.str q.wher.op), D.c (.int .i64 q.wher.column), D.c (.int .i64 q.wher.value.kind), D.c (.int .i64 q.wher.value.n), D.c (.float .f64 q.wher.value.f), D.c (.str q.wher.value.s), D.c (.sl false (q.wher.kids.map Exr.enc)), D.c (.sl false ((m9 q.group).map encI)), D.c (.sl true ([].map Odr.enc)), D.c (.int .i64 q.limit), D.c (.int .i64 q.level), D.c (.int .u64 q.stamp), D.c (.str q.name), D.c (.str q.create.name), D.c (.sl false (q.create.columns.map Col.enc)), D.c (.sl false (q.create.key.map encI)), D.c (.sl false (q.create.indexes.map Idx.enc)), D.c (.sl false (q.create.refs.map Rfr.enc))]) h (Nat.le_add_right _ 1) rfl rfl rfl rfl rfl ty33.hn rfl rfl rfl fun _ h => ?_)
 replace h := h.newAc (([] : (List Odr)).map Odr.enc) 2
 refine Rw.nilK h (Nat.add_le_add_left (by decide : 18 ≤ 18) _) fun h => ?_
 refine ⟨by kernel_rfl, ?_⟩
 refine Cs (Ck h fun _ _ h => Rg 1 rfl (Rz h fun h => Cb ?_))
 have hl1 : ∀ (rem1 i1 : Nat) (yl1_a1 : (List (List Exr))) (el1_a1 : D) (rl1_a1 : List (List C)) (fr : Nat → D) (σ : St), i1 + rem1 = q.rows.length → yl1_a1.length ≤ i1 → (∀ y ∈ yl1_a1, (okL Exr.ok) y) → normRows rl1_a1 = yl1_a1.map encL_Exr_enc → fr 1 = D.ptr b1 0 → fr 2 = D.ptr b2 0 → fr 3 = D.ptr b3 0 → fr 4 = dN i1 → Ko 0 σ [(b3, [D.c (.int .i64 q.kind), D.c (.int .i64 q.table), D.c (.sl false ((m9 q.columns).map encI)), el1_a1, (D.c (.sl true (([] : (List Sst)).map Sst.enc))), (D.c (.sl true (([] : (List Itm)).map Itm.enc))), D.c (.int .i64 q.wher.kind), D.c (.str q.wher.op), D.c (.int .i64 q.wher.column), D.c (.int .i64 q.wher.value.kind), D.c (.int .i64 q.wher.value.n), D.c (.float .f64 q.wher.value.f), D.c (.str q.wher.value.s), D.c (.sl false (q.wher.kids.map Exr.enc)), D.c (.sl false ((m9 q.group).map encI)), (D.c (.sl true (([] : (List Odr)).map Odr.enc))), D.c (.int .i64 q.limit), D.c (.int .i64 q.level), D.c (.int .u64 q.stamp), D.c (.str q.name), D.c (.str q.create.name), D.c (.sl false (q.create.columns.map Col.enc)), D.c (.sl false (q.create.key.map encI)), D.c (.sl false (q.create.indexes.map Idx.enc)), D.c (.sl false (q.create.refs.map Rfr.enc))]), (b2, zc41), (b1, (dC Qry.enc q))] [((D.c (.sl true (([] : (List Odr)).map Odr.enc))), ([]).map Odr.enc, 2), ((D.c (.sl true (([] : (List Itm)).map Itm.enc))), ([]).map Itm.enc, 11), ((D.c (.sl true (([] : (List Sst)).map Sst.enc))), ([]).map Sst.enc, 9), (el1_a1, rl1_a1, 1)] → Cw (EE S) cm4_l1 134 fr σ (fun oX gX sX => match m4_l1 q rem1 i1 yl1_a1 with | .on yl1_a1 => ∃ el1_a1 rl1_a1, oX = some (some 0) ∧ yl1_a1.length ≤ q.rows.length ∧ (∀ y ∈ yl1_a1, (okL Exr.ok) y) ∧ normRows rl1_a1 = yl1_a1.map encL_Exr_enc ∧ gX 1 = D.ptr b1 0 ∧ gX 2 = D.ptr b2 0 ∧ gX 3 = D.ptr b3 0 ∧ Ko 0 sX [(b3, [D.c (.int .i64 q.kind), D.c (.int .i64 q.table), D.c (.sl false ((m9 q.columns).map encI)), el1_a1, (D.c (.sl true (([] : (List Sst)).map Sst.enc))), (D.c (.sl true (([] : (List Itm)).map Itm.enc))), D.c (.int .i64 q.wher.kind), D.c (.str q.wher.op), D.c (.int .i64 q.wher.column), D.c (.int .i64 q.wher.value.kind), D.c (.int .i64 q.wher.value.n), D.c (.float .f64 q.wher.value.f), D.c (.str q.wher.value.s), D.c (.sl false (q.wher.kids.map Exr.enc)), D.c (.sl false ((m9 q.group).map encI)), (D.c (.sl true (([] : (List Odr)).map Odr.enc))), D.c (.int .i64 q.limit), D.c (.int .i64 q.level), D.c (.int .u64 q.stamp), D.c (.str q.name), D.c (.str q.create.name), D.c (.sl false (q.create.columns.map Col.enc)), D.c (.sl false (q.create.key.map encI)), D.c (.sl false (q.create.indexes.map Idx.enc)), D.c (.sl false (q.create.refs.map Rfr.enc))]), (b2, zc41), (b1, (dC Qry.enc q))] [((D.c (.sl true (([] : (List Odr)).map Odr.enc))), ([]).map Odr.enc, 2), ((D.c (.sl true (([] : (List Itm)).map Itm.enc))), ([]).map Itm.enc, 11), ((D.c (.sl true (([] : (List Sst)).map Sst.enc))), ([]).map Sst.enc, 9), (el1_a1, rl1_a1, 1)] | .out r => Ou S Tryz.f4 (fun d _ => plain d = true ∧ nrmD (strip d) = dR Qry.enc r) oX gX sX) := by
  intro rem1
  induction rem1
  intro i1 yl1_a1 el1_a1 rl1_a1 fr σ hi nyl1_a1 myl1_a1 kyl1_a1 e1 e2 e3 e4 h
  have hlt1 : decide ((((i1 : Nat) : Int) : Int) < ((q.rows.length : Nat) : Int)) = false := decF (by omega)
  rw [pin e1, pin e2, pin e3, pin e4]
  rw [m4_l1]
  exact Co (Cs (Ck h fun _ _ h => Rg 1 rfl (Rf fi41_3 rfl (Rl 2 h rfl (ty24.ldS rfl) (Re Tryz.underlying24 rfl (Rs rfl (fun _ => op_lss_int rfl rfl hlt1) (Rz h fun h => Cf rfl (Cw.exit (Exists.intro el1_a1 (Exists.intro rl1_a1 (an8 rfl (by omega) myl1_a1 kyl1_a1 rfl rfl rfl h)))))))))))
  rename_i rem1 ih
  intro i1 yl1_a1 el1_a1 rl1_a1 fr σ hi nyl1_a1 myl1_a1 kyl1_a1 e1 e2 e3 e4 h
  have hlt1 : decide ((((i1 : Nat) : Int) : Int) < ((q.rows.length : Nat) : Int)) = true := decT (by omega)
  have hil1 : i1 < q.rows.length := by omega
  have hbq1 := okL_len (Qry.ok_rows h_q)
  rw [pin e1, pin e2, pin e3, pin e4]
  rw [m4_l1]
  refine Co (Cs (Ck h fun _ _ h => Rg 1 rfl (Rf fi41_3 rfl (Rl 2 h rfl (ty24.ldS rfl) (Re Tryz.underlying24 rfl (Rs rfl (fun _ => op_lss_int rfl rfl hlt1) (Rz h fun h => Ct rfl (Ci (Cs (Cb (Ck h fun _ _ h => Rs rfl (fun _ => op_bs (xs := ([] : List Exr).map Exr.enc) Tryz.underlying30 ty32.hn (z32 (S := S)) rfl rfl rfl rfl rfl) (Rg 1 rfl ?_))))))))))))
  replace h := h.newAc (([] : (List Exr)).map Exr.enc) 8
  refine Rz h fun h => Cs (Ck h fun _ _ h => Rg 1 rfl (Rz h fun h => Cb ?_))
  have hl2 : ∀ (rem2 i2 : Nat) (yl2_a5 : (List Exr)) (el2_a5 : D) (fr : Nat → D) (σ : St), i2 + rem2 = (q.rows.getD i1 default).length → yl2_a5.length ≤ i2 → (∀ y ∈ yl2_a5, Exr.ok y) → fr 1 = D.ptr b1 0 → fr 2 = D.ptr b2 0 → fr 3 = D.ptr b3 0 → fr 4 = dN i1 → fr 5 = el2_a5 → fr 6 = dN i2 → Ko 0 σ [(b3, [D.c (.int .i64 q.kind), D.c (.int .i64 q.table), D.c (.sl false ((m9 q.columns).map encI)), el1_a1, (D.c (.sl true (([] : (List Sst)).map Sst.enc))), (D.c (.sl true (([] : (List Itm)).map Itm.enc))), D.c (.int .i64 q.wher.kind), D.c (.str q.wher.op), D.c (.int .i64 q.wher.column), D.c (.int .i64 q.wher.value.kind), D.c (.int .i64 q.wher.value.n), D.c (.float .f64 q.wher.value.f), D.c (.str q.wher.value.s), D.c (.sl false (q.wher.kids.map Exr.enc)), D.c (.sl false ((m9 q.group).map encI)), (D.c (.sl true (([] : (List Odr)).map Odr.enc))), D.c (.int .i64 q.limit), D.c (.int .i64 q.level), D.c (.int .u64 q.stamp), D.c (.str q.name), D.c (.str q.create.name), D.c (.sl false (q.create.columns.map Col.enc)), D.c (.sl false (q.create.key.map encI)), D.c (.sl false (q.create.indexes.map Idx.enc)), D.c (.sl false (q.create.refs.map Rfr.enc))]), (b2, zc41), (b1, (dC Qry.enc q))] [(el2_a5, (yl2_a5).map Exr.enc, 8), ((D.c (.sl true (([] : (List Odr)).map Odr.enc))), ([]).map Odr.enc, 2), ((D.c (.sl true (([] : (List Itm)).map Itm.enc))), ([]).map Itm.enc, 11), ((D.c (.sl true (([] : (List Sst)).map Sst.enc))), ([]).map Sst.enc, 9), (el1_a1, rl1_a1, 1)] → Cw (EE S) cm4_l2 134 fr σ (fun oX gX sX => match m4_l2 q i1 yl1_a1 rem2 i2 yl2_a5 with | .on yl2_a5 => ∃ el2_a5, oX = some (some 2) ∧ yl2_a5.length ≤ (q.rows.getD i1 default).length ∧ (∀ y ∈ yl2_a5, Exr.ok y) ∧ gX 1 = D.ptr b1 0 ∧ gX 2 = D.ptr b2 0 ∧ gX 3 = D.ptr b3 0 ∧ gX 4 = dN i1 ∧ gX 5 = el2_a5 ∧ Ko 0 sX [(b3, [D.c (.int .i64 q.kind), D.c (.int .i64 q.table), D.c (.sl false ((m9 q.columns).map encI)), el1_a1, (D.c (.sl true (([] : (List Sst)).map Sst.enc))), (D.c (.sl true (([] : (List Itm)).map Itm.enc))), D.c (.int .i64 q.wher.kind), D.c (.str q.wher.op), D.c (.int .i64 q.wher.column), D.c (.int .i64 q.wher.value.kind), D.c (.int .i64 q.wher.value.n), D.c (.float .f64 q.wher.value.f), D.c (.str q.wher.value.s), D.c (.sl false (q.wher.kids.map Exr.enc)), D.c (.sl false ((m9 q.group).map encI)), (D.c (.sl true (([] : (List Odr)).map Odr.enc))), D.c (.int .i64 q.limit), D.c (.int .i64 q.level), D.c (.int .u64 q.stamp), D.c (.str q.name), D.c (.str q.create.name), D.c (.sl false (q.create.columns.map Col.enc)), D.c (.sl false (q.create.key.map encI)), D.c (.sl false (q.create.indexes.map Idx.enc)), D.c (.sl false (q.create.refs.map Rfr.enc))]), (b2, zc41), (b1, (dC Qry.enc q))] [(el2_a5, (yl2_a5).map Exr.enc, 8), ((D.c (.sl true (([] : (List Odr)).map Odr.enc))), ([]).map Odr.enc, 2), ((D.c (.sl true (([] : (List Itm)).map Itm.enc))), ([]).map Itm.enc, 11), ((D.c (.sl true (([] : (List Sst)).map Sst.enc))), ([]).map Sst.enc, 9), (el1_a1, rl1_a1, 1)] | .out r => Ou S Tryz.f4 (fun d _ => plain d = true ∧ nrmD (strip d) = dR Qry.enc r) oX gX sX) := by
   intro rem2
   induction rem2
   intro i2 yl2_a5 el2_a5 fr σ hi nyl2_a5 myl2_a5 e1 e2 e3 e4 e5 e6 h
   have hlt2 : decide ((((i2 : Nat) : Int) : Int) < (((q.rows.getD i1 default).length : Nat) : Int)) = false := decF (by omega)
   rw [pin e1, pin e2, pin e3, pin e4, pin e5, pin e6]
   rw [m4_l2]
   exact Co (Cs (Ck h fun _ _ h => Rg 1 rfl (Rf fi41_3 rfl (Rl 2 h rfl (ty24.ldS rfl) (Rg 1 rfl (Rs rfl (fun _ => op_ix (n := i1) rfl rfl rfl Tryz.underlying24 ty30.hn (at_map hil1) rfl) (Rc (at_map hil1) ty30 rfl (Re Tryz.underlying30 rfl (Rs rfl (fun _ => op_lss_int rfl rfl hlt2) (Rz h fun h => Cf rfl (Cw.exit (Exists.intro el2_a5 (And.intro rfl (an8 (by omega) myl2_a5 rfl rfl rfl rfl rfl h))))))))))))))
   rename_i rem2 ih
   intro i2 yl2_a5 el2_a5 fr σ hi nyl2_a5 myl2_a5 e1 e2 e3 e4 e5 e6 h
   have hlt2 : decide ((((i2 : Nat) : Int) : Int) < (((q.rows.getD i1 default).length : Nat) : Int)) = true := decT (by omega)
   have hil2 : i2 < (q.rows.getD i1 default).length := by omega
   have hbq2 := okL_len (okL_get (Qry.ok_rows h_q) okL_nil i1)
   rw [pin e1, pin e2, pin e3, pin e4, pin e5, pin e6]
   rw [m4_l2]
   refine Co (Cs (Ck h fun _ _ h => Rg 1 rfl (Rf fi41_3 rfl (Rl 2 h rfl (ty24.ldS rfl) (Rg 1 rfl (Rs rfl (fun _ => op_ix (n := i1) rfl rfl rfl Tryz.underlying24 ty30.hn (at_map hil1) rfl) (Rc (at_map hil1) ty30 rfl (Re Tryz.underlying30 rfl (Rs rfl (fun _ => op_lss_int rfl rfl hlt2) (Rz h fun h => Ct rfl (Ci (Cs (Cb (Cw.regionK h fun _ _ h => Rs rfl (fun _ => op_move rfl) (Rf fi41_3 rfl (Rl 2 h rfl (ty24.ldS rfl) (Rg 1 rfl (Rs rfl (fun _ => op_ix (n := i1) rfl rfl rfl Tryz.underlying24 ty30.hn (at_map hil1) rfl) (Rc (at_map hil1) ty30 rfl (Rg 1 rfl (Rs rfl (fun _ => op_ix (n := i2) rfl rfl rfl Tryz.underlying30 ty32.hn (at_Exr (by omega)) rfl) (Rs rfl (fun _ => op_ldC (d := dR Exr.row ((q.rows.getD i1 default).getD i2 default)) rfl (at_Exr (by omega)) (ty32.lcA rfl rfl)) (Rs rfl (fun _ => op_call (d := dR Exr.row (m10 ((q.rows.getD i1 default).getD i2 default))) rfl rfl c10 rfl (He i10 ((q.rows.getD i1 default).getD i2 default) (okL_get (okL_get (Qry.ok_rows h_q) okL_nil i1) Exr.zok i2) rfl)) (Rs rfl (fun _ => op_bs (xs := ([(m10 ((q.rows.getD i1 default).getD i2 default))] : List Exr).map Exr.enc) Tryz.underlying30 ty32.hn (z32 (S := S)) rfl rfl rfl rfl (by rw [one_Exr]; rfl)) (Rw.ap (j := 0) (ys := ([(m10 ((q.rows.getD i1 default).getD i2 default))]).map Exr.enc) h (Nat.le_add_right _ 11) rfl rfl rfl rfl rfl rfl rfl rfl (room_mk Tryz.underlying30 (if32 (S := S)) (z32 (S := S)) rfl rfl rfl (all_Exr _) (by simp only [List.length_map, List.length_cons, List.length_nil]; omega)) (heads_map _ (fun x => by rw [Exr.enc_row]; rfl)) rfl fun d1 _ h => ?_)))))))))))))))))))))))))
   simp only [List.set_cons_zero, ← List.map_append] at h
   exact Rs rfl (fun _ => op_assign rfl) (Rw.nilK h (Nat.add_le_add_left (by decide : 12 ≤ 13) _) fun h => Cw.regionK h fun _ _ h => Rg 1 rfl (Rs rfl (fun _ => op_add_int (v := ((i2 + 1 : Nat) : Int)) rfl rfl (wrap_one (by omega))) (Rg 1 rfl (Rz h fun h => ih (i2 + 1) (yl2_a5 ++ ([(m10 ((q.rows.getD i1 default).getD i2 default))])) _ _ _ (by omega) (by simp only [List.length_append, List.length_cons, List.length_nil]; omega) (all_snoc myl2_a5 (m10_ok (okL_get (okL_get (Qry.ok_rows h_q) okL_nil i1) Exr.zok i2))) rfl rfl rfl rfl rfl rfl h))))
  refine Cw.mono (hl2 ((q.rows.getD i1 default).length) 0 ([]) _ _ _ (by omega) (by simp) (by simp) rfl rfl rfl rfl rfl rfl h) ?_
  intro oY gY sY hh
  generalize hzL2 : m4_l2 q i1 yl1_a1 ((q.rows.getD i1 default).length) 0 ([]) = zZ at hh ⊢
  rcases zZ with yl2_a5 | rZ
  dsimp only
  obtain ⟨el2_a5, rfl, nyl2_a5, myl2_a5, e1, e2, e3, e4, e5, h⟩ := hh
  rw [pin e1, pin e2, pin e3, pin e4, pin e5]
  have hbd2 := okL_len (okL_get (Qry.ok_rows h_q) okL_nil i1)
  refine Cw.regionK h fun _ _ h => Rf fi41_3 rfl (Rw.ld (k := 0) (d := el1_a1) h rfl rfl rfl rfl rfl (ty24.ldS rfl) rfl (Rs rfl (fun _ => op_move rfl) ?_))
  obtain ⟨_, _, _, fl2, _, _, hfl2⟩ := (h.ac _ (List.mem_of_getElem? (i := 0) rfl)).plain
  refine Rs rfl (fun _ => op_bsA Tryz.underlying24 ty30.hn (z30 (S := S)) rfl hfl2 rfl) ?_
  have hnl := nrm_len kyl1_a1
  refine Rw.ap (j := 4) (ys := [[C.sl fl2 ((yl2_a5).map Exr.enc)]]) h (Nat.le_add_right _ 4) rfl rfl rfl rfl rfl rfl rfl rfl (room_mk Tryz.underlying24 (if30 (S := S)) (z30 (S := S)) rfl rfl rfl rfl (by simp only [List.length_cons, List.length_nil]; omega)) (heads_nrm kyl1_a1 (fun _ => rfl)) rfl fun d2 _ h => ?_
  simp only [List.set_cons_zero, List.set_cons_succ] at h
  exact Rf fi41_3 rfl (Rw.stA (k := 0) (j := 4) (cs' := [D.c (.int .i64 q.kind), D.c (.int .i64 q.table), D.c (.sl false ((m9 q.columns).map encI)), d2, (D.c (.sl true (([] : (List Sst)).map Sst.enc))), (D.c (.sl true (([] : (List Itm)).map Itm.enc))), D.c (.int .i64 q.wher.kind), D.c (.str q.wher.op), D.c (.int .i64 q.wher.column), D.c (.int .i64 q.wher.value.kind), D.c (.int .i64 q.wher.value.n), D.c (.float .f64 q.wher.value.f), D.c (.str q.wher.value.s), D.c (.sl false (q.wher.kids.map Exr.enc)), D.c (.sl false ((m9 q.group).map encI)), (D.c (.sl true (([] : (List Odr)).map Odr.enc))), D.c (.int .i64 q.limit), D.c (.int .i64 q.level), D.c (.int .u64 q.stamp), D.c (.str q.name), D.c (.str q.create.name), D.c (.sl false (q.create.columns.map Col.enc)), D.c (.sl false (q.create.key.map encI)), D.c (.sl false (q.create.indexes.map Idx.enc)), D.c (.sl false (q.create.refs.map Rfr.enc))]) h (Nat.le_add_right _ 1) rfl rfl rfl rfl rfl ty24.hn rfl rfl rfl fun _ h => Rw.nilK h (Nat.add_le_add_left (by decide : 7 ≤ 7) _) fun h => Cw.regionK h fun _ _ h => Rg 1 rfl (Rs rfl (fun _ => op_add_int (v := ((i1 + 1 : Nat) : Int)) rfl rfl (wrap_one (by omega))) (Rg 1 rfl (Rz h fun h => ih (i1 + 1) (yl1_a1 ++ ([yl2_a5])) _ _ _ _ (by omega) (by simp only [List.length_append, List.length_cons, List.length_nil]; omega) (all_snoc myl1_a1 (okL_mk (l := yl2_a5) (by omega) myl2_a5)) (nrm_app kyl1_a1 (nrm_one (f := fl2) _ (nrm_Exr_enc _))) rfl rfl rfl rfl (h.dropAc (List.Sublist.cons _ (List.Sublist.refl _)))))))
  obtain ⟨rfl, w⟩ := hh
  exact ⟨rfl, w⟩
 refine Cw.mono (hl1 q.rows.length 0 ([]) _ _ _ _ (by omega) (by simp) (by simp) rfl rfl rfl rfl rfl h) ?_
 intro oY gY sY hh
 generalize hzL1 : m4_l1 q q.rows.length 0 ([]) = zZ at hh ⊢
 rcases zZ with yl1_a1 | rZ
 dsimp only
 obtain ⟨el1_a1, rl1_a1, rfl, nyl1_a1, myl1_a1, kyl1_a1, e1, e2, e3, h⟩ := hh
 rw [pin e1, pin e2, pin e3]
 have hbd1 := okL_len (Qry.ok_rows h_q)
 refine Cs (Ck h fun _ _ h => Rg 1 rfl (Rz h fun h => Cb ?_))
 have hl3 : ∀ (rem3 i3 : Nat) (yl3_a2 : (List Sst)) (el3_a2 : D) (fr : Nat → D) (σ : St), i3 + rem3 = q.sets.length → yl3_a2.length ≤ i3 → (∀ y ∈ yl3_a2, Sst.ok y) → fr 1 = D.ptr b1 0 → fr 2 = D.ptr b2 0 → fr 3 = D.ptr b3 0 → fr 7 = dN i3 → Ko 0 σ [(b3, [D.c (.int .i64 q.kind), D.c (.int .i64 q.table), D.c (.sl false ((m9 q.columns).map encI)), el1_a1, el3_a2, (D.c (.sl true (([] : (List Itm)).map Itm.enc))), D.c (.int .i64 q.wher.kind), D.c (.str q.wher.op), D.c (.int .i64 q.wher.column), D.c (.int .i64 q.wher.value.kind), D.c (.int .i64 q.wher.value.n), D.c (.float .f64 q.wher.value.f), D.c (.str q.wher.value.s), D.c (.sl false (q.wher.kids.map Exr.enc)), D.c (.sl false ((m9 q.group).map encI)), (D.c (.sl true (([] : (List Odr)).map Odr.enc))), D.c (.int .i64 q.limit), D.c (.int .i64 q.level), D.c (.int .u64 q.stamp), D.c (.str q.name), D.c (.str q.create.name), D.c (.sl false (q.create.columns.map Col.enc)), D.c (.sl false (q.create.key.map encI)), D.c (.sl false (q.create.indexes.map Idx.enc)), D.c (.sl false (q.create.refs.map Rfr.enc))]), (b2, zc41), (b1, (dC Qry.enc q))] [((D.c (.sl true (([] : (List Odr)).map Odr.enc))), ([]).map Odr.enc, 2), ((D.c (.sl true (([] : (List Itm)).map Itm.enc))), ([]).map Itm.enc, 11), (el3_a2, (yl3_a2).map Sst.enc, 9), (el1_a1, rl1_a1, 1)] → Cw (EE S) cm4_l3 134 fr σ (fun oX gX sX => match m4_l3 q yl1_a1 rem3 i3 yl3_a2 with | .on yl3_a2 => ∃ el3_a2, oX = some (some 4) ∧ yl3_a2.length ≤ q.sets.length ∧ (∀ y ∈ yl3_a2, Sst.ok y) ∧ gX 1 = D.ptr b1 0 ∧ gX 2 = D.ptr b2 0 ∧ gX 3 = D.ptr b3 0 ∧ Ko 0 sX [(b3, [D.c (.int .i64 q.kind), D.c (.int .i64 q.table), D.c (.sl false ((m9 q.columns).map encI)), el1_a1, el3_a2, (D.c (.sl true (([] : (List Itm)).map Itm.enc))), D.c (.int .i64 q.wher.kind), D.c (.str q.wher.op), D.c (.int .i64 q.wher.column), D.c (.int .i64 q.wher.value.kind), D.c (.int .i64 q.wher.value.n), D.c (.float .f64 q.wher.value.f), D.c (.str q.wher.value.s), D.c (.sl false (q.wher.kids.map Exr.enc)), D.c (.sl false ((m9 q.group).map encI)), (D.c (.sl true (([] : (List Odr)).map Odr.enc))), D.c (.int .i64 q.limit), D.c (.int .i64 q.level), D.c (.int .u64 q.stamp), D.c (.str q.name), D.c (.str q.create.name), D.c (.sl false (q.create.columns.map Col.enc)), D.c (.sl false (q.create.key.map encI)), D.c (.sl false (q.create.indexes.map Idx.enc)), D.c (.sl false (q.create.refs.map Rfr.enc))]), (b2, zc41), (b1, (dC Qry.enc q))] [((D.c (.sl true (([] : (List Odr)).map Odr.enc))), ([]).map Odr.enc, 2), ((D.c (.sl true (([] : (List Itm)).map Itm.enc))), ([]).map Itm.enc, 11), (el3_a2, (yl3_a2).map Sst.enc, 9), (el1_a1, rl1_a1, 1)] | .out r => Ou S Tryz.f4 (fun d _ => plain d = true ∧ nrmD (strip d) = dR Qry.enc r) oX gX sX) := by
  intro rem3
  induction rem3
  intro i3 yl3_a2 el3_a2 fr σ hi nyl3_a2 myl3_a2 e1 e2 e3 e7 h
  have hlt3 : decide ((((i3 : Nat) : Int) : Int) < ((q.sets.length : Nat) : Int)) = false := decF (by omega)
  rw [pin e1, pin e2, pin e3, pin e7]
  rw [m4_l3]
  exact Co (Cs (Ck h fun _ _ h => Rg 1 rfl (Rf fi41_4 rfl (Rl 2 h rfl (ty25.ldS rfl) (Re Tryz.underlying25 rfl (Rs rfl (fun _ => op_lss_int rfl rfl hlt3) (Rz h fun h => Cf rfl (Cw.exit (Exists.intro el3_a2 (an7 rfl (by omega) myl3_a2 rfl rfl rfl h))))))))))
  rename_i rem3 ih
  intro i3 yl3_a2 el3_a2 fr σ hi nyl3_a2 myl3_a2 e1 e2 e3 e7 h
  have hlt3 : decide ((((i3 : Nat) : Int) : Int) < ((q.sets.length : Nat) : Int)) = true := decT (by omega)
  have hil3 : i3 < q.sets.length := by omega
  have hbq3 := okL_len (Qry.ok_sets h_q)
  rw [pin e1, pin e2, pin e3, pin e7]
  rw [m4_l3]
  refine Co (Cs (Ck h fun _ _ h => Rg 1 rfl (Rf fi41_4 rfl (Rl 2 h rfl (ty25.ldS rfl) (Re Tryz.underlying25 rfl (Rs rfl (fun _ => op_lss_int rfl rfl hlt3) (Rz h fun h => Ct rfl (Ci (Cs (Cb (Cw.regionD h fun _ _ h => Rf fi41_4 rfl (Rw.ld (k := 0) (d := el3_a2) h rfl rfl rfl rfl rfl (ty25.ldS rfl) rfl (Rf fi41_4 rfl (Rl 2 h rfl (ty25.ldS rfl) (Rg 1 rfl (Rs rfl (fun _ => op_ix (n := i3) rfl rfl rfl Tryz.underlying25 ty51.hn (at_map hil3) rfl) (Rs rfl (fun _ => op_fr fi51_0 rfl rfl) (Rc (at_map hil3) ty3 rfl (Rf fi41_4 rfl (Rl 2 h rfl (ty25.ldS rfl) (Rg 1 rfl (Rs rfl (fun _ => op_ix (n := i3) rfl rfl rfl Tryz.underlying25 ty51.hn (at_map hil3) rfl) (Rs rfl (fun _ => op_fr fi51_1 rfl rfl) (Rs rfl (fun _ => op_ldC (d := dR Exr.row ((q.sets.getD i3 default).expr)) rfl (at_map hil3) (ty32.lcA rfl rfl)) (Rs rfl (fun _ => op_call (d := dR Exr.row (m10 ((q.sets.getD i3 default).expr))) rfl rfl c10 rfl (He i10 ((q.sets.getD i3 default).expr) (Sst.ok_expr (okL_get (Qry.ok_sets h_q) Sst.zok i3)) rfl)) (Rs rfl (fun _ => op_buildS (qs := [(0, dI ((q.sets.getD i3 default).column)), (1, dR Exr.row (m10 ((q.sets.getD i3 default).expr)))]) (d := dR Sst.enc (⟨((q.sets.getD i3 default).column), (m10 ((q.sets.getD i3 default).expr))⟩ : Sst)) rfl (bd51_0_1 ..)) (Rs rfl (fun _ => op_bs (xs := ([(⟨((q.sets.getD i3 default).column), (m10 ((q.sets.getD i3 default).expr))⟩ : Sst)] : List Sst).map Sst.enc) Tryz.underlying25 ty51.hn (z51 (S := S)) rfl rfl rfl rfl rfl) (Rw.ap (j := 2) (ys := ([(⟨((q.sets.getD i3 default).column), (m10 ((q.sets.getD i3 default).expr))⟩ : Sst)]).map Sst.enc) h (Nat.le_add_right _ 17) rfl rfl rfl rfl rfl rfl rfl rfl (room_mk Tryz.underlying25 (if51 (S := S)) (z51 (S := S)) rfl rfl rfl rfl (by simp only [List.length_map, List.length_cons, List.length_nil]; omega)) (heads_map _ (fun _ => rfl)) rfl fun d3 _ h => ?_))))))))))))))))))))))))))))
  simp only [List.set_cons_zero, List.set_cons_succ, ← List.map_append] at h
  refine Rf fi41_4 rfl (Rw.stA (k := 0) (j := 2) (cs' := [D.c (.int .i64 q.kind), D.c (.int .i64 q.table), D.c (.sl false ((m9 q.columns).map encI)), el1_a1, d3, (D.c (.sl true (([] : (List Itm)).map Itm.enc))), D.c (.int .i64 q.wher.kind), D.c (.str q.wher.op), D.c (.int .i64 q.wher.column), D.c (.int .i64 q.wher.value.kind), D.c (.int .i64 q.wher.value.n), D.c (.float .f64 q.wher.value.f), D.c (.str q.wher.value.s), D.c (.sl false (q.wher.kids.map Exr.enc)), D.c (.sl false ((m9 q.group).map encI)), (D.c (.sl true (([] : (List Odr)).map Odr.enc))), D.c (.int .i64 q.limit), D.c (.int .i64 q.level), D.c (.int .u64 q.stamp), D.c (.str q.name), D.c (.str q.create.name), D.c (.sl false (q.create.columns.map Col.enc)), D.c (.sl false (q.create.key.map encI)), D.c (.sl false (q.create.indexes.map Idx.enc)), D.c (.sl false (q.create.refs.map Rfr.enc))]) h (Nat.le_add_right _ 1) rfl rfl rfl rfl rfl ty25.hn rfl rfl rfl fun _ h => Rw.nilK h (Nat.add_le_add_left (by decide : 20 ≤ 20) _) fun h => ?_)
  refine ⟨by kernel_rfl, ?_⟩
  exact Cw.regionK h fun _ _ h => Rg 1 rfl (Rs rfl (fun _ => op_add_int (v := ((i3 + 1 : Nat) : Int)) rfl rfl (wrap_one (by omega))) (Rg 1 rfl (Rz h fun h => ih (i3 + 1) (yl3_a2 ++ ([(⟨((q.sets.getD i3 default).column), (m10 ((q.sets.getD i3 default).expr))⟩ : Sst)])) _ _ _ (by omega) (by simp only [List.length_append, List.length_cons, List.length_nil]; omega) (all_snoc myl3_a2 (⟨(have h := (m10_ok (Sst.ok_expr (okL_get (Qry.ok_sets h_q) Sst.zok i3))); h)⟩ : Sst.ok (⟨((q.sets.getD i3 default).column), (m10 ((q.sets.getD i3 default).expr))⟩ : Sst))) rfl rfl rfl rfl h)))
 refine Cw.mono (hl3 q.sets.length 0 ([]) _ _ _ (by omega) (by simp) (by simp) rfl rfl rfl rfl h) ?_
 intro oY gY sY hh
 generalize hzL3 : m4_l3 q yl1_a1 q.sets.length 0 ([]) = zZ at hh ⊢
 rcases zZ with yl3_a2 | rZ
 dsimp only
 obtain ⟨el3_a2, rfl, nyl3_a2, myl3_a2, e1, e2, e3, h⟩ := hh
 rw [pin e1, pin e2, pin e3]
 have hbd3 := okL_len (Qry.ok_sets h_q)
 refine Cs (Ck h fun _ _ h => Rg 1 rfl (Rz h fun h => Cb ?_))
 have hl4 : ∀ (rem4 i4 : Nat) (yl4_a3 : (List Itm)) (el4_a3 : D) (fr : Nat → D) (σ : St), i4 + rem4 = q.items.length → yl4_a3.length ≤ i4 → (∀ y ∈ yl4_a3, Itm.ok y) → fr 1 = D.ptr b1 0 → fr 2 = D.ptr b2 0 → fr 3 = D.ptr b3 0 → fr 8 = dN i4 → Ko 0 σ [(b3, [D.c (.int .i64 q.kind), D.c (.int .i64 q.table), D.c (.sl false ((m9 q.columns).map encI)), el1_a1, el3_a2, el4_a3, D.c (.int .i64 q.wher.kind), D.c (.str q.wher.op), D.c (.int .i64 q.wher.column), D.c (.int .i64 q.wher.value.kind), D.c (.int .i64 q.wher.value.n), D.c (.float .f64 q.wher.value.f), D.c (.str q.wher.value.s), D.c (.sl false (q.wher.kids.map Exr.enc)), D.c (.sl false ((m9 q.group).map encI)), (D.c (.sl true (([] : (List Odr)).map Odr.enc))), D.c (.int .i64 q.limit), D.c (.int .i64 q.level), D.c (.int .u64 q.stamp), D.c (.str q.name), D.c (.str q.create.name), D.c (.sl false (q.create.columns.map Col.enc)), D.c (.sl false (q.create.key.map encI)), D.c (.sl false (q.create.indexes.map Idx.enc)), D.c (.sl false (q.create.refs.map Rfr.enc))]), (b2, zc41), (b1, (dC Qry.enc q))] [((D.c (.sl true (([] : (List Odr)).map Odr.enc))), ([]).map Odr.enc, 2), (el4_a3, (yl4_a3).map Itm.enc, 11), (el3_a2, (yl3_a2).map Sst.enc, 9), (el1_a1, rl1_a1, 1)] → Cw (EE S) cm4_l4 134 fr σ (fun oX gX sX => match m4_l4 q yl1_a1 yl3_a2 rem4 i4 yl4_a3 with | .on yl4_a3 => ∃ el4_a3, oX = some (some 6) ∧ yl4_a3.length ≤ q.items.length ∧ (∀ y ∈ yl4_a3, Itm.ok y) ∧ gX 1 = D.ptr b1 0 ∧ gX 2 = D.ptr b2 0 ∧ gX 3 = D.ptr b3 0 ∧ Ko 0 sX [(b3, [D.c (.int .i64 q.kind), D.c (.int .i64 q.table), D.c (.sl false ((m9 q.columns).map encI)), el1_a1, el3_a2, el4_a3, D.c (.int .i64 q.wher.kind), D.c (.str q.wher.op), D.c (.int .i64 q.wher.column), D.c (.int .i64 q.wher.value.kind), D.c (.int .i64 q.wher.value.n), D.c (.float .f64 q.wher.value.f), D.c (.str q.wher.value.s), D.c (.sl false (q.wher.kids.map Exr.enc)), D.c (.sl false ((m9 q.group).map encI)), (D.c (.sl true (([] : (List Odr)).map Odr.enc))), D.c (.int .i64 q.limit), D.c (.int .i64 q.level), D.c (.int .u64 q.stamp), D.c (.str q.name), D.c (.str q.create.name), D.c (.sl false (q.create.columns.map Col.enc)), D.c (.sl false (q.create.key.map encI)), D.c (.sl false (q.create.indexes.map Idx.enc)), D.c (.sl false (q.create.refs.map Rfr.enc))]), (b2, zc41), (b1, (dC Qry.enc q))] [((D.c (.sl true (([] : (List Odr)).map Odr.enc))), ([]).map Odr.enc, 2), (el4_a3, (yl4_a3).map Itm.enc, 11), (el3_a2, (yl3_a2).map Sst.enc, 9), (el1_a1, rl1_a1, 1)] | .out r => Ou S Tryz.f4 (fun d _ => plain d = true ∧ nrmD (strip d) = dR Qry.enc r) oX gX sX) := by
  intro rem4
  induction rem4
  intro i4 yl4_a3 el4_a3 fr σ hi nyl4_a3 myl4_a3 e1 e2 e3 e8 h
  have hlt4 : decide ((((i4 : Nat) : Int) : Int) < ((q.items.length : Nat) : Int)) = false := decF (by omega)
  rw [pin e1, pin e2, pin e3, pin e8]
  rw [m4_l4]
  exact Co (Cs (Ck h fun _ _ h => Rg 1 rfl (Rf fi41_5 rfl (Rl 2 h rfl (ty26.ldS rfl) (Re Tryz.underlying26 rfl (Rs rfl (fun _ => op_lss_int rfl rfl hlt4) (Rz h fun h => Cf rfl (Cw.exit (Exists.intro el4_a3 (an7 rfl (by omega) myl4_a3 rfl rfl rfl h))))))))))
  rename_i rem4 ih
  intro i4 yl4_a3 el4_a3 fr σ hi nyl4_a3 myl4_a3 e1 e2 e3 e8 h
  have hlt4 : decide ((((i4 : Nat) : Int) : Int) < ((q.items.length : Nat) : Int)) = true := decT (by omega)
  have hil4 : i4 < q.items.length := by omega
  have hbq4 := okL_len (Qry.ok_items h_q)
  rw [pin e1, pin e2, pin e3, pin e8]
  rw [m4_l4]
  refine Co (Cs (Ck h fun _ _ h => Rg 1 rfl (Rf fi41_5 rfl (Rl 2 h rfl (ty26.ldS rfl) (Re Tryz.underlying26 rfl (Rs rfl (fun _ => op_lss_int rfl rfl hlt4) (Rz h fun h => Ct rfl (Ci (Cs (Cb (Ck h fun _ _ h => Rf fi41_5 rfl (Rl 2 h rfl (ty26.ldS rfl) (Rg 1 rfl (Rs rfl (fun _ => op_ix (n := i4) rfl rfl rfl Tryz.underlying26 ty53.hn (at_map hil4) rfl) (Rs rfl (fun _ => op_ldC (d := dR Itm.enc (q.items.getD i4 default)) rfl (at_map hil4) (ty53.lcA rfl rfl)) (Rw.al (z := zc53) h (Nat.le_add_right _ 5) rfl rfl rfl (z53 (S := S)) rfl fun b4 _ h => Rw.st (k := 0) (cs' := (dC Itm.enc (q.items.getD i4 default))) h (Nat.le_add_right _ 0) rfl rfl rfl rfl rfl ty53.hn rfl rfl rfl fun _ h => Rw.nilK h (Nat.add_le_add_left (by decide : 7 ≤ 7) _) fun h => Ck h fun _ _ h => Rf fi53_2 rfl (Rw.ld (k := 0) (d := dR Exr.row ((q.items.getD i4 default).expr)) h rfl rfl rfl rfl rfl (ty32.ldA rfl rfl) rfl (Rs rfl (fun _ => op_call (d := dR Exr.row (m10 ((q.items.getD i4 default).expr))) rfl rfl c10 rfl (He i10 ((q.items.getD i4 default).expr) (Itm.ok_expr (okL_get (Qry.ok_items h_q) Itm.zok i4)) rfl)) (Rf fi53_2 rfl (Rw.st (k := 0) (cs' := (dC Itm.enc (⟨(q.items.getD i4 default).fold, (q.items.getD i4 default).all, (m10 ((q.items.getD i4 default).expr)), (q.items.getD i4 default).name⟩ : Itm))) h (Nat.le_add_right _ 4) rfl rfl rfl rfl rfl ty32.hn rfl rfl rfl fun _ h => Rw.nilK h (Nat.add_le_add_left (by decide : 5 ≤ 5) _) fun h => Cw.regionK h fun _ _ h => Rf fi41_5 rfl (Rw.ld (k := 1) (d := el4_a3) h rfl rfl rfl rfl rfl (ty26.ldS rfl) rfl (Rw.ld (k := 0) (d := dR Itm.enc (⟨(q.items.getD i4 default).fold, (q.items.getD i4 default).all, (m10 ((q.items.getD i4 default).expr)), (q.items.getD i4 default).name⟩ : Itm)) h rfl rfl rfl rfl rfl (ty53.ldA rfl rfl) rfl (Rs rfl (fun _ => op_bs (xs := ([(⟨(q.items.getD i4 default).fold, (q.items.getD i4 default).all, (m10 ((q.items.getD i4 default).expr)), (q.items.getD i4 default).name⟩ : Itm)] : List Itm).map Itm.enc) Tryz.underlying26 ty53.hn (z53 (S := S)) rfl rfl rfl rfl rfl) (Rw.ap (j := 1) (ys := ([(⟨(q.items.getD i4 default).fold, (q.items.getD i4 default).all, (m10 ((q.items.getD i4 default).expr)), (q.items.getD i4 default).name⟩ : Itm)]).map Itm.enc) h (Nat.le_add_right _ 4) rfl rfl rfl rfl rfl rfl rfl rfl (room_mk Tryz.underlying26 (if53 (S := S)) (z53 (S := S)) rfl rfl rfl rfl (by simp only [List.length_map, List.length_cons, List.length_nil]; omega)) (heads_map _ (fun _ => rfl)) rfl fun d4 _ h => ?_))))))))))))))))))))))))
  simp only [List.set_cons_zero, List.set_cons_succ, ← List.map_append] at h
  exact Rf fi41_5 rfl (Rw.stA (k := 1) (j := 1) (cs' := [D.c (.int .i64 q.kind), D.c (.int .i64 q.table), D.c (.sl false ((m9 q.columns).map encI)), el1_a1, el3_a2, d4, D.c (.int .i64 q.wher.kind), D.c (.str q.wher.op), D.c (.int .i64 q.wher.column), D.c (.int .i64 q.wher.value.kind), D.c (.int .i64 q.wher.value.n), D.c (.float .f64 q.wher.value.f), D.c (.str q.wher.value.s), D.c (.sl false (q.wher.kids.map Exr.enc)), D.c (.sl false ((m9 q.group).map encI)), (D.c (.sl true (([] : (List Odr)).map Odr.enc))), D.c (.int .i64 q.limit), D.c (.int .i64 q.level), D.c (.int .u64 q.stamp), D.c (.str q.name), D.c (.str q.create.name), D.c (.sl false (q.create.columns.map Col.enc)), D.c (.sl false (q.create.key.map encI)), D.c (.sl false (q.create.indexes.map Idx.enc)), D.c (.sl false (q.create.refs.map Rfr.enc))]) h (Nat.le_add_right _ 1) rfl rfl rfl rfl rfl ty26.hn rfl rfl rfl fun _ h => Rw.nilK h (Nat.add_le_add_left (by decide : 7 ≤ 7) _) fun h => Cw.regionK h fun _ _ h => Rg 1 rfl (Rs rfl (fun _ => op_add_int (v := ((i4 + 1 : Nat) : Int)) rfl rfl (wrap_one (by omega))) (Rg 1 rfl (Rz h fun h => ih (i4 + 1) (yl4_a3 ++ ([(⟨(q.items.getD i4 default).fold, (q.items.getD i4 default).all, (m10 ((q.items.getD i4 default).expr)), (q.items.getD i4 default).name⟩ : Itm)])) _ _ _ (by omega) (by simp only [List.length_append, List.length_cons, List.length_nil]; omega) (all_snoc myl4_a3 (Itm.okset_expr (okL_get (Qry.ok_items h_q) Itm.zok i4) (m10_ok (Itm.ok_expr (okL_get (Qry.ok_items h_q) Itm.zok i4))))) rfl rfl rfl rfl (h.dropBox (List.Sublist.cons _ (List.Sublist.refl _)))))))
 refine Cw.mono (hl4 q.items.length 0 ([]) _ _ _ (by omega) (by simp) (by simp) rfl rfl rfl rfl h) ?_
 intro oY gY sY hh
 generalize hzL4 : m4_l4 q yl1_a1 yl3_a2 q.items.length 0 ([]) = zZ at hh ⊢
 rcases zZ with yl4_a3 | rZ
 dsimp only
 obtain ⟨el4_a3, rfl, nyl4_a3, myl4_a3, e1, e2, e3, h⟩ := hh
 rw [pin e1, pin e2, pin e3]
 have hbd4 := okL_len (Qry.ok_items h_q)
 refine Cs (Ck h fun _ _ h => Rg 1 rfl (Rz h fun h => Cb ?_))
 have hl5 : ∀ (rem5 i5 : Nat) (yl5_a4 : (List Odr)) (el5_a4 : D) (fr : Nat → D) (σ : St), i5 + rem5 = q.order.length → yl5_a4.length ≤ i5 → (∀ y ∈ yl5_a4, Odr.ok y) → fr 1 = D.ptr b1 0 → fr 2 = D.ptr b2 0 → fr 3 = D.ptr b3 0 → fr 10 = dN i5 → Ko 0 σ [(b3, [D.c (.int .i64 q.kind), D.c (.int .i64 q.table), D.c (.sl false ((m9 q.columns).map encI)), el1_a1, el3_a2, el4_a3, D.c (.int .i64 q.wher.kind), D.c (.str q.wher.op), D.c (.int .i64 q.wher.column), D.c (.int .i64 q.wher.value.kind), D.c (.int .i64 q.wher.value.n), D.c (.float .f64 q.wher.value.f), D.c (.str q.wher.value.s), D.c (.sl false (q.wher.kids.map Exr.enc)), D.c (.sl false ((m9 q.group).map encI)), el5_a4, D.c (.int .i64 q.limit), D.c (.int .i64 q.level), D.c (.int .u64 q.stamp), D.c (.str q.name), D.c (.str q.create.name), D.c (.sl false (q.create.columns.map Col.enc)), D.c (.sl false (q.create.key.map encI)), D.c (.sl false (q.create.indexes.map Idx.enc)), D.c (.sl false (q.create.refs.map Rfr.enc))]), (b2, zc41), (b1, (dC Qry.enc q))] [(el5_a4, (yl5_a4).map Odr.enc, 2), (el4_a3, (yl4_a3).map Itm.enc, 11), (el3_a2, (yl3_a2).map Sst.enc, 9), (el1_a1, rl1_a1, 1)] → Cw (EE S) cm4_l5 134 fr σ (fun oX gX sX => match m4_l5 q yl1_a1 yl3_a2 yl4_a3 rem5 i5 yl5_a4 with | .on yl5_a4 => ∃ el5_a4, oX = some (some 8) ∧ yl5_a4.length ≤ q.order.length ∧ (∀ y ∈ yl5_a4, Odr.ok y) ∧ gX 1 = D.ptr b1 0 ∧ gX 2 = D.ptr b2 0 ∧ gX 3 = D.ptr b3 0 ∧ Ko 0 sX [(b3, [D.c (.int .i64 q.kind), D.c (.int .i64 q.table), D.c (.sl false ((m9 q.columns).map encI)), el1_a1, el3_a2, el4_a3, D.c (.int .i64 q.wher.kind), D.c (.str q.wher.op), D.c (.int .i64 q.wher.column), D.c (.int .i64 q.wher.value.kind), D.c (.int .i64 q.wher.value.n), D.c (.float .f64 q.wher.value.f), D.c (.str q.wher.value.s), D.c (.sl false (q.wher.kids.map Exr.enc)), D.c (.sl false ((m9 q.group).map encI)), el5_a4, D.c (.int .i64 q.limit), D.c (.int .i64 q.level), D.c (.int .u64 q.stamp), D.c (.str q.name), D.c (.str q.create.name), D.c (.sl false (q.create.columns.map Col.enc)), D.c (.sl false (q.create.key.map encI)), D.c (.sl false (q.create.indexes.map Idx.enc)), D.c (.sl false (q.create.refs.map Rfr.enc))]), (b2, zc41), (b1, (dC Qry.enc q))] [(el5_a4, (yl5_a4).map Odr.enc, 2), (el4_a3, (yl4_a3).map Itm.enc, 11), (el3_a2, (yl3_a2).map Sst.enc, 9), (el1_a1, rl1_a1, 1)] | .out r => Ou S Tryz.f4 (fun d _ => plain d = true ∧ nrmD (strip d) = dR Qry.enc r) oX gX sX) := by
  intro rem5
  induction rem5
  intro i5 yl5_a4 el5_a4 fr σ hi nyl5_a4 myl5_a4 e1 e2 e3 e10 h
  have hlt5 : decide ((((i5 : Nat) : Int) : Int) < ((q.order.length : Nat) : Int)) = false := decF (by omega)
  rw [pin e1, pin e2, pin e3, pin e10]
  rw [m4_l5]
  exact Co (Cs (Ck h fun _ _ h => Rg 1 rfl (Rf fi41_8 rfl (Rl 2 h rfl (ty33.ldS rfl) (Re Tryz.underlying33 rfl (Rs rfl (fun _ => op_lss_int rfl rfl hlt5) (Rz h fun h => Cf rfl (Cw.exit (Exists.intro el5_a4 (an7 rfl (by omega) myl5_a4 rfl rfl rfl h))))))))))
  rename_i rem5 ih
  intro i5 yl5_a4 el5_a4 fr σ hi nyl5_a4 myl5_a4 e1 e2 e3 e10 h
  have hlt5 : decide ((((i5 : Nat) : Int) : Int) < ((q.order.length : Nat) : Int)) = true := decT (by omega)
  have hil5 : i5 < q.order.length := by omega
  have hbq5 := okL_len (Qry.ok_order h_q)
  rw [pin e1, pin e2, pin e3, pin e10]
  rw [m4_l5]
  refine Co (Cs (Ck h fun _ _ h => Rg 1 rfl (Rf fi41_8 rfl (Rl 2 h rfl (ty33.ldS rfl) (Re Tryz.underlying33 rfl (Rs rfl (fun _ => op_lss_int rfl rfl hlt5) (Rz h fun h => Ct rfl (Ci (Cs (Cb (Cw.regionD h fun _ _ h => Rf fi41_8 rfl (Rw.ld (k := 0) (d := el5_a4) h rfl rfl rfl rfl rfl (ty33.ldS rfl) rfl (Rf fi41_8 rfl (Rl 2 h rfl (ty33.ldS rfl) (Rg 1 rfl (Rs rfl (fun _ => op_ix (n := i5) rfl rfl rfl Tryz.underlying33 ty55.hn (at_map hil5) rfl) (Rs rfl (fun _ => op_ldC (d := dR Odr.enc (q.order.getD i5 default)) rfl (at_map hil5) (ty55.lcA rfl rfl)) (Rs rfl (fun _ => op_bs (xs := ([(q.order.getD i5 default)] : List Odr).map Odr.enc) Tryz.underlying33 ty55.hn (z55 (S := S)) rfl rfl rfl rfl rfl) (Rw.ap (j := 0) (ys := ([(q.order.getD i5 default)]).map Odr.enc) h (Nat.le_add_right _ 8) rfl rfl rfl rfl rfl rfl rfl rfl (room_mk Tryz.underlying33 (if55 (S := S)) (z55 (S := S)) rfl rfl rfl rfl (by simp only [List.length_map, List.length_cons, List.length_nil]; omega)) (heads_map _ (fun _ => rfl)) rfl fun d5 _ h => ?_)))))))))))))))))))
  simp only [List.set_cons_zero, ← List.map_append] at h
  refine Rf fi41_8 rfl (Rw.stA (k := 0) (j := 0) (cs' := [D.c (.int .i64 q.kind), D.c (.int .i64 q.table), D.c (.sl false ((m9 q.columns).map encI)), el1_a1, el3_a2, el4_a3, D.c (.int .i64 q.wher.kind), D.c (.str q.wher.op), D.c (.int .i64 q.wher.column), D.c (.int .i64 q.wher.value.kind), D.c (.int .i64 q.wher.value.n), D.c (.float .f64 q.wher.value.f), D.c (.str q.wher.value.s), D.c (.sl false (q.wher.kids.map Exr.enc)), D.c (.sl false ((m9 q.group).map encI)), d5, D.c (.int .i64 q.limit), D.c (.int .i64 q.level), D.c (.int .u64 q.stamp), D.c (.str q.name), D.c (.str q.create.name), D.c (.sl false (q.create.columns.map Col.enc)), D.c (.sl false (q.create.key.map encI)), D.c (.sl false (q.create.indexes.map Idx.enc)), D.c (.sl false (q.create.refs.map Rfr.enc))]) h (Nat.le_add_right _ 1) rfl rfl rfl rfl rfl ty33.hn rfl rfl rfl fun _ h => Rw.nilK h (Nat.add_le_add_left (by decide : 11 ≤ 11) _) fun h => ?_)
  refine ⟨by kernel_rfl, ?_⟩
  exact Cw.regionK h fun _ _ h => Rg 1 rfl (Rs rfl (fun _ => op_add_int (v := ((i5 + 1 : Nat) : Int)) rfl rfl (wrap_one (by omega))) (Rg 1 rfl (Rz h fun h => ih (i5 + 1) (yl5_a4 ++ ([(q.order.getD i5 default)])) _ _ _ (by omega) (by simp only [List.length_append, List.length_cons, List.length_nil]; omega) (all_snoc myl5_a4 (okL_get (Qry.ok_order h_q) Odr.zok i5)) rfl rfl rfl rfl h)))
 refine Cw.mono (hl5 q.order.length 0 ([]) _ _ _ (by omega) (by simp) (by simp) rfl rfl rfl rfl h) ?_
 intro oY gY sY hh
 generalize hzL5 : m4_l5 q yl1_a1 yl3_a2 yl4_a3 q.order.length 0 ([]) = zZ at hh ⊢
 rcases zZ with yl5_a4 | rZ
 dsimp only
 obtain ⟨el5_a4, rfl, nyl5_a4, myl5_a4, e1, e2, e3, h⟩ := hh
 rw [pin e1, pin e2, pin e3]
 have hbd5 := okL_len (Qry.ok_order h_q)
 refine Ck h fun _ _ h => Rf fi41_6 rfl (Rw.ld (k := 2) (d := dR Exr.row q.wher) h rfl rfl rfl rfl rfl (ty32.ldA rfl rfl) rfl (Rs rfl (fun _ => op_call (d := dR Exr.row (m10 q.wher)) rfl rfl c10 rfl (He i10 q.wher (Qry.ok_wher h_q) rfl)) (Rf fi41_6 rfl (Rw.st (k := 0) (cs' := [D.c (.int .i64 q.kind), D.c (.int .i64 q.table), D.c (.sl false ((m9 q.columns).map encI)), el1_a1, el3_a2, el4_a3, D.c (.int .i64 (m10 q.wher).kind), D.c (.str (m10 q.wher).op), D.c (.int .i64 (m10 q.wher).column), D.c (.int .i64 (m10 q.wher).value.kind), D.c (.int .i64 (m10 q.wher).value.n), D.c (.float .f64 (m10 q.wher).value.f), D.c (.str (m10 q.wher).value.s), D.c (.sl false ((m10 q.wher).kids.map Exr.enc)), D.c (.sl false ((m9 q.group).map encI)), el5_a4, D.c (.int .i64 q.limit), D.c (.int .i64 q.level), D.c (.int .u64 q.stamp), D.c (.str q.name), D.c (.str q.create.name), D.c (.sl false (q.create.columns.map Col.enc)), D.c (.sl false (q.create.key.map encI)), D.c (.sl false (q.create.indexes.map Idx.enc)), D.c (.sl false (q.create.refs.map Rfr.enc))]) h (Nat.le_add_right _ 4) rfl rfl rfl rfl rfl ty32.hn rfl rfl rfl fun _ h => Rw.nilK h (Nat.add_le_add_left (by decide : 5 ≤ 5) _) fun h => Ck h fun _ _ h => Rf fi41_13 rfl (Rw.ld (k := 2) (d := dR Tbl.enc q.create) h rfl rfl rfl rfl rfl (ty39.ldA rfl rfl) rfl (Rs rfl (fun _ => op_call (d := dR Tbl.enc (m11 q.create)) rfl rfl c11 rfl (He i11 q.create (Qry.ok_create h_q) rfl)) (Rf fi41_13 rfl (Rw.st (k := 0) (cs' := [D.c (.int .i64 q.kind), D.c (.int .i64 q.table), D.c (.sl false ((m9 q.columns).map encI)), el1_a1, el3_a2, el4_a3, D.c (.int .i64 (m10 q.wher).kind), D.c (.str (m10 q.wher).op), D.c (.int .i64 (m10 q.wher).column), D.c (.int .i64 (m10 q.wher).value.kind), D.c (.int .i64 (m10 q.wher).value.n), D.c (.float .f64 (m10 q.wher).value.f), D.c (.str (m10 q.wher).value.s), D.c (.sl false ((m10 q.wher).kids.map Exr.enc)), D.c (.sl false ((m9 q.group).map encI)), el5_a4, D.c (.int .i64 q.limit), D.c (.int .i64 q.level), D.c (.int .u64 q.stamp), D.c (.str q.name), D.c (.str (m11 q.create).name), D.c (.sl false ((m11 q.create).columns.map Col.enc)), D.c (.sl false ((m11 q.create).key.map encI)), D.c (.sl false ((m11 q.create).indexes.map Idx.enc)), D.c (.sl false ((m11 q.create).refs.map Rfr.enc))]) h (Nat.le_add_right _ 4) rfl rfl rfl rfl rfl ty39.hn rfl rfl rfl fun _ h => Rw.nilK h (Nat.add_le_add_left (by decide : 5 ≤ 5) _) fun h => Ck h fun _ _ h => Rw.ld (k := 0) (d := D.agg [D.c (.int .i64 q.kind), D.c (.int .i64 q.table), D.c (.sl false ((m9 q.columns).map encI)), el1_a1, el3_a2, el4_a3, D.c (.int .i64 (m10 q.wher).kind), D.c (.str (m10 q.wher).op), D.c (.int .i64 (m10 q.wher).column), D.c (.int .i64 (m10 q.wher).value.kind), D.c (.int .i64 (m10 q.wher).value.n), D.c (.float .f64 (m10 q.wher).value.f), D.c (.str (m10 q.wher).value.s), D.c (.sl false ((m10 q.wher).kids.map Exr.enc)), D.c (.sl false ((m9 q.group).map encI)), el5_a4, D.c (.int .i64 q.limit), D.c (.int .i64 q.level), D.c (.int .u64 q.stamp), D.c (.str q.name), D.c (.str (m11 q.create).name), D.c (.sl false ((m11 q.create).columns.map Col.enc)), D.c (.sl false ((m11 q.create).key.map encI)), D.c (.sl false ((m11 q.create).indexes.map Idx.enc)), D.c (.sl false ((m11 q.create).refs.map Rfr.enc))]) h rfl rfl rfl rfl rfl (ty41.ldA rfl rfl) rfl ?_))))))))
 have hcl0 := (h.ac _ (List.mem_of_getElem? (i := 3) rfl)).plain.2.2.1
 have hcl1 := (h.ac _ (List.mem_of_getElem? (i := 2) rfl)).plain.2.2.1
 have hcl2 := (h.ac _ (List.mem_of_getElem? (i := 1) rfl)).plain.2.2.1
 have hcl3 := (h.ac _ (List.mem_of_getElem? (i := 0) rfl)).plain.2.2.1
 refine Rw.st (k := 1) (d := D.agg [D.c (.int .i64 q.kind), D.c (.int .i64 q.table), D.c (.sl false ((m9 q.columns).map encI)), el1_a1, el3_a2, el4_a3, D.c (.int .i64 (m10 q.wher).kind), D.c (.str (m10 q.wher).op), D.c (.int .i64 (m10 q.wher).column), D.c (.int .i64 (m10 q.wher).value.kind), D.c (.int .i64 (m10 q.wher).value.n), D.c (.float .f64 (m10 q.wher).value.f), D.c (.str (m10 q.wher).value.s), D.c (.sl false ((m10 q.wher).kids.map Exr.enc)), D.c (.sl false ((m9 q.group).map encI)), el5_a4, D.c (.int .i64 q.limit), D.c (.int .i64 q.level), D.c (.int .u64 q.stamp), D.c (.str q.name), D.c (.str (m11 q.create).name), D.c (.sl false ((m11 q.create).columns.map Col.enc)), D.c (.sl false ((m11 q.create).key.map encI)), D.c (.sl false ((m11 q.create).indexes.map Idx.enc)), D.c (.sl false ((m11 q.create).refs.map Rfr.enc))]) (cs' := [D.c (.int .i64 q.kind), D.c (.int .i64 q.table), D.c (.sl false ((m9 q.columns).map encI)), el1_a1, el3_a2, el4_a3, D.c (.int .i64 (m10 q.wher).kind), D.c (.str (m10 q.wher).op), D.c (.int .i64 (m10 q.wher).column), D.c (.int .i64 (m10 q.wher).value.kind), D.c (.int .i64 (m10 q.wher).value.n), D.c (.float .f64 (m10 q.wher).value.f), D.c (.str (m10 q.wher).value.s), D.c (.sl false ((m10 q.wher).kids.map Exr.enc)), D.c (.sl false ((m9 q.group).map encI)), el5_a4, D.c (.int .i64 q.limit), D.c (.int .i64 q.level), D.c (.int .u64 q.stamp), D.c (.str q.name), D.c (.str (m11 q.create).name), D.c (.sl false ((m11 q.create).columns.map Col.enc)), D.c (.sl false ((m11 q.create).key.map encI)), D.c (.sl false ((m11 q.create).indexes.map Idx.enc)), D.c (.sl false ((m11 q.create).refs.map Rfr.enc))]) h (Nat.le_add_right _ 1) rfl rfl rfl rfl rfl ty41.hn rfl (by simp only [D.cells, List.length_cons, List.length_nil, List.all_cons, List.all_nil, hcl0, hcl1, hcl2, hcl3]; rfl) rfl fun _ h => Rw.nilK h (Nat.add_le_add_left (by decide : 2 ≤ 2) _) fun h => Cr ?_
 obtain ⟨_, hfp0, _, ff0, _, hfs0, _⟩ := (h.ac _ (List.mem_of_getElem? (i := 3) rfl)).plain
 obtain ⟨_, hfp1, _, ff1, _, hfs1, _⟩ := (h.ac _ (List.mem_of_getElem? (i := 2) rfl)).plain
 obtain ⟨_, hfp2, _, ff2, _, hfs2, _⟩ := (h.ac _ (List.mem_of_getElem? (i := 1) rfl)).plain
 obtain ⟨_, hfp3, _, ff3, _, hfs3, _⟩ := (h.ac _ (List.mem_of_getElem? (i := 0) rfl)).plain
 exact ⟨.inr rfl, (D.agg [D.c (.int .i64 q.kind), D.c (.int .i64 q.table), D.c (.sl false ((m9 q.columns).map encI)), el1_a1, el3_a2, el4_a3, D.c (.int .i64 (m10 q.wher).kind), D.c (.str (m10 q.wher).op), D.c (.int .i64 (m10 q.wher).column), D.c (.int .i64 (m10 q.wher).value.kind), D.c (.int .i64 (m10 q.wher).value.n), D.c (.float .f64 (m10 q.wher).value.f), D.c (.str (m10 q.wher).value.s), D.c (.sl false ((m10 q.wher).kids.map Exr.enc)), D.c (.sl false ((m9 q.group).map encI)), el5_a4, D.c (.int .i64 q.limit), D.c (.int .i64 q.level), D.c (.int .u64 q.stamp), D.c (.str q.name), D.c (.str (m11 q.create).name), D.c (.sl false ((m11 q.create).columns.map Col.enc)), D.c (.sl false ((m11 q.create).key.map encI)), D.c (.sl false ((m11 q.create).indexes.map Idx.enc)), D.c (.sl false ((m11 q.create).refs.map Rfr.enc))]), (res_cell (k := 1) h rfl rfl (ty41.ldA rfl rfl)), (by simp only [plain, plain1, List.all_cons, List.all_nil, hfp0, hfp1, hfp2, hfp3]; rfl), (by simp only [strip, strip1, List.map_cons, List.map_nil, hfs0, hfs1, hfs2, hfs3]; simp only [nrmD, nrmA, List.map_cons, List.map_nil, nrm1, stripC_c, normC, nrm_encI, nrm_Exr_enc, nrm_Sst_enc, nrm_Itm_enc, nrm_Odr_enc, nrm_Col_enc, nrm_Idx_enc, nrm_Rfr_enc, kyl1_a1]; rfl)⟩
 obtain ⟨rfl, w⟩ := hh
 exact ⟨.inr rfl, w⟩
 obtain ⟨rfl, w⟩ := hh
 exact ⟨.inr rfl, w⟩
 obtain ⟨rfl, w⟩ := hh
 exact ⟨.inr rfl, w⟩
 obtain ⟨rfl, w⟩ := hh
 exact ⟨.inr rfl, w⟩
noncomputable def H4 : List D → R D := mkH (L1 (dR Qry.enc)) (fun x => Qry.ok x) (fun x => dR Qry.enc (m4 x))
theorem i4 : InjE (L1 (dR Qry.enc)) := j1 (jR Qry.inj)
theorem map_snoc {α β : Type} [Inhabited α] (f : α → β) (l : List α) {i : Nat} (hi : i < l.length) : (l.map f).take i ++ [f (l.getD i default)] = (l.map f).take (i + 1) := by
  rw [List.getD, List.getElem?_eq_getElem hi, Option.getD_some, List.take_succ_eq_append_getElem (by rw [List.length_map]; exact hi), List.getElem_map]
def smallQ (q : Qry) : Qry := ⟨q.kind, q.table, q.columns, q.rows.map (·.map m10), q.sets.map (fun s => ⟨s.column, m10 s.expr⟩), q.items.map (fun x => ⟨x.fold, x.all, m10 x.expr, x.name⟩), m10 q.wher, q.group, q.order, q.limit, q.level, q.stamp, q.name, q.create⟩
theorem m4_l2_eq (q : Qry) (j : Nat) (y : List (List Exr)) : ∀ (rem i : Nat), i + rem = (q.rows.getD j default).length → m4_l2 q j y rem i (((q.rows.getD j default).map m10).take i) = .on ((q.rows.getD j default).map m10)
  | 0, i, h => by rw [m4_l2, List.take_of_length_le (by rw [List.length_map]; omega)]
  | rem + 1, i, h => by rw [m4_l2, map_snoc m10 _ (by omega)]; exact m4_l2_eq q j y rem (i + 1) (by omega)
theorem m4_l1_eq (q : Qry) : ∀ (rem i : Nat), i + rem = q.rows.length → m4_l1 q rem i ((q.rows.map (·.map m10)).take i) = .on (q.rows.map (·.map m10))
  | 0, i, h => by rw [m4_l1, List.take_of_length_le (by rw [List.length_map]; omega)]
  | rem + 1, i, h => by
    have := m4_l2_eq q i ((q.rows.map (·.map m10)).take i) (q.rows.getD i default).length 0 (by omega)
    rw [List.take_zero] at this
    rw [m4_l1, this]
    simp only
    rw [map_snoc (fun r : List Exr => r.map m10) q.rows (by omega)]
    exact m4_l1_eq q rem (i + 1) (by omega)
theorem m4_l3_eq (q : Qry) (y : List (List Exr)) : ∀ (rem i : Nat), i + rem = q.sets.length → m4_l3 q y rem i ((smallQ q).sets.take i) = .on (smallQ q).sets
  | 0, i, h => by rw [m4_l3, List.take_of_length_le (by simp only [smallQ, List.length_map]; omega)]
  | rem + 1, i, h => by
    rw [m4_l3]
    exact (congrArg _ (map_snoc (fun s : Sst => (⟨s.column, m10 s.expr⟩ : Sst)) q.sets (by omega))).trans (m4_l3_eq q y rem (i + 1) (by omega))
theorem m4_l4_eq (q : Qry) (y : List (List Exr)) (z : List Sst) : ∀ (rem i : Nat), i + rem = q.items.length → m4_l4 q y z rem i ((smallQ q).items.take i) = .on (smallQ q).items
  | 0, i, h => by rw [m4_l4, List.take_of_length_le (by simp only [smallQ, List.length_map]; omega)]
  | rem + 1, i, h => by
    rw [m4_l4]
    exact (congrArg _ (map_snoc (fun x : Itm => (⟨x.fold, x.all, m10 x.expr, x.name⟩ : Itm)) q.items (by omega))).trans (m4_l4_eq q y z rem (i + 1) (by omega))
theorem m4_l5_eq (q : Qry) (y : List (List Exr)) (z : List Sst) (u : List Itm) : ∀ (rem i : Nat), i + rem = q.order.length → m4_l5 q y z u rem i (q.order.take i) = .on q.order
  | 0, i, h => by rw [m4_l5, List.take_of_length_le (by omega)]
  | rem + 1, i, h => by rw [m4_l5, take_snoc _ (by omega)]; exact m4_l5_eq q y z u rem (i + 1) (by omega)
theorem m4_eq (q : Qry) : m4 q = smallQ q := by
  have h1 := m4_l1_eq q q.rows.length 0 (by omega)
  have h3 := m4_l3_eq q (q.rows.map (·.map m10)) q.sets.length 0 (by omega)
  have h4 := m4_l4_eq q (q.rows.map (·.map m10)) (smallQ q).sets q.items.length 0 (by omega)
  have h5 := m4_l5_eq q (q.rows.map (·.map m10)) (smallQ q).sets (smallQ q).items q.order.length 0 (by omega)
  rw [List.take_zero] at h1 h3 h4 h5
  unfold m4
  rw [h1]; simp only
  rw [h3]; simp only
  rw [h4]; simp only
  rw [h5, m9_eq, m9_eq, m11_eq]
  rfl
theorem okL_map {α β : Type} {p : α → Prop} {p' : β → Prop} {f : α → β} {l : List α} (h : okL p l) (hf : ∀ x, p x → p' (f x)) : okL p' (l.map f) :=
  ⟨by rw [List.length_map]; exact h.1, fun y hy => by obtain ⟨x, hx, rfl⟩ := List.mem_map.1 hy; exact hf x (h.2 x hx)⟩
theorem m4_ok {q : Qry} (h : Qry.ok q) : Qry.ok (m4 q) := by
  rw [m4_eq]
  exact ⟨h.h0, okL_map h.h1 fun _ hr => okL_map hr fun _ he => m10_ok he, okL_map h.h2 fun _ hs => ⟨m10_ok hs.h0⟩, okL_map h.h3 fun _ hs => ⟨m10_ok hs.h0, hs.h1⟩, m10_ok h.h4, h.h5, h.h6, h.h7, h.h8⟩
noncomputable def cm6_l1 : Code := (cl (cr (cl (cr (cr (bodyOf Tryz.f6))))))
def m6_l1 (l : (List Tbl)) : Nat → Nat → (List Tbl) → Lo (List Tbl) (List Tbl)
 | 0, _, yl1_a1 => .on yl1_a1
 | rem1 + 1, i1, yl1_a1 => m6_l1 l rem1 (i1 + 1) (yl1_a1 ++ ([(m11 (l.getD i1 default))]))
def m6 (l : (List Tbl)) : (List Tbl) := (match m6_l1 l l.length 0 ([]) with | .out r => r | .on yl1_a1 => yl1_a1)
theorem m6_ev  (c11 : S 11 = some H11) (l : (List Tbl))  (h_l : (okL Tbl.ok) l) : ∃ d σ', Ev (EE S) 6 [dL Tbl.enc l] St.empty d σ' ∧ plain d = true ∧ nrmT (strip d) = dL Tbl.enc (m6 l) := by
 unfold m6
 have h : Ko 0 St.empty [] [] := Ko.empty
 refine Ev.wp (E := EE S) (fn := Tryz.f6) (nt := 21) Tryz.func6 rfl rfl (Ck h fun _ _ h => Rg 1 rfl (Rz h fun h => Ck h fun _ _ h => Rs rfl (fun _ => op_bs (xs := ([] : List Tbl).map Tbl.enc) Tryz.underlying22 ty39.hn (z39 (S := S)) rfl rfl rfl rfl rfl) (Rg 1 rfl ?_)))
 replace h := h.newAc (([] : (List Tbl)).map Tbl.enc) 5
 refine Rz h fun h => Cs (Ck h fun _ _ h => Rg 1 rfl (Rz h fun h => Cb ?_))
 have hl1 : ∀ (rem1 i1 : Nat) (yl1_a1 : (List Tbl)) (el1_a1 : D) (fr : Nat → D) (σ : St), i1 + rem1 = l.length → yl1_a1.length ≤ i1 → (∀ y ∈ yl1_a1, Tbl.ok y) → fr 0 = dL Tbl.enc l → fr 3 = el1_a1 → fr 4 = dN i1 → Ko 0 σ [] [(el1_a1, (yl1_a1).map Tbl.enc, 5)] → Cw (EE S) cm6_l1 21 fr σ (fun oX gX sX => match m6_l1 l rem1 i1 yl1_a1 with | .on yl1_a1 => ∃ el1_a1, oX = some (some 0) ∧ yl1_a1.length ≤ l.length ∧ (∀ y ∈ yl1_a1, Tbl.ok y) ∧ gX 3 = el1_a1 ∧ Ko 0 sX [] [(el1_a1, (yl1_a1).map Tbl.enc, 5)] | .out r => Ou S Tryz.f6 (fun d _ => plain d = true ∧ nrmT (strip d) = dL Tbl.enc r) oX gX sX) := by
  intro rem1
  induction rem1
  intro i1 yl1_a1 el1_a1 fr σ hi nyl1_a1 myl1_a1 e0 e3 e4 h
  have hlt1 : decide ((((i1 : Nat) : Int) : Int) < ((l.length : Nat) : Int)) = false := decF (by omega)
  rw [pin e0, pin e3, pin e4]
  rw [m6_l1]
  exact Co (Cs (Ck h fun _ _ h => Rg 2 rfl (Re Tryz.underlying22 rfl (Rs rfl (fun _ => op_lss_int rfl rfl hlt1) (Rz h fun h => Cf rfl (Cw.exit (Exists.intro el1_a1 (an5 rfl (by omega) myl1_a1 rfl h))))))))
  rename_i rem1 ih
  intro i1 yl1_a1 el1_a1 fr σ hi nyl1_a1 myl1_a1 e0 e3 e4 h
  have hlt1 : decide ((((i1 : Nat) : Int) : Int) < ((l.length : Nat) : Int)) = true := decT (by omega)
  have hil1 : i1 < l.length := by omega
  have hbq1 := okL_len h_l
  rw [pin e0, pin e3, pin e4]
  rw [m6_l1]
  refine Co (Cs (Ck h fun _ _ h => Rg 2 rfl (Re Tryz.underlying22 rfl (Rs rfl (fun _ => op_lss_int rfl rfl hlt1) (Rz h fun h => Ct rfl (Ci (Cs (Cb (Cw.regionK h fun _ _ h => Rs rfl (fun _ => op_move rfl) (Rg 2 rfl (Rs rfl (fun _ => op_ix (n := i1) rfl rfl rfl Tryz.underlying22 ty39.hn (at_map hil1) rfl) (Rs rfl (fun _ => op_ldC (d := dR Tbl.enc (l.getD i1 default)) rfl (at_map hil1) (ty39.lcA rfl rfl)) (Rs rfl (fun _ => op_call (d := dR Tbl.enc (m11 (l.getD i1 default))) rfl rfl c11 rfl (He i11 (l.getD i1 default) (okL_get h_l Tbl.zok i1) rfl)) (Rs rfl (fun _ => op_bs (xs := ([(m11 (l.getD i1 default))] : List Tbl).map Tbl.enc) Tryz.underlying22 ty39.hn (z39 (S := S)) rfl rfl rfl rfl rfl) (Rw.ap (j := 0) (ys := ([(m11 (l.getD i1 default))]).map Tbl.enc) h (Nat.le_add_right _ 7) rfl rfl rfl rfl rfl rfl rfl rfl (room_mk Tryz.underlying22 (if39 (S := S)) (z39 (S := S)) rfl rfl rfl rfl (by simp only [List.length_map, List.length_cons, List.length_nil]; omega)) (heads_map _ (fun _ => rfl)) rfl fun d1 _ h => ?_)))))))))))))))
  simp only [List.set_cons_zero, ← List.map_append] at h
  exact Rs rfl (fun _ => op_assign rfl) (Rw.nilK h (Nat.add_le_add_left (by decide : 8 ≤ 9) _) fun h => Cw.regionK h fun _ _ h => Rg 1 rfl (Rs rfl (fun _ => op_add_int (v := ((i1 + 1 : Nat) : Int)) rfl rfl (wrap_one (by omega))) (Rg 1 rfl (Rz h fun h => ih (i1 + 1) (yl1_a1 ++ ([(m11 (l.getD i1 default))])) _ _ _ (by omega) (by simp only [List.length_append, List.length_cons, List.length_nil]; omega) (all_snoc myl1_a1 (m11_ok (okL_get h_l Tbl.zok i1))) rfl rfl rfl h))))
 refine Cw.mono (hl1 l.length 0 ([]) _ _ _ (by omega) (by simp) (by simp) rfl rfl rfl h) ?_
 intro oY gY sY hh
 generalize hzL1 : m6_l1 l l.length 0 ([]) = zZ at hh ⊢
 rcases zZ with yl1_a1 | rZ
 dsimp only
 obtain ⟨el1_a1, rfl, nyl1_a1, myl1_a1, e3, h⟩ := hh
 rw [pin e3]
 have hbd1 := okL_len h_l
 exact Ck h fun _ _ h => Rs rfl (fun _ => op_move rfl) (Rs rfl (fun _ => op_assign rfl) (Rz h fun h => Cr ⟨.inr rfl, _, rfl, (h.ac _ (List.mem_of_getElem? (i := 0) rfl)).fin⟩))
 obtain ⟨rfl, w⟩ := hh
 exact ⟨.inr rfl, w⟩
noncomputable def H6 : List D → R D := mkH (L1 (dL Tbl.enc)) (fun x => (okL Tbl.ok) x) (fun x => dL Tbl.enc (m6 x))
theorem i6 : InjE (L1 (dL Tbl.enc)) := j1 (jL Tbl.inj)
theorem m6_l1_eq (l : List Tbl) : ∀ (rem i : Nat), i + rem = l.length → m6_l1 l rem i (l.take i) = .on l
  | 0, i, h => by rw [m6_l1, List.take_of_length_le (by omega)]
  | rem + 1, i, h => by rw [m6_l1, m11_eq, take_snoc _ (by omega)]; exact m6_l1_eq l rem (i + 1) (by omega)
theorem m6_eq (l : List Tbl) : m6 l = l := by
  have := m6_l1_eq l l.length 0 (by omega)
  rw [List.take_zero] at this
  unfold m6
  rw [this]
theorem m6_ok {l : List Tbl} (h : okL Tbl.ok l) : okL Tbl.ok (m6 l) := by rw [m6_eq]; exact h
def m8 : Bool := true
noncomputable def H8 : List D → R D := mkH (L0) (fun _ => True) (fun _ => dB m8)
theorem i8 : InjE (L0) := j0
def m3 (l : (List Tbl)) (q : Qry) : Bool := (bif (((m5 (m6 l) (m4 (m4 q))) : Int) == (m7 l (m4 q))) then m8 else false)
theorem m3_ev  (c4 : S 4 = some H4) (c5 : S 5 = some H5) (c6 : S 6 = some H6) (c7 : S 7 = some H7) (c8 : S 8 = some H8) (l : (List Tbl)) (q : Qry)  (h_l : (okL Tbl.ok) l) (h_q : Qry.ok q) : ∃ d σ', Ev (EE S) 3 [dL Tbl.enc l, dR Qry.enc q] St.empty d σ' ∧ plain d = true ∧ strip d = dB (m3 l q) := by
 unfold m3
 have h : Ko 0 St.empty [] [] := Ko.empty
 refine Ev.wp (E := EE S) (fn := Tryz.f3) (nt := 19) Tryz.func3 rfl rfl (Ck h fun _ _ h => Rw.bx (d := dR Qry.enc q) h (Nat.le_add_right _ 0) rfl rfl rfl rfl rfl rfl fun b1 _ h => Rg 1 rfl (Rw.nilK h (Nat.add_le_add_left (by decide : 1 ≤ 2) _) fun h => Ck h fun _ _ h => Rw.ld (k := 0) (d := dR Qry.enc q) h rfl rfl rfl rfl rfl (ty41.ldA rfl rfl) rfl (Rs rfl (fun _ => op_call (d := dR Qry.enc (m4 q)) rfl rfl c4 rfl (He i4 q h_q rfl)) (Rw.st (k := 0) (cs' := (dC Qry.enc (m4 q))) h (Nat.le_add_right _ 2) rfl rfl rfl rfl rfl ty41.hn rfl rfl rfl fun _ h => Rw.nilK h (Nat.add_le_add_left (by decide : 3 ≤ 3) _) fun h => ?_))))
 refine Cw.seq (Cw.regionD h fun _ _ h => ?_)
 refine Rg 1 rfl (Rs rfl (fun _ => op_call (d := dL Tbl.enc (m6 l)) rfl rfl c6 rfl (He i6 l h_l rfl)) (Rw.ld (k := 0) (d := dR Qry.enc (m4 q)) h rfl rfl rfl rfl rfl (ty41.ldA rfl rfl) rfl (Rs rfl (fun _ => op_call (d := dR Qry.enc (m4 (m4 q))) rfl rfl c4 rfl (He i4 (m4 q) (m4_ok h_q) rfl)) (Rs rfl (fun _ => op_call (d := dI (m5 (m6 l) (m4 (m4 q)))) rfl rfl c5 rfl (He i5 ((m6 l), (m4 (m4 q))) ⟨(m6_ok h_l), (m4_ok (m4_ok h_q))⟩ rfl)) (Rg 1 rfl (Rw.ld (k := 0) (d := dR Qry.enc (m4 q)) h rfl rfl rfl rfl rfl (ty41.ldA rfl rfl) rfl (Rs rfl (fun _ => op_call (d := dI (m7 l (m4 q))) rfl rfl c7 rfl (He i7 (l, (m4 q)) ⟨h_l, (m4_ok h_q)⟩ rfl)) (Rg 2 rfl ?_))))))))
 cases q1 : (((m5 (m6 l) (m4 (m4 q))) : Int) == (m7 l (m4 q)))
 refine Rg 3 rfl (Rz h fun h => ?_)
 refine ⟨by kernel_rfl, ?_⟩
 exact Cr ⟨.inr rfl, _, rfl, rfl, rfl⟩
 refine Rs rfl (fun _ => op_call (d := dB m8) rfl rfl c8 rfl (He i8 () trivial rfl)) (Rg 2 rfl (Rz h fun h => ?_))
 refine ⟨by kernel_rfl, ?_⟩
 exact Cr ⟨.inr rfl, _, rfl, rfl, rfl⟩
noncomputable def H3 : List D → R D := mkH (L2 (dL Tbl.enc) (dR Qry.enc)) (fun x => (okL Tbl.ok) x.1 ∧ Qry.ok x.2) (fun x => dB (m3 x.1 x.2))
theorem i3 : InjE (L2 (dL Tbl.enc) (dR Qry.enc)) := j2 (jL Tbl.inj) (jR Qry.inj)
end Go.Vm
