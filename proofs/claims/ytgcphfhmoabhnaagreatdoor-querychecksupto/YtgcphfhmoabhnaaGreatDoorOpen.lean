/- The api's values among the arguments; no condition. -/
import Derived.Test.YtgcphfhmoabhnaaGreatDoorVmB
import Derived.Test.YtgcphfhmoabhnaaGreatDoorRows
import Derived.Test.YtgcphfhmoabhnaaGreatDoorChecked
set_option linter.unusedVariables false
namespace Go.Vm
open Go.Proofs
theorem bulkOf {H : Type} : BulkOf (H := H) YtgcphfhmoabhnaaGreatDoor.Rows.uptoBulk YtgcphfhmoabhnaaGreatDoor.Rows.uptoBulkAll where
  str s := by rw [YtgcphfhmoabhnaaGreatDoor.Rows.uptoBulk]
  one d := by cases d with | lit l => (cases l <;> rw [YtgcphfhmoabhnaaGreatDoor.Rows.uptoBulk] <;> (try simp)) | _ => rw [YtgcphfhmoabhnaaGreatDoor.Rows.uptoBulk] <;> omega
  slice e s := by rw [YtgcphfhmoabhnaaGreatDoor.Rows.uptoBulk]
  agg p := by rw [YtgcphfhmoabhnaaGreatDoor.Rows.uptoBulk]
  nil := by rw [YtgcphfhmoabhnaaGreatDoor.Rows.uptoBulkAll]
  cons d l := by rw [YtgcphfhmoabhnaaGreatDoor.Rows.uptoBulkAll]
open YtgcphfhmoabhnaaGreatDoor.Rows (uptoBulk uptoBulkAll)
def Val.sz (x : Val) : Nat := 1 + 1 + 1 + (x.s.size + 1) + 1
theorem Val.sz_one (x : Val) : 1 ≤ Val.sz x := Nat.le_add_left _ _
theorem Val.ok_sz (x : Val) (h : Val.sz x ≤ 1048576) : Val.ok x := by
  unfold Val.sz at h
  exact ⟨(show x.s.size ≤ 1048576 by omega)⟩
set_option maxRecDepth 100000 in
set_option maxHeartbeats 4000000 in
set_option linter.unusedVariables false in
theorem open_Val {H : Type} {enc : TypeId × Value → H} {w : World} (n : Nat) : Opens enc Tryz.prog w uptoBulk n 29 Val.enc Val.sz := by
  intro cs d p h
  obtain ⟨xs, m, rfl, e, hl, hx, hf⟩ := DataW.trod_struct Tryz.underlying29 h
  cases e
  rw [show Tryz.prog.cellsOf 29 = 4 by kernel_rfl] at hl
  have go : ∀ (i : Nat) (f : Field) (k : Nat), i < xs.length → Tryz.prog.cellsOf f.type = k → DataW.trod enc Tryz.prog w 0 (fun _ => true) true m f.type ((cs.drop f.offset).take (Tryz.prog.cellsOf f.type)) = xs[i]? → ∃ y, xs[i]? = some y ∧ DataW.trod enc Tryz.prog w 0 (fun _ => true) true m f.type ((cs.drop f.offset).take k) = some y := by
    intro i f k hi hk he
    subst hk
    exact ⟨xs[i], List.getElem?_eq_getElem hi, by rw [he]; exact List.getElem?_eq_getElem hi⟩
  have hx : xs.length = 4 := hx
  obtain ⟨y0, q0, r0⟩ := go 0 _ 1 (by omega) (by kernel_rfl) (hf 0 _ rfl)
  obtain ⟨a0, s0, t0⟩ := (open_int bulkOf Tryz.underlying3) _ _ _ r0
  have u0 := bulk_mem bulkOf (l := xs.map (·.1)) (i := 0) (d := y0.1) (by rw [List.getElem?_map, q0]; rfl)
  obtain ⟨y1, q1, r1⟩ := go 1 _ 1 (by omega) (by kernel_rfl) (hf 1 _ rfl)
  obtain ⟨a1, s1, t1⟩ := (open_int bulkOf Tryz.underlying2) _ _ _ r1
  have u1 := bulk_mem bulkOf (l := xs.map (·.1)) (i := 1) (d := y1.1) (by rw [List.getElem?_map, q1]; rfl)
  obtain ⟨y2, q2, r2⟩ := go 2 _ 1 (by omega) (by kernel_rfl) (hf 2 _ rfl)
  obtain ⟨a2, s2, t2⟩ := (open_float bulkOf Tryz.underlying27) _ _ _ r2
  have u2 := bulk_mem bulkOf (l := xs.map (·.1)) (i := 2) (d := y2.1) (by rw [List.getElem?_map, q2]; rfl)
  obtain ⟨y3, q3, r3⟩ := go 3 _ 1 (by omega) (by kernel_rfl) (hf 3 _ rfl)
  obtain ⟨a3, s3, t3⟩ := (open_str bulkOf Tryz.underlying9) _ _ _ r3
  have u3 := bulk_mem bulkOf (l := xs.map (·.1)) (i := 3) (d := y3.1) (by rw [List.getElem?_map, q3]; rfl)
  have hsum : uptoBulkAll (xs.map (·.1)) = uptoBulk y0.1 + uptoBulk y1.1 + uptoBulk y2.1 + uptoBulk y3.1 := by
    have : xs = [y0, y1, y2, y3] := by
      apply List.ext_getElem?; intro i
      match i with
      | 0 => rw [q0]; rfl
      | 1 => rw [q1]; rfl
      | 2 => rw [q2]; rfl
      | 3 => rw [q3]; rfl
      | i + 4 => rw [List.getElem?_eq_none (by omega), List.getElem?_eq_none (by simp)]
    rw [this]
    simp only [List.map_cons, List.map_nil, bulkOf.cons, bulkOf.nil]
    try omega
  have hc := reps_field s0 rfl (reps_field s1 rfl (reps_field s2 rfl (reps_field s3 rfl (reps_end hl))))
  refine ⟨⟨a0, a1, a2, a3⟩, hc, ?_⟩
  unfold Val.sz
  dsimp only at t0 t1 t2 t3
  rw [bulkOf.agg, hsum]
  try dsimp only
  omega
def Col.sz (x : Col) : Nat := (x.name.size + 1) + 1 + 1 + Val.sz x.dflt + 1
theorem Col.sz_one (x : Col) : 1 ≤ Col.sz x := Nat.le_add_left _ _
theorem Col.ok_sz (x : Col) (h : Col.sz x ≤ 1048576) : Col.ok x := by
  unfold Col.sz at h
  exact ⟨(show x.name.size ≤ 1048576 by omega), Val.ok_sz _ (by omega)⟩
set_option maxRecDepth 100000 in
set_option maxHeartbeats 4000000 in
set_option linter.unusedVariables false in
theorem open_Col {H : Type} {enc : TypeId × Value → H} {w : World} (n : Nat) : Opens enc Tryz.prog w uptoBulk n 65 Col.enc Col.sz := by
  intro cs d p h
  obtain ⟨xs, m, rfl, e, hl, hx, hf⟩ := DataW.trod_struct Tryz.underlying65 h
  cases e
  rw [show Tryz.prog.cellsOf 65 = 7 by kernel_rfl] at hl
  have go : ∀ (i : Nat) (f : Field) (k : Nat), i < xs.length → Tryz.prog.cellsOf f.type = k → DataW.trod enc Tryz.prog w 0 (fun _ => true) true m f.type ((cs.drop f.offset).take (Tryz.prog.cellsOf f.type)) = xs[i]? → ∃ y, xs[i]? = some y ∧ DataW.trod enc Tryz.prog w 0 (fun _ => true) true m f.type ((cs.drop f.offset).take k) = some y := by
    intro i f k hi hk he
    subst hk
    exact ⟨xs[i], List.getElem?_eq_getElem hi, by rw [he]; exact List.getElem?_eq_getElem hi⟩
  have hx : xs.length = 4 := hx
  obtain ⟨y0, q0, r0⟩ := go 0 _ 1 (by omega) (by kernel_rfl) (hf 0 _ rfl)
  obtain ⟨a0, s0, t0⟩ := (open_str bulkOf Tryz.underlying9) _ _ _ r0
  have u0 := bulk_mem bulkOf (l := xs.map (·.1)) (i := 0) (d := y0.1) (by rw [List.getElem?_map, q0]; rfl)
  obtain ⟨y1, q1, r1⟩ := go 1 _ 1 (by omega) (by kernel_rfl) (hf 1 _ rfl)
  obtain ⟨a1, s1, t1⟩ := (open_int bulkOf Tryz.underlying3) _ _ _ r1
  have u1 := bulk_mem bulkOf (l := xs.map (·.1)) (i := 1) (d := y1.1) (by rw [List.getElem?_map, q1]; rfl)
  obtain ⟨y2, q2, r2⟩ := go 2 _ 1 (by omega) (by kernel_rfl) (hf 2 _ rfl)
  obtain ⟨a2, s2, t2⟩ := (open_bool bulkOf Tryz.underlying4) _ _ _ r2
  have u2 := bulk_mem bulkOf (l := xs.map (·.1)) (i := 2) (d := y2.1) (by rw [List.getElem?_map, q2]; rfl)
  obtain ⟨y3, q3, r3⟩ := go 3 _ 4 (by omega) (by kernel_rfl) (hf 3 _ rfl)
  obtain ⟨a3, s3, t3⟩ := (open_Val m) _ _ _ r3
  have u3 := bulk_mem bulkOf (l := xs.map (·.1)) (i := 3) (d := y3.1) (by rw [List.getElem?_map, q3]; rfl)
  have hsum : uptoBulkAll (xs.map (·.1)) = uptoBulk y0.1 + uptoBulk y1.1 + uptoBulk y2.1 + uptoBulk y3.1 := by
    have : xs = [y0, y1, y2, y3] := by
      apply List.ext_getElem?; intro i
      match i with
      | 0 => rw [q0]; rfl
      | 1 => rw [q1]; rfl
      | 2 => rw [q2]; rfl
      | 3 => rw [q3]; rfl
      | i + 4 => rw [List.getElem?_eq_none (by omega), List.getElem?_eq_none (by simp)]
    rw [this]
    simp only [List.map_cons, List.map_nil, bulkOf.cons, bulkOf.nil]
    try omega
  have hc := reps_field s0 rfl (reps_field s1 rfl (reps_field s2 rfl (reps_field s3 rfl (reps_end hl))))
  refine ⟨⟨a0, a1, a2, a3⟩, hc, ?_⟩
  unfold Col.sz
  dsimp only at t0 t1 t2 t3
  rw [bulkOf.agg, hsum]
  try dsimp only
  omega
def Idx.sz (x : Idx) : Nat := (x.name.size + 1) + ((x.columns.map (fun _ => 1)).sum + 1) + 1 + 1
theorem Idx.sz_one (x : Idx) : 1 ≤ Idx.sz x := Nat.le_add_left _ _
theorem Idx.ok_sz (x : Idx) (h : Idx.sz x ≤ 1048576) : Idx.ok x := by
  unfold Idx.sz at h
  exact ⟨(show x.name.size ≤ 1048576 by omega), okL_sz (fun _ => Nat.le_refl 1) (fun _ _ => trivial) (by omega)⟩
set_option maxRecDepth 100000 in
set_option maxHeartbeats 4000000 in
set_option linter.unusedVariables false in
theorem open_Idx {H : Type} {enc : TypeId × Value → H} {w : World} (n : Nat) : Opens enc Tryz.prog w uptoBulk n 72 Idx.enc Idx.sz := by
  intro cs d p h
  obtain ⟨xs, m, rfl, e, hl, hx, hf⟩ := DataW.trod_struct Tryz.underlying72 h
  cases e
  rw [show Tryz.prog.cellsOf 72 = 3 by kernel_rfl] at hl
  have go : ∀ (i : Nat) (f : Field) (k : Nat), i < xs.length → Tryz.prog.cellsOf f.type = k → DataW.trod enc Tryz.prog w 0 (fun _ => true) true m f.type ((cs.drop f.offset).take (Tryz.prog.cellsOf f.type)) = xs[i]? → ∃ y, xs[i]? = some y ∧ DataW.trod enc Tryz.prog w 0 (fun _ => true) true m f.type ((cs.drop f.offset).take k) = some y := by
    intro i f k hi hk he
    subst hk
    exact ⟨xs[i], List.getElem?_eq_getElem hi, by rw [he]; exact List.getElem?_eq_getElem hi⟩
  have hx : xs.length = 3 := hx
  obtain ⟨y0, q0, r0⟩ := go 0 _ 1 (by omega) (by kernel_rfl) (hf 0 _ rfl)
  obtain ⟨a0, s0, t0⟩ := (open_str bulkOf Tryz.underlying9) _ _ _ r0
  have u0 := bulk_mem bulkOf (l := xs.map (·.1)) (i := 0) (d := y0.1) (by rw [List.getElem?_map, q0]; rfl)
  obtain ⟨y1, q1, r1⟩ := go 1 _ 1 (by omega) (by kernel_rfl) (hf 1 _ rfl)
  obtain ⟨a1, s1, t1⟩ := (open_slice (k := 1) (en := encI) (sz := (fun _ => 1)) bulkOf Tryz.underlying23 (by kernel_rfl) (by decide) (fun _ => rfl) (fun m _ => open_int bulkOf Tryz.underlying3)) _ _ _ r1
  have u1 := bulk_mem bulkOf (l := xs.map (·.1)) (i := 1) (d := y1.1) (by rw [List.getElem?_map, q1]; rfl)
  obtain ⟨y2, q2, r2⟩ := go 2 _ 1 (by omega) (by kernel_rfl) (hf 2 _ rfl)
  obtain ⟨a2, s2, t2⟩ := (open_bool bulkOf Tryz.underlying4) _ _ _ r2
  have u2 := bulk_mem bulkOf (l := xs.map (·.1)) (i := 2) (d := y2.1) (by rw [List.getElem?_map, q2]; rfl)
  have hsum : uptoBulkAll (xs.map (·.1)) = uptoBulk y0.1 + uptoBulk y1.1 + uptoBulk y2.1 := by
    have : xs = [y0, y1, y2] := by
      apply List.ext_getElem?; intro i
      match i with
      | 0 => rw [q0]; rfl
      | 1 => rw [q1]; rfl
      | 2 => rw [q2]; rfl
      | i + 3 => rw [List.getElem?_eq_none (by omega), List.getElem?_eq_none (by simp)]
    rw [this]
    simp only [List.map_cons, List.map_nil, bulkOf.cons, bulkOf.nil]
    try omega
  have hc := reps_field s0 rfl (reps_field s1 rfl (reps_field s2 rfl (reps_end hl)))
  refine ⟨⟨a0, a1, a2⟩, hc, ?_⟩
  unfold Idx.sz
  dsimp only at t0 t1 t2
  rw [bulkOf.agg, hsum]
  try dsimp only
  omega
def Rfr.sz (x : Rfr) : Nat := ((x.columns.map (fun _ => 1)).sum + 1) + (x.table.size + 1) + 1
theorem Rfr.sz_one (x : Rfr) : 1 ≤ Rfr.sz x := Nat.le_add_left _ _
theorem Rfr.ok_sz (x : Rfr) (h : Rfr.sz x ≤ 1048576) : Rfr.ok x := by
  unfold Rfr.sz at h
  exact ⟨okL_sz (fun _ => Nat.le_refl 1) (fun _ _ => trivial) (by omega), (show x.table.size ≤ 1048576 by omega)⟩
set_option maxRecDepth 100000 in
set_option maxHeartbeats 4000000 in
set_option linter.unusedVariables false in
theorem open_Rfr {H : Type} {enc : TypeId × Value → H} {w : World} (n : Nat) : Opens enc Tryz.prog w uptoBulk n 74 Rfr.enc Rfr.sz := by
  intro cs d p h
  obtain ⟨xs, m, rfl, e, hl, hx, hf⟩ := DataW.trod_struct Tryz.underlying74 h
  cases e
  rw [show Tryz.prog.cellsOf 74 = 2 by kernel_rfl] at hl
  have go : ∀ (i : Nat) (f : Field) (k : Nat), i < xs.length → Tryz.prog.cellsOf f.type = k → DataW.trod enc Tryz.prog w 0 (fun _ => true) true m f.type ((cs.drop f.offset).take (Tryz.prog.cellsOf f.type)) = xs[i]? → ∃ y, xs[i]? = some y ∧ DataW.trod enc Tryz.prog w 0 (fun _ => true) true m f.type ((cs.drop f.offset).take k) = some y := by
    intro i f k hi hk he
    subst hk
    exact ⟨xs[i], List.getElem?_eq_getElem hi, by rw [he]; exact List.getElem?_eq_getElem hi⟩
  have hx : xs.length = 2 := hx
  obtain ⟨y0, q0, r0⟩ := go 0 _ 1 (by omega) (by kernel_rfl) (hf 0 _ rfl)
  obtain ⟨a0, s0, t0⟩ := (open_slice (k := 1) (en := encI) (sz := (fun _ => 1)) bulkOf Tryz.underlying23 (by kernel_rfl) (by decide) (fun _ => rfl) (fun m _ => open_int bulkOf Tryz.underlying3)) _ _ _ r0
  have u0 := bulk_mem bulkOf (l := xs.map (·.1)) (i := 0) (d := y0.1) (by rw [List.getElem?_map, q0]; rfl)
  obtain ⟨y1, q1, r1⟩ := go 1 _ 1 (by omega) (by kernel_rfl) (hf 1 _ rfl)
  obtain ⟨a1, s1, t1⟩ := (open_str bulkOf Tryz.underlying9) _ _ _ r1
  have u1 := bulk_mem bulkOf (l := xs.map (·.1)) (i := 1) (d := y1.1) (by rw [List.getElem?_map, q1]; rfl)
  have hsum : uptoBulkAll (xs.map (·.1)) = uptoBulk y0.1 + uptoBulk y1.1 := by
    have : xs = [y0, y1] := by
      apply List.ext_getElem?; intro i
      match i with
      | 0 => rw [q0]; rfl
      | 1 => rw [q1]; rfl
      | i + 2 => rw [List.getElem?_eq_none (by omega), List.getElem?_eq_none (by simp)]
    rw [this]
    simp only [List.map_cons, List.map_nil, bulkOf.cons, bulkOf.nil]
    try omega
  have hc := reps_field s0 rfl (reps_field s1 rfl (reps_end hl))
  refine ⟨⟨a0, a1⟩, hc, ?_⟩
  unfold Rfr.sz
  dsimp only at t0 t1
  rw [bulkOf.agg, hsum]
  try dsimp only
  omega
def Tbl.sz (x : Tbl) : Nat := (x.name.size + 1) + ((x.columns.map Col.sz).sum + 1) + ((x.key.map (fun _ => 1)).sum + 1) + ((x.indexes.map Idx.sz).sum + 1) + ((x.refs.map Rfr.sz).sum + 1) + 1
theorem Tbl.sz_one (x : Tbl) : 1 ≤ Tbl.sz x := Nat.le_add_left _ _
theorem Tbl.ok_sz (x : Tbl) (h : Tbl.sz x ≤ 1048576) : Tbl.ok x := by
  unfold Tbl.sz at h
  exact ⟨(show x.name.size ≤ 1048576 by omega), okL_sz Col.sz_one Col.ok_sz (by omega), okL_sz (fun _ => Nat.le_refl 1) (fun _ _ => trivial) (by omega), okL_sz Idx.sz_one Idx.ok_sz (by omega), okL_sz Rfr.sz_one Rfr.ok_sz (by omega)⟩
set_option maxRecDepth 100000 in
set_option maxHeartbeats 4000000 in
set_option linter.unusedVariables false in
theorem open_Tbl {H : Type} {enc : TypeId × Value → H} {w : World} (n : Nat) : Opens enc Tryz.prog w uptoBulk n 39 Tbl.enc Tbl.sz := by
  intro cs d p h
  obtain ⟨xs, m, rfl, e, hl, hx, hf⟩ := DataW.trod_struct Tryz.underlying39 h
  cases e
  rw [show Tryz.prog.cellsOf 39 = 5 by kernel_rfl] at hl
  have go : ∀ (i : Nat) (f : Field) (k : Nat), i < xs.length → Tryz.prog.cellsOf f.type = k → DataW.trod enc Tryz.prog w 0 (fun _ => true) true m f.type ((cs.drop f.offset).take (Tryz.prog.cellsOf f.type)) = xs[i]? → ∃ y, xs[i]? = some y ∧ DataW.trod enc Tryz.prog w 0 (fun _ => true) true m f.type ((cs.drop f.offset).take k) = some y := by
    intro i f k hi hk he
    subst hk
    exact ⟨xs[i], List.getElem?_eq_getElem hi, by rw [he]; exact List.getElem?_eq_getElem hi⟩
  have hx : xs.length = 5 := hx
  obtain ⟨y0, q0, r0⟩ := go 0 _ 1 (by omega) (by kernel_rfl) (hf 0 _ rfl)
  obtain ⟨a0, s0, t0⟩ := (open_str bulkOf Tryz.underlying9) _ _ _ r0
  have u0 := bulk_mem bulkOf (l := xs.map (·.1)) (i := 0) (d := y0.1) (by rw [List.getElem?_map, q0]; rfl)
  obtain ⟨y1, q1, r1⟩ := go 1 _ 1 (by omega) (by kernel_rfl) (hf 1 _ rfl)
  obtain ⟨a1, s1, t1⟩ := (open_slice (k := 7) (en := Col.enc) (sz := Col.sz) bulkOf Tryz.underlying35 (by kernel_rfl) (by decide) (fun _ => rfl) (fun m _ => open_Col m)) _ _ _ r1
  have u1 := bulk_mem bulkOf (l := xs.map (·.1)) (i := 1) (d := y1.1) (by rw [List.getElem?_map, q1]; rfl)
  obtain ⟨y2, q2, r2⟩ := go 2 _ 1 (by omega) (by kernel_rfl) (hf 2 _ rfl)
  obtain ⟨a2, s2, t2⟩ := (open_slice (k := 1) (en := encI) (sz := (fun _ => 1)) bulkOf Tryz.underlying23 (by kernel_rfl) (by decide) (fun _ => rfl) (fun m _ => open_int bulkOf Tryz.underlying3)) _ _ _ r2
  have u2 := bulk_mem bulkOf (l := xs.map (·.1)) (i := 2) (d := y2.1) (by rw [List.getElem?_map, q2]; rfl)
  obtain ⟨y3, q3, r3⟩ := go 3 _ 1 (by omega) (by kernel_rfl) (hf 3 _ rfl)
  obtain ⟨a3, s3, t3⟩ := (open_slice (k := 3) (en := Idx.enc) (sz := Idx.sz) bulkOf Tryz.underlying36 (by kernel_rfl) (by decide) (fun _ => rfl) (fun m _ => open_Idx m)) _ _ _ r3
  have u3 := bulk_mem bulkOf (l := xs.map (·.1)) (i := 3) (d := y3.1) (by rw [List.getElem?_map, q3]; rfl)
  obtain ⟨y4, q4, r4⟩ := go 4 _ 1 (by omega) (by kernel_rfl) (hf 4 _ rfl)
  obtain ⟨a4, s4, t4⟩ := (open_slice (k := 2) (en := Rfr.enc) (sz := Rfr.sz) bulkOf Tryz.underlying37 (by kernel_rfl) (by decide) (fun _ => rfl) (fun m _ => open_Rfr m)) _ _ _ r4
  have u4 := bulk_mem bulkOf (l := xs.map (·.1)) (i := 4) (d := y4.1) (by rw [List.getElem?_map, q4]; rfl)
  have hsum : uptoBulkAll (xs.map (·.1)) = uptoBulk y0.1 + uptoBulk y1.1 + uptoBulk y2.1 + uptoBulk y3.1 + uptoBulk y4.1 := by
    have : xs = [y0, y1, y2, y3, y4] := by
      apply List.ext_getElem?; intro i
      match i with
      | 0 => rw [q0]; rfl
      | 1 => rw [q1]; rfl
      | 2 => rw [q2]; rfl
      | 3 => rw [q3]; rfl
      | 4 => rw [q4]; rfl
      | i + 5 => rw [List.getElem?_eq_none (by omega), List.getElem?_eq_none (by simp)]
    rw [this]
    simp only [List.map_cons, List.map_nil, bulkOf.cons, bulkOf.nil]
    try omega
  have hc := reps_field s0 rfl (reps_field s1 rfl (reps_field s2 rfl (reps_field s3 rfl (reps_field s4 rfl (reps_end hl)))))
  refine ⟨⟨a0, a1, a2, a3, a4⟩, hc, ?_⟩
  unfold Tbl.sz
  dsimp only at t0 t1 t2 t3 t4
  rw [bulkOf.agg, hsum]
  try dsimp only
  omega
mutual
def Exr.sz : Exr → Nat
  | .mk _ o _ v ks => 1 + (o.size + 1) + 1 + Val.sz v + (Exr.szs ks + 1) + 1
def Exr.szs : List Exr → Nat
  | [] => 0
  | x :: l => Exr.sz x + Exr.szs l
end
theorem Exr.szs_eq : ∀ l, Exr.szs l = (l.map Exr.sz).sum
  | [] => rfl
  | x :: l => by rw [Exr.szs, Exr.szs_eq l]; rfl
theorem Exr.sz_eq (x : Exr) : Exr.sz x = 1 + (x.op.size + 1) + 1 + Val.sz x.value + ((x.kids.map Exr.sz).sum + 1) + 1 := by cases x; rw [Exr.sz, Exr.szs_eq]; rfl
theorem Exr.sz_one (x : Exr) : 1 ≤ Exr.sz x := by rw [Exr.sz_eq]; omega
mutual
theorem Exr.count_sz : ∀ x : Exr, x.count ≤ Exr.sz x
  | .mk _ o _ v ks => by have := Exr.counts_szs ks; rw [Exr.count, Exr.sz]; omega
theorem Exr.counts_szs : ∀ l : List Exr, Exr.counts l ≤ Exr.szs l
  | [] => Nat.le_refl _
  | x :: l => by have h1 := Exr.count_sz x; have h2 := Exr.counts_szs l; rw [Exr.counts, Exr.szs]; omega
end
mutual
theorem Exr.okE_sz : ∀ x : Exr, Exr.sz x ≤ 1048576 → Exr.okE x
  | .mk _ o _ v ks, h => by
    rw [Exr.sz] at h
    obtain ⟨h1, h2⟩ := Exr.okEs_sz ks (by omega)
    exact .mk _ _ _ _ _ (show o.size ≤ 1048576 by omega) (Val.ok_sz _ (by omega)) (by omega) h2
theorem Exr.okEs_sz : ∀ l : List Exr, Exr.szs l ≤ 1048576 → l.length ≤ Exr.szs l ∧ ∀ x ∈ l, Exr.okE x
  | [], _ => ⟨Nat.le_refl _, by simp⟩
  | y :: l, h => by
    rw [Exr.szs] at h
    have h1 := Exr.okE_sz y (by omega)
    obtain ⟨h2, h3⟩ := Exr.okEs_sz l (by omega)
    have h4 := Exr.sz_one y
    refine ⟨by rw [Exr.szs, List.length_cons]; omega, fun x hx => ?_⟩
    rcases List.mem_cons.1 hx with rfl | hx
    · exact h1
    · exact h3 x hx
end
theorem Exr.ok_sz (x : Exr) (h : Exr.sz x ≤ 1048576) : Exr.ok x := ⟨Exr.okE_sz x h, Nat.le_trans (Exr.count_sz x) h⟩
set_option maxRecDepth 100000 in
set_option maxHeartbeats 4000000 in
set_option linter.unusedVariables false in
theorem open_Exr {H : Type} {enc : TypeId × Value → H} {w : World} : ∀ n : Nat, Opens enc Tryz.prog w uptoBulk n 32 Exr.row Exr.sz
  | n => fun cs d p h => by
    obtain ⟨xs, m, rfl, e, hl, hx, hf⟩ := DataW.trod_struct Tryz.underlying32 h
    cases e
    rw [show Tryz.prog.cellsOf 32 = 8 by kernel_rfl] at hl
    have go : ∀ (i : Nat) (f : Field) (k : Nat), i < xs.length → Tryz.prog.cellsOf f.type = k → DataW.trod enc Tryz.prog w 0 (fun _ => true) true m f.type ((cs.drop f.offset).take (Tryz.prog.cellsOf f.type)) = xs[i]? → ∃ y, xs[i]? = some y ∧ DataW.trod enc Tryz.prog w 0 (fun _ => true) true m f.type ((cs.drop f.offset).take k) = some y := by
      intro i f k hi hk he
      subst hk
      exact ⟨xs[i], List.getElem?_eq_getElem hi, by rw [he]; exact List.getElem?_eq_getElem hi⟩
    have hx : xs.length = 5 := hx
    obtain ⟨y0, q0, r0⟩ := go 0 _ 1 (by omega) (by kernel_rfl) (hf 0 _ rfl)
    obtain ⟨a0, s0, t0⟩ := (open_int bulkOf Tryz.underlying3) _ _ _ r0
    have u0 := bulk_mem bulkOf (l := xs.map (·.1)) (i := 0) (d := y0.1) (by rw [List.getElem?_map, q0]; rfl)
    obtain ⟨y1, q1, r1⟩ := go 1 _ 1 (by omega) (by kernel_rfl) (hf 1 _ rfl)
    obtain ⟨a1, s1, t1⟩ := (open_str bulkOf Tryz.underlying9) _ _ _ r1
    have u1 := bulk_mem bulkOf (l := xs.map (·.1)) (i := 1) (d := y1.1) (by rw [List.getElem?_map, q1]; rfl)
    obtain ⟨y2, q2, r2⟩ := go 2 _ 1 (by omega) (by kernel_rfl) (hf 2 _ rfl)
    obtain ⟨a2, s2, t2⟩ := (open_int bulkOf Tryz.underlying3) _ _ _ r2
    have u2 := bulk_mem bulkOf (l := xs.map (·.1)) (i := 2) (d := y2.1) (by rw [List.getElem?_map, q2]; rfl)
    obtain ⟨y3, q3, r3⟩ := go 3 _ 4 (by omega) (by kernel_rfl) (hf 3 _ rfl)
    obtain ⟨a3, s3, t3⟩ := (open_Val m) _ _ _ r3
    have u3 := bulk_mem bulkOf (l := xs.map (·.1)) (i := 3) (d := y3.1) (by rw [List.getElem?_map, q3]; rfl)
    obtain ⟨y4, q4, r4⟩ := go 4 _ 1 (by omega) (by kernel_rfl) (hf 4 _ rfl)
    obtain ⟨a4, s4, t4⟩ := (open_slice (k := 8) (en := Exr.enc) (sz := Exr.sz) bulkOf Tryz.underlying30 (by kernel_rfl) (by decide) (fun x => by rw [Exr.enc_row]; rfl) (fun j hj => by rw [show Exr.enc = Exr.row from funext Exr.enc_row]; exact open_Exr j)) _ _ _ r4
    have u4 := bulk_mem bulkOf (l := xs.map (·.1)) (i := 4) (d := y4.1) (by rw [List.getElem?_map, q4]; rfl)
    have hsum : uptoBulkAll (xs.map (·.1)) = uptoBulk y0.1 + uptoBulk y1.1 + uptoBulk y2.1 + uptoBulk y3.1 + uptoBulk y4.1 := by
      have : xs = [y0, y1, y2, y3, y4] := by
        apply List.ext_getElem?; intro i
        match i with
        | 0 => rw [q0]; rfl
        | 1 => rw [q1]; rfl
        | 2 => rw [q2]; rfl
        | 3 => rw [q3]; rfl
        | 4 => rw [q4]; rfl
        | i + 5 => rw [List.getElem?_eq_none (by omega), List.getElem?_eq_none (by simp)]
      rw [this]
      simp only [List.map_cons, List.map_nil, bulkOf.cons, bulkOf.nil]
      try omega
    have hc := reps_field s0 rfl (reps_field s1 rfl (reps_field s2 rfl (reps_field s3 rfl (reps_field s4 rfl (reps_end hl)))))
    refine ⟨Exr.mk a0 a1 a2 a3 a4, hc, ?_⟩
    rw [Exr.sz_eq]
    dsimp only at t0 t1 t2 t3 t4
    rw [bulkOf.agg, hsum]
    simp only [Exr.op, Exr.value, Exr.kids]
    omega
  termination_by n => n
theorem open_Exr' {H : Type} {enc : TypeId × Value → H} {w : World} (n : Nat) : Opens enc Tryz.prog w uptoBulk n 32 Exr.enc Exr.sz := by rw [show Exr.enc = Exr.row from funext Exr.enc_row]; exact open_Exr n
def Sst.sz (x : Sst) : Nat := 1 + Exr.sz x.expr + 1
theorem Sst.sz_one (x : Sst) : 1 ≤ Sst.sz x := Nat.le_add_left _ _
theorem Sst.ok_sz (x : Sst) (h : Sst.sz x ≤ 1048576) : Sst.ok x := by
  unfold Sst.sz at h
  exact ⟨Exr.ok_sz _ (by omega)⟩
set_option maxRecDepth 100000 in
set_option maxHeartbeats 4000000 in
set_option linter.unusedVariables false in
theorem open_Sst {H : Type} {enc : TypeId × Value → H} {w : World} (n : Nat) : Opens enc Tryz.prog w uptoBulk n 51 Sst.enc Sst.sz := by
  intro cs d p h
  obtain ⟨xs, m, rfl, e, hl, hx, hf⟩ := DataW.trod_struct Tryz.underlying51 h
  cases e
  rw [show Tryz.prog.cellsOf 51 = 9 by kernel_rfl] at hl
  have go : ∀ (i : Nat) (f : Field) (k : Nat), i < xs.length → Tryz.prog.cellsOf f.type = k → DataW.trod enc Tryz.prog w 0 (fun _ => true) true m f.type ((cs.drop f.offset).take (Tryz.prog.cellsOf f.type)) = xs[i]? → ∃ y, xs[i]? = some y ∧ DataW.trod enc Tryz.prog w 0 (fun _ => true) true m f.type ((cs.drop f.offset).take k) = some y := by
    intro i f k hi hk he
    subst hk
    exact ⟨xs[i], List.getElem?_eq_getElem hi, by rw [he]; exact List.getElem?_eq_getElem hi⟩
  have hx : xs.length = 2 := hx
  obtain ⟨y0, q0, r0⟩ := go 0 _ 1 (by omega) (by kernel_rfl) (hf 0 _ rfl)
  obtain ⟨a0, s0, t0⟩ := (open_int bulkOf Tryz.underlying3) _ _ _ r0
  have u0 := bulk_mem bulkOf (l := xs.map (·.1)) (i := 0) (d := y0.1) (by rw [List.getElem?_map, q0]; rfl)
  obtain ⟨y1, q1, r1⟩ := go 1 _ 8 (by omega) (by kernel_rfl) (hf 1 _ rfl)
  obtain ⟨a1, s1, t1⟩ := (open_Exr m) _ _ _ r1
  have u1 := bulk_mem bulkOf (l := xs.map (·.1)) (i := 1) (d := y1.1) (by rw [List.getElem?_map, q1]; rfl)
  have hsum : uptoBulkAll (xs.map (·.1)) = uptoBulk y0.1 + uptoBulk y1.1 := by
    have : xs = [y0, y1] := by
      apply List.ext_getElem?; intro i
      match i with
      | 0 => rw [q0]; rfl
      | 1 => rw [q1]; rfl
      | i + 2 => rw [List.getElem?_eq_none (by omega), List.getElem?_eq_none (by simp)]
    rw [this]
    simp only [List.map_cons, List.map_nil, bulkOf.cons, bulkOf.nil]
    try omega
  have hc := reps_field s0 rfl (reps_field s1 rfl (reps_end hl))
  refine ⟨⟨a0, a1⟩, hc, ?_⟩
  unfold Sst.sz
  dsimp only at t0 t1
  rw [bulkOf.agg, hsum]
  try dsimp only
  omega
def Itm.sz (x : Itm) : Nat := 1 + 1 + Exr.sz x.expr + (x.name.size + 1) + 1
theorem Itm.sz_one (x : Itm) : 1 ≤ Itm.sz x := Nat.le_add_left _ _
theorem Itm.ok_sz (x : Itm) (h : Itm.sz x ≤ 1048576) : Itm.ok x := by
  unfold Itm.sz at h
  exact ⟨Exr.ok_sz _ (by omega), (show x.name.size ≤ 1048576 by omega)⟩
set_option maxRecDepth 100000 in
set_option maxHeartbeats 4000000 in
set_option linter.unusedVariables false in
theorem open_Itm {H : Type} {enc : TypeId × Value → H} {w : World} (n : Nat) : Opens enc Tryz.prog w uptoBulk n 53 Itm.enc Itm.sz := by
  intro cs d p h
  obtain ⟨xs, m, rfl, e, hl, hx, hf⟩ := DataW.trod_struct Tryz.underlying53 h
  cases e
  rw [show Tryz.prog.cellsOf 53 = 11 by kernel_rfl] at hl
  have go : ∀ (i : Nat) (f : Field) (k : Nat), i < xs.length → Tryz.prog.cellsOf f.type = k → DataW.trod enc Tryz.prog w 0 (fun _ => true) true m f.type ((cs.drop f.offset).take (Tryz.prog.cellsOf f.type)) = xs[i]? → ∃ y, xs[i]? = some y ∧ DataW.trod enc Tryz.prog w 0 (fun _ => true) true m f.type ((cs.drop f.offset).take k) = some y := by
    intro i f k hi hk he
    subst hk
    exact ⟨xs[i], List.getElem?_eq_getElem hi, by rw [he]; exact List.getElem?_eq_getElem hi⟩
  have hx : xs.length = 4 := hx
  obtain ⟨y0, q0, r0⟩ := go 0 _ 1 (by omega) (by kernel_rfl) (hf 0 _ rfl)
  obtain ⟨a0, s0, t0⟩ := (open_int bulkOf Tryz.underlying3) _ _ _ r0
  have u0 := bulk_mem bulkOf (l := xs.map (·.1)) (i := 0) (d := y0.1) (by rw [List.getElem?_map, q0]; rfl)
  obtain ⟨y1, q1, r1⟩ := go 1 _ 1 (by omega) (by kernel_rfl) (hf 1 _ rfl)
  obtain ⟨a1, s1, t1⟩ := (open_bool bulkOf Tryz.underlying4) _ _ _ r1
  have u1 := bulk_mem bulkOf (l := xs.map (·.1)) (i := 1) (d := y1.1) (by rw [List.getElem?_map, q1]; rfl)
  obtain ⟨y2, q2, r2⟩ := go 2 _ 8 (by omega) (by kernel_rfl) (hf 2 _ rfl)
  obtain ⟨a2, s2, t2⟩ := (open_Exr m) _ _ _ r2
  have u2 := bulk_mem bulkOf (l := xs.map (·.1)) (i := 2) (d := y2.1) (by rw [List.getElem?_map, q2]; rfl)
  obtain ⟨y3, q3, r3⟩ := go 3 _ 1 (by omega) (by kernel_rfl) (hf 3 _ rfl)
  obtain ⟨a3, s3, t3⟩ := (open_str bulkOf Tryz.underlying9) _ _ _ r3
  have u3 := bulk_mem bulkOf (l := xs.map (·.1)) (i := 3) (d := y3.1) (by rw [List.getElem?_map, q3]; rfl)
  have hsum : uptoBulkAll (xs.map (·.1)) = uptoBulk y0.1 + uptoBulk y1.1 + uptoBulk y2.1 + uptoBulk y3.1 := by
    have : xs = [y0, y1, y2, y3] := by
      apply List.ext_getElem?; intro i
      match i with
      | 0 => rw [q0]; rfl
      | 1 => rw [q1]; rfl
      | 2 => rw [q2]; rfl
      | 3 => rw [q3]; rfl
      | i + 4 => rw [List.getElem?_eq_none (by omega), List.getElem?_eq_none (by simp)]
    rw [this]
    simp only [List.map_cons, List.map_nil, bulkOf.cons, bulkOf.nil]
    try omega
  have hc := reps_field s0 rfl (reps_field s1 rfl (reps_field s2 rfl (reps_field s3 rfl (reps_end hl))))
  refine ⟨⟨a0, a1, a2, a3⟩, hc, ?_⟩
  unfold Itm.sz
  dsimp only at t0 t1 t2 t3
  rw [bulkOf.agg, hsum]
  try dsimp only
  omega
def Odr.sz (x : Odr) : Nat := 1 + 1 + 1
theorem Odr.sz_one (x : Odr) : 1 ≤ Odr.sz x := Nat.le_add_left _ _
theorem Odr.ok_sz (x : Odr) (h : Odr.sz x ≤ 1048576) : Odr.ok x := by
  unfold Odr.sz at h
  exact ⟨trivial⟩
set_option maxRecDepth 100000 in
set_option maxHeartbeats 4000000 in
set_option linter.unusedVariables false in
theorem open_Odr {H : Type} {enc : TypeId × Value → H} {w : World} (n : Nat) : Opens enc Tryz.prog w uptoBulk n 55 Odr.enc Odr.sz := by
  intro cs d p h
  obtain ⟨xs, m, rfl, e, hl, hx, hf⟩ := DataW.trod_struct Tryz.underlying55 h
  cases e
  rw [show Tryz.prog.cellsOf 55 = 2 by kernel_rfl] at hl
  have go : ∀ (i : Nat) (f : Field) (k : Nat), i < xs.length → Tryz.prog.cellsOf f.type = k → DataW.trod enc Tryz.prog w 0 (fun _ => true) true m f.type ((cs.drop f.offset).take (Tryz.prog.cellsOf f.type)) = xs[i]? → ∃ y, xs[i]? = some y ∧ DataW.trod enc Tryz.prog w 0 (fun _ => true) true m f.type ((cs.drop f.offset).take k) = some y := by
    intro i f k hi hk he
    subst hk
    exact ⟨xs[i], List.getElem?_eq_getElem hi, by rw [he]; exact List.getElem?_eq_getElem hi⟩
  have hx : xs.length = 2 := hx
  obtain ⟨y0, q0, r0⟩ := go 0 _ 1 (by omega) (by kernel_rfl) (hf 0 _ rfl)
  obtain ⟨a0, s0, t0⟩ := (open_int bulkOf Tryz.underlying3) _ _ _ r0
  have u0 := bulk_mem bulkOf (l := xs.map (·.1)) (i := 0) (d := y0.1) (by rw [List.getElem?_map, q0]; rfl)
  obtain ⟨y1, q1, r1⟩ := go 1 _ 1 (by omega) (by kernel_rfl) (hf 1 _ rfl)
  obtain ⟨a1, s1, t1⟩ := (open_bool bulkOf Tryz.underlying4) _ _ _ r1
  have u1 := bulk_mem bulkOf (l := xs.map (·.1)) (i := 1) (d := y1.1) (by rw [List.getElem?_map, q1]; rfl)
  have hsum : uptoBulkAll (xs.map (·.1)) = uptoBulk y0.1 + uptoBulk y1.1 := by
    have : xs = [y0, y1] := by
      apply List.ext_getElem?; intro i
      match i with
      | 0 => rw [q0]; rfl
      | 1 => rw [q1]; rfl
      | i + 2 => rw [List.getElem?_eq_none (by omega), List.getElem?_eq_none (by simp)]
    rw [this]
    simp only [List.map_cons, List.map_nil, bulkOf.cons, bulkOf.nil]
    try omega
  have hc := reps_field s0 rfl (reps_field s1 rfl (reps_end hl))
  refine ⟨⟨a0, a1⟩, hc, ?_⟩
  unfold Odr.sz
  dsimp only at t0 t1
  rw [bulkOf.agg, hsum]
  try dsimp only
  omega
def Qry.sz (x : Qry) : Nat := 1 + 1 + ((x.columns.map (fun _ => 1)).sum + 1) + ((x.rows.map (fun x => ((x.map Exr.sz).sum + 1))).sum + 1) + ((x.sets.map Sst.sz).sum + 1) + ((x.items.map Itm.sz).sum + 1) + Exr.sz x.wher + ((x.group.map (fun _ => 1)).sum + 1) + ((x.order.map Odr.sz).sum + 1) + 1 + 1 + 1 + (x.name.size + 1) + Tbl.sz x.create + 1
theorem Qry.sz_one (x : Qry) : 1 ≤ Qry.sz x := Nat.le_add_left _ _
theorem Qry.ok_sz (x : Qry) (h : Qry.sz x ≤ 1048576) : Qry.ok x := by
  unfold Qry.sz at h
  exact ⟨okL_sz (fun _ => Nat.le_refl 1) (fun _ _ => trivial) (by omega), okL_sz (fun a => Nat.le_add_left _ _) (fun a h => okL_sz Exr.sz_one Exr.ok_sz (Nat.le_of_succ_le h)) (by omega), okL_sz Sst.sz_one Sst.ok_sz (by omega), okL_sz Itm.sz_one Itm.ok_sz (by omega), Exr.ok_sz _ (by omega), okL_sz (fun _ => Nat.le_refl 1) (fun _ _ => trivial) (by omega), okL_sz Odr.sz_one Odr.ok_sz (by omega), (show x.name.size ≤ 1048576 by omega), Tbl.ok_sz _ (by omega)⟩
set_option maxRecDepth 100000 in
set_option maxHeartbeats 4000000 in
set_option linter.unusedVariables false in
theorem open_Qry {H : Type} {enc : TypeId × Value → H} {w : World} (n : Nat) : Opens enc Tryz.prog w uptoBulk n 41 Qry.enc Qry.sz := by
  intro cs d p h
  obtain ⟨xs, m, rfl, e, hl, hx, hf⟩ := DataW.trod_struct Tryz.underlying41 h
  cases e
  rw [show Tryz.prog.cellsOf 41 = 25 by kernel_rfl] at hl
  have go : ∀ (i : Nat) (f : Field) (k : Nat), i < xs.length → Tryz.prog.cellsOf f.type = k → DataW.trod enc Tryz.prog w 0 (fun _ => true) true m f.type ((cs.drop f.offset).take (Tryz.prog.cellsOf f.type)) = xs[i]? → ∃ y, xs[i]? = some y ∧ DataW.trod enc Tryz.prog w 0 (fun _ => true) true m f.type ((cs.drop f.offset).take k) = some y := by
    intro i f k hi hk he
    subst hk
    exact ⟨xs[i], List.getElem?_eq_getElem hi, by rw [he]; exact List.getElem?_eq_getElem hi⟩
  have hx : xs.length = 14 := hx
  obtain ⟨y0, q0, r0⟩ := go 0 _ 1 (by omega) (by kernel_rfl) (hf 0 _ rfl)
  obtain ⟨a0, s0, t0⟩ := (open_int bulkOf Tryz.underlying3) _ _ _ r0
  have u0 := bulk_mem bulkOf (l := xs.map (·.1)) (i := 0) (d := y0.1) (by rw [List.getElem?_map, q0]; rfl)
  obtain ⟨y1, q1, r1⟩ := go 1 _ 1 (by omega) (by kernel_rfl) (hf 1 _ rfl)
  obtain ⟨a1, s1, t1⟩ := (open_int bulkOf Tryz.underlying3) _ _ _ r1
  have u1 := bulk_mem bulkOf (l := xs.map (·.1)) (i := 1) (d := y1.1) (by rw [List.getElem?_map, q1]; rfl)
  obtain ⟨y2, q2, r2⟩ := go 2 _ 1 (by omega) (by kernel_rfl) (hf 2 _ rfl)
  obtain ⟨a2, s2, t2⟩ := (open_slice (k := 1) (en := encI) (sz := (fun _ => 1)) bulkOf Tryz.underlying23 (by kernel_rfl) (by decide) (fun _ => rfl) (fun m _ => open_int bulkOf Tryz.underlying3)) _ _ _ r2
  have u2 := bulk_mem bulkOf (l := xs.map (·.1)) (i := 2) (d := y2.1) (by rw [List.getElem?_map, q2]; rfl)
  obtain ⟨y3, q3, r3⟩ := go 3 _ 1 (by omega) (by kernel_rfl) (hf 3 _ rfl)
  obtain ⟨a3, s3, t3⟩ := (open_slice (k := 1) (en := encL_Exr_enc) (sz := (fun x => ((x.map Exr.sz).sum + 1))) bulkOf Tryz.underlying24 (by kernel_rfl) (by decide) (fun _ => rfl) (fun m _ => open_slice (k := 8) (en := Exr.enc) (sz := Exr.sz) bulkOf Tryz.underlying30 (by kernel_rfl) (by decide) (fun x => by rw [Exr.enc_row]; rfl) (fun m _ => open_Exr' m))) _ _ _ r3
  have u3 := bulk_mem bulkOf (l := xs.map (·.1)) (i := 3) (d := y3.1) (by rw [List.getElem?_map, q3]; rfl)
  obtain ⟨y4, q4, r4⟩ := go 4 _ 1 (by omega) (by kernel_rfl) (hf 4 _ rfl)
  obtain ⟨a4, s4, t4⟩ := (open_slice (k := 9) (en := Sst.enc) (sz := Sst.sz) bulkOf Tryz.underlying25 (by kernel_rfl) (by decide) (fun _ => rfl) (fun m _ => open_Sst m)) _ _ _ r4
  have u4 := bulk_mem bulkOf (l := xs.map (·.1)) (i := 4) (d := y4.1) (by rw [List.getElem?_map, q4]; rfl)
  obtain ⟨y5, q5, r5⟩ := go 5 _ 1 (by omega) (by kernel_rfl) (hf 5 _ rfl)
  obtain ⟨a5, s5, t5⟩ := (open_slice (k := 11) (en := Itm.enc) (sz := Itm.sz) bulkOf Tryz.underlying26 (by kernel_rfl) (by decide) (fun _ => rfl) (fun m _ => open_Itm m)) _ _ _ r5
  have u5 := bulk_mem bulkOf (l := xs.map (·.1)) (i := 5) (d := y5.1) (by rw [List.getElem?_map, q5]; rfl)
  obtain ⟨y6, q6, r6⟩ := go 6 _ 8 (by omega) (by kernel_rfl) (hf 6 _ rfl)
  obtain ⟨a6, s6, t6⟩ := (open_Exr m) _ _ _ r6
  have u6 := bulk_mem bulkOf (l := xs.map (·.1)) (i := 6) (d := y6.1) (by rw [List.getElem?_map, q6]; rfl)
  obtain ⟨y7, q7, r7⟩ := go 7 _ 1 (by omega) (by kernel_rfl) (hf 7 _ rfl)
  obtain ⟨a7, s7, t7⟩ := (open_slice (k := 1) (en := encI) (sz := (fun _ => 1)) bulkOf Tryz.underlying23 (by kernel_rfl) (by decide) (fun _ => rfl) (fun m _ => open_int bulkOf Tryz.underlying3)) _ _ _ r7
  have u7 := bulk_mem bulkOf (l := xs.map (·.1)) (i := 7) (d := y7.1) (by rw [List.getElem?_map, q7]; rfl)
  obtain ⟨y8, q8, r8⟩ := go 8 _ 1 (by omega) (by kernel_rfl) (hf 8 _ rfl)
  obtain ⟨a8, s8, t8⟩ := (open_slice (k := 2) (en := Odr.enc) (sz := Odr.sz) bulkOf Tryz.underlying33 (by kernel_rfl) (by decide) (fun _ => rfl) (fun m _ => open_Odr m)) _ _ _ r8
  have u8 := bulk_mem bulkOf (l := xs.map (·.1)) (i := 8) (d := y8.1) (by rw [List.getElem?_map, q8]; rfl)
  obtain ⟨y9, q9, r9⟩ := go 9 _ 1 (by omega) (by kernel_rfl) (hf 9 _ rfl)
  obtain ⟨a9, s9, t9⟩ := (open_int bulkOf Tryz.underlying3) _ _ _ r9
  have u9 := bulk_mem bulkOf (l := xs.map (·.1)) (i := 9) (d := y9.1) (by rw [List.getElem?_map, q9]; rfl)
  obtain ⟨y10, q10, r10⟩ := go 10 _ 1 (by omega) (by kernel_rfl) (hf 10 _ rfl)
  obtain ⟨a10, s10, t10⟩ := (open_int bulkOf Tryz.underlying3) _ _ _ r10
  have u10 := bulk_mem bulkOf (l := xs.map (·.1)) (i := 10) (d := y10.1) (by rw [List.getElem?_map, q10]; rfl)
  obtain ⟨y11, q11, r11⟩ := go 11 _ 1 (by omega) (by kernel_rfl) (hf 11 _ rfl)
  obtain ⟨a11, s11, t11⟩ := (open_int bulkOf Tryz.underlying34) _ _ _ r11
  have u11 := bulk_mem bulkOf (l := xs.map (·.1)) (i := 11) (d := y11.1) (by rw [List.getElem?_map, q11]; rfl)
  obtain ⟨y12, q12, r12⟩ := go 12 _ 1 (by omega) (by kernel_rfl) (hf 12 _ rfl)
  obtain ⟨a12, s12, t12⟩ := (open_str bulkOf Tryz.underlying9) _ _ _ r12
  have u12 := bulk_mem bulkOf (l := xs.map (·.1)) (i := 12) (d := y12.1) (by rw [List.getElem?_map, q12]; rfl)
  obtain ⟨y13, q13, r13⟩ := go 13 _ 5 (by omega) (by kernel_rfl) (hf 13 _ rfl)
  obtain ⟨a13, s13, t13⟩ := (open_Tbl m) _ _ _ r13
  have u13 := bulk_mem bulkOf (l := xs.map (·.1)) (i := 13) (d := y13.1) (by rw [List.getElem?_map, q13]; rfl)
  have hsum : uptoBulkAll (xs.map (·.1)) = uptoBulk y0.1 + uptoBulk y1.1 + uptoBulk y2.1 + uptoBulk y3.1 + uptoBulk y4.1 + uptoBulk y5.1 + uptoBulk y6.1 + uptoBulk y7.1 + uptoBulk y8.1 + uptoBulk y9.1 + uptoBulk y10.1 + uptoBulk y11.1 + uptoBulk y12.1 + uptoBulk y13.1 := by
    have : xs = [y0, y1, y2, y3, y4, y5, y6, y7, y8, y9, y10, y11, y12, y13] := by
      apply List.ext_getElem?; intro i
      match i with
      | 0 => rw [q0]; rfl
      | 1 => rw [q1]; rfl
      | 2 => rw [q2]; rfl
      | 3 => rw [q3]; rfl
      | 4 => rw [q4]; rfl
      | 5 => rw [q5]; rfl
      | 6 => rw [q6]; rfl
      | 7 => rw [q7]; rfl
      | 8 => rw [q8]; rfl
      | 9 => rw [q9]; rfl
      | 10 => rw [q10]; rfl
      | 11 => rw [q11]; rfl
      | 12 => rw [q12]; rfl
      | 13 => rw [q13]; rfl
      | i + 14 => rw [List.getElem?_eq_none (by omega), List.getElem?_eq_none (by simp)]
    rw [this]
    simp only [List.map_cons, List.map_nil, bulkOf.cons, bulkOf.nil]
    try omega
  have hc := reps_field s0 rfl (reps_field s1 rfl (reps_field s2 rfl (reps_field s3 rfl (reps_field s4 rfl (reps_field s5 rfl (reps_field s6 rfl (reps_field s7 rfl (reps_field s8 rfl (reps_field s9 rfl (reps_field s10 rfl (reps_field s11 rfl (reps_field s12 rfl (reps_field s13 rfl (reps_end hl))))))))))))))
  refine ⟨⟨a0, a1, a2, a3, a4, a5, a6, a7, a8, a9, a10, a11, a12, a13⟩, hc, ?_⟩
  unfold Qry.sz
  dsimp only at t0 t1 t2 t3 t4 t5 t6 t7 t8 t9 t10 t11 t12 t13
  rw [bulkOf.agg, hsum]
  try dsimp only
  omega
end Go.Vm
