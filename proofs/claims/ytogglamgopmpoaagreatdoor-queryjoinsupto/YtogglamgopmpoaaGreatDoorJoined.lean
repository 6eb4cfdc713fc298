/- vellumlaw25.joined: its loop, its answer. Printed by genj.py. -/
import Derived.Test.YtogglamgopmpoaaGreatDoorStrings
import Derived.Test.YtogglamgopmpoaaGreatDoorLaw
namespace Go.Vm
open Go.Proofs

theorem bytes_app (a b : List UInt8) : (⟨a.toArray⟩ : ByteArray) ++ ⟨b.toArray⟩ = ⟨(a ++ b).toArray⟩ := by
  apply ByteArray.ext
  simp [ByteArray.data_append]
theorem bsize (l : List UInt8) : (ByteArray.mk l.toArray).size = l.length := by simp [ByteArray.size]

theorem row_at (ss : List (List UInt8)) (i : Nat) (h : i < ss.length) : (strRows ss)[((i : Nat) : Int).toNat]? = some [.str ⟨ss[i].toArray⟩] := by
  rw [Int.toNat_natCast, strRows, List.getElem?_map, List.getElem?_eq_getElem h]
  rfl
theorem srows_len (ss : List (List UInt8)) : (strRows ss).length = ss.length := by simp [strRows]

/-- The strings of rows. -/
def strsOf : List (List C) → List (List UInt8)
  | [] => []
  | r :: rs => (match r with | [.str b] => b.data.toList | _ => []) :: strsOf rs
theorem strsOf_rows : ∀ ss, strsOf (strRows ss) = ss
  | [] => rfl
  | s :: ss => by
    have := strsOf_rows ss
    simp only [strRows, List.map_cons, strsOf] at this ⊢
    rw [this]
theorem rows_strsOf : ∀ xs : List (List C), xs.all isStrRow = true → strRows (strsOf xs) = xs
  | [], _ => rfl
  | r :: rs, h => by
    simp only [List.all_cons, Bool.and_eq_true] at h
    have := rows_strsOf rs h.2
    simp only [strRows, strsOf, List.map_cons] at this ⊢
    rw [this]
    congr 1
    have h1 := h.1
    unfold isStrRow at h1
    split at h1
    · rfl
    · cases h1

def joinedH : List D → R D
  | [.c (.sl _ xs)] => bif xs.all isStrRow && Nat.ble (bulk (strsOf xs)) 1048575 then .ok (.c (.str ⟨(joinB (strsOf xs)).toArray⟩)) else .er 940
  | _ => .er 941

theorem bulk_len : ∀ ss : List (List UInt8), ss.length ≤ bulk ss
  | [] => Nat.le_refl _
  | s :: ss => by have := bulk_len ss; simp only [List.length_cons, bulk]; omega
theorem bulk_at (ss : List (List UInt8)) (i : Nat) (h : i < ss.length) : bulk (ss.drop i) = ss[i].length + 1 + bulk (ss.drop (i + 1)) := by
  rw [List.drop_eq_getElem_cons h, bulk]
theorem bulk_mem : ∀ (ss : List (List UInt8)) (i : Nat) (h : i < ss.length), ss[i].length + 1 ≤ bulk ss
  | s :: ss, 0, h => by simp only [List.getElem_cons_zero, bulk]; omega
  | s :: ss, i + 1, h => by
    have := bulk_mem ss i (by simpa using h)
    simp only [List.getElem_cons_succ, bulk]; omega

noncomputable def loopJ : Code := (cl (cr (cl (cr (cr (bodyOf Tryz.f6))))))

set_option maxHeartbeats 4000000 in
set_option linter.unusedVariables false in
theorem loopJ_wp {E : Env} (hP : E.P = Tryz.prog) (f : Bool) (ss : List (List UInt8)) (hn : ss.length ≤ 1048576) : ∀ (rem i : Nat) (acc : List UInt8) (fr : Nat → D) (σ : St), i + rem = ss.length → acc.length + bulk (ss.drop i) ≤ 1048576 →
    ∀ (h0 : fr 0 = .c (.sl f (strRows ss))) (h3 : fr 3 = .c (.str ⟨acc.toArray⟩)) (h4 : fr 4 = .c (.int .i64 (i : Int))),
    Cw E loopJ 19 fr σ (fun o f _ => o = some (some 0) ∧ f 3 = .c (.str ⟨((ss.drop i).foldl (fun s x => s ++ x ++ [59]) acc).toArray⟩)) := by
  intro rem
  have hu9 := t9 hP
  have hu22 := t22 hP
  obtain ⟨it, hit, hits, _, hz⟩ := info9 hP
  induction rem with
  | zero =>
    intro i acc fr σ hi hb h0 h3 h4
    have hlt : decide ((i : Int) < ((strRows ss).length : Int)) = false := by rw [srows_len, decide_eq_false_iff_not]; omega
    rw [pin h0, pin h3, pin h4, List.drop_eq_nil_of_le (by omega)]
    refine Cw.loop ?_
    refine Cw.seq ?_
    refine Cw.seq ?_
    refine Cw.region ?_
    refine Rw.step rfl rfl (fun _ => op_move_c rfl) rfl ?_
    refine Rw.step rfl rfl (fun _ => op_move_c rfl) rfl ?_
    refine Rw.step rfl rfl (fun _ => op_len_sl rfl hu22) rfl ?_
    refine Rw.step rfl rfl (fun _ => op_lss_int rfl rfl hlt) rfl ?_
    refine Rw.nil ?_
    refine Cw.cond_f rfl ?_
    refine Cw.exit ?_
    exact ⟨rfl, rfl⟩
  | succ rem ih =>
    intro i acc fr σ hi hb h0 h3 h4
    have hil : i < ss.length := by omega
    have hlt : decide ((i : Int) < ((strRows ss).length : Int)) = true := by rw [srows_len, decide_eq_true_eq]; omega
    have hrow := row_at ss i hil
    have hbk := bulk_at ss i hil
    have hadd : IntKind.i64.wrap ((i : Int) + 1) = ((i + 1 : Nat) : Int) := by simp only [IntKind.wrap, IntKind.signed, IntKind.bits]; simp; omega
    have hs1 : (ByteArray.mk acc.toArray).size + (ByteArray.mk ss[i].toArray).size ≤ 9223372036854775807 := by rw [bsize, bsize]; omega
    have hs2 : ((ByteArray.mk acc.toArray) ++ (ByteArray.mk ss[i].toArray)).size + (ByteArray.mk [59].toArray).size ≤ 9223372036854775807 := by rw [bytes_app, bsize, bsize]; simp; omega
    have happ : (ByteArray.mk acc.toArray) ++ (ByteArray.mk ss[i].toArray) ++ (ByteArray.mk [59].toArray) = ⟨(acc ++ ss[i] ++ [59]).toArray⟩ := by rw [bytes_app, bytes_app]
    rw [pin h0, pin h3, pin h4, List.drop_eq_getElem_cons hil, List.foldl_cons]
    refine Cw.loop ?_
    refine Cw.seq ?_
    refine Cw.seq ?_
    refine Cw.region ?_
    refine Rw.step rfl rfl (fun _ => op_move_c rfl) rfl ?_
    refine Rw.step rfl rfl (fun _ => op_move_c rfl) rfl ?_
    refine Rw.step rfl rfl (fun _ => op_len_sl rfl hu22) rfl ?_
    refine Rw.step rfl rfl (fun _ => op_lss_int rfl rfl hlt) rfl ?_
    refine Rw.nil ?_
    refine Cw.cond_t rfl ?_
    refine Cw.skip ?_
    refine Cw.seq ?_
    refine Cw.block ?_
    refine Cw.region ?_
    refine Rw.step rfl rfl (fun _ => op_move_c rfl) rfl ?_
    refine Rw.step rfl rfl (fun _ => op_move_c rfl) rfl ?_
    refine Rw.step rfl rfl (fun _ => op_move_c rfl) rfl ?_
    refine Rw.step rfl rfl (fun _ => op_indexAddr rfl rfl rfl hu22 hit (Int.natCast_nonneg _) hrow (by rw [hits]; rfl)) rfl ?_
    refine Rw.step rfl rfl (fun _ => op_load_rp rfl hrow hu9 hit rfl rfl) rfl ?_
    refine Rw.step rfl rfl (fun _ => op_add_str rfl rfl hs1) rfl ?_
    refine Rw.step rfl rfl (fun _ => op_add_str rfl rfl hs2) rfl ?_
    refine Rw.step rfl rfl (fun _ => op_assign_c rfl) rfl ?_
    refine Rw.nil ?_
    refine Cw.region ?_
    refine Rw.step rfl rfl (fun _ => op_move_c rfl) rfl ?_
    refine Rw.step rfl rfl (fun _ => op_add_int rfl rfl hadd) rfl ?_
    refine Rw.step rfl rfl (fun _ => op_assign_c rfl) rfl ?_
    refine Rw.nil ?_
    exact ih (i + 1) (acc ++ ss[i] ++ [59]) _ _ (by omega) (by simp only [List.length_append, List.length_singleton]; omega) rfl (by rw [← happ]; rfl) rfl

set_option maxHeartbeats 4000000 in
theorem joined_ev {E : Env} (hP : E.P = Tryz.prog) (f : Bool) (ss : List (List UInt8)) (hb : bulk ss ≤ 1048575) :
    ∃ d σ', Ev E 6 [.c (.sl f (strRows ss))] St.empty d σ' ∧ d = .c (.str ⟨(joinB ss).toArray⟩) := by
  have hlen := bulk_len ss
  refine Ev.wp (fn := Tryz.f6) (nt := 19) (by rw [hP]; exact Tryz.func6) rfl rfl ?_
  refine Cw.seq ?_
  refine Cw.region ?_
  refine Rw.step rfl rfl (fun _ => op_assign_c rfl) rfl ?_
  refine Rw.nil ?_
  refine Cw.seq ?_
  refine Cw.region ?_
  refine Rw.step rfl rfl (fun _ => op_assign_c rfl) rfl ?_
  refine Rw.nil ?_
  refine Cw.seq ?_
  refine Cw.seq ?_
  refine Cw.region ?_
  refine Rw.step rfl rfl (fun _ => op_assign_c rfl) rfl ?_
  refine Rw.nil ?_
  refine Cw.block ?_
  refine (loopJ_wp hP f ss (by omega) ss.length 0 [] _ _ (by omega) (by simp; omega) rfl rfl rfl).mono ?_
  rintro o fr σ ⟨rfl, h3⟩
  rw [pin h3]
  refine Cw.seq ?_
  refine Cw.region ?_
  refine Rw.step rfl rfl (fun _ => op_move_c rfl) rfl ?_
  refine Rw.step rfl rfl (fun _ => op_assign_c rfl) rfl ?_
  refine Rw.nil ?_
  refine Cw.ret ?_
  exact ⟨.inr rfl, _, rfl, rfl⟩

end Go.Vm
