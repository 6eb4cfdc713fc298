/- QueryJoins: its loops. Printed by genj.py. -/
import Derived.Test.YtogglamgopmpoaaGreatDoorJoined
import Derived.Test.YtogglamgopmpoaaGreatDoorEnvs
namespace Go.Vm
open Go.Proofs

/-- Is a statement told whole? -/
def goodB (x : List UInt8) : Bool := decide (x.count 39 % 2 = 0 ∧ splitM (x ++ [59]) = ([x], []))
theorem goodB_good (x : List UInt8) (h : goodB x = true) : good x := by
  show x.count 39 % 2 = 0 ∧ splitM (x ++ [59]) = ([x], [])
  exact of_decide_eq_true h

theorem take_count (x : List UInt8) (k : Nat) (h : k < x.length) : (x.take (k + 1)).count 39 = (x.take k).count 39 + (if x.getD k 0 = 39 then 1 else 0) := by
  have e : x.take (k + 1) = x.take k ++ [x.getD k 0] := by
    rw [List.getD, List.getElem?_eq_getElem h, Option.getD_some]
    exact (List.take_append_getElem h).symm
  rw [e, List.count_append]
  congr 1
  rw [List.count_singleton]
  simp

noncomputable def loopI : Code := (cl (cr (cl (cr (cr (bodyOf Tryz.f3))))))
noncomputable def loopK : Code := (cl (cr (cl (cr (cl (cl (cr (cl (cl (cr (cl (cr (cr (bodyOf Tryz.f3))))))))))))))

set_option maxHeartbeats 4000000 in
set_option linter.unusedVariables false in
theorem loopK_wp {E : Env} (hP : E.P = Tryz.prog) (f : Bool) (ss : List (List UInt8)) (hb : bulk ss ≤ 1048575) (i : Nat) (hi : i < ss.length) (d3 : D) : ∀ (rem k : Nat) (fr : Nat → D) (σ : St), k + rem = ss[i].length →
    ∀ (h0 : fr 0 = .c (.sl f (strRows ss))) (h3 : fr 3 = d3) (h4 : fr 4 = .c (.int .i64 (i : Int))) (h5 : fr 5 = .c (.int .i64 (((ss[i].take k).count 39 : Nat) : Int))) (h6 : fr 6 = .c (.int .i64 (k : Int))),
    Cw E loopK 90 fr σ (fun o g σ' => o = some (some 2) ∧ g 0 = .c (.sl f (strRows ss)) ∧ g 3 = d3 ∧ g 4 = .c (.int .i64 (i : Int)) ∧ g 5 = .c (.int .i64 ((ss[i].count 39 : Nat) : Int)) ∧ σ'.tok = σ.tok) := by
  intro rem
  have hu9 := t9 hP
  have hu22 := t22 hP
  obtain ⟨it, hit, hits, _, hz⟩ := info9 hP
  have hrow := row_at ss i hi
  have hbm := bulk_mem ss i hi
  induction rem with
  | zero =>
    intro k fr σ hk h0 h3 h4 h5 h6
    have hlt : decide ((k : Int) < ((ByteArray.mk ss[i].toArray).size : Int)) = false := by rw [bsize, decide_eq_false_iff_not]; omega
    rw [List.take_of_length_le (by omega)] at h5
    rw [pin h0, pin h3, pin h4, pin h5, pin h6]
    refine Cw.loop ?_
    refine Cw.seq ?_
    refine Cw.seq ?_
    refine Cw.region ?_
    refine Rw.step rfl rfl (fun _ => op_move_c rfl) rfl ?_
    refine Rw.step rfl rfl (fun _ => op_move_c rfl) rfl ?_
    refine Rw.step rfl rfl (fun _ => op_move_c rfl) rfl ?_
    refine Rw.step rfl rfl (fun _ => op_indexAddr rfl rfl rfl hu22 hit (Int.natCast_nonneg _) hrow (by rw [hits]; rfl)) rfl ?_
    refine Rw.step rfl rfl (fun _ => op_load_rp rfl hrow hu9 hit rfl rfl) rfl ?_
    refine Rw.step rfl rfl (fun _ => op_len_str rfl hu9) rfl ?_
    refine Rw.step rfl rfl (fun _ => op_lss_int rfl rfl hlt) rfl ?_
    refine Rw.nil ?_
    refine Cw.cond_f rfl ?_
    refine Cw.exit ?_
    exact ⟨rfl, rfl, rfl, rfl, rfl, rfl⟩
  | succ rem ih =>
    intro k fr σ hk h0 h3 h4 h5 h6
    have hkl : k < ss[i].length := by omega
    have hlt : decide ((k : Int) < ((ByteArray.mk ss[i].toArray).size : Int)) = true := by rw [bsize, decide_eq_true_eq]; omega
    have hbt : (ByteArray.mk ss[i].toArray)[((k : Nat) : Int).toNat]? = some (ss[i].getD k 0) := by rw [Int.toNat_natCast]; exact get_data _ k (by rw [bsize]; exact hkl)
    have htc := take_count ss[i] k hkl
    have hcl : (ss[i].take k).count 39 ≤ k := by have := List.count_le_length (a := (39 : UInt8)) (l := ss[i].take k); simp only [List.length_take] at this; omega
    have hadd : IntKind.i64.wrap ((k : Int) + 1) = ((k + 1 : Nat) : Int) := by simp only [IntKind.wrap, IntKind.signed, IntKind.bits]; simp; omega
    have hadn : IntKind.i64.wrap ((((ss[i].take k).count 39 : Nat) : Int) + 1) = (((ss[i].take k).count 39 + 1 : Nat) : Int) := by simp only [IntKind.wrap, IntKind.signed, IntKind.bits]; simp; omega
    generalize hbb : ss[i].getD k 0 = b at hbt htc
    rw [pin h0, pin h3, pin h4, pin h5, pin h6]
    by_cases h39 : b = 39
    · subst h39
      rw [if_pos rfl] at htc
      have hq : (((39 : UInt8).toNat : Int) == 39) = true := by decide
      refine Cw.loop ?_
      refine Cw.seq ?_
      refine Cw.seq ?_
      refine Cw.region ?_
      refine Rw.step rfl rfl (fun _ => op_move_c rfl) rfl ?_
      refine Rw.step rfl rfl (fun _ => op_move_c rfl) rfl ?_
      refine Rw.step rfl rfl (fun _ => op_move_c rfl) rfl ?_
      refine Rw.step rfl rfl (fun _ => op_indexAddr rfl rfl rfl hu22 hit (Int.natCast_nonneg _) hrow (by rw [hits]; rfl)) rfl ?_
      refine Rw.step rfl rfl (fun _ => op_load_rp rfl hrow hu9 hit rfl rfl) rfl ?_
      refine Rw.step rfl rfl (fun _ => op_len_str rfl hu9) rfl ?_
      refine Rw.step rfl rfl (fun _ => op_lss_int rfl rfl hlt) rfl ?_
      refine Rw.nil ?_
      refine Cw.cond_t rfl ?_
      refine Cw.skip ?_
      refine Cw.seq ?_
      refine Cw.block ?_
      refine Cw.seq ?_
      refine Cw.region ?_
      refine Rw.step rfl rfl (fun _ => op_move_c rfl) rfl ?_
      refine Rw.step rfl rfl (fun _ => op_move_c rfl) rfl ?_
      refine Rw.step rfl rfl (fun _ => op_indexAddr rfl rfl rfl hu22 hit (Int.natCast_nonneg _) hrow (by rw [hits]; rfl)) rfl ?_
      refine Rw.step rfl rfl (fun _ => op_load_rp rfl hrow hu9 hit rfl rfl) rfl ?_
      refine Rw.step rfl rfl (fun _ => op_move_c rfl) rfl ?_
      refine Rw.step rfl rfl (fun _ => op_index_str rfl rfl hu9 (Int.natCast_nonneg _) hbt) rfl ?_
      refine Rw.step rfl rfl (fun _ => op_eql_int rfl rfl hq) rfl ?_
      refine Rw.nil ?_
      refine Cw.cond_t rfl ?_
      refine Cw.region ?_
      refine Rw.step rfl rfl (fun _ => op_move_c rfl) rfl ?_
      refine Rw.step rfl rfl (fun _ => op_add_int rfl rfl hadn) rfl ?_
      refine Rw.step rfl rfl (fun _ => op_assign_c rfl) rfl ?_
      refine Rw.nil ?_
      refine Cw.region ?_
      refine Rw.step rfl rfl (fun _ => op_move_c rfl) rfl ?_
      refine Rw.step rfl rfl (fun _ => op_add_int rfl rfl hadd) rfl ?_
      refine Rw.step rfl rfl (fun _ => op_assign_c rfl) rfl ?_
      refine Rw.nil ?_
      exact ih (k + 1) _ _ (by omega) rfl rfl rfl (by rw [htc]; rfl) rfl
    · rw [if_neg h39] at htc
      have hq : ((b.toNat : Int) == 39) = false := by
        rw [beq_eq_false_iff_ne]
        intro h
        exact h39 (UInt8.toNat_inj.1 (by have : b.toNat = 39 := by omega
                                         rw [this]; rfl))
      refine Cw.loop ?_
      refine Cw.seq ?_
      refine Cw.seq ?_
      refine Cw.region ?_
      refine Rw.step rfl rfl (fun _ => op_move_c rfl) rfl ?_
      refine Rw.step rfl rfl (fun _ => op_move_c rfl) rfl ?_
      refine Rw.step rfl rfl (fun _ => op_move_c rfl) rfl ?_
      refine Rw.step rfl rfl (fun _ => op_indexAddr rfl rfl rfl hu22 hit (Int.natCast_nonneg _) hrow (by rw [hits]; rfl)) rfl ?_
      refine Rw.step rfl rfl (fun _ => op_load_rp rfl hrow hu9 hit rfl rfl) rfl ?_
      refine Rw.step rfl rfl (fun _ => op_len_str rfl hu9) rfl ?_
      refine Rw.step rfl rfl (fun _ => op_lss_int rfl rfl hlt) rfl ?_
      refine Rw.nil ?_
      refine Cw.cond_t rfl ?_
      refine Cw.skip ?_
      refine Cw.seq ?_
      refine Cw.block ?_
      refine Cw.seq ?_
      refine Cw.region ?_
      refine Rw.step rfl rfl (fun _ => op_move_c rfl) rfl ?_
      refine Rw.step rfl rfl (fun _ => op_move_c rfl) rfl ?_
      refine Rw.step rfl rfl (fun _ => op_indexAddr rfl rfl rfl hu22 hit (Int.natCast_nonneg _) hrow (by rw [hits]; rfl)) rfl ?_
      refine Rw.step rfl rfl (fun _ => op_load_rp rfl hrow hu9 hit rfl rfl) rfl ?_
      refine Rw.step rfl rfl (fun _ => op_move_c rfl) rfl ?_
      refine Rw.step rfl rfl (fun _ => op_index_str rfl rfl hu9 (Int.natCast_nonneg _) hbt) rfl ?_
      refine Rw.step rfl rfl (fun _ => op_eql_int rfl rfl hq) rfl ?_
      refine Rw.nil ?_
      refine Cw.cond_f rfl ?_
      refine Cw.skip ?_
      refine Cw.region ?_
      refine Rw.step rfl rfl (fun _ => op_move_c rfl) rfl ?_
      refine Rw.step rfl rfl (fun _ => op_add_int rfl rfl hadd) rfl ?_
      refine Rw.step rfl rfl (fun _ => op_assign_c rfl) rfl ?_
      refine Rw.nil ?_
      exact ih (k + 1) _ _ (by omega) rfl rfl rfl (by rw [htc, Nat.add_zero]; rfl) rfl

/-- The law's callees. -/
structure ToldL (E : Env) : Prop where
  P : E.P = Tryz.prog
  split5 : E.sum 4 = some splitH

theorem nil_eq (w : List UInt8) : (ByteArray.toList ⟨w.toArray⟩ == ByteArray.toList ⟨#[]⟩) = w.isEmpty := by
  rw [ByteArray.toList_mk, show (⟨#[]⟩ : ByteArray) = ⟨([] : List UInt8).toArray⟩ from rfl, ByteArray.toList_mk]
  cases w <;> rfl
theorem same_eq (v w : List UInt8) : (ByteArray.toList ⟨v.toArray⟩ == ByteArray.toList ⟨w.toArray⟩) = (v == w) := by
  rw [ByteArray.toList_mk, ByteArray.toList_mk]

set_option maxHeartbeats 8000000 in
set_option linter.unusedVariables false in
theorem loopI_wp {E : Env} (hE : ToldL E) (f : Bool) (ss : List (List UInt8)) (hb : bulk ss ≤ 1048575) : ∀ (rem i : Nat) (acc : List (List UInt8)) (fr : Nat → D) (σ : St), i + rem = ss.length → acc.length ≤ i →
    ∀ (h0 : fr 0 = .c (.sl f (strRows ss))) (h4 : fr 4 = .c (.int .i64 (i : Int))) (hout : OutOK (fr 3) σ acc),
    Cw E loopI 90 fr σ (fun o g σ' => o = some (some 0) ∧ OutOK (g 3) σ' (acc ++ (ss.drop i).filter goodB)) := by
  intro rem
  have hP := hE.P
  have hu9 := t9 hP
  have hu22 := t22 hP
  obtain ⟨it, hit, hits, _, hz⟩ := info9 hP
  have hlen := bulk_len ss
  induction rem with
  | zero =>
    intro i acc fr σ hi hal h0 h4 hout
    have hlt : decide ((i : Int) < ((strRows ss).length : Int)) = false := by rw [srows_len, decide_eq_false_iff_not]; omega
    generalize h3 : fr 3 = d3 at hout
    rw [pin h0, pin h3, pin h4, List.drop_eq_nil_of_le (by omega), List.filter_nil, List.append_nil]
    refine Cw.loop ?_
    refine Cw.seq ?_
    refine Cw.seq ?_
    refine Cw.region ?_
    refine Rw.step rfl rfl (fun _ => op_move_c rfl) rfl ?_
    refine Rw.step rfl rfl (fun _ => op_move_c rfl) rfl ?_
    refine Rw.step rfl rfl (fun _ => op_len_sl rfl hu22) rfl ?_
    refine Rw.step rfl rfl (fun _ => op_lss_int rfl rfl hlt) rfl ?_
    refine Rw.nil ?_
    refine Cw.cond_f rfl ?_
    refine Cw.exit ?_
    exact ⟨rfl, hout⟩
  | succ rem ih =>
    intro i acc fr σ hi hal h0 h4 hout
    have hil : i < ss.length := by omega
    have hlt : decide ((i : Int) < ((strRows ss).length : Int)) = true := by rw [srows_len, decide_eq_true_eq]; omega
    have hrow := row_at ss i hil
    have hbm := bulk_mem ss i hil
    have hadd : IntKind.i64.wrap ((i : Int) + 1) = ((i + 1 : Nat) : Int) := by simp only [IntKind.wrap, IntKind.signed, IntKind.bits]; simp; omega
    have hs1 : (ByteArray.mk ss[i].toArray).size + (ByteArray.mk [59].toArray).size ≤ 9223372036854775807 := by rw [bsize, bsize]; simp; omega
    have hcall : splitH [.c (.str ((ByteArray.mk ss[i].toArray) ++ (ByteArray.mk [59].toArray)))] = .ok (.tup [.c (.sl false (strRows (splitM (ss[i] ++ [59])).1)), .c (.str ⟨(splitM (ss[i] ++ [59])).2.toArray⟩)]) := by
      rw [bytes_app]
      simp only [splitH]
      rw [if_pos (by rw [bsize]; simp; omega)]
    have hgood : goodB ss[i] = decide (ss[i].count 39 % 2 = 0 ∧ splitM (ss[i] ++ [59]) = ([ss[i]], [])) := rfl
    have hn : ss[i].count 39 ≤ ss[i].length := List.count_le_length
    have hrem : int2 .rem .i64 ((ss[i].count 39 : Nat) : Int) 2 = .ok (.c (.int .i64 ((ss[i].count 39 % 2 : Nat) : Int))) := by
      simp only [int2]
      rw [if_neg (by decide)]
      rfl
    generalize h3 : fr 3 = d3 at hout
    rw [pin h0, pin h3, pin h4, List.drop_eq_getElem_cons hil, List.filter_cons]
    generalize hsp : splitM (ss[i] ++ [59]) = sp at hcall hgood
    obtain ⟨A, L⟩ := sp
    simp only at hcall
    generalize hcn : ss[i].count 39 = cnt at hrem hgood hn
    refine Cw.loop ?_
    refine Cw.seq ?_
    refine Cw.seq ?_
    refine Cw.region ?_
    refine Rw.step rfl rfl (fun _ => op_move_c rfl) rfl ?_
    refine Rw.step rfl rfl (fun _ => op_move_c rfl) rfl ?_
    refine Rw.step rfl rfl (fun _ => op_len_sl rfl hu22) rfl ?_
    refine Rw.step rfl rfl (fun _ => op_lss_int rfl rfl hlt) rfl ?_
    refine Rw.nil ?_
    refine Cw.cond_t rfl ?_
    refine Cw.skip ?_
    refine Cw.seq ?_
    refine Cw.block ?_
    refine Cw.seq ?_
    refine Cw.region ?_
    refine Rw.step rfl rfl (fun _ => op_assign_c rfl) rfl ?_
    refine Rw.nil ?_
    refine Cw.seq ?_
    refine Cw.seq ?_
    refine Cw.region ?_
    refine Rw.step rfl rfl (fun _ => op_assign_c rfl) rfl ?_
    refine Rw.nil ?_
    refine Cw.block ?_
    refine (loopK_wp hP f ss hb i hil d3 ss[i].length 0 _ _ (by omega) rfl rfl rfl rfl rfl).mono ?_
    rintro o g σ2 ⟨rfl, k0, k3, k4, k5, ktok⟩
    rw [hcn] at k5
    have hout2 : OutOK d3 σ2 acc := by unfold OutOK at hout ⊢; rw [ktok]; exact hout
    clear hout
    rw [pin k0, pin k3, pin k4, pin k5]
    refine Cw.seq ?_
    refine Cw.region ?_
    refine Rw.step rfl rfl (fun _ => op_move_c rfl) rfl ?_
    refine Rw.step rfl rfl (fun _ => op_move_c rfl) rfl ?_
    refine Rw.step rfl rfl (fun _ => op_indexAddr rfl rfl rfl hu22 hit (Int.natCast_nonneg _) hrow (by rw [hits]; rfl)) rfl ?_
    refine Rw.step rfl rfl (fun _ => op_load_rp rfl hrow hu9 hit rfl rfl) rfl ?_
    refine Rw.step rfl rfl (fun _ => op_add_str rfl rfl hs1) rfl ?_
    refine Rw.step rfl rfl (fun _ => op_call rfl rfl hE.split5 rfl hcall) rfl ?_
    refine Rw.step rfl rfl (fun _ => op_move rfl) rfl ?_
    refine Rw.step rfl rfl (fun _ => op_extract rfl rfl) rfl ?_
    refine Rw.step rfl rfl (fun _ => op_extract rfl rfl) rfl ?_
    refine Rw.step rfl rfl (fun _ => op_assign_c rfl) rfl ?_
    refine Rw.step rfl rfl (fun _ => op_assign_c rfl) rfl ?_
    refine Rw.nil ?_
    refine Cw.seq ?_
    by_cases h1 : cnt % 2 = 0
    · have q1 : (((cnt % 2 : Nat) : Int) == 0) = true := by rw [h1]; rfl
      by_cases h2 : L = []
      · have q2 : (ByteArray.toList ⟨L.toArray⟩ == ByteArray.toList ⟨#[]⟩) = true := by rw [nil_eq, h2]; rfl
        by_cases h5 : A.length = 1
        · have q3 : (((strRows A).length : Int) == 1) = true := by rw [srows_len, h5]; rfl
          obtain ⟨y, hy⟩ : ∃ y, A = [y] := List.length_eq_one_iff.1 h5
          have hone : (strRows A)[(0 : Int).toNat]? = some [.str ⟨y.toArray⟩] := by rw [hy]; rfl
          by_cases h6 : y = ss[i]
          · have q4 : (ByteArray.toList ⟨y.toArray⟩ == ByteArray.toList ⟨ss[i].toArray⟩) = true := by rw [same_eq, h6]; simp
            rw [if_pos (by rw [hgood]; simp [h1, h2, hy, h6])]
            rw [show acc ++ ss[i] :: List.filter goodB (List.drop (i + 1) ss) = (acc ++ [ss[i]]) ++ List.filter goodB (List.drop (i + 1) ss) by simp]
            rcases hout2 with ⟨rfl, rfl⟩ | ⟨tk, rfl, htok⟩
            · refine Cw.region_any ?_
              refine Rw.step rfl rfl (fun _ => op_move_c rfl) rfl ?_
              refine Rw.step rfl rfl (fun _ => op_int2 rfl rfl rfl hrem) rfl ?_
              refine Rw.step rfl rfl (fun _ => op_eql_int rfl rfl q1) rfl ?_
              refine Rw.step rfl rfl (fun _ => op_move_c rfl) rfl ?_
              refine Rw.step rfl rfl (fun _ => op_move_c rfl) rfl ?_
              refine Rw.step rfl rfl (fun _ => op_eql_str rfl rfl q2) rfl ?_
              refine Rw.step rfl rfl (fun _ => op_pick_t rfl rfl) rfl ?_
              refine Rw.step rfl rfl (fun _ => op_move_c rfl) rfl ?_
              refine Rw.step rfl rfl (fun _ => op_move_c rfl) rfl ?_
              refine Rw.step rfl rfl (fun _ => op_len_sl rfl hu22) rfl ?_
              refine Rw.step rfl rfl (fun _ => op_eql_int rfl rfl q3) rfl ?_
              refine Rw.step rfl rfl (fun _ => op_pick_t rfl rfl) rfl ?_
              refine Rw.step rfl rfl (fun _ => op_move_c rfl) rfl ?_
              refine Rw.step rfl rfl (fun _ => op_move_c rfl) rfl ?_
              refine Rw.step rfl rfl (fun _ => op_indexAddr rfl rfl rfl hu22 hit (by decide) hone (by rw [hits]; rfl)) rfl ?_
              refine Rw.step rfl rfl (fun _ => op_load_rp rfl hone hu9 hit rfl rfl) rfl ?_
              refine Rw.step rfl rfl (fun _ => op_move_c rfl) rfl ?_
              refine Rw.step rfl rfl (fun _ => op_move_c rfl) rfl ?_
              refine Rw.step rfl rfl (fun _ => op_indexAddr rfl rfl rfl hu22 hit (Int.natCast_nonneg _) hrow (by rw [hits]; rfl)) rfl ?_
              refine Rw.step rfl rfl (fun _ => op_load_rp rfl hrow hu9 hit rfl rfl) rfl ?_
              refine Rw.step rfl rfl (fun _ => op_eql_str rfl rfl q4) rfl ?_
              refine Rw.step rfl rfl (fun _ => op_pick_t rfl rfl) rfl ?_
              refine Rw.nil ⟨by kernel_rfl, ?_⟩
              refine Cw.cond_t rfl ?_
              refine Cw.region ?_
              refine Rw.step rfl rfl (fun _ => op_move_c rfl) rfl ?_
              refine Rw.step rfl rfl (fun _ => op_move_c rfl) rfl ?_
              refine Rw.step rfl rfl (fun _ => op_move_c rfl) rfl ?_
              refine Rw.step rfl rfl (fun _ => op_indexAddr rfl rfl rfl hu22 hit (Int.natCast_nonneg _) hrow (by rw [hits]; rfl)) rfl ?_
              refine Rw.step rfl rfl (fun _ => op_load_rp rfl hrow hu9 hit rfl rfl) rfl ?_
              refine Rw.step rfl rfl (fun _ => op_build1 rfl hu22 hit hits hz) rfl ?_
              refine Rw.step rfl rfl (fun _ => op_append_new rfl rfl (by simp) (app_ok hP _ _ (by simp)) rfl) rfl ?_
              refine Rw.step rfl rfl (fun _ => op_assign_own rfl) rfl ?_
              refine Rw.nil ?_
              refine Cw.region ?_
              refine Rw.step rfl rfl (fun _ => op_move_c rfl) rfl ?_
              refine Rw.step rfl rfl (fun _ => op_add_int rfl rfl hadd) rfl ?_
              refine Rw.step rfl rfl (fun _ => op_assign_c rfl) rfl ?_
              refine Rw.nil ?_
              exact ih (i + 1) ([] ++ [ss[i]]) _ _ (by omega) (by simp only [List.length_append, List.length_singleton, List.length_nil]; omega) rfl rfl (.inr ⟨_, rfl, by simp only [Tr.get_set_same]; simp [strRows]⟩)
            · refine Cw.region_any ?_
              refine Rw.step rfl rfl (fun _ => op_move_c rfl) rfl ?_
              refine Rw.step rfl rfl (fun _ => op_int2 rfl rfl rfl hrem) rfl ?_
              refine Rw.step rfl rfl (fun _ => op_eql_int rfl rfl q1) rfl ?_
              refine Rw.step rfl rfl (fun _ => op_move_c rfl) rfl ?_
              refine Rw.step rfl rfl (fun _ => op_move_c rfl) rfl ?_
              refine Rw.step rfl rfl (fun _ => op_eql_str rfl rfl q2) rfl ?_
              refine Rw.step rfl rfl (fun _ => op_pick_t rfl rfl) rfl ?_
              refine Rw.step rfl rfl (fun _ => op_move_c rfl) rfl ?_
              refine Rw.step rfl rfl (fun _ => op_move_c rfl) rfl ?_
              refine Rw.step rfl rfl (fun _ => op_len_sl rfl hu22) rfl ?_
              refine Rw.step rfl rfl (fun _ => op_eql_int rfl rfl q3) rfl ?_
              refine Rw.step rfl rfl (fun _ => op_pick_t rfl rfl) rfl ?_
              refine Rw.step rfl rfl (fun _ => op_move_c rfl) rfl ?_
              refine Rw.step rfl rfl (fun _ => op_move_c rfl) rfl ?_
              refine Rw.step rfl rfl (fun _ => op_indexAddr rfl rfl rfl hu22 hit (by decide) hone (by rw [hits]; rfl)) rfl ?_
              refine Rw.step rfl rfl (fun _ => op_load_rp rfl hone hu9 hit rfl rfl) rfl ?_
              refine Rw.step rfl rfl (fun _ => op_move_c rfl) rfl ?_
              refine Rw.step rfl rfl (fun _ => op_move_c rfl) rfl ?_
              refine Rw.step rfl rfl (fun _ => op_indexAddr rfl rfl rfl hu22 hit (Int.natCast_nonneg _) hrow (by rw [hits]; rfl)) rfl ?_
              refine Rw.step rfl rfl (fun _ => op_load_rp rfl hrow hu9 hit rfl rfl) rfl ?_
              refine Rw.step rfl rfl (fun _ => op_eql_str rfl rfl q4) rfl ?_
              refine Rw.step rfl rfl (fun _ => op_pick_t rfl rfl) rfl ?_
              refine Rw.nil ⟨by kernel_rfl, ?_⟩
              refine Cw.cond_t rfl ?_
              refine Cw.region ?_
              refine Rw.step rfl rfl (fun _ => op_move_own rfl) rfl ?_
              refine Rw.step rfl rfl (fun _ => op_move_c rfl) rfl ?_
              refine Rw.step rfl rfl (fun _ => op_move_c rfl) rfl ?_
              refine Rw.step rfl rfl (fun _ => op_indexAddr rfl rfl rfl hu22 hit (Int.natCast_nonneg _) hrow (by rw [hits]; rfl)) rfl ?_
              refine Rw.step rfl rfl (fun _ => op_load_rp rfl hrow hu9 hit rfl rfl) rfl ?_
              refine Rw.step rfl rfl (fun _ => op_build1 rfl hu22 hit hits hz) rfl ?_
              refine Rw.step rfl rfl (fun _ => op_append_own rfl rfl (by simp) (app_ok hP _ _ (by simp [strRows]; omega)) (heads acc) htok) rfl ?_
              refine Rw.step rfl rfl (fun _ => op_assign_own rfl) rfl ?_
              refine Rw.nil ?_
              refine Cw.region ?_
              refine Rw.step rfl rfl (fun _ => op_move_c rfl) rfl ?_
              refine Rw.step rfl rfl (fun _ => op_add_int rfl rfl hadd) rfl ?_
              refine Rw.step rfl rfl (fun _ => op_assign_c rfl) rfl ?_
              refine Rw.nil ?_
              exact ih (i + 1) (acc ++ [ss[i]]) _ _ (by omega) (by simp only [List.length_append, List.length_singleton]; omega) rfl rfl (.inr ⟨tk, by rw [← rows_app]; rfl, by simp only [Tr.get_set_same]; simp [strRows]⟩)
          · have q4 : (ByteArray.toList ⟨y.toArray⟩ == ByteArray.toList ⟨ss[i].toArray⟩) = false := by rw [same_eq]; simpa using h6
            rw [if_neg (by rw [hgood]; simp [hy, h6])]
            refine Cw.region_any ?_
            refine Rw.step rfl rfl (fun _ => op_move_c rfl) rfl ?_
            refine Rw.step rfl rfl (fun _ => op_int2 rfl rfl rfl hrem) rfl ?_
            refine Rw.step rfl rfl (fun _ => op_eql_int rfl rfl q1) rfl ?_
            refine Rw.step rfl rfl (fun _ => op_move_c rfl) rfl ?_
            refine Rw.step rfl rfl (fun _ => op_move_c rfl) rfl ?_
            refine Rw.step rfl rfl (fun _ => op_eql_str rfl rfl q2) rfl ?_
            refine Rw.step rfl rfl (fun _ => op_pick_t rfl rfl) rfl ?_
            refine Rw.step rfl rfl (fun _ => op_move_c rfl) rfl ?_
            refine Rw.step rfl rfl (fun _ => op_move_c rfl) rfl ?_
            refine Rw.step rfl rfl (fun _ => op_len_sl rfl hu22) rfl ?_
            refine Rw.step rfl rfl (fun _ => op_eql_int rfl rfl q3) rfl ?_
            refine Rw.step rfl rfl (fun _ => op_pick_t rfl rfl) rfl ?_
            refine Rw.step rfl rfl (fun _ => op_move_c rfl) rfl ?_
            refine Rw.step rfl rfl (fun _ => op_move_c rfl) rfl ?_
            refine Rw.step rfl rfl (fun _ => op_indexAddr rfl rfl rfl hu22 hit (by decide) hone (by rw [hits]; rfl)) rfl ?_
            refine Rw.step rfl rfl (fun _ => op_load_rp rfl hone hu9 hit rfl rfl) rfl ?_
            refine Rw.step rfl rfl (fun _ => op_move_c rfl) rfl ?_
            refine Rw.step rfl rfl (fun _ => op_move_c rfl) rfl ?_
            refine Rw.step rfl rfl (fun _ => op_indexAddr rfl rfl rfl hu22 hit (Int.natCast_nonneg _) hrow (by rw [hits]; rfl)) rfl ?_
            refine Rw.step rfl rfl (fun _ => op_load_rp rfl hrow hu9 hit rfl rfl) rfl ?_
            refine Rw.step rfl rfl (fun _ => op_eql_str rfl rfl q4) rfl ?_
            refine Rw.step rfl rfl (fun _ => op_pick_t rfl rfl) rfl ?_
            refine Rw.nil ⟨by kernel_rfl, ?_⟩
            refine Cw.cond_f rfl ?_
            refine Cw.skip ?_
            refine Cw.region ?_
            refine Rw.step rfl rfl (fun _ => op_move_c rfl) rfl ?_
            refine Rw.step rfl rfl (fun _ => op_add_int rfl rfl hadd) rfl ?_
            refine Rw.step rfl rfl (fun _ => op_assign_c rfl) rfl ?_
            refine Rw.nil ?_
            exact ih (i + 1) acc _ _ (by omega) (by omega) rfl rfl hout2
        · have q3 : (((strRows A).length : Int) == 1) = false := by rw [srows_len, beq_eq_false_iff_ne]; omega
          rw [if_neg (by rw [hgood]; simp only [decide_eq_true_eq, Prod.mk.injEq]; rintro ⟨_, rfl, _⟩; exact h5 rfl)]
          refine Cw.region_any ?_
          refine Rw.step rfl rfl (fun _ => op_move_c rfl) rfl ?_
          refine Rw.step rfl rfl (fun _ => op_int2 rfl rfl rfl hrem) rfl ?_
          refine Rw.step rfl rfl (fun _ => op_eql_int rfl rfl q1) rfl ?_
          refine Rw.step rfl rfl (fun _ => op_move_c rfl) rfl ?_
          refine Rw.step rfl rfl (fun _ => op_move_c rfl) rfl ?_
          refine Rw.step rfl rfl (fun _ => op_eql_str rfl rfl q2) rfl ?_
          refine Rw.step rfl rfl (fun _ => op_pick_t rfl rfl) rfl ?_
          refine Rw.step rfl rfl (fun _ => op_move_c rfl) rfl ?_
          refine Rw.step rfl rfl (fun _ => op_move_c rfl) rfl ?_
          refine Rw.step rfl rfl (fun _ => op_len_sl rfl hu22) rfl ?_
          refine Rw.step rfl rfl (fun _ => op_eql_int rfl rfl q3) rfl ?_
          refine Rw.step rfl rfl (fun _ => op_pick_t rfl rfl) rfl ?_
          refine Rw.step rfl rfl (fun _ => op_move_c rfl) rfl ?_
          refine Rw.pass rfl rfl rfl ?_
          refine Rw.pass rfl rfl rfl ?_
          refine Rw.pass rfl rfl rfl ?_
          refine Rw.pass rfl rfl rfl ?_
          refine Rw.pass rfl rfl rfl ?_
          refine Rw.pass rfl rfl rfl ?_
          refine Rw.pass rfl rfl rfl ?_
          refine Rw.pass rfl rfl rfl ?_
          refine Rw.step rfl rfl (fun _ => op_pick_f rfl rfl) rfl ?_
          refine Rw.nil ⟨by kernel_rfl, ?_⟩
          refine Cw.cond_f rfl ?_
          refine Cw.skip ?_
          refine Cw.region ?_
          refine Rw.step rfl rfl (fun _ => op_move_c rfl) rfl ?_
          refine Rw.step rfl rfl (fun _ => op_add_int rfl rfl hadd) rfl ?_
          refine Rw.step rfl rfl (fun _ => op_assign_c rfl) rfl ?_
          refine Rw.nil ?_
          exact ih (i + 1) acc _ _ (by omega) (by omega) rfl rfl hout2
      · have q2 : (ByteArray.toList ⟨L.toArray⟩ == ByteArray.toList ⟨#[]⟩) = false := by rw [nil_eq]; cases L <;> simp_all
        rw [if_neg (by rw [hgood]; simp [h2])]
        refine Cw.region_any ?_
        refine Rw.step rfl rfl (fun _ => op_move_c rfl) rfl ?_
        refine Rw.step rfl rfl (fun _ => op_int2 rfl rfl rfl hrem) rfl ?_
        refine Rw.step rfl rfl (fun _ => op_eql_int rfl rfl q1) rfl ?_
        refine Rw.step rfl rfl (fun _ => op_move_c rfl) rfl ?_
        refine Rw.step rfl rfl (fun _ => op_move_c rfl) rfl ?_
        refine Rw.step rfl rfl (fun _ => op_eql_str rfl rfl q2) rfl ?_
        refine Rw.step rfl rfl (fun _ => op_pick_t rfl rfl) rfl ?_
        refine Rw.step rfl rfl (fun _ => op_move_c rfl) rfl ?_
        refine Rw.pass rfl rfl rfl ?_
        refine Rw.pass rfl rfl rfl ?_
        refine Rw.pass rfl rfl rfl ?_
        refine Rw.step rfl rfl (fun _ => op_pick_f rfl rfl) rfl ?_
        refine Rw.step rfl rfl (fun _ => op_move_c rfl) rfl ?_
        refine Rw.pass rfl rfl rfl ?_
        refine Rw.pass rfl rfl rfl ?_
        refine Rw.pass rfl rfl rfl ?_
        refine Rw.pass rfl rfl rfl ?_
        refine Rw.pass rfl rfl rfl ?_
        refine Rw.pass rfl rfl rfl ?_
        refine Rw.pass rfl rfl rfl ?_
        refine Rw.pass rfl rfl rfl ?_
        refine Rw.step rfl rfl (fun _ => op_pick_f rfl rfl) rfl ?_
        refine Rw.nil ⟨by kernel_rfl, ?_⟩
        refine Cw.cond_f rfl ?_
        refine Cw.skip ?_
        refine Cw.region ?_
        refine Rw.step rfl rfl (fun _ => op_move_c rfl) rfl ?_
        refine Rw.step rfl rfl (fun _ => op_add_int rfl rfl hadd) rfl ?_
        refine Rw.step rfl rfl (fun _ => op_assign_c rfl) rfl ?_
        refine Rw.nil ?_
        exact ih (i + 1) acc _ _ (by omega) (by omega) rfl rfl hout2
    · have q1 : (((cnt % 2 : Nat) : Int) == 0) = false := by rw [beq_eq_false_iff_ne]; omega
      rw [if_neg (by rw [hgood]; simp [h1])]
      refine Cw.region_any ?_
      refine Rw.step rfl rfl (fun _ => op_move_c rfl) rfl ?_
      refine Rw.step rfl rfl (fun _ => op_int2 rfl rfl rfl hrem) rfl ?_
      refine Rw.step rfl rfl (fun _ => op_eql_int rfl rfl q1) rfl ?_
      refine Rw.step rfl rfl (fun _ => op_move_c rfl) rfl ?_
      refine Rw.pass rfl rfl rfl ?_
      refine Rw.pass rfl rfl rfl ?_
      refine Rw.step rfl rfl (fun _ => op_pick_f rfl rfl) rfl ?_
      refine Rw.step rfl rfl (fun _ => op_move_c rfl) rfl ?_
      refine Rw.pass rfl rfl rfl ?_
      refine Rw.pass rfl rfl rfl ?_
      refine Rw.pass rfl rfl rfl ?_
      refine Rw.step rfl rfl (fun _ => op_pick_f rfl rfl) rfl ?_
      refine Rw.step rfl rfl (fun _ => op_move_c rfl) rfl ?_
      refine Rw.pass rfl rfl rfl ?_
      refine Rw.pass rfl rfl rfl ?_
      refine Rw.pass rfl rfl rfl ?_
      refine Rw.pass rfl rfl rfl ?_
      refine Rw.pass rfl rfl rfl ?_
      refine Rw.pass rfl rfl rfl ?_
      refine Rw.pass rfl rfl rfl ?_
      refine Rw.pass rfl rfl rfl ?_
      refine Rw.step rfl rfl (fun _ => op_pick_f rfl rfl) rfl ?_
      refine Rw.nil ⟨by kernel_rfl, ?_⟩
      refine Cw.cond_f rfl ?_
      refine Cw.skip ?_
      refine Cw.region ?_
      refine Rw.step rfl rfl (fun _ => op_move_c rfl) rfl ?_
      refine Rw.step rfl rfl (fun _ => op_add_int rfl rfl hadd) rfl ?_
      refine Rw.step rfl rfl (fun _ => op_assign_c rfl) rfl ?_
      refine Rw.nil ?_
      exact ih (i + 1) acc _ _ (by omega) (by omega) rfl rfl hout2

end Go.Vm
