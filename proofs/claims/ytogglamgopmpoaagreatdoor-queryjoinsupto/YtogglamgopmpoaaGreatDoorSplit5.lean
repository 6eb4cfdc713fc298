/- vellumref25.Split: its loop, its answer. Printed by gen4.py. -/
import Derived.Test.YtogglamgopmpoaaGreatDoorTrimmed
namespace Go.Vm
open Go.Proofs

noncomputable def loop5 : Code := cl (cr (cl (cr (cr (bodyOf Tryz.f4)))))

set_option maxHeartbeats 4000000 in
set_option linter.unusedVariables false in
theorem loop5_wp {E : Env} (hE : Told5 E) (s : ByteArray) (hs : s.size ≤ 1048576) : ∀ (rem i st : Nat) (ins : Bool) (out : List (List UInt8)) (fr : Nat → D) (σ : St),
    i + rem = s.size → st ≤ i → out.length ≤ i → ∀ (h0 : fr 0 = .c (.str s)) (h5 : fr 5 = .c (.int .i64 (st : Int))) (h6 : fr 6 = .c (.bool ins)) (h7 : fr 7 = .c (.int .i64 (i : Int))) (hout : OutOK (fr 4) σ out),
    Cw E loop5 48 fr σ (fun o f σ' => o = some (some 0) ∧ f 0 = .c (.str s) ∧ f 5 = .c (.int .i64 ((splitGo s.data.toList rem i st ins out).2 : Int)) ∧ OutOK (f 4) σ' (splitGo s.data.toList rem i st ins out).1) := by
  intro rem
  have hu9 := t9 hE.P
  have hu22 := t22 hE.P
  obtain ⟨it, hit, hits, _, hz⟩ := info9 hE.P
  induction rem with
  | zero =>
    intro i st ins out fr σ hi hst hol h0 h5 h6 h7 hout
    have hlt : decide ((i : Int) < (s.size : Int)) = false := by rw [decide_eq_false_iff_not]; omega
    have hout' := hout
    generalize h4 : fr 4 = d4 at hout'
    rw [pin h0, pin h5, pin h6, pin h7, pin h4]
    refine Cw.loop ?_
    refine Cw.seq (Cw.seq (Cw.region ?_))
    refine Rw.step rfl rfl (fun _ => op_move_c rfl) rfl ?_
    refine Rw.step rfl rfl (fun _ => op_move_c rfl) rfl ?_
    refine Rw.step rfl rfl (fun _ => op_len_str rfl hu9) rfl ?_
    refine Rw.step rfl rfl (fun _ => op_lss_int rfl rfl hlt) rfl ?_
    refine Rw.nil ?_
    refine Cw.cond_f rfl (Cw.exit ?_)
    exact ⟨rfl, rfl, rfl, hout'⟩
  | succ rem ih =>
    intro i st ins out fr σ hi hst hol h0 h5 h6 h7 hout
    have hlt : decide ((i : Int) < (s.size : Int)) = true := by rw [decide_eq_true_eq]; omega
    have hb : s[((i : Nat) : Int).toNat]? = some (s.data.toList.getD i 0) := by rw [Int.toNat_natCast]; exact get_data s i (by omega)
    have hadd : IntKind.i64.wrap ((i : Int) + 1) = ((i + 1 : Nat) : Int) := by simp only [IntKind.wrap, IntKind.signed, IntKind.bits]; simp; omega
    simp only [splitGo]
    generalize hbb : s.data.toList.getD i 0 = b at hb ⊢
    by_cases h39 : b = 39
    · subst h39
      rw [if_pos rfl]
      have hq : (((39 : UInt8).toNat : Int) == 39) = true := by decide
      have hq2 : (((39 : UInt8).toNat : Int) == 59) = false := by decide
      have hout' := hout
      generalize h4 : fr 4 = d4 at hout'
      rw [pin h0, pin h5, pin h6, pin h7, pin h4]
      refine Cw.loop ?_
      refine Cw.seq (Cw.seq (Cw.region ?_))
      refine Rw.step rfl rfl (fun _ => op_move_c rfl) rfl ?_
      refine Rw.step rfl rfl (fun _ => op_move_c rfl) rfl ?_
      refine Rw.step rfl rfl (fun _ => op_len_str rfl hu9) rfl ?_
      refine Rw.step rfl rfl (fun _ => op_lss_int rfl rfl hlt) rfl ?_
      refine Rw.nil ?_
      refine Cw.cond_t rfl (Cw.skip ?_)
      refine Cw.seq (Cw.block (Cw.seq (Cw.seq (Cw.region ?_))))
      refine Rw.step rfl rfl (fun _ => op_move_c rfl) rfl ?_
      refine Rw.step rfl rfl (fun _ => op_move_c rfl) rfl ?_
      refine Rw.step rfl rfl (fun _ => op_index_str rfl rfl hu9 (Int.natCast_nonneg _) hb) rfl ?_
      refine Rw.step rfl rfl (fun _ => op_eql_int rfl rfl hq) rfl ?_
      refine Rw.nil ?_
      refine Cw.cond_t rfl (Cw.region ?_)
      refine Rw.step rfl rfl (fun _ => op_move_c rfl) rfl ?_
      refine Rw.step rfl rfl (fun _ => op_not rfl) rfl ?_
      refine Rw.step rfl rfl (fun _ => op_assign_c rfl) rfl ?_
      refine Rw.nil ?_
      refine Cw.seq (Cw.region ?_)
      refine Rw.step rfl rfl (fun _ => op_move_c rfl) rfl ?_
      refine Rw.step rfl rfl (fun _ => op_move_c rfl) rfl ?_
      refine Rw.step rfl rfl (fun _ => op_index_str rfl rfl hu9 (Int.natCast_nonneg _) hb) rfl ?_
      refine Rw.step rfl rfl (fun _ => op_eql_int rfl rfl hq2) rfl ?_
      refine Rw.step rfl rfl (fun _ => op_move_c rfl) rfl ?_
      refine Rw.pass rfl rfl rfl ?_
      refine Rw.pass rfl rfl rfl ?_
      refine Rw.step rfl rfl (fun _ => op_pick_f rfl rfl) rfl ?_
      refine Rw.nil ?_
      refine Cw.cond_f rfl (Cw.skip ?_)
      refine Cw.region ?_
      refine Rw.step rfl rfl (fun _ => op_move_c rfl) rfl ?_
      refine Rw.step rfl rfl (fun _ => op_add_int rfl rfl hadd) rfl ?_
      refine Rw.step rfl rfl (fun _ => op_assign_c rfl) rfl ?_
      refine Rw.nil ?_
      exact ih (i + 1) st (!ins) out _ _ (by omega) (by omega) (by omega) rfl rfl rfl rfl hout'
    · rw [if_neg h39]
      have hq : ((b.toNat : Int) == 39) = false := by
        rw [beq_eq_false_iff_ne]
        intro h
        exact h39 (UInt8.toNat_inj.1 (by have : b.toNat = 39 := by omega
                                         rw [this]; rfl))
      by_cases h59 : b = 59 ∧ ins = false
      · obtain ⟨rfl, rfl⟩ := h59
        rw [if_pos ⟨rfl, rfl⟩]
        have hq2 : (((59 : UInt8).toNat : Int) == 59) = true := by decide
        have hsz : (s.extract (st : Int).toNat (i : Int).toNat).size ≤ 1048576 := by
          rw [ByteArray.size_extract]; omega
        have hdat : (s.extract (st : Int).toNat (i : Int).toNat).data.toList = (s.data.toList.take i).drop st := by
          rw [extract_data]; simp only [Int.toNat_natCast]
        have hrun : trimB (s.extract (st : Int).toNat (i : Int).toNat).data.toList = trimB ((s.data.toList.take i).drop st) := by rw [hdat]
        generalize hw : trimB ((s.data.toList.take i).drop st) = w at hrun ⊢
        have hcall : trimmedH [.c (.str (s.extract (st : Int).toNat (i : Int).toNat))] = .ok (.c (.str ⟨w.toArray⟩)) := by
          rw [trimmed_ok _ hsz, hrun]
        by_cases hwn : w = []
        · rw [if_pos hwn]
          have hne : (!(ByteArray.toList ⟨w.toArray⟩ == ByteArray.toList ⟨#[]⟩)) = false := by rw [nil_bytes, hwn]; rfl
          have hout' := hout
          generalize h4 : fr 4 = d4 at hout'
          rw [pin h0, pin h5, pin h6, pin h7, pin h4]
          refine Cw.loop ?_
          refine Cw.seq (Cw.seq (Cw.region ?_))
          refine Rw.step rfl rfl (fun _ => op_move_c rfl) rfl ?_
          refine Rw.step rfl rfl (fun _ => op_move_c rfl) rfl ?_
          refine Rw.step rfl rfl (fun _ => op_len_str rfl hu9) rfl ?_
          refine Rw.step rfl rfl (fun _ => op_lss_int rfl rfl hlt) rfl ?_
          refine Rw.nil ?_
          refine Cw.cond_t rfl (Cw.skip ?_)
          refine Cw.seq (Cw.block (Cw.seq (Cw.seq (Cw.region ?_))))
          refine Rw.step rfl rfl (fun _ => op_move_c rfl) rfl ?_
          refine Rw.step rfl rfl (fun _ => op_move_c rfl) rfl ?_
          refine Rw.step rfl rfl (fun _ => op_index_str rfl rfl hu9 (Int.natCast_nonneg _) hb) rfl ?_
          refine Rw.step rfl rfl (fun _ => op_eql_int rfl rfl hq) rfl ?_
          refine Rw.nil ?_
          refine Cw.cond_f rfl (Cw.skip ?_)
          refine Cw.seq (Cw.region ?_)
          refine Rw.step rfl rfl (fun _ => op_move_c rfl) rfl ?_
          refine Rw.step rfl rfl (fun _ => op_move_c rfl) rfl ?_
          refine Rw.step rfl rfl (fun _ => op_index_str rfl rfl hu9 (Int.natCast_nonneg _) hb) rfl ?_
          refine Rw.step rfl rfl (fun _ => op_eql_int rfl rfl hq2) rfl ?_
          refine Rw.step rfl rfl (fun _ => op_move_c rfl) rfl ?_
          refine Rw.step rfl rfl (fun _ => op_move_c rfl) rfl ?_
          refine Rw.step rfl rfl (fun _ => op_not rfl) rfl ?_
          refine Rw.step rfl rfl (fun _ => op_pick_t rfl rfl) rfl ?_
          refine Rw.nil ?_
          refine Cw.cond_t rfl (Cw.seq (Cw.seq (Cw.region ?_)))
          refine Rw.step rfl rfl (fun _ => op_move_c rfl) rfl ?_
          refine Rw.step rfl rfl (fun _ => op_move_c rfl) rfl ?_
          refine Rw.step rfl rfl (fun _ => op_move_c rfl) rfl ?_
          refine Rw.step rfl rfl (fun _ => op_slice_str rfl rfl rfl hu9 (Int.natCast_nonneg _) (by omega) (by omega)) rfl ?_
          refine Rw.step rfl rfl (fun _ => op_call rfl rfl hE.trimmed rfl hcall) rfl ?_
          refine Rw.step rfl rfl (fun _ => op_assign_c rfl) rfl ?_
          refine Rw.nil ?_
          refine Cw.seq (Cw.region ?_)
          refine Rw.step rfl rfl (fun _ => op_move_c rfl) rfl ?_
          refine Rw.step rfl rfl (fun _ => op_neq_str rfl rfl hne) rfl ?_
          refine Rw.nil ?_
          refine Cw.cond_f rfl (Cw.skip ?_)
          refine Cw.region ?_
          refine Rw.step rfl rfl (fun _ => op_move_c rfl) rfl ?_
          refine Rw.step rfl rfl (fun _ => op_add_int rfl rfl hadd) rfl ?_
          refine Rw.step rfl rfl (fun _ => op_assign_c rfl) rfl ?_
          refine Rw.nil ?_
          refine Cw.region ?_
          refine Rw.step rfl rfl (fun _ => op_move_c rfl) rfl ?_
          refine Rw.step rfl rfl (fun _ => op_add_int rfl rfl hadd) rfl ?_
          refine Rw.step rfl rfl (fun _ => op_assign_c rfl) rfl ?_
          refine Rw.nil ?_
          exact ih (i + 1) (i + 1) false out _ _ (by omega) (by omega) (by omega) rfl rfl rfl rfl hout'
        · rw [if_neg hwn]
          have hne : (!(ByteArray.toList ⟨w.toArray⟩ == ByteArray.toList ⟨#[]⟩)) = true := by rw [nil_bytes]; cases w <;> simp_all
          rcases hout with ⟨rfl, h4⟩ | ⟨t, h4, htok⟩
          · rw [pin h0, pin h5, pin h6, pin h7, pin h4]
            refine Cw.loop ?_
            refine Cw.seq (Cw.seq (Cw.region ?_))
            refine Rw.step rfl rfl (fun _ => op_move_c rfl) rfl ?_
            refine Rw.step rfl rfl (fun _ => op_move_c rfl) rfl ?_
            refine Rw.step rfl rfl (fun _ => op_len_str rfl hu9) rfl ?_
            refine Rw.step rfl rfl (fun _ => op_lss_int rfl rfl hlt) rfl ?_
            refine Rw.nil ?_
            refine Cw.cond_t rfl (Cw.skip ?_)
            refine Cw.seq (Cw.block (Cw.seq (Cw.seq (Cw.region ?_))))
            refine Rw.step rfl rfl (fun _ => op_move_c rfl) rfl ?_
            refine Rw.step rfl rfl (fun _ => op_move_c rfl) rfl ?_
            refine Rw.step rfl rfl (fun _ => op_index_str rfl rfl hu9 (Int.natCast_nonneg _) hb) rfl ?_
            refine Rw.step rfl rfl (fun _ => op_eql_int rfl rfl hq) rfl ?_
            refine Rw.nil ?_
            refine Cw.cond_f rfl (Cw.skip ?_)
            refine Cw.seq (Cw.region ?_)
            refine Rw.step rfl rfl (fun _ => op_move_c rfl) rfl ?_
            refine Rw.step rfl rfl (fun _ => op_move_c rfl) rfl ?_
            refine Rw.step rfl rfl (fun _ => op_index_str rfl rfl hu9 (Int.natCast_nonneg _) hb) rfl ?_
            refine Rw.step rfl rfl (fun _ => op_eql_int rfl rfl hq2) rfl ?_
            refine Rw.step rfl rfl (fun _ => op_move_c rfl) rfl ?_
            refine Rw.step rfl rfl (fun _ => op_move_c rfl) rfl ?_
            refine Rw.step rfl rfl (fun _ => op_not rfl) rfl ?_
            refine Rw.step rfl rfl (fun _ => op_pick_t rfl rfl) rfl ?_
            refine Rw.nil ?_
            refine Cw.cond_t rfl (Cw.seq (Cw.seq (Cw.region ?_)))
            refine Rw.step rfl rfl (fun _ => op_move_c rfl) rfl ?_
            refine Rw.step rfl rfl (fun _ => op_move_c rfl) rfl ?_
            refine Rw.step rfl rfl (fun _ => op_move_c rfl) rfl ?_
            refine Rw.step rfl rfl (fun _ => op_slice_str rfl rfl rfl hu9 (Int.natCast_nonneg _) (by omega) (by omega)) rfl ?_
            refine Rw.step rfl rfl (fun _ => op_call rfl rfl hE.trimmed rfl hcall) rfl ?_
            refine Rw.step rfl rfl (fun _ => op_assign_c rfl) rfl ?_
            refine Rw.nil ?_
            refine Cw.seq (Cw.region ?_)
            refine Rw.step rfl rfl (fun _ => op_move_c rfl) rfl ?_
            refine Rw.step rfl rfl (fun _ => op_neq_str rfl rfl hne) rfl ?_
            refine Rw.nil ?_
            refine Cw.cond_t rfl (Cw.region ?_)
            refine Rw.step rfl rfl (fun _ => op_move_c rfl) rfl ?_
            refine Rw.step rfl rfl (fun _ => op_move_c rfl) rfl ?_
            refine Rw.step rfl rfl (fun _ => op_build1 rfl hu22 hit hits hz) rfl ?_
            refine Rw.step rfl rfl (fun _ => op_append_new rfl rfl (by simp) (app_ok hE.P _ _ (by simp)) rfl) rfl ?_
            refine Rw.step rfl rfl (fun _ => op_assign_own rfl) rfl ?_
            refine Rw.nil ?_
            refine Cw.region ?_
            refine Rw.step rfl rfl (fun _ => op_move_c rfl) rfl ?_
            refine Rw.step rfl rfl (fun _ => op_add_int rfl rfl hadd) rfl ?_
            refine Rw.step rfl rfl (fun _ => op_assign_c rfl) rfl ?_
            refine Rw.nil ?_
            refine Cw.region ?_
            refine Rw.step rfl rfl (fun _ => op_move_c rfl) rfl ?_
            refine Rw.step rfl rfl (fun _ => op_add_int rfl rfl hadd) rfl ?_
            refine Rw.step rfl rfl (fun _ => op_assign_c rfl) rfl ?_
            refine Rw.nil ?_
            exact ih (i + 1) (i + 1) false ([] ++ [w]) _ _ (by omega) (by omega) (by simp only [List.length_append, List.length_singleton, List.length_nil]; omega) rfl rfl rfl rfl (.inr ⟨_, rfl, by simp only [Tr.get_set_same]; simp [strRows]⟩)
          · rw [pin h0, pin h5, pin h6, pin h7, pin h4]
            refine Cw.loop ?_
            refine Cw.seq (Cw.seq (Cw.region ?_))
            refine Rw.step rfl rfl (fun _ => op_move_c rfl) rfl ?_
            refine Rw.step rfl rfl (fun _ => op_move_c rfl) rfl ?_
            refine Rw.step rfl rfl (fun _ => op_len_str rfl hu9) rfl ?_
            refine Rw.step rfl rfl (fun _ => op_lss_int rfl rfl hlt) rfl ?_
            refine Rw.nil ?_
            refine Cw.cond_t rfl (Cw.skip ?_)
            refine Cw.seq (Cw.block (Cw.seq (Cw.seq (Cw.region ?_))))
            refine Rw.step rfl rfl (fun _ => op_move_c rfl) rfl ?_
            refine Rw.step rfl rfl (fun _ => op_move_c rfl) rfl ?_
            refine Rw.step rfl rfl (fun _ => op_index_str rfl rfl hu9 (Int.natCast_nonneg _) hb) rfl ?_
            refine Rw.step rfl rfl (fun _ => op_eql_int rfl rfl hq) rfl ?_
            refine Rw.nil ?_
            refine Cw.cond_f rfl (Cw.skip ?_)
            refine Cw.seq (Cw.region ?_)
            refine Rw.step rfl rfl (fun _ => op_move_c rfl) rfl ?_
            refine Rw.step rfl rfl (fun _ => op_move_c rfl) rfl ?_
            refine Rw.step rfl rfl (fun _ => op_index_str rfl rfl hu9 (Int.natCast_nonneg _) hb) rfl ?_
            refine Rw.step rfl rfl (fun _ => op_eql_int rfl rfl hq2) rfl ?_
            refine Rw.step rfl rfl (fun _ => op_move_c rfl) rfl ?_
            refine Rw.step rfl rfl (fun _ => op_move_c rfl) rfl ?_
            refine Rw.step rfl rfl (fun _ => op_not rfl) rfl ?_
            refine Rw.step rfl rfl (fun _ => op_pick_t rfl rfl) rfl ?_
            refine Rw.nil ?_
            refine Cw.cond_t rfl (Cw.seq (Cw.seq (Cw.region ?_)))
            refine Rw.step rfl rfl (fun _ => op_move_c rfl) rfl ?_
            refine Rw.step rfl rfl (fun _ => op_move_c rfl) rfl ?_
            refine Rw.step rfl rfl (fun _ => op_move_c rfl) rfl ?_
            refine Rw.step rfl rfl (fun _ => op_slice_str rfl rfl rfl hu9 (Int.natCast_nonneg _) (by omega) (by omega)) rfl ?_
            refine Rw.step rfl rfl (fun _ => op_call rfl rfl hE.trimmed rfl hcall) rfl ?_
            refine Rw.step rfl rfl (fun _ => op_assign_c rfl) rfl ?_
            refine Rw.nil ?_
            refine Cw.seq (Cw.region ?_)
            refine Rw.step rfl rfl (fun _ => op_move_c rfl) rfl ?_
            refine Rw.step rfl rfl (fun _ => op_neq_str rfl rfl hne) rfl ?_
            refine Rw.nil ?_
            refine Cw.cond_t rfl (Cw.region ?_)
            refine Rw.step rfl rfl (fun _ => op_move_own rfl) rfl ?_
            refine Rw.step rfl rfl (fun _ => op_move_c rfl) rfl ?_
            refine Rw.step rfl rfl (fun _ => op_build1 rfl hu22 hit hits hz) rfl ?_
            refine Rw.step rfl rfl (fun _ => op_append_own rfl rfl (by simp) (app_ok hE.P _ _ (by simp [strRows]; omega)) (heads out) htok) rfl ?_
            refine Rw.step rfl rfl (fun _ => op_assign_own rfl) rfl ?_
            refine Rw.nil ?_
            refine Cw.region ?_
            refine Rw.step rfl rfl (fun _ => op_move_c rfl) rfl ?_
            refine Rw.step rfl rfl (fun _ => op_add_int rfl rfl hadd) rfl ?_
            refine Rw.step rfl rfl (fun _ => op_assign_c rfl) rfl ?_
            refine Rw.nil ?_
            refine Cw.region ?_
            refine Rw.step rfl rfl (fun _ => op_move_c rfl) rfl ?_
            refine Rw.step rfl rfl (fun _ => op_add_int rfl rfl hadd) rfl ?_
            refine Rw.step rfl rfl (fun _ => op_assign_c rfl) rfl ?_
            refine Rw.nil ?_
            exact ih (i + 1) (i + 1) false (out ++ [w]) _ _ (by omega) (by omega) (by simp only [List.length_append, List.length_singleton]; omega) rfl rfl rfl rfl (.inr ⟨t, by rw [← rows_app]; rfl, by simp only [Tr.get_set_same]; simp [strRows]⟩)
      · rw [if_neg h59]
        have hout' := hout
        generalize h4 : fr 4 = d4 at hout'
        cases h59b : decide (b = 59) with
        | false =>
          have h59c : ¬ b = 59 := of_decide_eq_false h59b
          have hq2 : ((b.toNat : Int) == 59) = false := by
            rw [beq_eq_false_iff_ne]
            intro h
            exact h59c (UInt8.toNat_inj.1 (by have : b.toNat = 59 := by omega
                                              rw [this]; rfl))
          rw [pin h0, pin h5, pin h6, pin h7, pin h4]
          refine Cw.loop ?_
          refine Cw.seq (Cw.seq (Cw.region ?_))
          refine Rw.step rfl rfl (fun _ => op_move_c rfl) rfl ?_
          refine Rw.step rfl rfl (fun _ => op_move_c rfl) rfl ?_
          refine Rw.step rfl rfl (fun _ => op_len_str rfl hu9) rfl ?_
          refine Rw.step rfl rfl (fun _ => op_lss_int rfl rfl hlt) rfl ?_
          refine Rw.nil ?_
          refine Cw.cond_t rfl (Cw.skip ?_)
          refine Cw.seq (Cw.block (Cw.seq (Cw.seq (Cw.region ?_))))
          refine Rw.step rfl rfl (fun _ => op_move_c rfl) rfl ?_
          refine Rw.step rfl rfl (fun _ => op_move_c rfl) rfl ?_
          refine Rw.step rfl rfl (fun _ => op_index_str rfl rfl hu9 (Int.natCast_nonneg _) hb) rfl ?_
          refine Rw.step rfl rfl (fun _ => op_eql_int rfl rfl hq) rfl ?_
          refine Rw.nil ?_
          refine Cw.cond_f rfl (Cw.skip ?_)
          refine Cw.seq (Cw.region ?_)
          refine Rw.step rfl rfl (fun _ => op_move_c rfl) rfl ?_
          refine Rw.step rfl rfl (fun _ => op_move_c rfl) rfl ?_
          refine Rw.step rfl rfl (fun _ => op_index_str rfl rfl hu9 (Int.natCast_nonneg _) hb) rfl ?_
          refine Rw.step rfl rfl (fun _ => op_eql_int rfl rfl hq2) rfl ?_
          refine Rw.step rfl rfl (fun _ => op_move_c rfl) rfl ?_
          refine Rw.pass rfl rfl rfl ?_
          refine Rw.pass rfl rfl rfl ?_
          refine Rw.step rfl rfl (fun _ => op_pick_f rfl rfl) rfl ?_
          refine Rw.nil ?_
          refine Cw.cond_f rfl (Cw.skip ?_)
          refine Cw.region ?_
          refine Rw.step rfl rfl (fun _ => op_move_c rfl) rfl ?_
          refine Rw.step rfl rfl (fun _ => op_add_int rfl rfl hadd) rfl ?_
          refine Rw.step rfl rfl (fun _ => op_assign_c rfl) rfl ?_
          refine Rw.nil ?_
          exact ih (i + 1) st ins out _ _ (by omega) (by omega) (by omega) rfl rfl rfl rfl hout'
        | true =>
          have h59c : b = 59 := of_decide_eq_true h59b
          subst h59c
          have hins : ins = true := by cases ins with | true => rfl | false => exact absurd ⟨rfl, rfl⟩ h59
          subst hins
          have hq2 : (((59 : UInt8).toNat : Int) == 59) = true := by decide
          rw [pin h0, pin h5, pin h6, pin h7, pin h4]
          refine Cw.loop ?_
          refine Cw.seq (Cw.seq (Cw.region ?_))
          refine Rw.step rfl rfl (fun _ => op_move_c rfl) rfl ?_
          refine Rw.step rfl rfl (fun _ => op_move_c rfl) rfl ?_
          refine Rw.step rfl rfl (fun _ => op_len_str rfl hu9) rfl ?_
          refine Rw.step rfl rfl (fun _ => op_lss_int rfl rfl hlt) rfl ?_
          refine Rw.nil ?_
          refine Cw.cond_t rfl (Cw.skip ?_)
          refine Cw.seq (Cw.block (Cw.seq (Cw.seq (Cw.region ?_))))
          refine Rw.step rfl rfl (fun _ => op_move_c rfl) rfl ?_
          refine Rw.step rfl rfl (fun _ => op_move_c rfl) rfl ?_
          refine Rw.step rfl rfl (fun _ => op_index_str rfl rfl hu9 (Int.natCast_nonneg _) hb) rfl ?_
          refine Rw.step rfl rfl (fun _ => op_eql_int rfl rfl hq) rfl ?_
          refine Rw.nil ?_
          refine Cw.cond_f rfl (Cw.skip ?_)
          refine Cw.seq (Cw.region ?_)
          refine Rw.step rfl rfl (fun _ => op_move_c rfl) rfl ?_
          refine Rw.step rfl rfl (fun _ => op_move_c rfl) rfl ?_
          refine Rw.step rfl rfl (fun _ => op_index_str rfl rfl hu9 (Int.natCast_nonneg _) hb) rfl ?_
          refine Rw.step rfl rfl (fun _ => op_eql_int rfl rfl hq2) rfl ?_
          refine Rw.step rfl rfl (fun _ => op_move_c rfl) rfl ?_
          refine Rw.step rfl rfl (fun _ => op_move_c rfl) rfl ?_
          refine Rw.step rfl rfl (fun _ => op_not rfl) rfl ?_
          refine Rw.step rfl rfl (fun _ => op_pick_t rfl rfl) rfl ?_
          refine Rw.nil ?_
          refine Cw.cond_f rfl (Cw.skip ?_)
          refine Cw.region ?_
          refine Rw.step rfl rfl (fun _ => op_move_c rfl) rfl ?_
          refine Rw.step rfl rfl (fun _ => op_add_int rfl rfl hadd) rfl ?_
          refine Rw.step rfl rfl (fun _ => op_assign_c rfl) rfl ?_
          refine Rw.nil ?_
          exact ih (i + 1) st true out _ _ (by omega) (by omega) (by omega) rfl rfl rfl rfl hout'

end Go.Vm
