/- vellumlaw25.strings at two slices of the same texts. -/
import Derived.Test.YtogglamgopmpoaaGreatDoorAnswers
namespace Go.Vm
open Go.Proofs

def isStrRow : List C → Bool
  | [.str _] => true
  | _ => false

/-- Told only where both are the same. -/
def stringsH : List D → R D
  | [.c (.sl _ xs), .c (.sl _ ys)] => bif sameRows xs ys && xs.all isStrRow && Nat.ble xs.length 1048576 then .ok (.c (.bool true)) else .er 920
  | _ => .er 921

noncomputable def loop6 : Code := cl (cr (cl (cr (cr (bodyOf Tryz.f7)))))

set_option maxHeartbeats 4000000 in
theorem loop6_wp {E : Env} (hP : E.P = Tryz.prog) (f f' : Bool) (xs : List (List C)) (hx : ∀ r ∈ xs, isStrRow r = true) (hn : xs.length ≤ 1048576) : ∀ (rem i : Nat) (fr : Nat → D) (σ : St), i + rem = xs.length →
    fr 0 = .c (.sl f xs) → fr 1 = .c (.sl f' xs) → fr 5 = .c (.int .i64 (i : Int)) → Cw E loop6 26 fr σ (fun o _ _ => o = some (some 0)) := by
  intro rem
  have hu9 := t9 hP
  have hu22 := t22 hP
  obtain ⟨it, hit, hits, _, _⟩ := info9 hP
  induction rem with
  | zero =>
    intro i fr σ hi h0 h1 h5
    have hlt : decide ((i : Int) < (xs.length : Int)) = false := by rw [decide_eq_false_iff_not]; omega
    rw [pin h0, pin h1, pin h5]
    refine Cw.loop ?_
    refine Cw.seq (Cw.seq (Cw.region ?_))
    refine Rw.step rfl rfl (fun _ => op_move_c rfl) rfl ?_
    refine Rw.step rfl rfl (fun _ => op_move_c rfl) rfl ?_
    refine Rw.step rfl rfl (fun _ => op_len_sl rfl hu22) rfl ?_
    refine Rw.step rfl rfl (fun _ => op_lss_int rfl rfl hlt) rfl ?_
    refine Rw.nil ?_
    refine Cw.cond_f rfl (Cw.exit ?_)
    exact rfl
  | succ rem ih =>
    intro i fr σ hi h0 h1 h5
    have hlt : decide ((i : Int) < (xs.length : Int)) = true := by rw [decide_eq_true_eq]; omega
    have hrow : xs[((i : Nat) : Int).toNat]? = some xs[i] := by rw [Int.toNat_natCast]; exact List.getElem?_eq_getElem (by omega)
    have hstr : ∃ b, xs[i] = [.str b] := by
      have := hx xs[i] (List.getElem_mem _)
      generalize xs[i] = r at this
      unfold isStrRow at this
      split at this
      · exact ⟨_, rfl⟩
      · cases this
    obtain ⟨b, hb⟩ := hstr
    rw [hb] at hrow
    have hne : (!(b.toList == b.toList)) = false := by simp
    have hadd : IntKind.i64.wrap ((i : Int) + 1) = ((i + 1 : Nat) : Int) := by simp only [IntKind.wrap, IntKind.signed, IntKind.bits]; simp; omega
    rw [pin h0, pin h1, pin h5]
    refine Cw.loop ?_
    refine Cw.seq (Cw.seq (Cw.region ?_))
    refine Rw.step rfl rfl (fun _ => op_move_c rfl) rfl ?_
    refine Rw.step rfl rfl (fun _ => op_move_c rfl) rfl ?_
    refine Rw.step rfl rfl (fun _ => op_len_sl rfl hu22) rfl ?_
    refine Rw.step rfl rfl (fun _ => op_lss_int rfl rfl hlt) rfl ?_
    refine Rw.nil ?_
    refine Cw.cond_t rfl (Cw.skip ?_)
    refine Cw.seq (Cw.block (Cw.seq (Cw.region_any ?_)))
    refine Rw.step rfl rfl (fun _ => op_move_c rfl) rfl ?_
    refine Rw.step rfl rfl (fun _ => op_move_c rfl) rfl ?_
    refine Rw.step rfl rfl (fun _ => op_indexAddr rfl rfl rfl hu22 hit (Int.natCast_nonneg _) hrow (by rw [hits]; rfl)) rfl ?_
    refine Rw.step rfl rfl (fun _ => op_load_rp rfl hrow hu9 hit rfl rfl) rfl ?_
    refine Rw.step rfl rfl (fun _ => op_move_c rfl) rfl ?_
    refine Rw.step rfl rfl (fun _ => op_move_c rfl) rfl ?_
    refine Rw.step rfl rfl (fun _ => op_indexAddr rfl rfl rfl hu22 hit (Int.natCast_nonneg _) hrow (by rw [hits]; rfl)) rfl ?_
    refine Rw.step rfl rfl (fun _ => op_load_rp rfl hrow hu9 hit rfl rfl) rfl ?_
    refine Rw.step rfl rfl (fun _ => op_neq_str rfl rfl hne) rfl ?_
    refine Rw.nil ⟨by kernel_rfl, ?_⟩
    refine Cw.cond_f rfl (Cw.skip ?_)
    refine Cw.region ?_
    refine Rw.step rfl rfl (fun _ => op_move_c rfl) rfl ?_
    refine Rw.step rfl rfl (fun _ => op_add_int rfl rfl hadd) rfl ?_
    refine Rw.step rfl rfl (fun _ => op_assign_c rfl) rfl ?_
    refine Rw.nil ?_
    exact ih (i + 1) _ _ (by omega) rfl rfl rfl

set_option maxHeartbeats 4000000 in
theorem strings_ev {E : Env} (hP : E.P = Tryz.prog) (f f' : Bool) (xs : List (List C)) (hx : ∀ r ∈ xs, isStrRow r = true) (hn : xs.length ≤ 1048576) :
    ∃ d σ', Ev E 7 [.c (.sl f xs), .c (.sl f' xs)] St.empty d σ' ∧ d = .c (.bool true) := by
  have hu22 := t22 hP
  have hne : (((xs.length : Int)) != ((xs.length : Int))) = false := by simp
  refine Ev.wp (fn := Tryz.f7) (nt := 26) (by rw [hP]; exact Tryz.func7) rfl rfl ?_
  refine Cw.seq (Cw.region ?_)
  refine Rw.step rfl rfl (fun _ => op_assign_c rfl) rfl ?_
  refine Rw.nil ?_
  refine Cw.seq (Cw.seq (Cw.region ?_))
  refine Rw.step rfl rfl (fun _ => op_move_c rfl) rfl ?_
  refine Rw.step rfl rfl (fun _ => op_len_sl rfl hu22) rfl ?_
  refine Rw.step rfl rfl (fun _ => op_move_c rfl) rfl ?_
  refine Rw.step rfl rfl (fun _ => op_len_sl rfl hu22) rfl ?_
  refine Rw.step rfl rfl (fun _ => op_neq_int rfl rfl hne) rfl ?_
  refine Rw.nil ?_
  refine Cw.cond_f rfl (Cw.skip ?_)
  refine Cw.seq (Cw.seq (Cw.region ?_))
  refine Rw.step rfl rfl (fun _ => op_assign_c rfl) rfl ?_
  refine Rw.nil ?_
  refine Cw.block ?_
  refine (loop6_wp hP f f' xs hx hn xs.length 0 _ _ (by omega) rfl rfl rfl).mono ?_
  rintro o fr σ rfl
  refine Cw.seq (Cw.region ?_)
  refine Rw.step rfl rfl (fun _ => op_assign_c rfl) rfl ?_
  refine Rw.nil ?_
  exact Cw.ret ⟨.inr rfl, _, rfl, rfl⟩

end Go.Vm
