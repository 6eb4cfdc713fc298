/- vellumref25.blank. Printed by genb.py. -/
import Derived.Test.YtogglamgopmpoaaGreatDoorTrimmed
namespace Go.Vm
open Go.Proofs

theorem blank_ev {E : Env} (hP : E.P = Tryz.prog) (n : Int) : ∃ d σ', Ev E 13 [.c (.int .u8 n)] St.empty d σ' ∧ d = (.c (.bool (n == 32 || n == 9 || n == 10 || n == 13))) := by
  cases h0 : (n == (32 : Int)) with
  | true =>
    refine Ev.wp (fn := Tryz.f13) (nt := 17) (by rw [hP]; exact Tryz.func13) rfl rfl ?_
    refine Cw.seq (Cw.region ?_)
    refine Rw.step rfl rfl (fun _ => op_assign_c rfl) rfl ?_
    refine Rw.nil ?_
    refine Cw.seq (Cw.region ?_)
    refine Rw.step rfl rfl (fun _ => op_move_c rfl) rfl ?_
    refine Rw.step rfl rfl (fun _ => op_eql_int rfl rfl h0) rfl ?_
    refine Rw.step rfl rfl (fun _ => op_move_c rfl) rfl ?_
    refine Rw.pass rfl rfl rfl ?_
    refine Rw.pass rfl rfl rfl ?_
    refine Rw.step rfl rfl (fun _ => op_pick_t rfl rfl) rfl ?_
    refine Rw.step rfl rfl (fun _ => op_move_c rfl) rfl ?_
    refine Rw.pass rfl rfl rfl ?_
    refine Rw.pass rfl rfl rfl ?_
    refine Rw.step rfl rfl (fun _ => op_pick_t rfl rfl) rfl ?_
    refine Rw.step rfl rfl (fun _ => op_move_c rfl) rfl ?_
    refine Rw.pass rfl rfl rfl ?_
    refine Rw.pass rfl rfl rfl ?_
    refine Rw.step rfl rfl (fun _ => op_pick_t rfl rfl) rfl ?_
    refine Rw.step rfl rfl (fun _ => op_assign_c rfl) rfl ?_
    refine Rw.nil ?_
    refine Cw.ret ⟨.inr rfl, _, rfl, ?_⟩
    rfl
  | false =>
    cases h1 : (n == (9 : Int)) with
    | true =>
      refine Ev.wp (fn := Tryz.f13) (nt := 17) (by rw [hP]; exact Tryz.func13) rfl rfl ?_
      refine Cw.seq (Cw.region ?_)
      refine Rw.step rfl rfl (fun _ => op_assign_c rfl) rfl ?_
      refine Rw.nil ?_
      refine Cw.seq (Cw.region ?_)
      refine Rw.step rfl rfl (fun _ => op_move_c rfl) rfl ?_
      refine Rw.step rfl rfl (fun _ => op_eql_int rfl rfl h0) rfl ?_
      refine Rw.step rfl rfl (fun _ => op_move_c rfl) rfl ?_
      refine Rw.step rfl rfl (fun _ => op_move_c rfl) rfl ?_
      refine Rw.step rfl rfl (fun _ => op_eql_int rfl rfl h1) rfl ?_
      refine Rw.step rfl rfl (fun _ => op_pick_f rfl rfl) rfl ?_
      refine Rw.step rfl rfl (fun _ => op_move_c rfl) rfl ?_
      refine Rw.pass rfl rfl rfl ?_
      refine Rw.pass rfl rfl rfl ?_
      refine Rw.step rfl rfl (fun _ => op_pick_t rfl rfl) rfl ?_
      refine Rw.step rfl rfl (fun _ => op_move_c rfl) rfl ?_
      refine Rw.pass rfl rfl rfl ?_
      refine Rw.pass rfl rfl rfl ?_
      refine Rw.step rfl rfl (fun _ => op_pick_t rfl rfl) rfl ?_
      refine Rw.step rfl rfl (fun _ => op_assign_c rfl) rfl ?_
      refine Rw.nil ?_
      refine Cw.ret ⟨.inr rfl, _, rfl, ?_⟩
      rfl
    | false =>
      cases h2 : (n == (10 : Int)) with
      | true =>
        refine Ev.wp (fn := Tryz.f13) (nt := 17) (by rw [hP]; exact Tryz.func13) rfl rfl ?_
        refine Cw.seq (Cw.region ?_)
        refine Rw.step rfl rfl (fun _ => op_assign_c rfl) rfl ?_
        refine Rw.nil ?_
        refine Cw.seq (Cw.region ?_)
        refine Rw.step rfl rfl (fun _ => op_move_c rfl) rfl ?_
        refine Rw.step rfl rfl (fun _ => op_eql_int rfl rfl h0) rfl ?_
        refine Rw.step rfl rfl (fun _ => op_move_c rfl) rfl ?_
        refine Rw.step rfl rfl (fun _ => op_move_c rfl) rfl ?_
        refine Rw.step rfl rfl (fun _ => op_eql_int rfl rfl h1) rfl ?_
        refine Rw.step rfl rfl (fun _ => op_pick_f rfl rfl) rfl ?_
        refine Rw.step rfl rfl (fun _ => op_move_c rfl) rfl ?_
        refine Rw.step rfl rfl (fun _ => op_move_c rfl) rfl ?_
        refine Rw.step rfl rfl (fun _ => op_eql_int rfl rfl h2) rfl ?_
        refine Rw.step rfl rfl (fun _ => op_pick_f rfl rfl) rfl ?_
        refine Rw.step rfl rfl (fun _ => op_move_c rfl) rfl ?_
        refine Rw.pass rfl rfl rfl ?_
        refine Rw.pass rfl rfl rfl ?_
        refine Rw.step rfl rfl (fun _ => op_pick_t rfl rfl) rfl ?_
        refine Rw.step rfl rfl (fun _ => op_assign_c rfl) rfl ?_
        refine Rw.nil ?_
        refine Cw.ret ⟨.inr rfl, _, rfl, ?_⟩
        rfl
      | false =>
        cases h3 : (n == (13 : Int)) with
        | true =>
          refine Ev.wp (fn := Tryz.f13) (nt := 17) (by rw [hP]; exact Tryz.func13) rfl rfl ?_
          refine Cw.seq (Cw.region ?_)
          refine Rw.step rfl rfl (fun _ => op_assign_c rfl) rfl ?_
          refine Rw.nil ?_
          refine Cw.seq (Cw.region ?_)
          refine Rw.step rfl rfl (fun _ => op_move_c rfl) rfl ?_
          refine Rw.step rfl rfl (fun _ => op_eql_int rfl rfl h0) rfl ?_
          refine Rw.step rfl rfl (fun _ => op_move_c rfl) rfl ?_
          refine Rw.step rfl rfl (fun _ => op_move_c rfl) rfl ?_
          refine Rw.step rfl rfl (fun _ => op_eql_int rfl rfl h1) rfl ?_
          refine Rw.step rfl rfl (fun _ => op_pick_f rfl rfl) rfl ?_
          refine Rw.step rfl rfl (fun _ => op_move_c rfl) rfl ?_
          refine Rw.step rfl rfl (fun _ => op_move_c rfl) rfl ?_
          refine Rw.step rfl rfl (fun _ => op_eql_int rfl rfl h2) rfl ?_
          refine Rw.step rfl rfl (fun _ => op_pick_f rfl rfl) rfl ?_
          refine Rw.step rfl rfl (fun _ => op_move_c rfl) rfl ?_
          refine Rw.step rfl rfl (fun _ => op_move_c rfl) rfl ?_
          refine Rw.step rfl rfl (fun _ => op_eql_int rfl rfl h3) rfl ?_
          refine Rw.step rfl rfl (fun _ => op_pick_f rfl rfl) rfl ?_
          refine Rw.step rfl rfl (fun _ => op_assign_c rfl) rfl ?_
          refine Rw.nil ?_
          refine Cw.ret ⟨.inr rfl, _, rfl, ?_⟩
          rfl
        | false =>
          refine Ev.wp (fn := Tryz.f13) (nt := 17) (by rw [hP]; exact Tryz.func13) rfl rfl ?_
          refine Cw.seq (Cw.region ?_)
          refine Rw.step rfl rfl (fun _ => op_assign_c rfl) rfl ?_
          refine Rw.nil ?_
          refine Cw.seq (Cw.region ?_)
          refine Rw.step rfl rfl (fun _ => op_move_c rfl) rfl ?_
          refine Rw.step rfl rfl (fun _ => op_eql_int rfl rfl h0) rfl ?_
          refine Rw.step rfl rfl (fun _ => op_move_c rfl) rfl ?_
          refine Rw.step rfl rfl (fun _ => op_move_c rfl) rfl ?_
          refine Rw.step rfl rfl (fun _ => op_eql_int rfl rfl h1) rfl ?_
          refine Rw.step rfl rfl (fun _ => op_pick_f rfl rfl) rfl ?_
          refine Rw.step rfl rfl (fun _ => op_move_c rfl) rfl ?_
          refine Rw.step rfl rfl (fun _ => op_move_c rfl) rfl ?_
          refine Rw.step rfl rfl (fun _ => op_eql_int rfl rfl h2) rfl ?_
          refine Rw.step rfl rfl (fun _ => op_pick_f rfl rfl) rfl ?_
          refine Rw.step rfl rfl (fun _ => op_move_c rfl) rfl ?_
          refine Rw.step rfl rfl (fun _ => op_move_c rfl) rfl ?_
          refine Rw.step rfl rfl (fun _ => op_eql_int rfl rfl h3) rfl ?_
          refine Rw.step rfl rfl (fun _ => op_pick_f rfl rfl) rfl ?_
          refine Rw.step rfl rfl (fun _ => op_assign_c rfl) rfl ?_
          refine Rw.nil ?_
          refine Cw.ret ⟨.inr rfl, _, rfl, ?_⟩
          rfl

end Go.Vm
