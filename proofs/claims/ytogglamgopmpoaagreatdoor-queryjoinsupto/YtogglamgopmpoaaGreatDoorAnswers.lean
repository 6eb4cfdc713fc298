/- What the two Splits answer. Printed by gena.py. -/
import Derived.Test.YtogglamgopmpoaaGreatDoorSplit4
import Derived.Test.YtogglamgopmpoaaGreatDoorSplit5
namespace Go.Vm
open Go.Proofs

def SplitAns (s : ByteArray) (d : D) : Prop :=
  ∃ d0, d = .tup [d0, .c (.str ⟨(splitM s.data.toList).2.toArray⟩)] ∧ ((d0 = .c (.sl true []) ∧ (splitM s.data.toList).1 = []) ∨ ∃ t, d0 = .own t (strRows (splitM s.data.toList).1))

set_option maxHeartbeats 4000000 in
theorem split4_ev {E : Env} (hE : Told E) (s : ByteArray) (hs : s.size ≤ 1048576) : ∃ d σ', Ev E 5 [.c (.str s)] St.empty d σ' ∧ SplitAns s d := by
  have hu9 := t9 hE.P
  have hu22 := t22 hE.P
  obtain ⟨it, hit, hits, _, hz⟩ := info9 hE.P
  have hlen : s.data.toList.length = s.size := by rw [Array.length_toList]; rfl
  refine Ev.wp (fn := Tryz.f5) (nt := 49) (by rw [hE.P]; exact Tryz.func5) rfl rfl ?_
  refine Cw.seq (Cw.region ?_)
  refine Rw.step rfl rfl (fun _ => op_assign_c rfl) rfl ?_
  refine Rw.step rfl rfl (fun _ => op_assign_c rfl) rfl ?_
  refine Rw.nil ?_
  refine Cw.seq (Cw.region ?_)
  refine Rw.step rfl rfl (fun _ => op_assign_c rfl) rfl ?_
  refine Rw.nil ?_
  refine Cw.seq (Cw.region ?_)
  refine Rw.step rfl rfl (fun _ => op_assign_c rfl) rfl ?_
  refine Rw.step rfl rfl (fun _ => op_assign_c rfl) rfl ?_
  refine Rw.nil ?_
  refine Cw.seq (Cw.seq (Cw.region ?_))
  refine Rw.step rfl rfl (fun _ => op_move_c rfl) rfl ?_
  refine Rw.step rfl rfl (fun _ => op_len_str rfl hu9) rfl ?_
  refine Rw.step rfl rfl (fun _ => op_move_c rfl) rfl ?_
  refine Rw.nil ?_
  refine Cw.block ?_
  refine (loop4_wp hE s hs s.size 0 0 false [] _ _ (by omega) (Nat.le_refl _) (Nat.zero_le _) rfl rfl rfl rfl rfl (.inl ⟨rfl, rfl⟩)).mono ?_
  rintro o f σ ⟨rfl, h0, h5, hout⟩
  have hbd := splitGo_bounds s.data.toList s.size 0 0 false [] (Nat.le_refl _) (Nat.zero_le _)
  have hM : splitM s.data.toList = ((splitGo s.data.toList s.size 0 0 false []).1, trimB (s.data.toList.drop (splitGo s.data.toList s.size 0 0 false []).2)) := by unfold splitM; rw [hlen]
  generalize splitGo s.data.toList s.size 0 0 false [] = p at h5 hout hbd hM
  obtain ⟨out, st⟩ := p
  simp only at h5 hout hbd hM
  have hsz : (s.extract (st : Int).toNat s.size).size ≤ 1048576 := by rw [ByteArray.size_extract]; omega
  have hdat : (s.extract (st : Int).toNat s.size).data.toList = s.data.toList.drop st := by
    rw [extract_data]; simp only [Int.toNat_natCast]; rw [← hlen, List.take_length]
  have hcall : trimH [.c (.str (s.extract (st : Int).toNat s.size)), .c (.str ⟨#[32, 9, 10, 13]⟩)] = .ok (.c (.str ⟨(trimB (s.data.toList.drop st)).toArray⟩)) := by
    rw [trim_ok _ hsz, hdat]
  rcases hout with ⟨rfl, h4⟩ | ⟨t, h4, htok⟩
  · rw [pin h0, pin h5, pin h4]
    refine Cw.seq (Cw.region ?_)
    refine Rw.step rfl rfl (fun _ => op_move_c rfl) rfl ?_
    refine Rw.step rfl rfl (fun _ => op_move_c rfl) rfl ?_
    refine Rw.step rfl rfl (fun _ => op_move_c rfl) rfl ?_
    refine Rw.step rfl rfl (fun _ => op_slice_lo rfl rfl hu9 (Int.natCast_nonneg _) (by omega)) rfl ?_
    refine Rw.step rfl rfl (fun _ => op_call rfl rfl hE.trim rfl hcall) rfl ?_
    refine Rw.step rfl rfl (fun _ => op_assign_c rfl) rfl ?_
    refine Rw.step rfl rfl (fun _ => op_assign_c rfl) rfl ?_
    refine Rw.nil ?_
    refine Cw.ret ⟨.inr rfl, _, rfl, _, by rw [hM]; rfl, ?_⟩
    rw [hM]
    exact .inl ⟨rfl, rfl⟩
  · rw [pin h0, pin h5, pin h4]
    refine Cw.seq (Cw.region ?_)
    refine Rw.step rfl rfl (fun _ => op_move_own rfl) rfl ?_
    refine Rw.step rfl rfl (fun _ => op_move_c rfl) rfl ?_
    refine Rw.step rfl rfl (fun _ => op_move_c rfl) rfl ?_
    refine Rw.step rfl rfl (fun _ => op_slice_lo rfl rfl hu9 (Int.natCast_nonneg _) (by omega)) rfl ?_
    refine Rw.step rfl rfl (fun _ => op_call rfl rfl hE.trim rfl hcall) rfl ?_
    refine Rw.step rfl rfl (fun _ => op_assign_own rfl) rfl ?_
    refine Rw.step rfl rfl (fun _ => op_assign_c rfl) rfl ?_
    refine Rw.nil ?_
    refine Cw.ret ⟨.inr rfl, _, rfl, _, by rw [hM]; rfl, ?_⟩
    rw [hM]
    exact .inr ⟨t, rfl⟩

set_option maxHeartbeats 4000000 in
theorem split5_ev {E : Env} (hE : Told5 E) (s : ByteArray) (hs : s.size ≤ 1048576) : ∃ d σ', Ev E 4 [.c (.str s)] St.empty d σ' ∧ SplitAns s d := by
  have hu9 := t9 hE.P
  have hu22 := t22 hE.P
  obtain ⟨it, hit, hits, _, hz⟩ := info9 hE.P
  have hlen : s.data.toList.length = s.size := by rw [Array.length_toList]; rfl
  refine Ev.wp (fn := Tryz.f4) (nt := 48) (by rw [hE.P]; exact Tryz.func4) rfl rfl ?_
  refine Cw.seq (Cw.region ?_)
  refine Rw.step rfl rfl (fun _ => op_assign_c rfl) rfl ?_
  refine Rw.step rfl rfl (fun _ => op_assign_c rfl) rfl ?_
  refine Rw.nil ?_
  refine Cw.seq (Cw.region ?_)
  refine Rw.step rfl rfl (fun _ => op_build0 hu22 hit (by rw [hits]; rfl) hz (by rw [hits]; rfl)) rfl ?_
  refine Rw.step rfl rfl (fun _ => op_assign_c rfl) rfl ?_
  refine Rw.step rfl rfl (fun _ => op_assign_c rfl) rfl ?_
  refine Rw.step rfl rfl (fun _ => op_assign_c rfl) rfl ?_
  refine Rw.nil ?_
  refine Cw.seq (Cw.seq (Cw.region ?_))
  refine Rw.step rfl rfl (fun _ => op_assign_c rfl) rfl ?_
  refine Rw.nil ?_
  refine Cw.block ?_
  refine (loop5_wp hE s hs s.size 0 0 false [] _ _ (by omega) (Nat.le_refl _) (Nat.zero_le _) rfl rfl rfl rfl (.inl ⟨rfl, rfl⟩)).mono ?_
  rintro o f σ ⟨rfl, h0, h5, hout⟩
  have hbd := splitGo_bounds s.data.toList s.size 0 0 false [] (Nat.le_refl _) (Nat.zero_le _)
  have hM : splitM s.data.toList = ((splitGo s.data.toList s.size 0 0 false []).1, trimB (s.data.toList.drop (splitGo s.data.toList s.size 0 0 false []).2)) := by unfold splitM; rw [hlen]
  generalize splitGo s.data.toList s.size 0 0 false [] = p at h5 hout hbd hM
  obtain ⟨out, st⟩ := p
  simp only at h5 hout hbd hM
  have hsz : (s.extract (st : Int).toNat s.size).size ≤ 1048576 := by rw [ByteArray.size_extract]; omega
  have hdat : (s.extract (st : Int).toNat s.size).data.toList = s.data.toList.drop st := by
    rw [extract_data]; simp only [Int.toNat_natCast]; rw [← hlen, List.take_length]
  have hcall : trimmedH [.c (.str (s.extract (st : Int).toNat s.size))] = .ok (.c (.str ⟨(trimB (s.data.toList.drop st)).toArray⟩)) := by
    rw [trimmed_ok _ hsz, hdat]
  rcases hout with ⟨rfl, h4⟩ | ⟨t, h4, htok⟩
  · rw [pin h0, pin h5, pin h4]
    refine Cw.seq (Cw.region ?_)
    refine Rw.step rfl rfl (fun _ => op_move_c rfl) rfl ?_
    refine Rw.step rfl rfl (fun _ => op_move_c rfl) rfl ?_
    refine Rw.step rfl rfl (fun _ => op_move_c rfl) rfl ?_
    refine Rw.step rfl rfl (fun _ => op_slice_lo rfl rfl hu9 (Int.natCast_nonneg _) (by omega)) rfl ?_
    refine Rw.step rfl rfl (fun _ => op_call rfl rfl hE.trimmed rfl hcall) rfl ?_
    refine Rw.step rfl rfl (fun _ => op_assign_c rfl) rfl ?_
    refine Rw.step rfl rfl (fun _ => op_assign_c rfl) rfl ?_
    refine Rw.nil ?_
    refine Cw.ret ⟨.inr rfl, _, rfl, _, by rw [hM]; rfl, ?_⟩
    rw [hM]
    exact .inl ⟨rfl, rfl⟩
  · rw [pin h0, pin h5, pin h4]
    refine Cw.seq (Cw.region ?_)
    refine Rw.step rfl rfl (fun _ => op_move_own rfl) rfl ?_
    refine Rw.step rfl rfl (fun _ => op_move_c rfl) rfl ?_
    refine Rw.step rfl rfl (fun _ => op_move_c rfl) rfl ?_
    refine Rw.step rfl rfl (fun _ => op_slice_lo rfl rfl hu9 (Int.natCast_nonneg _) (by omega)) rfl ?_
    refine Rw.step rfl rfl (fun _ => op_call rfl rfl hE.trimmed rfl hcall) rfl ?_
    refine Rw.step rfl rfl (fun _ => op_assign_own rfl) rfl ?_
    refine Rw.step rfl rfl (fun _ => op_assign_c rfl) rfl ?_
    refine Rw.nil ?_
    refine Cw.ret ⟨.inr rfl, _, rfl, _, by rw [hM]; rfl, ?_⟩
    rw [hM]
    exact .inr ⟨t, rfl⟩

end Go.Vm
