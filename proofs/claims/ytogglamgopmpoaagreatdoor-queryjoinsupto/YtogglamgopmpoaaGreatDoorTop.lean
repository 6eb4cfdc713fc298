/- The last contract, and the law's answer. Printed by genj.py. -/
import Derived.Test.YtogglamgopmpoaaGreatDoorLoops
namespace Go.Vm
open Go.Proofs
open Go.RowKit (Below)

noncomputable def env8 : Env := env7.more 6 joinedH

theorem env8_ok : EnvOK env8 := by
  refine env7_ok.more ⟨Tryz.f6, Tryz.func6, by kernel_rfl⟩ fun args d h => ?_
  unfold joinedH at h
  split at h
  · rename_i f xs
    obtain ⟨hc, h⟩ := cond_ok h
    cases h
    simp only [Bool.and_eq_true, Nat.ble_eq] at hc
    obtain ⟨d, σ', hev, rfl⟩ := joined_ev (E := env7) rfl f (strsOf xs) hc.2
    rw [rows_strsOf xs hc.1] at hev
    exact hev.sums (args := [.c (.sl f xs)]) env7_ok rfl rfl
  · cases h

theorem toldL : ToldL env8 := ⟨rfl, rfl⟩

theorem all_str (out : List (List UInt8)) : (strRows out).all isStrRow = true := by
  rw [List.all_eq_true]
  intro r hr
  unfold strRows at hr
  obtain ⟨s, _, rfl⟩ := List.mem_map.1 hr
  rfl

theorem strings_same2 (f f' : Bool) (out : List (List UInt8)) (h : out.length ≤ 1048576) : stringsH [.c (.sl f (strRows out)), .c (.sl f' (strRows out))] = .ok (.c (.bool true)) := by
  have e2 : Nat.ble (strRows out).length 1048576 = true := by rw [Nat.ble_eq]; simpa [strRows] using h
  simp only [stringsH, sameRows_strs, all_str, e2, Bool.and_self, cond_true]

theorem joined_told (f : Bool) (out : List (List UInt8)) (h : bulk out ≤ 1048575) : joinedH [.c (.sl f (strRows out))] = .ok (.c (.str ⟨(joinB out).toArray⟩)) := by
  have e : Nat.ble (bulk out) 1048575 = true := by rw [Nat.ble_eq]; exact h
  simp only [joinedH, strsOf_rows, all_str, e, Bool.and_self, cond_true]

theorem bulk_filter (p : List UInt8 → Bool) : ∀ ss : List (List UInt8), bulk (ss.filter p) ≤ bulk ss
  | [] => Nat.le_refl _
  | s :: ss => by
    have := bulk_filter p ss
    rw [List.filter_cons]
    split <;> simp only [bulk] <;> omega

set_option maxHeartbeats 4000000 in
theorem law_ev (f : Bool) (ss : List (List UInt8)) (hb : bulk ss ≤ 1048575) : ∃ d σ', Ev env8 3 [.c (.sl f (strRows ss))] St.empty d σ' ∧ d = .c (.bool true) := by
  have hP : env8.P = Tryz.prog := rfl
  have hu9 := t9 hP
  have hu22 := t22 hP
  obtain ⟨it, hit, hits, _, hz⟩ := info9 hP
  have hbi : bulk (ss.filter goodB) ≤ 1048575 := Nat.le_trans (bulk_filter goodB ss) hb
  have hj := joined_split (ss.filter goodB) (fun x hx => goodB_good x (List.mem_filter.1 hx).2)
  have hjl := joinB_length (ss.filter goodB)
  have hjoin := fun g => joined_told g (ss.filter goodB) hbi
  have hn := bulk_len (ss.filter goodB)
  have hcall : splitH [.c (.str ⟨(joinB (ss.filter goodB)).toArray⟩)] = .ok (.tup [.c (.sl false (strRows (ss.filter goodB))), .c (.str ⟨([] : List UInt8).toArray⟩)]) := by
    simp only [splitH]
    rw [if_pos (by rw [bsize]; omega), hj]
  have hstr := fun g => strings_same2 false g (ss.filter goodB) (by omega)
  have heq : (ByteArray.toList ⟨([] : List UInt8).toArray⟩ == ByteArray.toList ⟨#[]⟩) = true := by rw [nil_eq]; rfl
  refine Ev.wp (E := env8) (fn := Tryz.f3) (nt := 90) Tryz.func3 rfl rfl ?_
  refine Cw.seq ?_
  refine Cw.region ?_
  refine Rw.step rfl rfl (fun _ => op_assign_c rfl) rfl ?_
  refine Rw.nil ?_
  refine Cw.seq ?_
  refine Cw.region ?_
  refine Rw.step rfl rfl (fun _ => op_build0 hu22 hit (by rw [hits]; rfl) hz (by rw [hits]; rfl)) rfl ?_
  refine Rw.step rfl rfl (fun _ => op_assign_c rfl) rfl ?_
  refine Rw.nil ?_
  refine Cw.seq ?_
  refine Cw.seq ?_
  refine Cw.region ?_
  refine Rw.step rfl rfl (fun _ => op_assign_c rfl) rfl ?_
  refine Rw.nil ?_
  refine Cw.block ?_
  refine (loopI_wp toldL f ss hb ss.length 0 [] _ _ (by omega) (Nat.le_refl _) rfl rfl (.inl ⟨rfl, rfl⟩)).mono ?_
  rintro o g σ ⟨rfl, hout⟩
  rw [List.drop_zero, List.nil_append] at hout
  generalize ss.filter goodB = ins at hbi hj hjl hjoin hn hcall hstr hout
  rcases hout with ⟨rfl, h3⟩ | ⟨tk, h3, htok⟩
  · rw [pin h3]
    refine Cw.seq ?_
    refine Cw.region ?_
    refine Rw.step rfl rfl (fun _ => op_move_c rfl) rfl ?_
    refine Rw.step rfl rfl (fun _ => op_call rfl rfl (h := joinedH) rfl rfl (hjoin true)) rfl ?_
    refine Rw.step rfl rfl (fun _ => op_call rfl rfl (h := splitH) rfl rfl hcall) rfl ?_
    refine Rw.step rfl rfl (fun _ => op_move rfl) rfl ?_
    refine Rw.step rfl rfl (fun _ => op_extract rfl rfl) rfl ?_
    refine Rw.step rfl rfl (fun _ => op_extract rfl rfl) rfl ?_
    refine Rw.step rfl rfl (fun _ => op_assign_c rfl) rfl ?_
    refine Rw.step rfl rfl (fun _ => op_assign_c rfl) rfl ?_
    refine Rw.nil ?_
    refine Cw.seq ?_
    refine Cw.region ?_
    refine Rw.step rfl rfl (fun _ => op_move_c rfl) rfl ?_
    refine Rw.step rfl rfl (fun _ => op_move_c rfl) rfl ?_
    refine Rw.step rfl rfl (fun _ => op_call rfl rfl (h := stringsH) rfl rfl (hstr true)) rfl ?_
    refine Rw.step rfl rfl (fun _ => op_move_c rfl) rfl ?_
    refine Rw.step rfl rfl (fun _ => op_move_c rfl) rfl ?_
    refine Rw.step rfl rfl (fun _ => op_eql_str rfl rfl heq) rfl ?_
    refine Rw.step rfl rfl (fun _ => op_pick_t rfl rfl) rfl ?_
    refine Rw.step rfl rfl (fun _ => op_move_c rfl) rfl ?_
    refine Rw.step rfl rfl (fun _ => op_call rfl rfl (h := awakeH) rfl rfl rfl) rfl ?_
    refine Rw.step rfl rfl (fun _ => op_pick_t rfl rfl) rfl ?_
    refine Rw.step rfl rfl (fun _ => op_assign_c rfl) rfl ?_
    refine Rw.nil ?_
    refine Cw.ret ?_
    exact ⟨.inr rfl, _, rfl, rfl⟩
  · rw [pin h3]
    refine Cw.seq ?_
    refine Cw.region ?_
    refine Rw.step rfl rfl (fun _ => op_move_own rfl) rfl ?_
    refine Rw.step rfl rfl (fun _ => op_call rfl rfl (h := joinedH) rfl rfl (hjoin false)) rfl ?_
    refine Rw.step rfl rfl (fun _ => op_call rfl rfl (h := splitH) rfl rfl hcall) rfl ?_
    refine Rw.step rfl rfl (fun _ => op_move rfl) rfl ?_
    refine Rw.step rfl rfl (fun _ => op_extract rfl rfl) rfl ?_
    refine Rw.step rfl rfl (fun _ => op_extract rfl rfl) rfl ?_
    refine Rw.step rfl rfl (fun _ => op_assign_c rfl) rfl ?_
    refine Rw.step rfl rfl (fun _ => op_assign_c rfl) rfl ?_
    refine Rw.nil ?_
    refine Cw.seq ?_
    refine Cw.region ?_
    refine Rw.step rfl rfl (fun _ => op_move_c rfl) rfl ?_
    refine Rw.step rfl rfl (fun _ => op_move_own rfl) rfl ?_
    refine Rw.step rfl rfl (fun _ => op_call rfl rfl (h := stringsH) rfl rfl (hstr false)) rfl ?_
    refine Rw.step rfl rfl (fun _ => op_move_c rfl) rfl ?_
    refine Rw.step rfl rfl (fun _ => op_move_c rfl) rfl ?_
    refine Rw.step rfl rfl (fun _ => op_eql_str rfl rfl heq) rfl ?_
    refine Rw.step rfl rfl (fun _ => op_pick_t rfl rfl) rfl ?_
    refine Rw.step rfl rfl (fun _ => op_move_c rfl) rfl ?_
    refine Rw.step rfl rfl (fun _ => op_call rfl rfl (h := awakeH) rfl rfl rfl) rfl ?_
    refine Rw.step rfl rfl (fun _ => op_pick_t rfl rfl) rfl ?_
    refine Rw.step rfl rfl (fun _ => op_assign_c rfl) rfl ?_
    refine Rw.nil ?_
    refine Cw.ret ?_
    exact ⟨.inr rfl, _, rfl, rfl⟩

theorem law_sums (f : Bool) (ss : List (List UInt8)) (hb : bulk ss ≤ 1048575) : Sums env8 3 [.c (.sl f (strRows ss))] (.c (.bool true)) := by
  obtain ⟨d, σ', hev, rfl⟩ := law_ev f ss hb
  exact hev.sums (args := [.c (.sl f (strRows ss))]) env8_ok rfl rfl

/-- The law's call: true, and what lay there lies as it did. -/
theorem law_calls (ss : List (List UInt8)) (hb : bulk ss ≤ 1048575) {w : World} {v : Value} (hv : CRep (Alive w) w (.sl false (strRows ss)) v) (hlo : 7 ≤ w.heap.size) (hF : ∃ m, w.cell? ⟨6, 0, none⟩ = some (.int .i64 m))
    (hglob : ∀ q c, globs q = some c → CRep (Alive w) w (.rp [[c]] 0 0) (.pointer (some ⟨q, 0, none⟩))) :
    Calls Tryz.prog 3 #[v] w fun e w' => e = .returned (.bool true) ∧ Below w.heap.size w w' := by
  refine ((law_sums false ss hb).calls (w := w) (vs := [v]) hlo hF hglob ?_).mono ?_
  · simp only [DReps, DRep]
    exact ⟨_, _, rfl, hv, rfl⟩
  · rintro e w' ⟨v, g', rfl, hb, hd⟩
    simp only [DRep] at hd
    cases hd
    exact ⟨rfl, hb⟩

end Go.Vm
