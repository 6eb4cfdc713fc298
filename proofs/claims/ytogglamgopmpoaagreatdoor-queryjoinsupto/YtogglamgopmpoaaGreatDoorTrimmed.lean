/- vellumref25.trimmed: its two loops. -/
import Derived.Test.YtogglamgopmpoaaGreatDoorPlain
namespace Go.Vm
open Go.Proofs

def inCut (b : UInt8) : Bool := cutset.contains b
def dropR (l : List UInt8) : List UInt8 := (l.reverse.dropWhile inCut).reverse

theorem dropR_cons (x : UInt8) (l : List UInt8) : dropR (x :: l) = if dropR l = [] then (if inCut x = true then [] else [x]) else x :: dropR l := by
  simp only [dropR, List.reverse_cons, List.dropWhile_append, List.reverse_eq_nil_iff, List.isEmpty_iff]
  by_cases h : l.reverse.dropWhile inCut = []
  · rw [if_pos h, if_pos h]
    by_cases hx : inCut x = true
    · rw [if_pos hx]; simp [List.dropWhile, hx]
    · rw [if_neg hx]; simp [List.dropWhile, hx]
  · rw [if_neg h, if_neg h]; simp

theorem drops_swap : ∀ (l : List UInt8), dropR (l.dropWhile inCut) = (dropR l).dropWhile inCut
  | [] => rfl
  | x :: l => by
    rw [dropR_cons]
    by_cases hx : inCut x = true
    · rw [List.dropWhile_cons_of_pos hx, drops_swap l]
      by_cases h : dropR l = []
      · rw [if_pos h, if_pos hx, h]
      · rw [if_neg h, List.dropWhile_cons_of_pos hx]
    · rw [List.dropWhile_cons_of_neg hx, dropR_cons]
      by_cases h : dropR l = []
      · rw [if_pos h, if_neg hx, List.dropWhile_cons_of_neg hx]
      · rw [if_neg h, List.dropWhile_cons_of_neg hx]

theorem trim_eq (l : List UInt8) : dropR (l.dropWhile inCut) = trimB l := drops_swap l

def blankH : List D → R D
  | [.c (.int .u8 n)] => .ok (.c (.bool (n == 32 || n == 9 || n == 10 || n == 13)))
  | _ => .er 910

theorem blank_cut (b : UInt8) : (((b.toNat : Int) == 32) || ((b.toNat : Int) == 9) || ((b.toNat : Int) == 10) || ((b.toNat : Int) == 13)) = inCut b := by
  have key : ∀ k : UInt8, ((b.toNat : Int) == (k.toNat : Int)) = (b == k) := by
    intro k
    by_cases h : b = k
    · subst h; simp
    · have : ¬ b.toNat = k.toNat := fun h9 => h (UInt8.toNat_inj.1 h9)
      rw [beq_eq_false_iff_ne.2 h, beq_eq_false_iff_ne.2 (by omega)]
  have h1 := key 32; have h2 := key 9; have h3 := key 10; have h4 := key 13
  simp only [show ((32 : UInt8).toNat : Int) = 32 from rfl, show ((9 : UInt8).toNat : Int) = 9 from rfl, show ((10 : UInt8).toNat : Int) = 10 from rfl, show ((13 : UInt8).toNat : Int) = 13 from rfl] at h1 h2 h3 h4
  rw [h1, h2, h3, h4]
  simp only [inCut, cutset, List.contains_cons, List.contains_nil, Bool.or_false, Bool.or_assoc]

def trimmedH : List D → R D
  | [.c (.str s)] => if s.size ≤ 1048576 then .ok (.c (.str ⟨(trimB s.data.toList).toArray⟩)) else .er 911
  | _ => .er 912

theorem trimmed_ok (x : ByteArray) (h : x.size ≤ 1048576) : trimmedH [.c (.str x)] = .ok (.c (.str ⟨(trimB x.data.toList).toArray⟩)) := by
  simp only [trimmedH, if_pos h]

structure Told9 (E : Env) : Prop where
  P : E.P = Tryz.prog
  blank : E.sum 13 = some blankH

structure Told5 (E : Env) : Prop where
  P : E.P = Tryz.prog
  trimmed : E.sum 9 = some trimmedH

noncomputable def loopA : Code := cl (cl (cr (bodyOf Tryz.f9)))
noncomputable def loopB : Code := cl (cl (cr (cr (bodyOf Tryz.f9))))

def Bs (l : List UInt8) : ByteArray := ⟨l.toArray⟩
theorem Bs_size (l : List UInt8) : (Bs l).size = l.length := by simp [Bs, ByteArray.size]
theorem Bs_data (l : List UInt8) : (Bs l).data.toList = l := by simp [Bs]

set_option maxHeartbeats 4000000 in
theorem loopA_wp {E : Env} (hE : Told9 E) : ∀ (l : List UInt8) (fr : Nat → D) (σ : St), l.length ≤ 1048576 → fr 0 = .c (.str (Bs l)) →
    Cw E loopA 30 fr σ (fun o f _ => o = some (some 0) ∧ f 0 = .c (.str (Bs (l.dropWhile inCut)))) := by
  have hu9 := t9 hE.P
  intro l
  induction l with
  | nil =>
    intro fr σ _ h0
    have hlen : decide (((Bs []).size : Int) > 0) = false := by decide
    rw [pin h0]
    refine Cw.loop ?_
    refine Cw.seq (Cw.seq (Cw.region ?_))
    refine Rw.step rfl rfl (fun _ => op_move_c rfl) rfl ?_
    refine Rw.step rfl rfl (fun _ => op_len_str rfl hu9) rfl ?_
    refine Rw.step rfl rfl (fun _ => op_gtr_int rfl rfl hlen) rfl ?_
    refine Rw.step rfl rfl (fun _ => op_move_c rfl) rfl ?_
    refine Rw.pass rfl rfl rfl ?_
    refine Rw.pass rfl rfl rfl ?_
    refine Rw.pass rfl rfl rfl ?_
    refine Rw.step rfl rfl (fun _ => op_pick_f rfl rfl) rfl ?_
    refine Rw.nil ?_
    refine Cw.cond_f rfl (Cw.exit ?_)
    exact ⟨rfl, rfl⟩
  | cons b l ih =>
    intro fr σ hl h0
    have hlen : decide (((Bs (b :: l)).size : Int) > 0) = true := by rw [decide_eq_true_eq, Bs_size, List.length_cons]; omega
    have hget : (Bs (b :: l))[((0 : Int)).toNat]? = some b := by
      have := get_data (Bs (b :: l)) 0 (by rw [Bs_size]; simp)
      rw [Bs_data] at this
      exact this
    have hcall : blankH [.c (.int .u8 (b.toNat : Int))] = .ok (.c (.bool (inCut b))) := by simp only [blankH]; rw [blank_cut]
    cases hb : inCut b with
    | false =>
      rw [hb] at hcall
      rw [List.dropWhile_cons_of_neg (by rw [hb]; decide)]
      rw [pin h0]
      refine Cw.loop ?_
      refine Cw.seq (Cw.seq (Cw.region ?_))
      refine Rw.step rfl rfl (fun _ => op_move_c rfl) rfl ?_
      refine Rw.step rfl rfl (fun _ => op_len_str rfl hu9) rfl ?_
      refine Rw.step rfl rfl (fun _ => op_gtr_int rfl rfl hlen) rfl ?_
      refine Rw.step rfl rfl (fun _ => op_move_c rfl) rfl ?_
      refine Rw.step rfl rfl (fun _ => op_move_c rfl) rfl ?_
      refine Rw.step rfl rfl (fun _ => op_index_str rfl rfl hu9 (Int.le_refl 0) hget) rfl ?_
      refine Rw.step rfl rfl (fun _ => op_call rfl rfl hE.blank rfl hcall) rfl ?_
      refine Rw.step rfl rfl (fun _ => op_pick_t rfl rfl) rfl ?_
      refine Rw.nil ?_
      refine Cw.cond_f rfl (Cw.exit ?_)
      exact ⟨rfl, rfl⟩
    | true =>
      rw [hb] at hcall
      rw [List.dropWhile_cons_of_pos hb]
      rw [pin h0]
      refine Cw.loop ?_
      refine Cw.seq (Cw.seq (Cw.region ?_))
      refine Rw.step rfl rfl (fun _ => op_move_c rfl) rfl ?_
      refine Rw.step rfl rfl (fun _ => op_len_str rfl hu9) rfl ?_
      refine Rw.step rfl rfl (fun _ => op_gtr_int rfl rfl hlen) rfl ?_
      refine Rw.step rfl rfl (fun _ => op_move_c rfl) rfl ?_
      refine Rw.step rfl rfl (fun _ => op_move_c rfl) rfl ?_
      refine Rw.step rfl rfl (fun _ => op_index_str rfl rfl hu9 (Int.le_refl 0) hget) rfl ?_
      refine Rw.step rfl rfl (fun _ => op_call rfl rfl hE.blank rfl hcall) rfl ?_
      refine Rw.step rfl rfl (fun _ => op_pick_t rfl rfl) rfl ?_
      refine Rw.nil ?_
      refine Cw.cond_t rfl (Cw.skip ?_)
      refine Cw.block (Cw.region ?_)
      refine Rw.step rfl rfl (fun _ => op_move_c rfl) rfl ?_
      refine Rw.step rfl rfl (fun _ => op_slice_lo rfl rfl hu9 (by decide) (by rw [Bs_size, List.length_cons]; omega)) rfl ?_
      refine Rw.step rfl rfl (fun _ => op_assign_c rfl) rfl ?_
      refine Rw.nil ?_
      refine ih _ _ (by simp only [List.length_cons] at hl; omega) ?_
      show D.c (C.str ((Bs (b :: l)).extract (1 : Int).toNat (Bs (b :: l)).size)) = _
      rw [extract_data, Bs_size, Bs_data, List.take_length]
      rfl

set_option maxHeartbeats 4000000 in
theorem loopB_wp {E : Env} (hE : Told9 E) : ∀ (r : List UInt8) (fr : Nat → D) (σ : St), r.length ≤ 1048576 → fr 0 = .c (.str (Bs r.reverse)) →
    Cw E loopB 30 fr σ (fun o f _ => o = some (some 2) ∧ f 0 = .c (.str (Bs (r.dropWhile inCut).reverse))) := by
  have hu9 := t9 hE.P
  intro r
  induction r with
  | nil =>
    intro fr σ _ h0
    have hlen : decide (((Bs ([] : List UInt8).reverse).size : Int) > 0) = false := by decide
    rw [pin h0]
    refine Cw.loop ?_
    refine Cw.seq (Cw.seq (Cw.region ?_))
    refine Rw.step rfl rfl (fun _ => op_move_c rfl) rfl ?_
    refine Rw.step rfl rfl (fun _ => op_len_str rfl hu9) rfl ?_
    refine Rw.step rfl rfl (fun _ => op_gtr_int rfl rfl hlen) rfl ?_
    refine Rw.step rfl rfl (fun _ => op_move_c rfl) rfl ?_
    refine Rw.pass rfl rfl rfl ?_
    refine Rw.pass rfl rfl rfl ?_
    refine Rw.pass rfl rfl rfl ?_
    refine Rw.pass rfl rfl rfl ?_
    refine Rw.pass rfl rfl rfl ?_
    refine Rw.pass rfl rfl rfl ?_
    refine Rw.step rfl rfl (fun _ => op_pick_f rfl rfl) rfl ?_
    refine Rw.nil ?_
    refine Cw.cond_f rfl (Cw.exit ?_)
    exact ⟨rfl, rfl⟩
  | cons b r ih =>
    intro fr σ hl h0
    have hsz : ((Bs (b :: r).reverse).size : Int) = (r.length : Int) + 1 := by rw [Bs_size]; simp
    have hlen : decide (((Bs (b :: r).reverse).size : Int) > 0) = true := by rw [decide_eq_true_eq, hsz]; omega
    have hsub : IntKind.i64.wrap (((Bs (b :: r).reverse).size : Int) - 1) = (r.length : Int) := by
      rw [hsz]
      simp only [List.length_cons] at hl
      simp only [IntKind.wrap, IntKind.signed, IntKind.bits]; simp; omega
    have hget : (Bs (b :: r).reverse)[((r.length : Int)).toNat]? = some b := by
      rw [Int.toNat_natCast]
      have := get_data (Bs (b :: r).reverse) r.length (by rw [Bs_size]; simp)
      rw [Bs_data] at this
      rw [this, List.reverse_cons, List.getD, List.getElem?_append_right (by simp)]
      simp
    have hcall : blankH [.c (.int .u8 (b.toNat : Int))] = .ok (.c (.bool (inCut b))) := by simp only [blankH]; rw [blank_cut]
    cases hb : inCut b with
    | false =>
      rw [hb] at hcall
      rw [List.dropWhile_cons_of_neg (by rw [hb]; decide)]
      rw [pin h0]
      refine Cw.loop ?_
      refine Cw.seq (Cw.seq (Cw.region ?_))
      refine Rw.step rfl rfl (fun _ => op_move_c rfl) rfl ?_
      refine Rw.step rfl rfl (fun _ => op_len_str rfl hu9) rfl ?_
      refine Rw.step rfl rfl (fun _ => op_gtr_int rfl rfl hlen) rfl ?_
      refine Rw.step rfl rfl (fun _ => op_move_c rfl) rfl ?_
      refine Rw.step rfl rfl (fun _ => op_move_c rfl) rfl ?_
      refine Rw.step rfl rfl (fun _ => op_move_c rfl) rfl ?_
      refine Rw.step rfl rfl (fun _ => op_len_str rfl hu9) rfl ?_
      refine Rw.step rfl rfl (fun _ => op_sub_int rfl rfl hsub) rfl ?_
      refine Rw.step rfl rfl (fun _ => op_index_str rfl rfl hu9 (Int.natCast_nonneg _) hget) rfl ?_
      refine Rw.step rfl rfl (fun _ => op_call rfl rfl hE.blank rfl hcall) rfl ?_
      refine Rw.step rfl rfl (fun _ => op_pick_t rfl rfl) rfl ?_
      refine Rw.nil ?_
      refine Cw.cond_f rfl (Cw.exit ?_)
      exact ⟨rfl, rfl⟩
    | true =>
      rw [hb] at hcall
      rw [List.dropWhile_cons_of_pos hb]
      rw [pin h0]
      refine Cw.loop ?_
      refine Cw.seq (Cw.seq (Cw.region ?_))
      refine Rw.step rfl rfl (fun _ => op_move_c rfl) rfl ?_
      refine Rw.step rfl rfl (fun _ => op_len_str rfl hu9) rfl ?_
      refine Rw.step rfl rfl (fun _ => op_gtr_int rfl rfl hlen) rfl ?_
      refine Rw.step rfl rfl (fun _ => op_move_c rfl) rfl ?_
      refine Rw.step rfl rfl (fun _ => op_move_c rfl) rfl ?_
      refine Rw.step rfl rfl (fun _ => op_move_c rfl) rfl ?_
      refine Rw.step rfl rfl (fun _ => op_len_str rfl hu9) rfl ?_
      refine Rw.step rfl rfl (fun _ => op_sub_int rfl rfl hsub) rfl ?_
      refine Rw.step rfl rfl (fun _ => op_index_str rfl rfl hu9 (Int.natCast_nonneg _) hget) rfl ?_
      refine Rw.step rfl rfl (fun _ => op_call rfl rfl hE.blank rfl hcall) rfl ?_
      refine Rw.step rfl rfl (fun _ => op_pick_t rfl rfl) rfl ?_
      refine Rw.nil ?_
      refine Cw.cond_t rfl (Cw.skip ?_)
      refine Cw.block (Cw.region ?_)
      refine Rw.step rfl rfl (fun _ => op_move_c rfl) rfl ?_
      refine Rw.step rfl rfl (fun _ => op_move_c rfl) rfl ?_
      refine Rw.step rfl rfl (fun _ => op_len_str rfl hu9) rfl ?_
      refine Rw.step rfl rfl (fun _ => op_sub_int rfl rfl hsub) rfl ?_
      refine Rw.step rfl rfl (fun _ => op_slice_hi rfl rfl hu9 (Int.natCast_nonneg _) (by omega)) rfl ?_
      refine Rw.step rfl rfl (fun _ => op_assign_c rfl) rfl ?_
      refine Rw.nil ?_
      refine ih _ _ (by simp only [List.length_cons] at hl; omega) ?_
      show D.c (C.str ((Bs (b :: r).reverse).extract 0 ((r.length : Int)).toNat)) = _
      rw [extract_data, Int.toNat_natCast, Bs_data, List.reverse_cons, List.take_left' (by simp), List.drop_zero]
      rfl

theorem trimmed_ev {E : Env} (hE : Told9 E) (s : ByteArray) (hs : s.size ≤ 1048576) : ∃ d σ', Ev E 9 [.c (.str s)] St.empty d σ' ∧ d = .c (.str ⟨(trimB s.data.toList).toArray⟩) := by
  have hBs : s = Bs s.data.toList := by cases s; rfl
  refine Ev.wp (fn := Tryz.f9) (nt := 30) (by rw [hE.P]; exact Tryz.func9) rfl rfl ?_
  refine Cw.seq (Cw.region ?_)
  refine Rw.step rfl rfl (fun _ => op_assign_c rfl) rfl ?_
  refine Rw.nil ?_
  refine Cw.seq (Cw.block ?_)
  refine (loopA_wp hE s.data.toList _ _ (by rw [Array.length_toList]; exact hs) (by rw [← hBs]; rfl)).mono ?_
  rintro o f σ ⟨rfl, h0⟩
  refine Cw.seq (Cw.block ?_)
  have hlen : (s.data.toList.dropWhile inCut).reverse.length ≤ 1048576 := by
    have := (List.dropWhile_sublist inCut (l := s.data.toList)).length_le
    have h9 : s.data.toList.length = s.size := by rw [Array.length_toList]; rfl
    rw [List.length_reverse]; omega
  refine (loopB_wp hE (s.data.toList.dropWhile inCut).reverse _ _ hlen (by rw [List.reverse_reverse]; exact h0)).mono ?_
  rintro o f σ ⟨rfl, h0⟩
  rw [pin h0]
  refine Cw.seq (Cw.region ?_)
  refine Rw.step rfl rfl (fun _ => op_move_c rfl) rfl ?_
  refine Rw.step rfl rfl (fun _ => op_assign_c rfl) rfl ?_
  refine Rw.nil ?_
  refine Cw.ret ⟨.inr rfl, _, rfl, ?_⟩
  show D.c (C.str (Bs (dropR (s.data.toList.dropWhile inCut)))) = _
  rw [trim_eq]
  rfl

end Go.Vm
