/- What the interpreter says of an operation without effect, the machine does. -/
import Derived.Test.YtogglamgopmpoaaGreatDoorVmBase
namespace Go.Vm
open Go.RowKit (Below)

section
variable {E : Env} {g : Ghost} {w : World} {e : Operand → Option D} {ρ : Operand → Value}

theorem rep_bool {b : Bool} {v : Value} (h : DRep g w (.c (.bool b)) v) : v = .bool b := by
  simp only [DRep] at h; cases h; rfl
theorem rep_int {k : IntKind} {n : Int} {v : Value} (h : DRep g w (.c (.int k n)) v) : v = .int k n := by
  simp only [DRep] at h; cases h; rfl
theorem rep_str {s : ByteArray} {v : Value} (h : DRep g w (.c (.str s)) v) : v = .string s := by
  simp only [DRep] at h; cases h; rfl
theorem rep_nilp {v : Value} (h : DRep g w (.c .nilp) v) : v = .pointer none := by
  simp only [DRep] at h; cases h; rfl
theorem rep_nili {v : Value} (h : DRep g w (.c .nili) v) : v = .nilIface := by
  simp only [DRep] at h; cases h; rfl
theorem rep_nilf {v : Value} (h : DRep g w (.c .nilf) v) : v = .nilFunc := by
  simp only [DRep] at h; cases h; rfl
theorem rep_ptr {b off : Nat} {v : Value} (h : DRep g w (.ptr b off) v) : ∃ k, g.β b = some k ∧ v = .pointer (some ⟨k, off, none⟩) := by
  simpa only [DRep] using h
theorem rep_rp {xs : List (List C)} {i off : Nat} {v : Value} (h : DRep g w (.c (.rp xs i off)) v) : ∃ a, v = .pointer (some a) := by
  simp only [DRep] at h; cases h; exact ⟨_, rfl⟩
theorem rep_fn {f : Nat} {a b : List D} {v : Value} (h : DRep g w (.fn f a b) v) : ∃ fs cs, v = .func (.func f) ⟨fs⟩ ⟨cs⟩ ∧ DReps g w a fs ∧ DReps g w b cs := by
  simpa only [DRep] using h
theorem rep_agg {ds : List D} {v : Value} (h : DRep g w (.agg ds) v) : ds.all cellLike = true ∧ ∃ vs, v = .agg ⟨vs⟩ ∧ DReps g w ds vs := by
  simpa only [DRep] using h
theorem rep_tup {ds : List D} {v : Value} (h : DRep g w (.tup ds) v) : ∃ vs, v = .tuple ⟨vs⟩ ∧ DReps g w ds vs := by
  simpa only [DRep] using h
theorem mk_bool (b : Bool) : DRep g w (.c (.bool b)) (.bool b) := by simp only [DRep]; exact .bool b
theorem mk_int (k : IntKind) (n : Int) : DRep g w (.c (.int k n)) (.int k n) := by simp only [DRep]; exact .int k n
theorem mk_str (s : ByteArray) : DRep g w (.c (.str s)) (.string s) := by simp only [DRep]; exact .str s

theorem rep_rows {d : D} {xs : List (List C)} {v : Value} (h : DRep g w d v) (hr : rowsOf d = some xs) : CRep g.S w (.sl false xs) v := by
  cases d with
  | c c =>
    cases c with
    | sl f ys => simp only [rowsOf, Option.some.injEq] at hr; subst hr; simp only [DRep] at h; exact h.unfull
    | _ => cases hr
  | own t ys => simp only [rowsOf, Option.some.injEq] at hr; subst hr; simp only [DRep] at h; exact h.1
  | _ => cases hr

theorem rows_len {f : Bool} {xs : List (List C)} {v : Value} {S : Nat → Nat → Prop} (h : CRep S w (.sl f xs) v) : ∃ p cap, v = .slice p xs.length cap ∧ xs.length ≤ cap := by
  cases h with
  | slNone f p cap h => exact ⟨p, cap, rfl, Nat.zero_le _⟩
  | sl f xs b o k cap u hc hf hk hcell hrec => exact ⟨_, cap, rfl, hc⟩

theorem run_binOp_int {P : Program} (op : BinOp) (t : TypeId) (k : IntKind) (a b : Int) (d : D) (h : int2 op k a b = .ok d) :
    ∃ v, (∀ w, (binOp op t (.int k a) (.int k b)).run P w = .ok v w) ∧ ∀ g w, DRep g w d v := by
  cases op <;> simp only [int2] at h <;> try (cases h; done)
  case add => cases h; exact ⟨_, fun w => by simp [binOp, Op.intArith], fun g w => mk_int _ _⟩
  case sub => cases h; exact ⟨_, fun w => by simp [binOp, Op.intArith], fun g w => mk_int _ _⟩
  case mul => cases h; exact ⟨_, fun w => by simp [binOp, Op.intArith], fun g w => mk_int _ _⟩
  case quo =>
    obtain ⟨hb, h⟩ := ite_ok' h
    cases h
    exact ⟨_, fun w => by simp [binOp, Op.intDiv, hb], fun g w => mk_int _ _⟩
  case rem =>
    obtain ⟨hb, h⟩ := ite_ok' h
    cases h
    exact ⟨_, fun w => by simp [binOp, Op.intDiv, hb], fun g w => mk_int _ _⟩
  case eql => cases h; exact ⟨_, fun w => by simp [binOp, Op.intCmp], fun g w => mk_bool _⟩
  case neq => cases h; exact ⟨_, fun w => by simp [binOp, Op.intCmp], fun g w => mk_bool _⟩
  case lss => cases h; exact ⟨_, fun w => by simp only [binOp, ne_eq, not_true_eq_false, if_false, Op.intCmp, Sem.run_pure], fun g w => mk_bool _⟩
  case leq => cases h; exact ⟨_, fun w => by simp only [binOp, ne_eq, not_true_eq_false, if_false, Op.intCmp, Sem.run_pure], fun g w => mk_bool _⟩
  case gtr => cases h; exact ⟨_, fun w => by simp only [binOp, ne_eq, not_true_eq_false, if_false, Op.intCmp, Sem.run_pure], fun g w => mk_bool _⟩
  case geq => cases h; exact ⟨_, fun w => by simp only [binOp, ne_eq, not_true_eq_false, if_false, Op.intCmp, Sem.run_pure], fun g w => mk_bool _⟩
  case and => cases h; exact ⟨_, fun w => by simp only [binOp, ne_eq, not_true_eq_false, if_false, Op.intBits, Sem.run_pure], fun g w => mk_int _ _⟩
  case or => cases h; exact ⟨_, fun w => by simp only [binOp, ne_eq, not_true_eq_false, if_false, Op.intBits, Sem.run_pure], fun g w => mk_int _ _⟩
  case xor => cases h; exact ⟨_, fun w => by simp only [binOp, ne_eq, not_true_eq_false, if_false, Op.intBits, Sem.run_pure], fun g w => mk_int _ _⟩
  case andNot => cases h; exact ⟨_, fun w => by simp only [binOp, ne_eq, not_true_eq_false, if_false, Op.intBits, Sem.run_pure], fun g w => mk_int _ _⟩

theorem run_binOp_shift {P : Program} (op : BinOp) (t : TypeId) (k k' : IntKind) (a b : Int) (d : D) (h : shift2 op k a b = .ok d) :
    ∃ v, (∀ w, (binOp op t (.int k a) (.int k' b)).run P w = .ok v w) ∧ ∀ g w, DRep g w d v := by
  obtain ⟨hb, h⟩ := ite_ok' h
  cases op <;> simp only at h <;> try (cases h; done)
  case shl => cases h; exact ⟨_, fun w => by simp only [binOp, Op.shift, if_neg hb, Sem.run_pure], fun g w => mk_int _ _⟩
  case shr => cases h; exact ⟨_, fun w => by simp only [binOp, Op.shift, if_neg hb, Sem.run_pure], fun g w => mk_int _ _⟩

theorem run_binOp_str {P : Program} (op : BinOp) (t : TypeId) (a b : ByteArray) (d : D) (h : str2 op a b = .ok d) :
    ∃ v, (∀ w, (binOp op t (.string a) (.string b)).run P w = .ok v w) ∧ ∀ g w, DRep g w d v := by
  cases op <;> simp only [str2] at h <;> try (cases h; done)
  case add =>
    obtain ⟨hb, h⟩ := ite_ok h
    cases h
    exact ⟨_, fun w => by simp only [binOp]; exact run_string_add_sum (P := P) w a b hb, fun g w => mk_str _⟩
  case eql => cases h; exact ⟨_, fun w => by simp only [binOp, Op.stringOp, Sem.run_pure], fun g w => mk_bool _⟩
  case neq => cases h; exact ⟨_, fun w => by simp only [binOp, Op.stringOp, Sem.run_pure], fun g w => mk_bool _⟩
  case lss => cases h; exact ⟨_, fun w => by simp only [binOp, Op.stringOp, Sem.run_pure], fun g w => mk_bool _⟩

theorem run_eqGuard_plain {P : Program} {op : BinOp} {t : TypeId} {x y : Operand} {a b : Value} (w : World)
    (h1 : a ≠ .nilIface ∨ b ≠ .nilIface) (h2 : (∀ cs, a ≠ .agg cs) ∨ ∀ cs, b ≠ .agg cs) : (eqGuard op t x y a b).run P w = .ok () w := by
  unfold eqGuard
  cases op <;> first
    | (simp; done)
    | (dsimp only
       split
       · simp
       · split
         · rcases h1 with h | h <;> exact absurd rfl h
         · rcases h2 with h | h
           · exact absurd rfl (h _)
           · exact absurd rfl (h _)
         · simp)

theorem run_eqGuard_nil {P : Program} (op : BinOp) (t : TypeId) {x y : Operand} (w : World) (hc : (isConst x || isConst y) = true) :
    (eqGuard op t x y .nilIface .nilIface).run P w = .ok () w := by
  unfold eqGuard
  cases x <;> cases y <;> cases op <;> first
    | (simp [isConst] at hc; done)
    | simp

theorem equalIn_ptr1 {P : Program} {t el : TypeId} (hu : P.underlying t = some (.pointer el)) (d : Nat) (b : Option Addr) (w : World) :
    (Op.equalIn (d + 1) t (.pointer none) (.pointer b)).run P w = .ok b.isNone w := by simp [Op.equalIn, run_underlying hu]
theorem equalIn_ptr2 {P : Program} {t el : TypeId} (hu : P.underlying t = some (.pointer el)) (d : Nat) (b : Addr) (w : World) :
    (Op.equalIn (d + 1) t (.pointer (some b)) (.pointer none)).run P w = .ok false w := by simp [Op.equalIn, run_underlying hu]
theorem equalIn_nili {P : Program} {t : TypeId} {ms : Array (String × TypeId)} (hu : P.underlying t = some (.interface ms)) (d : Nat) (w : World) :
    (Op.equalIn (d + 1) t .nilIface .nilIface).run P w = .ok true w := by simp [Op.equalIn, run_underlying hu]
theorem equalIn_f1 {P : Program} {t : TypeId} {a b : Array TypeId} {c : Bool} (hu : P.underlying t = some (.func a b c)) (d : Nat) (w : World) :
    (Op.equalIn (d + 1) t .nilFunc .nilFunc).run P w = .ok true w := by simp [Op.equalIn, run_underlying hu]
theorem equalIn_f2 {P : Program} {t : TypeId} {a b : Array TypeId} {c : Bool} (hu : P.underlying t = some (.func a b c)) (d : Nat) (f : Fn) (x y : Array Value) (w : World) :
    (Op.equalIn (d + 1) t .nilFunc (.func f x y)).run P w = .ok false w := by simp [Op.equalIn, run_underlying hu]
theorem equalIn_f3 {P : Program} {t : TypeId} {a b : Array TypeId} {c : Bool} (hu : P.underlying t = some (.func a b c)) (d : Nat) (f : Fn) (x y : Array Value) (w : World) :
    (Op.equalIn (d + 1) t (.func f x y) .nilFunc).run P w = .ok false w := by simp [Op.equalIn, run_underlying hu]
theorem equalIn_b {P : Program} {t : TypeId} (hu : P.underlying t = some .bool) (d : Nat) (a b : Bool) (w : World) :
    (Op.equalIn (d + 1) t (.bool a) (.bool b)).run P w = .ok (a == b) w := by simp [Op.equalIn, run_underlying hu]

/-- Two values that '==' and '!=' hand to the comparison by types. -/
def ByEqual (a b : Value) : Prop := ∀ (t : TypeId), binOp .eql t a b = (do pure (.bool (← Op.equal t a b))) ∧ binOp .neq t a b = (do pure (.bool (!(← Op.equal t a b))))

theorem eq2_run {P : Program} {t : TypeId} {u : TypeDesc} (hu : P.underlying t = some u) {neg cst : Bool} {x y d : D} {a b : Value}
    (h : eq2 neg u cst x y = .ok d) (ha : DRep g w x a) (hb : DRep g w y b) :
    ∃ r : Bool, (∀ w, (Op.equalIn (9999 + 1) t a b).run P w = .ok r w) ∧ d = .c (.bool (bif neg then !r else r)) ∧ ((∀ cs, a ≠ .agg cs) ∨ ∀ cs, b ≠ .agg cs) ∧
      ((a ≠ .nilIface ∨ b ≠ .nilIface) ∨ cst = true ∧ a = .nilIface ∧ b = .nilIface) ∧ ByEqual a b := by
  unfold eq2 at h
  split at h
  · cases h; rw [rep_bool ha, rep_bool hb]
    exact ⟨_, fun w => equalIn_b hu _ _ _ w, rfl, .inl (by simp), .inl (.inl (by simp)), fun t => ⟨rfl, rfl⟩⟩
  · cases h; rw [rep_nilp ha, rep_nilp hb]
    exact ⟨true, fun w => equalIn_ptr1 hu _ _ w, rfl, .inl (by simp), .inl (.inl (by simp)), fun t => ⟨rfl, rfl⟩⟩
  · cases h; obtain ⟨p, rfl⟩ := rep_rp hb; rw [rep_nilp ha]
    exact ⟨false, fun w => equalIn_ptr1 hu _ _ w, rfl, .inl (by simp), .inl (.inl (by simp)), fun t => ⟨rfl, rfl⟩⟩
  · cases h; obtain ⟨k, _, rfl⟩ := rep_ptr hb; rw [rep_nilp ha]
    exact ⟨false, fun w => equalIn_ptr1 hu _ _ w, rfl, .inl (by simp), .inl (.inl (by simp)), fun t => ⟨rfl, rfl⟩⟩
  · cases h; obtain ⟨p, rfl⟩ := rep_rp ha; rw [rep_nilp hb]
    exact ⟨false, fun w => equalIn_ptr2 hu _ _ w, rfl, .inl (by simp), .inl (.inl (by simp)), fun t => ⟨rfl, rfl⟩⟩
  · cases h; obtain ⟨k, _, rfl⟩ := rep_ptr ha; rw [rep_nilp hb]
    exact ⟨false, fun w => equalIn_ptr2 hu _ _ w, rfl, .inl (by simp), .inl (.inl (by simp)), fun t => ⟨rfl, rfl⟩⟩
  · obtain ⟨hc, h⟩ := cond_ok h
    cases h; rw [rep_nili ha, rep_nili hb]
    exact ⟨true, fun w => equalIn_nili hu _ w, rfl, .inl (by simp), .inr ⟨hc, rfl, rfl⟩, fun t => ⟨rfl, rfl⟩⟩
  · cases h; rw [rep_nilf ha, rep_nilf hb]
    exact ⟨true, fun w => equalIn_f1 hu _ w, rfl, .inl (by simp), .inl (.inl (by simp)), fun t => ⟨rfl, rfl⟩⟩
  · cases h; obtain ⟨fs, cs, rfl, _⟩ := rep_fn hb; rw [rep_nilf ha]
    exact ⟨false, fun w => equalIn_f2 hu _ _ _ _ w, rfl, .inl (by simp), .inl (.inl (by simp)), fun t => ⟨rfl, rfl⟩⟩
  · cases h; obtain ⟨fs, cs, rfl, _⟩ := rep_fn ha; rw [rep_nilf hb]
    exact ⟨false, fun w => equalIn_f3 hu _ _ _ _ w, rfl, .inl (by simp), .inl (.inl (by simp)), fun t => ⟨rfl, rfl⟩⟩
  · cases h

theorem bin_run {op : BinOp} {t : TypeId} {x y : Operand} {p q d : D} {a b : Value} (h : bin E op t (isConst x || isConst y) p q = .ok d)
    (ha : DRep g w p a) (hb : DRep g w q b) :
    ∃ v, (∀ w, (do eqGuard op t x y a b; binOp op t a b : Sem Value).run E.P w = .ok v w) ∧ DRep g w d v := by
  have key : ∀ neg, ((und E t).bind fun u => eq2 neg u (isConst x || isConst y) p q) = .ok d → op = (if neg then .neq else .eql) →
      ∃ v, (∀ w, (do eqGuard op t x y a b; binOp op t a b : Sem Value).run E.P w = .ok v w) ∧ DRep g w d v := by
    intro neg h hop
    obtain ⟨u, hu, h⟩ := R.bind_ok h
    obtain ⟨r, hr, rfl, hagg, hnil, hby⟩ := eq2_run (und_ok hu) h ha hb
    refine ⟨_, fun w => ?_, mk_bool _⟩
    have hg : (eqGuard op t x y a b).run E.P w = .ok () w := by
      rcases hnil with hnil | ⟨hc, rfl, rfl⟩
      · exact run_eqGuard_plain w hnil hagg
      · exact run_eqGuard_nil op t w hc
    have h1 : (Op.equal t a b).run E.P w = .ok r w := hr w
    rw [Sem.run_bind, hg]
    simp only [Result.andThen_ok]
    subst hop
    cases neg
    · simp only [Bool.false_eq_true, if_false, cond_false]
      rw [(hby t).1, Sem.run_bind, h1]; rfl
    · simp only [if_true, cond_true]
      rw [(hby t).2, Sem.run_bind, h1]; rfl
  unfold bin at h
  split at h
  · rename_i k a' k' b'
    rw [rep_int ha, rep_int hb]
    cases hs : isShift op with
    | true =>
      rw [hs] at h
      simp only [cond_true] at h
      obtain ⟨v, hv, hd⟩ := run_binOp_shift (P := E.P) op t k k' a' b' d h
      exact ⟨v, fun w => by rw [Sem.run_bind, run_eqGuard_plain w (.inl (by simp)) (.inl (by simp))]; exact hv w, hd g w⟩
    | false =>
      rw [hs] at h
      simp only [cond_false] at h
      obtain ⟨hk, h2⟩ := ite_ok h
      subst hk
      obtain ⟨v, hv, hd⟩ := run_binOp_int (P := E.P) op t k a' b' d h2
      exact ⟨v, fun w => by rw [Sem.run_bind, run_eqGuard_plain w (.inl (by simp)) (.inl (by simp))]; exact hv w, hd g w⟩
  · rename_i a' b'
    rw [rep_str ha, rep_str hb]
    obtain ⟨v, hv, hd⟩ := run_binOp_str (P := E.P) op t a' b' d h
    exact ⟨v, fun w => by rw [Sem.run_bind, run_eqGuard_plain w (.inl (by simp)) (.inl (by simp))]; exact hv w, hd g w⟩
  · cases op <;> simp only at h <;> try (cases h; done)
    · exact key false h rfl
    · exact key true h rfl

end

end Go.Vm
