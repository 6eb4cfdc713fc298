/- Single operations, at values that are not known. -/
import Derived.Test.YtogglamgopmpoaaGreatDoorVmSym
namespace Go.Vm

section
variable {E : Env} {r : Evs} {e : Operand → Option D} {id : Nat} {σ : St}

theorem pure_ok {o : Op} {d : D} (h : opPure E e o = some (.ok d)) : evOp E r e id σ o = .ok (0, d, σ) := by simp only [evOp, h, R.bind]
theorem read_ok {o : Op} {d : D} (hp : opPure E e o = none) (h : opRead E e σ o = some (.ok d)) : evOp E r e id σ o = .ok (1, d, σ) := by simp only [evOp, hp, h, R.bind]
theorem eff_ok {o : Op} {q : Nat × D × St} (hp : opPure E e o = none) (hr : opRead E e σ o = none) (h : opEff E r e id σ o = .ok q) : evOp E r e id σ o = .ok q := by simp only [evOp, hp, hr, h]

theorem op_move {x : Operand} {d : D} (hx : e x = some d) : evOp E r e id σ (.move x) = .ok (0, d, σ) := pure_ok (by simp only [opPure, hx, ofO])
theorem op_assign {x : Operand} {d : D} (hx : e x = some d) : evOp E r e id σ (.assign x) = .ok (0, d, σ) := pure_ok (by simp only [opPure, hx, ofO])
theorem op_move_c {x : Operand} {c : C} (hx : e x = some (.c c)) : evOp E r e id σ (.move x) = .ok (0, .c c, σ) := op_move hx
theorem op_assign_c {x : Operand} {c : C} (hx : e x = some (.c c)) : evOp E r e id σ (.assign x) = .ok (0, .c c, σ) := op_assign hx
theorem op_move_own {x : Operand} {t : Nat} {xs : List (List C)} (hx : e x = some (.own t xs)) : evOp E r e id σ (.move x) = .ok (0, .own t xs, σ) := op_move hx
theorem op_assign_own {x : Operand} {t : Nat} {xs : List (List C)} (hx : e x = some (.own t xs)) : evOp E r e id σ (.assign x) = .ok (0, .own t xs, σ) := op_assign hx

theorem op_pick_t {c x y : Operand} {d : C} (hc : e c = some (.c (.bool true))) (hx : e x = some (.c d)) : evOp E r e id σ (.pick c x y) = .ok (0, .c d, σ) := pure_ok (by simp only [opPure, hc, hx, ofO, R.bind])
theorem op_pick_f {c x y : Operand} {d : C} (hc : e c = some (.c (.bool false))) (hy : e y = some (.c d)) : evOp E r e id σ (.pick c x y) = .ok (0, .c d, σ) := pure_ok (by simp only [opPure, hc, hy, ofO, R.bind])
theorem op_not {t : TypeId} {x : Operand} {b : Bool} (hx : e x = some (.c (.bool b))) : evOp E r e id σ (.unOp .not t x) = .ok (0, .c (.bool !b), σ) := pure_ok (by simp only [opPure, hx, ofO, R.bind, un])

theorem op_int2 {op : BinOp} {t u : TypeId} {x y : Operand} {k : IntKind} {a b : Int} {d : D} (hx : e x = some (.c (.int k a))) (hy : e y = some (.c (.int k b))) (hs : isShift op = false) (h : int2 op k a b = .ok d) :
    evOp E r e id σ (.binOp op t x y u) = .ok (0, d, σ) := pure_ok (by simp only [opPure, hx, hy, ofO, R.bind, bin, hs, cond_false, if_true, h])
theorem op_eql_int {t u : TypeId} {x y : Operand} {k : IntKind} {a b : Int} {v : Bool} (hx : e x = some (.c (.int k a))) (hy : e y = some (.c (.int k b))) (hv : (a == b) = v) :
    evOp E r e id σ (.binOp .eql t x y u) = .ok (0, .c (.bool v), σ) := op_int2 hx hy rfl (by simp only [int2, hv])
theorem op_neq_int {t u : TypeId} {x y : Operand} {k : IntKind} {a b : Int} {v : Bool} (hx : e x = some (.c (.int k a))) (hy : e y = some (.c (.int k b))) (hv : (a != b) = v) :
    evOp E r e id σ (.binOp .neq t x y u) = .ok (0, .c (.bool v), σ) := op_int2 hx hy rfl (by simp only [int2, hv])
theorem op_lss_int {t u : TypeId} {x y : Operand} {k : IntKind} {a b : Int} {v : Bool} (hx : e x = some (.c (.int k a))) (hy : e y = some (.c (.int k b))) (hv : decide (a < b) = v) :
    evOp E r e id σ (.binOp .lss t x y u) = .ok (0, .c (.bool v), σ) := op_int2 hx hy rfl (by simp only [int2, hv])
theorem op_leq_int {t u : TypeId} {x y : Operand} {k : IntKind} {a b : Int} {v : Bool} (hx : e x = some (.c (.int k a))) (hy : e y = some (.c (.int k b))) (hv : decide (a ≤ b) = v) :
    evOp E r e id σ (.binOp .leq t x y u) = .ok (0, .c (.bool v), σ) := op_int2 hx hy rfl (by simp only [int2, hv])
theorem op_gtr_int {t u : TypeId} {x y : Operand} {k : IntKind} {a b : Int} {v : Bool} (hx : e x = some (.c (.int k a))) (hy : e y = some (.c (.int k b))) (hv : decide (a > b) = v) :
    evOp E r e id σ (.binOp .gtr t x y u) = .ok (0, .c (.bool v), σ) := op_int2 hx hy rfl (by simp only [int2, hv])
theorem op_geq_int {t u : TypeId} {x y : Operand} {k : IntKind} {a b : Int} {v : Bool} (hx : e x = some (.c (.int k a))) (hy : e y = some (.c (.int k b))) (hv : decide (a ≥ b) = v) :
    evOp E r e id σ (.binOp .geq t x y u) = .ok (0, .c (.bool v), σ) := op_int2 hx hy rfl (by simp only [int2, hv])
theorem op_add_int {t u : TypeId} {x y : Operand} {k : IntKind} {a b v : Int} (hx : e x = some (.c (.int k a))) (hy : e y = some (.c (.int k b))) (hv : k.wrap (a + b) = v) :
    evOp E r e id σ (.binOp .add t x y u) = .ok (0, .c (.int k v), σ) := op_int2 hx hy rfl (by simp only [int2, hv])
theorem op_sub_int {t u : TypeId} {x y : Operand} {k : IntKind} {a b v : Int} (hx : e x = some (.c (.int k a))) (hy : e y = some (.c (.int k b))) (hv : k.wrap (a - b) = v) :
    evOp E r e id σ (.binOp .sub t x y u) = .ok (0, .c (.int k v), σ) := op_int2 hx hy rfl (by simp only [int2, hv])

theorem op_eql_str {t u : TypeId} {x y : Operand} {a b : ByteArray} {v : Bool} (hx : e x = some (.c (.str a))) (hy : e y = some (.c (.str b))) (hv : (a.toList == b.toList) = v) :
    evOp E r e id σ (.binOp .eql t x y u) = .ok (0, .c (.bool v), σ) := pure_ok (by simp only [opPure, hx, hy, ofO, R.bind, bin, str2, hv])
theorem op_neq_str {t u : TypeId} {x y : Operand} {a b : ByteArray} {v : Bool} (hx : e x = some (.c (.str a))) (hy : e y = some (.c (.str b))) (hv : (!(a.toList == b.toList)) = v) :
    evOp E r e id σ (.binOp .neq t x y u) = .ok (0, .c (.bool v), σ) := pure_ok (by simp only [opPure, hx, hy, ofO, R.bind, bin, str2, hv])
theorem op_add_str {t u : TypeId} {x y : Operand} {a b : ByteArray} (hx : e x = some (.c (.str a))) (hy : e y = some (.c (.str b))) (hv : a.size + b.size ≤ 9223372036854775807) :
    evOp E r e id σ (.binOp .add t x y u) = .ok (0, .c (.str (a ++ b)), σ) := pure_ok (by simp only [opPure, hx, hy, ofO, R.bind, bin, str2, if_pos hv])

theorem op_len_str {x : Operand} {t : TypeId} {s : ByteArray} (hx : e x = some (.c (.str s))) (ht : E.P.underlying t = some .string) :
    evOp E r e id σ (.call { callee := .builtin .len, args := #[x], argTypes := #[t] }) = .ok (0, .c (.int .i64 s.size), σ) := pure_ok (by simp only [opPure, hx, und, ht, ofO, R.bind])
theorem op_len_sl {x : Operand} {t el : TypeId} {f : Bool} {xs : List (List C)} (hx : e x = some (.c (.sl f xs))) (ht : E.P.underlying t = some (.slice el)) :
    evOp E r e id σ (.call { callee := .builtin .len, args := #[x], argTypes := #[t] }) = .ok (0, .c (.int .i64 xs.length), σ) := pure_ok (by simp only [opPure, hx, und, ht, ofO, R.bind])
theorem op_len_own {x : Operand} {t el : TypeId} {k : Nat} {xs : List (List C)} (hx : e x = some (.own k xs)) (ht : E.P.underlying t = some (.slice el)) :
    evOp E r e id σ (.call { callee := .builtin .len, args := #[x], argTypes := #[t] }) = .ok (0, .c (.int .i64 xs.length), σ) := pure_ok (by simp only [opPure, hx, und, ht, ofO, R.bind])

theorem op_index_str {x ix : Operand} {t : TypeId} {s : ByteArray} {k : IntKind} {n : Int} {b : UInt8} (hx : e x = some (.c (.str s))) (hi : e ix = some (.c (.int k n))) (ht : E.P.underlying t = some .string)
    (h0 : 0 ≤ n) (hb : s[n.toNat]? = some b) : evOp E r e id σ (.index t x ix) = .ok (0, .c (.int .u8 b.toNat), σ) := pure_ok (by simp only [opPure, hx, hi, und, ht, ofO, R.bind, if_pos h0, hb])

theorem op_slice_str {x lo hi : Operand} {t : TypeId} {s : ByteArray} {k k' : IntKind} {l h : Int} (hx : e x = some (.c (.str s))) (hl : e lo = some (.c (.int k l))) (hh : e hi = some (.c (.int k' h))) (ht : E.P.underlying t = some .string)
    (h0 : 0 ≤ l) (h1 : l ≤ h) (h2 : h ≤ s.size) : evOp E r e id σ (.slice t x (some lo) (some hi) none) = .ok (0, .c (.str (s.extract l.toNat h.toNat)), σ) := by
  refine pure_ok ?_
  have e1 : Nat.ble l.toNat h.toNat = true := by rw [Nat.ble_eq]; omega
  have e2 : Nat.ble h.toNat s.size = true := by rw [Nat.ble_eq]; omega
  simp only [opPure, hx, und, ht, ofO, R.bind, bound, hl, hh, if_pos h0, if_pos (Int.le_trans h0 h1), e1, e2, Bool.and_self, cond_true]
theorem op_slice_lo {x lo : Operand} {t : TypeId} {s : ByteArray} {k : IntKind} {l : Int} (hx : e x = some (.c (.str s))) (hl : e lo = some (.c (.int k l))) (ht : E.P.underlying t = some .string)
    (h0 : 0 ≤ l) (h1 : l ≤ s.size) : evOp E r e id σ (.slice t x (some lo) none none) = .ok (0, .c (.str (s.extract l.toNat s.size)), σ) := by
  refine pure_ok ?_
  have e1 : Nat.ble l.toNat s.size = true := by rw [Nat.ble_eq]; omega
  have e2 : Nat.ble s.size s.size = true := by rw [Nat.ble_eq]; omega
  simp only [opPure, hx, und, ht, ofO, R.bind, bound, hl, if_pos h0, e1, e2, Bool.and_self, cond_true]
theorem op_slice_hi {x hi : Operand} {t : TypeId} {s : ByteArray} {k' : IntKind} {h : Int} (hx : e x = some (.c (.str s))) (hh : e hi = some (.c (.int k' h))) (ht : E.P.underlying t = some .string)
    (h0 : 0 ≤ h) (h2 : h ≤ s.size) : evOp E r e id σ (.slice t x none (some hi) none) = .ok (0, .c (.str (s.extract 0 h.toNat)), σ) := by
  refine pure_ok ?_
  have e1 : Nat.ble 0 h.toNat = true := by rw [Nat.ble_eq]; omega
  have e2 : Nat.ble h.toNat s.size = true := by rw [Nat.ble_eq]; omega
  simp only [opPure, hx, und, ht, ofO, R.bind, bound, hh, if_pos h0, e1, e2, Bool.and_self, cond_true]

theorem op_extract {x : Operand} {i : Nat} {vs : List D} {c : C} (hx : e x = some (.tup vs)) (hi : vs[i]? = some (.c c)) : evOp E r e id σ (.extract x i) = .ok (0, .c c, σ) := pure_ok (by simp only [opPure, hx, ofO, R.bind, hi])

theorem op_call {f : Operand} {args : Array Operand} {tys : Array TypeId} {ff : Nat} {das : List D} {h : List D → R D} {d : D} (hf : e f = some (.fn ff [] [])) (has : mapO e args.toList = some das) (hs : E.sum ff = some h)
    (hp : das.all plain1 = true) (hd : h (das.map strip1) = .ok d) : evOp E r e id σ (.call { callee := .value f, args := args, argTypes := tys }) = .ok (0, d, σ) := by
  refine eff_ok rfl rfl ?_
  simp only [opEff, hf, has, ofO, R.bind, evCall, hs, List.nil_append, List.append_nil, hp, cond_true, hd]

theorem op_indexAddr {t el : TypeId} {x ix : Operand} {d : D} {xs : List (List C)} {k : IntKind} {n : Int} {row : List C} {it : TypeInfo} (hx : e x = some d) (hi : e ix = some (.c (.int k n))) (hr : rowsOf d = some xs) (ht : E.P.underlying t = some (.slice el))
    (hit : E.P.info? el = some it) (h0 : 0 ≤ n) (hrow : xs[n.toNat]? = some row) (hl : row.length = it.size) : evOp E r e id σ (.indexAddr t x ix) = .ok (0, .c (.rp xs n.toNat 0), σ) := by
  refine pure_ok ?_
  have e1 : Nat.beq row.length it.size = true := by rw [Nat.beq_eq]; exact hl
  simp only [opPure, hx, hi, und, size, hit, Option.map_some, ht, ofO, R.bind, hr, if_pos h0, hrow, e1, cond_true]

theorem op_load_rp {t : TypeId} {x : Operand} {xs : List (List C)} {i off : Nat} {row : List C} {u : TypeDesc} {it : TypeInfo} {c : C} (hx : e x = some (.c (.rp xs i off))) (hrow : xs[i]? = some row) (ht : E.P.underlying t = some u)
    (hit : E.P.info? t = some it) (ha : aggD u = false) (hc : row[off]? = some c) : evOp E r e id σ (.load t x) = .ok (0, .c c, σ) := by
  refine pure_ok ?_
  simp only [opPure, hx, hrow, und, ht, size, hit, Option.map_some, ofO, R.bind, ha, cond_false, hc]

end

end Go.Vm
