/- The seat's program: what the interpreter is told of it. -/
import Derived.Test.YtogglamgopmpoaaGreatDoorChecked
import Derived.Test.YtogglamgopmpoaaGreatDoorRows
import Derived.Test.YtogglamgopmpoaaGreatDoorVmLaid
import Derived.Test.YtogglamgopmpoaaGreatDoorLays
import Derived.Laws.Externs
namespace Go.Vm
open Go.Proofs
open Go.RowKit (Below)

def signs : List (List UInt8) := [[60, 62], [60, 61], [62, 61], [40], [41], [44], [43], [45], [42], [47], [37], [61], [60], [62]]
def unaries : List (List UInt8) := [[45], [110, 111, 116], [105, 115, 32, 110, 117, 108, 108], [105, 115, 32, 110, 111, 116, 32, 110, 117, 108, 108]]
def arithmetic : List (List UInt8) := [[43], [45], [42], [47], [37]]
def comparisons : List (List UInt8) := [[61], [60, 62], [60], [60, 61], [62], [62, 61]]

def globs : Nat → Option C
  | 2 => some (.sl true (strRows signs))
  | 8 => some (.sl true (strRows unaries))
  | 9 => some (.sl true (strRows arithmetic))
  | 10 => some (.sl true (strRows comparisons))
  | _ => none

def containsH : List D → R D
  | [.c (.str s), .c (.str t)] => if s.size < 4294967281 then .ok (.c (.bool (Lib.contains s.data.toList t.data.toList))) else .er 900
  | _ => .er 901

def trimH : List D → R D
  | [.c (.str s), .c (.str t)] => if s.size ≤ 9223372036854775807 ∧ t.size < 4294967281 ∧ t.data.toList.all (fun b => decide (b.toNat < 128)) = true then .ok (.c (.str ⟨(Lib.trimS s.data.toList t.data.toList).toArray⟩)) else .er 902
  | _ => .er 903

def bitsH : List D → R D
  | [.c (.float .f64 n)] => .ok (.c (.int .u64 n))
  | _ => .er 904

def indexH : List D → R D
  | [.c (.str s), .c (.int .u8 c)] => .ok (.c (.int .i64 (firstIdx s c.toNat.toUInt8)))
  | _ => .er 905

noncomputable def env0 : Env where
  P := Tryz.prog
  G := globs
  ext := fun f => bif Nat.beq f 157 then some bitsH else bif Nat.beq f 140 then some indexH else none
  sum := fun f => bif Nat.beq f 137 then some containsH else none
  inl := fun f => Nat.beq f 26 || Nat.beq f 49
  F := fun w => ∃ m, w.cell? ⟨6, 0, none⟩ = some (.int .i64 m)
  lo := 7

end Go.Vm
