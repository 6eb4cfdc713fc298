/- The interpreter with values: its data, its state and its rounds. -/
import Derived.Calls
import Derived.Orders
import Derived.Below
namespace Go.Vm

inductive C where
  | bool (b : Bool)
  | int (k : IntKind) (n : Int)
  | float (k : FloatKind) (n : Nat)
  | str (s : ByteArray)
  | sl (full : Bool) (xs : List (List C))
  | rp (xs : List (List C)) (i off : Nat)
  | nilp | nili | nilf | nilm
  deriving Inhabited

inductive D where
  | c (c : C)
  | own (t : Nat) (xs : List (List C))
  | ptr (b off : Nat)
  | fn (f : Nat) (first cap : List D)
  | map (m : Nat)
  | agg (cs : List D)
  | tup (vs : List D)
  deriving Inhabited

inductive R (α : Type) where
  | ok (a : α)
  | er (why : Nat)

def R.bind {α β : Type} (x : R α) (f : α → R β) : R β :=
  match x with
  | .ok a => f a
  | .er e => .er e

def ofO {α : Type} (why : Nat) (x : Option α) : R α :=
  match x with
  | some a => .ok a
  | none => .er why

inductive Tr (α : Type) where
  | leaf
  | node (l : Tr α) (v : Option α) (r : Tr α)

def Tr.get {α : Type} (t : Tr α) (i : Nat) : Option α :=
  match t with
  | .leaf => none
  | .node l v r => bif Nat.beq i 0 then v else bif Nat.beq (i % 2) 1 then l.get (i / 2) else r.get (i / 2 - 1)

def Tr.put {α : Type} : Nat → Tr α → Nat → α → Tr α
  | 0, t, _, _ => t
  | f + 1, .leaf, i, x =>
    bif Nat.beq i 0 then .node .leaf (some x) .leaf
    else bif Nat.beq (i % 2) 1 then .node (Tr.put f .leaf (i / 2) x) none .leaf else .node .leaf none (Tr.put f .leaf (i / 2 - 1) x)
  | f + 1, .node l v r, i, x =>
    bif Nat.beq i 0 then .node l (some x) r
    else bif Nat.beq (i % 2) 1 then .node (Tr.put f l (i / 2) x) v r else .node l v (Tr.put f r (i / 2 - 1) x)

def Tr.set {α : Type} (t : Tr α) (i : Nat) (x : α) : Tr α := Tr.put (i + 1) t i x

structure St where
  n : Nat
  box : Tr (List D)
  tn : Nat
  tok : Tr (Nat × Nat)
  mn : Nat
  mp : Tr (List (ByteArray × D))

def St.empty : St := ⟨0, .leaf, 0, .leaf, 0, .leaf⟩

structure A where
  nt : Nat
  t : Tr D

def A.get (a : A) (i : Nat) : D := (a.t.get i).getD (.tup [])

def A.put (a : A) (d : Option Nat) (v : D) : R A :=
  match d with
  | none => .ok a
  | some d => bif Nat.blt d a.nt then .ok ⟨a.nt, a.t.set d v⟩ else .er 1

def mapO {α β : Type} (f : α → Option β) : List α → Option (List β)
  | [] => some []
  | x :: xs =>
    match f x with
    | none => none
    | some y => match mapO f xs with
      | none => none
      | some ys => some (y :: ys)

def cellD : Value → Option D
  | .bool b => some (.c (.bool b))
  | .int k n => some (.c (.int k n))
  | .float k n => some (.c (.float k n))
  | .string s => some (.c (.str s))
  | .pointer none => some (.c .nilp)
  | .slice none 0 0 => some (.c (.sl true []))
  | .nilFunc => some (.c .nilf)
  | .nilIface => some (.c .nili)
  | .map none => some (.c .nilm)
  | _ => none

def toD : Value → Option D
  | .agg cs => (mapO cellD cs.toList).map .agg
  | .tuple vs => if vs.toList.isEmpty then some (.tup []) else none
  | v => cellD v

structure Env where
  P : Program
  G : Nat → Option C
  ext : Nat → Option (List D → R D)
  sum : Nat → Option (List D → R D)
  inl : Nat → Bool
  F : World → Prop
  lo : Nat

def opnd (E : Env) (a : A) : Operand → Option D
  | .tmp t => some (a.get t)
  | .const v => toD v
  | .global g => (E.G g).map fun c => .c (.rp [[c]] 0 0)
  | .func f => some (.fn f [] [])

def D.cells : D → List D
  | .agg cs => cs
  | d => [d]

def cellLike : D → Bool
  | .agg _ => false
  | .tup _ => false
  | _ => true

def stripC : D → D
  | .own _ xs => .c (.sl false xs)
  | d => d

def strip1 : D → D
  | .agg cs => .agg (cs.map stripC)
  | d => stripC d

def strip : D → D
  | .tup cs => .tup (cs.map strip1)
  | d => strip1 d

def plainCell : D → Bool
  | .c _ => true
  | .own _ _ => true
  | .fn _ [] [] => true
  | _ => false

def plain1 : D → Bool
  | .agg cs => cs.all plainCell
  | d => plainCell d

def plain : D → Bool
  | .tup vs => vs.all plain1
  | d => plain1 d

/-- A cell of a row. -/
def toC : D → Option C
  | .c c => some c
  | .own _ xs => some (.sl false xs)
  | _ => none

def rowsOf : D → Option (List (List C))
  | .c (.sl _ xs) => some xs
  | .own _ xs => some xs
  | _ => none

def und (E : Env) (t : TypeId) : R TypeDesc := ofO 10 (E.P.underlying t)
def size (E : Env) (t : TypeId) : R Nat := ofO 11 ((E.P.info? t).map (·.size))
def aggD : TypeDesc → Bool
  | .struct _ => true
  | .array _ _ => true
  | _ => false

def part (E : Env) (t : TypeId) (cs : List D) (off : Nat) : R D :=
  (und E t).bind fun u => (size E t).bind fun n =>
    bif aggD u then (bif Nat.ble (off + n) cs.length then .ok (.agg ((cs.drop off).take n)) else .er 12)
    else ofO 13 cs[off]?

def field? (E : Env) (s : TypeId) (f : Nat) : R Field :=
  (und E s).bind fun u => match u with
    | .struct fs => ofO 14 fs[f]?
    | _ => .er 15

def int2 (op : BinOp) (k : IntKind) (a b : Int) : R D :=
  match op with
  | .add => .ok (.c (.int k (k.wrap (a + b))))
  | .sub => .ok (.c (.int k (k.wrap (a - b))))
  | .mul => .ok (.c (.int k (k.wrap (a * b))))
  | .quo => if b = 0 then .er 20 else .ok (.c (.int k (k.wrap (a.tdiv b))))
  | .rem => if b = 0 then .er 20 else .ok (.c (.int k (a.tmod b)))
  | .eql => .ok (.c (.bool (a == b)))
  | .neq => .ok (.c (.bool (a != b)))
  | .lss => .ok (.c (.bool (decide (a < b))))
  | .leq => .ok (.c (.bool (decide (a ≤ b))))
  | .gtr => .ok (.c (.bool (decide (a > b))))
  | .geq => .ok (.c (.bool (decide (a ≥ b))))
  | .and => .ok (.c (.int k (k.wrap (BitVec.ofInt k.bits a &&& BitVec.ofInt k.bits b).toNat)))
  | .or => .ok (.c (.int k (k.wrap (BitVec.ofInt k.bits a ||| BitVec.ofInt k.bits b).toNat)))
  | .xor => .ok (.c (.int k (k.wrap (BitVec.ofInt k.bits a ^^^ BitVec.ofInt k.bits b).toNat)))
  | .andNot => .ok (.c (.int k (k.wrap (BitVec.ofInt k.bits a &&& ~~~BitVec.ofInt k.bits b).toNat)))
  | _ => .er 21

def shift2 (op : BinOp) (k : IntKind) (a b : Int) : R D :=
  if b < 0 then .er 35 else
  match op with
  | .shl => .ok (.c (.int k (k.wrap (a * 2 ^ min b.toNat k.bits))))
  | .shr => .ok (.c (.int k (a.fdiv (2 ^ min b.toNat k.bits))))
  | _ => .er 36

def isShift : BinOp → Bool
  | .shl => true
  | .shr => true
  | _ => false

def str2 (op : BinOp) (x y : ByteArray) : R D :=
  match op with
  | .add => if x.size + y.size ≤ 9223372036854775807 then .ok (.c (.str (x ++ y))) else .er 22
  | .eql => .ok (.c (.bool (x.toList == y.toList)))
  | .neq => .ok (.c (.bool (!(x.toList == y.toList))))
  | .lss => .ok (.c (.bool (Op.bytesLess x.toList y.toList)))
  | _ => .er 23

def isConst : Operand → Bool
  | .const _ => true
  | _ => false

def eq2 (neg : Bool) (ty : TypeDesc) (cst : Bool) (x y : D) : R D :=
  let out (b : Bool) : R D := .ok (.c (.bool (bif neg then !b else b)))
  match ty, x, y with
  | .bool, .c (.bool a), .c (.bool b) => out (a == b)
  | .pointer _, .c .nilp, .c .nilp => out true
  | .pointer _, .c .nilp, .c (.rp ..) => out false
  | .pointer _, .c .nilp, .ptr .. => out false
  | .pointer _, .c (.rp ..), .c .nilp => out false
  | .pointer _, .ptr .., .c .nilp => out false
  | .interface _, .c .nili, .c .nili => bif cst then out true else .er 24
  | .func .., .c .nilf, .c .nilf => out true
  | .func .., .c .nilf, .fn .. => out false
  | .func .., .fn .., .c .nilf => out false
  | _, _, _ => .er 25

def bin (E : Env) (op : BinOp) (t : TypeId) (cst : Bool) (x y : D) : R D :=
  match x, y with
  | .c (.int k a), .c (.int k' b) => bif isShift op then shift2 op k a b else if k = k' then int2 op k a b else .er 26
  | .c (.str a), .c (.str b) => str2 op a b
  | x, y =>
    match op with
    | .eql => (und E t).bind fun u => eq2 false u cst x y
    | .neq => (und E t).bind fun u => eq2 true u cst x y
    | _ => .er 27

def un (op : UnOp) (x : D) : R D :=
  match op, x with
  | .not, .c (.bool b) => .ok (.c (.bool !b))
  | .neg, .c (.int k n) => .ok (.c (.int k (k.wrap (0 - n))))
  | _, _ => .er 28

def bound (e : Operand → Option D) (x : Option Operand) (dflt : Nat) : R Nat :=
  match x with
  | none => .ok dflt
  | some x => match e x with
    | some (.c (.int _ n)) => if 0 ≤ n then .ok n.toNat else .er 29
    | _ => .er 30

def fill (place : Nat → Option (Nat × Nat)) (cells : List D) : List (Nat × D) → Option (List D)
  | [] => some cells
  | (i, v) :: rest =>
    match place i with
    | none => none
    | some (off, size) =>
      bif Nat.beq v.cells.length size && Nat.ble (off + size) cells.length && v.cells.all cellLike then
        fill place (cells.take off ++ v.cells ++ cells.drop (off + size)) rest
      else none

def rowsFrom (k : Nat) : Nat → List D → Option (List (List C))
  | 0, _ => some []
  | n + 1, cs =>
    match mapO toC (cs.take k) with
    | none => none
    | some r => match rowsFrom k n (cs.drop k) with
      | none => none
      | some rs => some (r :: rs)

def repl (zero : List D) : Nat → List D
  | 0 => []
  | n + 1 => zero ++ repl zero n

def zero (E : Env) (t : TypeId) : R (List D) :=
  (ofO 31 (E.P.info? t)).bind fun i => (ofO 32 i.zero).bind fun z => (ofO 33 (toD z)).bind fun d => bif d.cells.all cellLike then .ok d.cells else .er 37

def zeroD (E : Env) (t : TypeId) : R D :=
  (ofO 31 (E.P.info? t)).bind fun i => (ofO 32 i.zero).bind fun z => ofO 33 (toD z)

def parts (e : Operand → Option D) (ps : List (Nat × Operand)) : R (List (Nat × D)) :=
  ofO 34 (mapO (fun p => (e p.2).map fun d => (p.1, d)) ps)

def headFits (xs : List (List C)) (k : Nat) : Bool :=
  match xs with
  | [] => true
  | r :: _ => Nat.beq r.length k

def rowsBytes (xs : List (List C)) : Option (List UInt8) :=
  mapO (fun r => match r with | [.int .u8 n] => some (UInt8.ofNat n.toNat) | _ => none) xs

/-- What an operation without effect gives; 'none': it is not one of these. -/
def opPure (E : Env) (e : Operand → Option D) : Op → Option (R D)
  | .move x => some (ofO 40 (e x))
  | .assign x => some (ofO 40 (e x))
  | .pick c x y => some <| (ofO 41 (e c)).bind fun d => match d with
    | .c (.bool true) => ofO 41 (e x)
    | .c (.bool false) => ofO 41 (e y)
    | _ => .er 42
  | .unOp op _ x => some <| (ofO 43 (e x)).bind fun d => un op d
  | .binOp op t x y _ => some <| (ofO 44 (e x)).bind fun a => (ofO 44 (e y)).bind fun b => bin E op t (isConst x || isConst y) a b
  | .convert src dst x => match E.P.underlying dst with
    | some (.int k) => some <| (und E src).bind fun _ => (ofO 45 (e x)).bind fun d => match d with
      | .c (.int _ n) => .ok (.c (.int k (k.wrap n)))
      | _ => .er 46
    | some .string => some <| (und E src).bind fun u => (ofO 45 (e x)).bind fun d => match u, d with
      | .string, .c (.str s) => .ok (.c (.str s))
      | .slice el, d => (und E el).bind fun u => match u with
        | .int .u8 => (ofO 46 (rowsOf d)).bind fun xs => (ofO 46 (rowsBytes xs)).bind fun l => .ok (.c (.str ⟨l.toArray⟩))
        | _ => .er 46
      | _, _ => .er 46
    | _ => none
  | .extract t i => some <| (ofO 47 (e t)).bind fun d => match d with
    | .tup vs => ofO 48 vs[i]?
    | _ => .er 49
  | .nilCheck x => some <| (ofO 50 (e x)).bind fun d => match d with
    | .c (.rp ..) => .ok d
    | .ptr .. => .ok d
    | .fn .. => .ok d
    | _ => .er 51
  | .makeFunc fn first cap => some <| match fn with
    | .func f => (ofO 52 (mapO e first.toList)).bind fun a => (ofO 52 (mapO e cap.toList)).bind fun b => .ok (.fn f a b)
    | _ => .er 53
  | .fieldAddr s x f => some <| (field? E s f).bind fun fd => (size E fd.type).bind fun n => bif Nat.beq n 0 then .er 54 else
    (ofO 55 (e x)).bind fun d => match d with
      | .c (.rp xs i off) => .ok (.c (.rp xs i (off + fd.offset)))
      | .ptr b off => .ok (.ptr b (off + fd.offset))
      | _ => .er 56
  | .field s x f => some <| (field? E s f).bind fun fd => (ofO 57 (e x)).bind fun d => match d with
    | .agg cs => part E fd.type cs fd.offset
    | _ => .er 58
  | .indexAddr t x ix => some <| (und E t).bind fun u => (ofO 59 (e x)).bind fun d => (ofO 59 (e ix)).bind fun i =>
    match u, i with
    | .slice el, .c (.int _ n) => (size E el).bind fun k => (ofO 60 (rowsOf d)).bind fun xs =>
      if 0 ≤ n then
        match xs[n.toNat]? with
        | some r => bif Nat.beq r.length k then .ok (.c (.rp xs n.toNat 0)) else .er 61
        | none => .er 62
      else .er 62
    | .array len el, .c (.int _ n) => (size E el).bind fun k =>
      if 0 ≤ n ∧ n < len then (match d with
        | .ptr b off => .ok (.ptr b (off + n.toNat * k))
        | _ => .er 63) else .er 62
    | _, _ => .er 64
  | .index t x ix => some <| (und E t).bind fun u => (ofO 65 (e x)).bind fun d => (ofO 65 (e ix)).bind fun i =>
    match u, d, i with
    | .string, .c (.str s), .c (.int _ n) =>
      if 0 ≤ n then (match s[n.toNat]? with
        | some b => .ok (.c (.int .u8 b.toNat))
        | none => .er 66) else .er 66
    | _, _, _ => .er 67
  | .slice t x lo hi mx => some <| match mx with
    | some _ => .er 68
    | none => (und E t).bind fun u => (ofO 69 (e x)).bind fun d =>
      match u, d with
      | .string, .c (.str s) => (bound e hi s.size).bind fun h => (bound e lo 0).bind fun l =>
        bif Nat.ble l h && Nat.ble h s.size then .ok (.c (.str (s.extract l h))) else .er 70
      | .slice el, d => (size E el).bind fun k => (ofO 71 (rowsOf d)).bind fun xs => (bound e hi xs.length).bind fun h => (bound e lo 0).bind fun l =>
        bif Nat.ble l h && Nat.ble h xs.length && headFits xs k then .ok (.c (.sl false ((xs.take h).drop l))) else .er 72
      | _, _ => .er 73
  | .build t ps => some <| (und E t).bind fun u => match u with
    | .struct fs => (zero E t).bind fun z => (parts e ps.toList).bind fun ps =>
      (ofO 74 (mapO (fun f => (E.P.info? f.type).map fun i => (f.offset, i.size)) fs.toList)).bind fun pl =>
        (ofO 74 (fill (fun i => pl[i]?) z ps)).bind fun cs => .ok (.agg cs)
    | _ => .er 75
  | .buildSlice t len ps => some <| (und E t).bind fun u => match u with
    | .slice el => (size E el).bind fun k => bif Nat.beq k 0 || Nat.blt 16777216 (len * k) then .er 76 else
      (zero E el).bind fun z => bif !Nat.beq z.length k then .er 76 else (parts e ps.toList).bind fun ps =>
        (ofO 77 (fill (fun i => some (i * k, k)) (repl z len) ps)).bind fun cs =>
          (ofO 78 (rowsFrom k len cs)).bind fun xs => .ok (.c (.sl true xs))
    | _ => .er 79
  | .call { callee := .builtin .len, args, argTypes } => some <| match args.toList, argTypes.toList with
    | [x], [t] => (und E t).bind fun u => (ofO 80 (e x)).bind fun d => match u, d with
      | .string, .c (.str s) => .ok (.c (.int .i64 s.size))
      | .slice _, .c (.sl _ xs) => .ok (.c (.int .i64 xs.length))
      | .slice _, .own _ xs => .ok (.c (.int .i64 xs.length))
      | _, _ => .er 81
    | _, _ => .er 82
  | .load t x => match e x with
    | some (.c (.rp xs i off)) => some <| match xs[i]? with
      | some r => (und E t).bind fun u => (size E t).bind fun n =>
        bif aggD u then (bif Nat.ble (off + n) r.length then .ok (.agg (((r.drop off).take n).map .c)) else .er 83)
        else (ofO 84 r[off]?).bind fun c => .ok (.c c)
      | none => .er 85
    | _ => none
  | _ => none

/-- What an operation that only looks gives. -/
def opRead (E : Env) (e : Operand → Option D) (σ : St) : Op → Option (R D)
  | .load t x => some <| (ofO 86 (e x)).bind fun d => match d with
    | .ptr b off => (ofO 87 (σ.box.get b)).bind fun cs => (und E t).bind fun u => (size E t).bind fun n =>
      bif aggD u then (bif Nat.ble (off + n) cs.length then .ok (.agg ((cs.drop off).take n)) else .er 88)
      else ofO 89 cs[off]?
    | _ => .er 90
  | .lookup t m k commaOk => some <| (und E t).bind fun u => (ofO 91 (e m)).bind fun m => (ofO 91 (e k)).bind fun k =>
    match u, m, k with
    | .map kt el, .map m, .c (.str k) => (und E kt).bind fun ku => match ku with
      | .string => (ofO 92 (σ.mp.get m)).bind fun es => (zeroD E el).bind fun z =>
        match es.find? (fun p => k == p.1) with
        | some p => .ok (bif commaOk then .tup [p.2, .c (.bool true)] else p.2)
        | none => .ok (bif commaOk then .tup [z, .c (.bool false)] else z)
      | _ => .er 94
    | _, _, _ => .er 93
  | _ => none

structure Evs where
  code : Code → A → St → R (Option (Option Nat) × A × St)      -- none: on; some none: return; some (some id): exit id
  call : Nat → List D → St → R (D × St)

/-- A call: the class (0: without effect, 2: with one), the result, the state. -/
def evCall (E : Env) (r : Evs) (f : Nat) (args : List D) (σ : St) : R (Nat × D × St) :=
  match E.sum f with
  | some g => bif args.all plain1 then (g (args.map strip1)).bind fun d => .ok (0, d, σ) else .er 100
  | none =>
    match E.ext f with
    | some g => bif args.all plain1 then (g (args.map strip1)).bind fun d => .ok (0, d, σ) else .er 101
    | none =>
      bif args.all plain1 && !E.inl f then
        (r.call f (args.map strip1) St.empty).bind fun p => bif plain p.1 then .ok (0, strip p.1, σ) else .er (200000 + f)
      else (r.call f args σ).bind fun p => .ok (2, p.1, p.2)

def setAt (cs : List D) (off : Nat) (vs : List D) : Option (List D) :=
  bif Nat.ble (off + vs.length) cs.length then some (cs.take off ++ vs ++ cs.drop (off + vs.length)) else none

def bytesRows (s : ByteArray) : List (List C) := s.data.toList.map fun b => [.int .u8 b.toNat]

def tokFits (t : Option (Nat × Nat)) (xs : List (List C)) (k : Nat) : Bool :=
  match t with
  | some p => Nat.beq p.1 xs.length && Nat.beq p.2 k
  | none => false

/-- An append onto a slice of the call's own, or onto one without room. -/
def appendTo (σ : St) (s : D) (ys : List (List C)) (k : Nat) : R (Nat × D × St) :=
  match s with
  | .own t xs => bif tokFits (σ.tok.get t) xs k then
      .ok (2, .own t (xs ++ ys), { σ with tok := σ.tok.set t (xs.length + ys.length, k) }) else .er 124
  | .c (.sl true xs) => .ok (2, .own σ.tn (xs ++ ys), { σ with tn := σ.tn + 1, tok := σ.tok.set σ.tn (xs.length + ys.length, k) })
  | _ => .er 125

/-- What an append adds. -/
def added (k : Nat) (xu : TypeDesc) (x : D) : R (List (List C)) :=
  match x, xu with
  | .c (.str b), .string => bif Nat.beq k 1 then .ok (bytesRows b) else .er 121
  | x, .slice _ => ofO 122 (rowsOf x)
  | _, _ => .er 122

/-- An operation with an effect, or a call. 'id': the number of a new box. -/
def opEff (E : Env) (r : Evs) (e : Operand → Option D) (id : Nat) (σ : St) (o : Op) : R (Nat × D × St) :=
  match o with
  | .alloc t => (zero E t).bind fun z => .ok (2, .ptr id 0, { σ with box := σ.box.set id z })
  | .box _ x => (ofO 110 (e x)).bind fun d => bif d.cells.all cellLike then .ok (2, .ptr id 0, { σ with box := σ.box.set id d.cells }) else .er 110
  | .store t x v => (ofO 111 (e x)).bind fun p => (ofO 111 (e v)).bind fun d => (size E t).bind fun n =>
    match p with
    | .ptr b off => (ofO 112 (σ.box.get b)).bind fun cs => bif Nat.beq d.cells.length n && d.cells.all cellLike then
        (ofO 113 (setAt cs off d.cells)).bind fun cs => .ok (2, .tup [], { σ with box := σ.box.set b cs })
      else .er 114
    | _ => .er 115
  | .makeMap _ none => .ok (2, .map σ.mn, { σ with mn := σ.mn + 1, mp := σ.mp.set σ.mn [] })
  | .insert t m k v => (und E t).bind fun u => (ofO 116 (e m)).bind fun m => (ofO 116 (e k)).bind fun k => (ofO 116 (e v)).bind fun v =>
    match u, m, k with
    | .map kt _, .map m, .c (.str k) => (und E kt).bind fun ku => match ku with
      | .string => (ofO 117 (σ.mp.get m)).bind fun es =>
        bif (es.find? (fun p => k == p.1)).isSome then .er 118 else .ok (2, .tup [], { σ with mp := σ.mp.set m (es ++ [(k, v)]) })
      | _ => .er 119
    | _, _, _ => .er 119
  | .convert src dst x => (und E src).bind fun u => (und E dst).bind fun w => match u, w with
    | .string, .slice el => (und E el).bind fun eu => (size E el).bind fun k => match eu with
      | .int .u8 => bif Nat.beq k 1 then (ofO 131 (e x)).bind fun d => match d with
        | .c (.str s) => bif Nat.blt s.size 1099511627776 then
          .ok (2, .own σ.tn (bytesRows s), { σ with tn := σ.tn + 1, tok := σ.tok.set σ.tn (s.size, 1) }) else .er 131
        | _ => .er 132
        else .er 133
      | _ => .er 134
    | _, _ => .er 135
  | .call { callee := .builtin .append, args, argTypes } =>
    match args.toList, argTypes.toList with
    | [s, x], [st, xt] => (ofO 120 (e s)).bind fun s => (ofO 120 (e x)).bind fun x =>
      (und E st).bind fun u => (und E xt).bind fun xu => match u with
      | .slice el => (size E el).bind fun k => (ofO 136 ((E.P.info? el).map (·.bytes))).bind fun by_ => (zero E el).bind fun z =>
        (added k xu x).bind fun ys => (ofO 137 (rowsOf s)).bind fun xs =>
        bif ys.isEmpty then .ok (2, s, σ) else
        bif Nat.beq k 0 || !Nat.beq z.length k || !(ys.all fun r => Nat.beq r.length k) || !headFits xs k ||
          !Nat.blt (xs.length + ys.length) 4611686018427387904 || !Nat.ble ((xs.length + ys.length) * by_) 140737488355328 then .er 123 else
        appendTo σ s ys k
      | _ => .er 126
    | _, _ => .er 127
  | .call { callee := .value f, args, .. } =>
    (ofO 128 (e f)).bind fun f => (ofO 128 (mapO e args.toList)).bind fun args =>
      match f with
      | .fn f first cap => evCall E r f (first ++ args ++ cap) σ
      | _ => .er 129
  | _ => .er 130

def evOp (E : Env) (r : Evs) (e : Operand → Option D) (id : Nat) (σ : St) (o : Op) : R (Nat × D × St) :=
  match opPure E e o with
  | some x => x.bind fun d => .ok (0, d, σ)
  | none => match opRead E e σ o with
    | some x => x.bind fun d => .ok (1, d, σ)
    | none => opEff E r e id σ o

def want (ops : Array Oper) (a : A) (o : Oper) : R Bool :=
  match o.guard with
  | none => .ok true
  | some (j, b) =>
    match (ops[j]?).bind (·.dst) with
    | none => .er 140
    | some d => match a.get d with
      | .c (.bool x) => .ok (x == b)
      | .tup [] => .ok false
      | _ => .er 141

/-- What is known of an operation that was met: its class (0: no effect; 1: it looks; 2: an effect; 3: not wanted), its value, the frame ahead of it, the state behind it. -/
structure Ent where
  on : Bool
  cls : Nat
  d : D
  a : A
  σ : St

/-- The operations in the text's order. -/
def evOps (E : Env) (r : Evs) (ops : Array Oper) : List Oper → Nat → A → St → R (List Ent × A × St)
  | [], _, a, σ => .ok ([], a, σ)
  | o :: rest, id, a, σ =>
    (want ops a o).bind fun w =>
      match w with
      | false => (a.put o.dst (.tup [])).bind fun a' => (evOps E r ops rest (id + 1) a' σ).bind fun p => .ok (⟨false, 3, .tup [], a, σ⟩ :: p.1, p.2)
      | true => (evOp E r (opnd E a) id σ o.op).bind fun q => (a.put o.dst q.2.1).bind fun a' =>
        (evOps E r ops rest (id + 1) a' q.2.2).bind fun p => .ok (⟨true, q.1, q.2.1, a, q.2.2⟩ :: p.1, p.2)

def maskOf (acc : List Nat) (o : Oper) : Nat :=
  o.after.toList.foldl (fun s e => bif Region.binds .any e then s ||| (1 <<< e.on) ||| acc.getD e.on 0 else s) 0

def masks : List Oper → List Nat → List Nat
  | [], acc => acc
  | o :: os, acc => masks os (acc ++ [maskOf acc o])

def clash (ops : Array Oper) (x y : Oper) : Bool :=
  (match x.dst with
    | some d => (y.looksAt ops).contains d || y.dst == some d
    | none => false) ||
  (match y.dst with
    | some d => (x.looksAt ops).contains d
    | none => false)

def downTo : Nat → (Nat → Bool) → Bool
  | 0, _ => true
  | n + 1, f => f n && downTo n f

/-- Do the edges order whatever meets in one temporary? -/
def drawStatic (ops : Array Oper) : Bool :=
  let m := masks ops.toList []
  downTo ops.size fun j => (match ops[j]? with
    | some y => y.after.toList.all fun e => !Region.binds .any e || Nat.blt e.on j
    | none => false) && downTo j fun i =>
    match ops[i]?, ops[j]? with
    | some x, some y => !clash ops x y || (m.getD j 0).testBit i
    | _, _ => false

mutual
def sameC : C → C → Bool
  | .bool a, .bool b => a == b
  | .int k a, .int k' b => k == k' && a == b
  | .float k a, .float k' b => k == k' && Nat.beq a b
  | .str a, .str b => a.data.toList == b.data.toList
  | .sl f xs, .sl f' ys => f == f' && sameRows xs ys
  | .rp xs i o, .rp ys i' o' => Nat.beq i i' && Nat.beq o o' && sameRows xs ys
  | .nilp, .nilp => true
  | .nili, .nili => true
  | .nilf, .nilf => true
  | .nilm, .nilm => true
  | _, _ => false
def sameRow : List C → List C → Bool
  | [], [] => true
  | a :: as, b :: bs => sameC a b && sameRow as bs
  | _, _ => false
def sameRows : List (List C) → List (List C) → Bool
  | [], [] => true
  | a :: as, b :: bs => sameRow a b && sameRows as bs
  | _, _ => false
end

mutual
def sameD : D → D → Bool
  | .c a, .c b => sameC a b
  | .own t xs, .own t' ys => Nat.beq t t' && sameRows xs ys
  | .ptr b o, .ptr b' o' => Nat.beq b b' && Nat.beq o o'
  | .fn f as cs, .fn f' as' cs' => Nat.beq f f' && sameL as as' && sameL cs cs'
  | .map a, .map b => Nat.beq a b
  | .agg as, .agg bs => sameL as bs
  | .tup as, .tup bs => sameL as bs
  | _, _ => false
def sameL : List D → List D → Bool
  | [], [] => true
  | a :: as, b :: bs => sameD a b && sameL as bs
  | _, _ => false
end

/-- The places of the effects, from a number on. -/
def effs : List Ent → Nat → List Nat
  | [], _ => []
  | x :: xs, i => bif Nat.beq x.cls 2 then i :: effs xs (i + 1) else effs xs (i + 1)

/-- The states between the effects. -/
def epochs (σ : St) : List Ent → List St
  | [] => [σ]
  | x :: xs => bif Nat.beq x.cls 2 then σ :: epochs x.σ xs else epochs σ xs

def ordered (m : List Nat) : List Nat → Bool
  | [] => true
  | i :: is => is.all (fun j => (m.getD j 0).testBit i) && ordered m is

def stable (E : Env) (o : Oper) (x : Ent) (σ : St) : Bool :=
  match opRead E (opnd E x.a) σ o.op with
  | some (.ok d) => sameD d x.d
  | _ => false

/-- Does what a look at place i gives hang on none of the effects that may stand on either side of it? 'k': how many effects stand ahead of it in the text. -/
def lookOK (E : Env) (m : List Nat) (fs : List Nat) (o : Oper) (x : Ent) (i k : Nat) : List St → Nat → Bool
  | [], _ => true
  | σ :: σs, c =>
    (Nat.beq c k || (fs.take c).any (fun j => (m.getD j 0).testBit i) || (fs.drop c).any (fun j => (m.getD i 0).testBit j) || stable E o x σ) &&
      lookOK E m fs o x i k σs (c + 1)

def looksOK (E : Env) (m : List Nat) (fs : List Nat) (τ : List St) : List Oper → List Ent → Nat → Nat → Bool
  | o :: os, x :: xs, i, k =>
    (!Nat.beq x.cls 1 || lookOK E m fs o x i k τ 0) && looksOK E m fs τ os xs (i + 1) (bif Nat.beq x.cls 2 then k + 1 else k)
  | _, _, _, _ => true

def drawDyn (E : Env) (ops : Array Oper) (σ : St) (tr : List Ent) : Bool :=
  let m := masks ops.toList []
  let fs := effs tr 0
  ordered m fs && looksOK E m fs (epochs σ tr) ops.toList tr 0 0

def evCode (E : Env) (r : Evs) (c : Code) (a : A) (σ : St) : R (Option (Option Nat) × A × St) :=
  match c with
  | .skip => .ok (none, a, σ)
  | .ret => .ok (some none, a, σ)
  | .exit id => .ok (some (some id), a, σ)
  | .seq x y => (r.code x a σ).bind fun p => match p.1 with
    | none => r.code y p.2.1 p.2.2
    | some _ => .ok p
  | .cond c x y => match opnd E a c with
    | some (.c (.bool true)) => r.code x a σ
    | some (.c (.bool false)) => r.code y a σ
    | _ => .er 150
  | .block id b => (r.code b a σ).bind fun p => match p.1 with
    | some (some j) => .ok (bif Nat.beq j id then none else p.1, p.2)
    | _ => .ok p
  | .loop b => (r.code b a σ).bind fun p => match p.1 with
    | none => r.code (.loop b) p.2.1 p.2.2
    | some _ => .ok p
  | .region _ ops draw => (evOps E r ops ops.toList σ.n a { σ with n := σ.n + ops.size }).bind fun p =>
    bif !draw || (drawStatic ops && drawDyn E ops { σ with n := σ.n + ops.size } p.1) then .ok (none, p.2) else .er 152
  | _ => .er 151

def initA (nt : Nat) (args : List D) : A := ⟨args.length + (nt - args.length), (args.foldl (fun (p : Nat × Tr D) d => (p.1 + 1, p.2.set p.1 d)) (0, .leaf)).2⟩

def result1 (E : Env) (a : A) (σ : St) : ResultVar → R D
  | .tmp t => .ok (a.get t)
  | .cell x t => match a.get x with
    | .ptr b off => (ofO 160 (σ.box.get b)).bind fun cs => (und E t).bind fun u => (size E t).bind fun n =>
      bif aggD u then (bif Nat.ble (off + n) cs.length then .ok (.agg ((cs.drop off).take n)) else .er 161)
      else ofO 162 cs[off]?
    | _ => .er 163

def result (E : Env) (a : A) (σ : St) (rs : List ResultVar) : R D :=
  match rs with
  | [x] => result1 E a σ x
  | rs => (ofO 164 (mapO (fun x => match result1 E a σ x with | .ok d => some d | .er _ => none) rs)).bind fun ds => .ok (.tup ds)

def tagE {α : Type} (f : Nat) (x : R α) : R α :=
  match x with
  | .ok a => .ok a
  | .er e => .er (bif Nat.blt e 1000 then f * 1000 + e else e)

def evBody (E : Env) (r : Evs) (f : Nat) (args : List D) (σ : St) : R (D × St) :=
  match E.P.funcs[f]? with
  | none => .er 170
  | some fn => match fn.body with
    | none => .er (1000 + f)
    | some c => tagE f <| (r.code c (initA fn.ntmps args) σ).bind fun p => match p.1 with
      | some (some _) => .er 172
      | _ => (result E p.2.1 p.2.2 fn.results.toList).bind fun d => .ok (d, p.2.2)

def stepEvs (E : Env) (r : Evs) : Evs := { code := evCode E r, call := evBody E r }

def evs (E : Env) : Nat → Evs
  | 0 => { code := fun _ _ _ => .er 0, call := fun _ _ _ => .er 0 }
  | n + 1 => stepEvs E (evs E n)

end Go.Vm
