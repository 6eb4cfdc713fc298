/- The seat's program: what the interpreter is told of it, and that it is so; no condition. -/
import Derived.Test.YtgcphfhmoabhnaaGreatDoorChecked
import Derived.Test.YtgcphfhmoabhnaaGreatDoorVmB
import Derived.Shelf.Unicode.DecodeSlow
import Derived.Lib.ValidU
import Derived.Shelf.Strings.Search3
import Derived.Laws.Externs
import Derived.Shelf.Lay
import Derived.Shelf.LaysM
import Derived.Shelf.Lays2
import Derived.Shelf.Unicode.ValidAny
import Derived.Shelf.Slices.In.SortNone
import Derived.Shelf.Slices.CompactI
set_option linter.unusedVariables false
namespace Go.Vm
open Go.Proofs
def signs : List (List UInt8) := [[60, 62], [60, 61], [62, 61], [40], [41], [44], [43], [45], [42], [47], [37], [61], [60], [62]]
def unaries : List (List UInt8) := [[45], [110, 111, 116], [105, 115, 32, 110, 117, 108, 108], [105, 115, 32, 110, 111, 116, 32, 110, 117, 108, 108]]
def arithmetic : List (List UInt8) := [[43], [45], [42], [47], [37]]
def comparisons : List (List UInt8) := [[61], [60, 62], [60], [60, 61], [62], [62, 61]]
def bytesOf (l : List (List UInt8)) : List ByteArray := l.map fun s => ⟨s.toArray⟩
def unariesB : List ByteArray := bytesOf unaries
def arithmeticB : List ByteArray := bytesOf arithmetic
def comparisonsB : List ByteArray := bytesOf comparisons
def globs : Nat → Option C
  | 6 => some (.sl true (strRows signs))
  | 3 => some (.sl true (strRows unaries))
  | 4 => some (.sl true (strRows arithmetic))
  | 5 => some (.sl true (strRows comparisons))
  | _ => none
def containsH : List D → R D
  | [.c (.str s), .c (.str t)] => if s.size < 4294967281 then .ok (.c (.bool (Lib.contains s.data.toList t.data.toList))) else .er 900
  | _ => .er 901
def validH : List D → R D
  | [.c (.str s)] => if s.size ≤ 9223372036854775807 then .ok (.c (.bool (Lib.validD s.data.toList))) else .er 902
  | _ => .er 903
def bitsH : List D → R D
  | [.c (.float .f64 n)] => .ok (.c (.int .u64 n))
  | _ => .er 904
def indexH : List D → R D
  | [.c (.str s), .c (.int .u8 c)] => .ok (.c (.int .i64 (firstIdx s c.toNat.toUInt8)))
  | _ => .er 905
noncomputable def env0 : Env where
  P := Tryz.prog
  G := globs
  ext := fun f => bif Nat.beq f 70 then some bitsH else bif Nat.beq f 214 then some indexH else none
  sum := fun f => bif Nat.beq f 76 then some containsH else bif Nat.beq f 129 then some validH else none
  inl := fun f => Nat.beq f 64 || Nat.beq f 118 || Nat.beq f 145
  F := fun w => (∃ m, w.cell? ⟨10, 0, none⟩ = some (.int .i64 m)) ∧ Lib.Utf8Tabs 7 8 w
  lo := 11
noncomputable def EE (S : Nat → Option (List D → R D)) : Env := { env0 with sum := S }
def cl (c : Code) : Code :=
  match c with
  | .seq x _ => x
  | .cond _ x _ => x
  | .block _ b => b
  | .loop b => b
  | c => c
def cr (c : Code) : Code :=
  match c with
  | .seq _ y => y
  | .cond _ _ y => y
  | c => c
abbrev Ou (S : Nat → Option (List D → R D)) (fn : Func) (X : D → St → Prop) (o : Option (Option Nat)) (g : Nat → D) (s : St) : Prop := o = some none ∧ ∃ d, resultF (EE S) g s fn.results.toList = .ok d ∧ X d s
def bodyOf (fn : Func) : Code := match fn.body with | some c => c | none => .skip
end Go.Vm
namespace Go.Proofs
open Go.Shelf
def Tryz.laysContains_ren : Go.Shelf.Ren := ⟨fun | 144 => 76 | 143 => 130 | 219 => 187 | 217 => 159 | 225 => 246 | 224 => 247 | 267 => 248 | 266 => 214 | 314 => 283 | n => n, fun | 9 => 9 | 4 => 4 | 3 => 3 | 5 => 5 | 46 => 167 | 146 => 271 | 51 => 219 | n => n, fun | 1 => 10 | n => n⟩
theorem Tryz.laysContains : LaysM.n144 Tryz.prog Tryz.laysContains_ren where
  mixed := by kernel_rfl
  f143 := Tryz.func130.trans (congrArg some (by kernel_rfl))
  f144 := Tryz.func76.trans (congrArg some (by kernel_rfl))
  f217 := Tryz.func159.trans (congrArg some (by kernel_rfl))
  f219 := Tryz.func187.trans (congrArg some (by kernel_rfl))
  f224 := Tryz.func247.trans (congrArg some (by kernel_rfl))
  f225 := Tryz.func246.trans (congrArg some (by kernel_rfl))
  f266 := Tryz.func214.trans (congrArg some (by kernel_rfl))
  f267 := Tryz.func248.trans (congrArg some (by kernel_rfl))
  f314 := Tryz.func283.trans (congrArg some (by kernel_rfl))
  t3 := Tryz.underlying3
  a3 := Tryz.isAgg3
  z3 := Tryz.sizeOf3
  v3 := Tryz.zeroValue3
  t4 := Tryz.underlying4
  a4 := Tryz.isAgg4
  z4 := Tryz.sizeOf4
  v4 := Tryz.zeroValue4
  t5 := Tryz.underlying5
  a5 := Tryz.isAgg5
  z5 := Tryz.sizeOf5
  v5 := Tryz.zeroValue5
  t9 := Tryz.underlying9
  a9 := Tryz.isAgg9
  z9 := Tryz.sizeOf9
  v9 := Tryz.zeroValue9
  t46 := Tryz.underlying167
  a46 := Tryz.isAgg167
  z46 := Tryz.sizeOf167
  v46 := Tryz.zeroValue167
  t51 := Tryz.underlying219
  a51 := Tryz.isAgg219
  z51 := Tryz.sizeOf219
  v51 := Tryz.zeroValue219
  t146 := Tryz.underlying271
  a146 := Tryz.isAgg271
  z146 := Tryz.sizeOf271
  v146 := Tryz.zeroValue271
  g1 := by kernel_rfl
  i3 := by kernel_rfl
  i4 := by kernel_rfl
  i5 := by kernel_rfl
  i9 := by kernel_rfl
  i46 := by kernel_rfl
  i51 := by kernel_rfl
  i146 := by kernel_rfl
  m1 := by kernel_rfl
  s1_3 := fun w h => Go.Proofs.cell_of_shapedOpen_int (zero := #[.int .i64 0]) (t := 3) h (of_decide_eq_true (by kernel_rfl)) (by kernel_rfl) rfl (by kernel_rfl) (by kernel_rfl) Tryz.underlying3
def Tryz.laysValid_ren : Go.Shelf.Ren := ⟨fun | 196 => 129 | 259 => 186 | n => n, fun | 9 => 9 | 4 => 4 | 3 => 3 | 5 => 5 | 12 => 12 | 119 => 207 | 0 => 0 | 46 => 167 | 139 => 210 | 138 => 209 | 53 => 34 | n => n, fun | 3 => 7 | 4 => 8 | n => n⟩
theorem Tryz.laysValid : Lays.n196 Tryz.prog Tryz.laysValid_ren where
  mixed := by kernel_rfl
  f196 := Tryz.func129.trans (congrArg some (by kernel_rfl))
  f259 := Tryz.func186.trans (congrArg some (by kernel_rfl))
  t0 := Tryz.underlying0
  a0 := Tryz.isAgg0
  z0 := Tryz.sizeOf0
  v0 := Tryz.zeroValue0
  t3 := Tryz.underlying3
  a3 := Tryz.isAgg3
  z3 := Tryz.sizeOf3
  v3 := Tryz.zeroValue3
  t4 := Tryz.underlying4
  a4 := Tryz.isAgg4
  z4 := Tryz.sizeOf4
  v4 := Tryz.zeroValue4
  t5 := Tryz.underlying5
  a5 := Tryz.isAgg5
  z5 := Tryz.sizeOf5
  v5 := Tryz.zeroValue5
  t9 := Tryz.underlying9
  a9 := Tryz.isAgg9
  z9 := Tryz.sizeOf9
  v9 := Tryz.zeroValue9
  t12 := Tryz.underlying12
  a12 := Tryz.isAgg12
  z12 := Tryz.sizeOf12
  v12 := Tryz.zeroValue12
  t46 := Tryz.underlying167
  a46 := Tryz.isAgg167
  z46 := Tryz.sizeOf167
  v46 := Tryz.zeroValue167
  t53 := Tryz.underlying34
  a53 := Tryz.isAgg34
  z53 := Tryz.sizeOf34
  v53 := Tryz.zeroValue34
  t119 := Tryz.underlying207
  a119 := Tryz.isAgg207
  z119 := Tryz.sizeOf207
  t138 := Tryz.underlying209
  a138 := Tryz.isAgg209
  z138 := Tryz.sizeOf209
  v138 := Tryz.zeroValue209
  t139 := Tryz.underlying210
  a139 := Tryz.isAgg210
  z139 := Tryz.sizeOf210
  v139 := Tryz.zeroValue210
  g3 := by kernel_rfl
  g4 := by kernel_rfl
def Tryz.laysSort_ren : Go.Shelf.Ren := ⟨fun | 189 => 78 | 125 => 132 | 257 => 131 | 128 => 197 | 129 => 198 | 294 => 188 | 295 => 189 | 296 => 190 | 297 => 191 | 298 => 192 | 299 => 193 | 216 => 194 | 300 => 195 | 301 => 196 | 328 => 249 | 329 => 250 | 330 => 251 | 331 => 252 | 332 => 253 | 215 => 254 | 343 => 284 | n => n, fun | 28 => 23 | 3 => 3 | 46 => 167 | 0 => 0 | 51 => 219 | 53 => 34 | 4 => 4 | 183 => 213 | 182 => 212 | 131 => 124 | 5 => 5 | 9 => 9 | 218 => 242 | 222 => 245 | 228 => 273 | 229 => 274 | n => n, fun | n => n⟩
theorem Tryz.laysSort : Lays.n189 Tryz.prog Tryz.laysSort_ren where
  mixed := by kernel_rfl
  f125 := Tryz.func132.trans (congrArg some (by kernel_rfl))
  f128 := Tryz.func197.trans (congrArg some (by kernel_rfl))
  f129 := Tryz.func198.trans (congrArg some (by kernel_rfl))
  f189 := Tryz.func78.trans (congrArg some (by kernel_rfl))
  f215 := Tryz.func254.trans (congrArg some (by kernel_rfl))
  f216 := Tryz.func194.trans (congrArg some (by kernel_rfl))
  f257 := Tryz.func131.trans (congrArg some (by kernel_rfl))
  f294 := Tryz.func188.trans (congrArg some (by kernel_rfl))
  f295 := Tryz.func189.trans (congrArg some (by kernel_rfl))
  f296 := Tryz.func190.trans (congrArg some (by kernel_rfl))
  f297 := Tryz.func191.trans (congrArg some (by kernel_rfl))
  f298 := Tryz.func192.trans (congrArg some (by kernel_rfl))
  f299 := Tryz.func193.trans (congrArg some (by kernel_rfl))
  f300 := Tryz.func195.trans (congrArg some (by kernel_rfl))
  f301 := Tryz.func196.trans (congrArg some (by kernel_rfl))
  f328 := Tryz.func249.trans (congrArg some (by kernel_rfl))
  f329 := Tryz.func250.trans (congrArg some (by kernel_rfl))
  f330 := Tryz.func251.trans (congrArg some (by kernel_rfl))
  f331 := Tryz.func252.trans (congrArg some (by kernel_rfl))
  f332 := Tryz.func253.trans (congrArg some (by kernel_rfl))
  f343 := Tryz.func284.trans (congrArg some (by kernel_rfl))
  t0 := Tryz.underlying0
  a0 := Tryz.isAgg0
  z0 := Tryz.sizeOf0
  v0 := Tryz.zeroValue0
  t3 := Tryz.underlying3
  a3 := Tryz.isAgg3
  z3 := Tryz.sizeOf3
  v3 := Tryz.zeroValue3
  t4 := Tryz.underlying4
  a4 := Tryz.isAgg4
  z4 := Tryz.sizeOf4
  v4 := Tryz.zeroValue4
  t5 := Tryz.underlying5
  a5 := Tryz.isAgg5
  z5 := Tryz.sizeOf5
  v5 := Tryz.zeroValue5
  t9 := Tryz.underlying9
  a9 := Tryz.isAgg9
  z9 := Tryz.sizeOf9
  v9 := Tryz.zeroValue9
  t28 := Tryz.underlying23
  a28 := Tryz.isAgg23
  z28 := Tryz.sizeOf23
  v28 := Tryz.zeroValue23
  t46 := Tryz.underlying167
  a46 := Tryz.isAgg167
  z46 := Tryz.sizeOf167
  v46 := Tryz.zeroValue167
  t51 := Tryz.underlying219
  a51 := Tryz.isAgg219
  z51 := Tryz.sizeOf219
  v51 := Tryz.zeroValue219
  t53 := Tryz.underlying34
  a53 := Tryz.isAgg34
  z53 := Tryz.sizeOf34
  v53 := Tryz.zeroValue34
  t131 := Tryz.underlying124
  a131 := Tryz.isAgg124
  z131 := Tryz.sizeOf124
  v131 := Tryz.zeroValue124
  t182 := Tryz.underlying212
  a182 := Tryz.isAgg212
  z182 := Tryz.sizeOf212
  v182 := Tryz.zeroValue212
  t183 := Tryz.underlying213
  a183 := Tryz.isAgg213
  z183 := Tryz.sizeOf213
  v183 := Tryz.zeroValue213
  t218 := Tryz.underlying242
  a218 := Tryz.isAgg242
  z218 := Tryz.sizeOf242
  v218 := Tryz.zeroValue242
  t222 := Tryz.underlying245
  a222 := Tryz.isAgg245
  z222 := Tryz.sizeOf245
  v222 := Tryz.zeroValue245
  t228 := Tryz.underlying273
  a228 := Tryz.isAgg273
  z228 := Tryz.sizeOf273
  v228 := Tryz.zeroValue273
  t229 := Tryz.underlying274
  a229 := Tryz.isAgg274
  z229 := Tryz.sizeOf274
  v229 := Tryz.zeroValue274
def Tryz.laysCompact_ren : Go.Shelf.Ren := ⟨fun | 20 => 79 | n => n, fun | 22 => 23 | 3 => 3 | 4 => 4 | 0 => 0 | n => n, fun | n => n⟩
theorem Tryz.laysCompact : Lays2.n20 Tryz.prog Tryz.laysCompact_ren where
  mixed := by kernel_rfl
  f20 := Tryz.func79.trans (congrArg some (by kernel_rfl))
  t0 := Tryz.underlying0
  a0 := Tryz.isAgg0
  z0 := Tryz.sizeOf0
  v0 := Tryz.zeroValue0
  t3 := Tryz.underlying3
  a3 := Tryz.isAgg3
  z3 := Tryz.sizeOf3
  v3 := Tryz.zeroValue3
  t4 := Tryz.underlying4
  a4 := Tryz.isAgg4
  z4 := Tryz.sizeOf4
  v4 := Tryz.zeroValue4
  t22 := Tryz.underlying23
  a22 := Tryz.isAgg23
  z22 := Tryz.sizeOf23
  v22 := Tryz.zeroValue23
  i3 := by kernel_rfl
end Go.Proofs
namespace Go.Vm
open Go.Proofs
open Go.RowKit (Below)
theorem names_all : (Tryz.prog.funcs.toList.all fun fn => !(fn.name == "runtime.NumGoroutine")) = true := by kernel_rfl
noncomputable def envA : Env := { env0 with sum := fun f => bif Nat.beq f 76 then some containsH else none }
theorem contains_sums (args : List D) (d : D) (h : containsH args = .ok d) : Sums envA 76 args d := by
  unfold containsH at h
  split at h
  · rename_i s t
    split at h
    · rename_i hs
      cases h
      refine sums_of_calls (v := .bool _) (fun _ _ => .bool _) ?_
      intro S g w vs hF hargs
      obtain ⟨u, v, rfl, h1, h2⟩ := reps2 hargs
      cases h1; cases h2
      obtain ⟨⟨m, hm⟩, _⟩ := hF
      exact (Any.strings_Contains { Tryz.laysContains with } s t m w hs hm).mono (fun e w' ⟨he, hw⟩ => ⟨he, hw ▸ Below.refl _ _⟩)
    · cases h
  · cases h
theorem valid_sums (args : List D) (d : D) (h : validH args = .ok d) : Sums envA 129 args d := by
  unfold validH at h
  split at h
  · rename_i s
    split at h
    · rename_i hs
      cases h
      refine sums_of_calls (v := .bool _) (fun _ _ => .bool _) ?_
      intro S g w vs hF hargs
      simp only [DReps, DRep] at hargs
      obtain ⟨u, _, rfl, h1, rfl⟩ := hargs
      cases h1
      exact Any.utf8_ValidString Tryz.laysValid s w hs hF.2
    · cases h
  · cases h
theorem bits_ext (args : List D) (d : D) (h : bitsH args = .ok d) (g : Ghost) (w : World) (vs : List Value) (hr : DReps g w args vs) :
    ∃ v, (callFunc 70 ⟨vs⟩).run Tryz.prog w = .ok (.value v) w ∧ DRep g w d v := by
  unfold bitsH at h
  split at h
  · rename_i n
    cases h
    simp only [DReps, DRep] at hr
    obtain ⟨u, _, rfl, h1, rfl⟩ := hr
    cases h1
    refine ⟨.int .u64 n, ?_, by simp only [DRep]; exact .int _ _⟩
    rw [run_callFunc_extern (P := Tryz.prog) (f := 70) (fn := Tryz.f70) (e := Extern.MathFloatBits.float64bits) Tryz.func70 (by kernel_rfl) (by kernel_rfl) (by kernel_rfl) (by kernel_rfl)]
    rfl
  · cases h
theorem index_ext (args : List D) (d : D) (h : indexH args = .ok d) (g : Ghost) (w : World) (vs : List Value) (hr : DReps g w args vs) :
    ∃ v, (callFunc 214 ⟨vs⟩).run Tryz.prog w = .ok (.value v) w ∧ DRep g w d v := by
  unfold indexH at h
  split at h
  · rename_i s c
    cases h
    obtain ⟨u, v, rfl, h1, h2⟩ := reps2 hr
    cases h1; cases h2
    refine ⟨.int .i64 (firstIdx s c.toNat.toUInt8), ?_, by simp only [DRep]; exact .int _ _⟩
    rw [run_callFunc_extern (P := Tryz.prog) (f := 214) (fn := Tryz.f214) (e := Extern.BytealgIndexByte.indexByte) Tryz.func214 (by kernel_rfl) (by kernel_rfl) (by kernel_rfl) (by kernel_rfl)]
    rw [show (Extern.BytealgIndexByte.indexByte #[.string s, .int .u8 c]).run Tryz.prog w = _ from run_indexByte_string s c w]
    rfl
  · cases h
theorem envA_ok : EnvOK envA where
  names := by
    intro f fn hf
    have hf : Tryz.prog.funcs[f]? = some fn := hf
    have := List.all_eq_true.1 names_all fn (by simpa using Array.mem_of_getElem? hf)
    simpa using this
  keep := by
    rintro w w' ⟨⟨m, hm⟩, h1, h2⟩ hb
    have e : ∀ (b : Nat) (o : Nat), b < 11 → w'.cell? ⟨b, o, none⟩ = w.cell? ⟨b, o, none⟩ := fun b o h => hb.cell (p := ⟨b, o, none⟩) h
    exact ⟨⟨m, by rw [e 10 0 (by decide)]; exact hm⟩, fun c hc => (hb.cell (show 7 < 11 by decide)).trans (h1 c hc), fun i hi => ⟨(hb.cell (show 8 < 11 by decide)).trans (h2 i hi).1, (hb.cell (show 8 < 11 by decide)).trans (h2 i hi).2⟩⟩
  ext := by
    intro f h hf args d hd g w vs hr
    have hf : (bif Nat.beq f 70 then some bitsH else bif Nat.beq f 214 then some indexH else none) = some h := hf
    cases h1 : Nat.beq f 70 with
    | true =>
      rw [h1] at hf
      cases hf
      have : f = 70 := Nat.beq_eq ▸ h1
      subst this
      exact bits_ext args d hd g w vs hr
    | false =>
      rw [h1] at hf
      simp only [cond_false] at hf
      cases h2 : Nat.beq f 214 with
      | true =>
        rw [h2] at hf
        cases hf
        have : f = 214 := Nat.beq_eq ▸ h2
        subst this
        exact index_ext args d hd g w vs hr
      | false => rw [h2] at hf; cases hf
  sum := by
    intro f h hf
    simp only [envA] at hf
    cases h1 : Nat.beq f 76 with
    | true =>
      rw [h1] at hf
      cases hf
      have : f = 76 := Nat.beq_eq ▸ h1
      subst this
      exact ⟨⟨Tryz.f76, Tryz.func76, by kernel_rfl⟩, contains_sums⟩
    | false => rw [h1] at hf; cases hf
  mixed := by kernel_rfl
def isTrue : R (D × St) → Bool
  | .ok (.c (.bool true), _) => true
  | _ => false
theorem awake_runs : isTrue ((evs envA 1000).call 8 [] St.empty) = true := by kernel_rfl
theorem awake_sums : Sums envA 8 [] (.c (.bool true)) := by
  have h := awake_runs
  generalize hx : (evs envA 1000).call 8 [] St.empty = x at h
  unfold isTrue at h
  split at h
  · rename_i σ'
    exact sums_of_call (args := []) envA_ok hx rfl rfl
  · cases h
end Go.Vm
