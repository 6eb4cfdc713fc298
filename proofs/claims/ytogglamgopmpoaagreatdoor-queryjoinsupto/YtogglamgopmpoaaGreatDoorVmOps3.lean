/- Conversions, calls of len, closures; looks into boxes and maps; all operations without effect together. -/
import Derived.Test.YtogglamgopmpoaaGreatDoorVmOps2
namespace Go.Vm
open Go.RowKit (Below)

section
variable {E : Env} {base : Nat} {w0 : World} {S0 : Nat → Nat → Prop} {g : Ghost} {δ : Nat → Option Nat} {σ : St} {w : World} {e : Operand → Option D} {ρ : Operand → Value}

theorem rowsBytes_some {xs : List (List C)} {l : List UInt8} (h : rowsBytes xs = some l) :
    ∃ ns : List Int, l = ns.map (fun n => UInt8.ofNat n.toNat) ∧ ns.length = xs.length ∧ ∀ (i : Nat) (n : Int), ns[i]? = some n → xs[i]? = some [.int .u8 n] := by
  induction xs generalizing l with
  | nil => simp only [rowsBytes, mapO, Option.some.injEq] at h; subst h; exact ⟨[], rfl, rfl, fun i n h => by simp at h⟩
  | cons r xs ih =>
    unfold rowsBytes at h
    rw [mapO] at h
    split at h
    · cases h
    · rename_i y hy
      split at h
      · cases h
      · rename_i ys hys
        cases h
        obtain ⟨ns, h1, h2, h3⟩ := ih (l := ys) hys
        split at hy
        · rename_i n
          cases hy
          refine ⟨n :: ns, by simp [h1], by simp [h2], fun i m hi => ?_⟩
          cases i with
          | zero => simp only [List.getElem?_cons_zero, Option.some.injEq] at hi ⊢; rw [hi]
          | succ i => simp only [List.getElem?_cons_succ] at hi ⊢; exact h3 i m hi
        · cases hy

theorem push_all : ∀ (ns : List Int) (s : ByteArray), ns.foldl (fun r n => r.push (UInt8.ofNat n.toNat)) s = ⟨(s.data.toList ++ ns.map (fun n => UInt8.ofNat n.toNat)).toArray⟩
  | [], s => by simp
  | n :: ns, s => by
    rw [List.foldl_cons, push_all ns]
    congr 1
    apply Array.ext'
    simp [ByteArray.push]

theorem convert_gives {src dst : TypeId} {x : Operand} {d : D} (h0 : opPure E e (.convert src dst x) = some (.ok d)) (hop : ∀ d, e x = some d → DRep g w d (ρ x)) :
    Gives E g w (convert src dst (ρ x)) d := by
  simp only [opPure] at h0
  cases hd : E.P.underlying dst with
  | none => rw [hd] at h0; cases h0
  | some ud =>
    rw [hd] at h0
    cases ud with
    | int k =>
      simp only [Option.some.injEq] at h0
      obtain ⟨us, hus, h⟩ := R.bind_ok h0
      obtain ⟨dx, hx, h⟩ := R.bind_ok h
      have hdx := hop _ (ofO_ok hx)
      have hus := und_ok hus
      cases dx with
      | c c => cases c with
        | int k' n =>
          cases h
          rw [rep_int hdx]
          exact ⟨_, by simp only [convert, Sem.run_bind, run_underlying hus, run_underlying hd, Result.andThen_ok]; cases us <;> rfl, mk_int _ _⟩
        | _ => cases h
      | _ => cases h
    | string =>
      simp only [Option.some.injEq] at h0
      obtain ⟨us, hus, h⟩ := R.bind_ok h0
      obtain ⟨dx, hx, h⟩ := R.bind_ok h
      have hdx := hop _ (ofO_ok hx)
      have hus := und_ok hus
      cases us with
      | string => cases dx with
        | c c => cases c with
          | str s =>
            cases h
            rw [rep_str hdx]
            exact ⟨_, by simp [convert, run_underlying hus, run_underlying hd], mk_str _⟩
          | _ => cases h
        | _ => cases h
      | slice el =>
        simp only at h
        obtain ⟨ue, hue, h⟩ := R.bind_ok h
        have hue := und_ok hue
        cases ue with
        | int k => cases k with
          | u8 =>
            simp only at h
            obtain ⟨xs, hxs, h⟩ := R.bind_ok h
            obtain ⟨l, hl, h⟩ := R.bind_ok h
            cases h
            obtain ⟨ns, rfl, hn1, hn2⟩ := rowsBytes_some (ofO_ok hl)
            have hrep := rep_rows hdx (ofO_ok hxs)
            generalize ρ x = v at hrep
            cases hrep with
            | slNone f p cap h =>
              have : ns = [] := List.length_eq_zero_iff.1 (by simpa using hn1)
              subst this
              refine ⟨_, ?_, mk_str _⟩
              rw [run_convert_bytes_string w src dst el p 0 cap hus hue hd]
              cases p with
              | none => simp [Conv.bytesToString]; rfl
              | some a => simp [Conv.bytesToString, loadCells, loadCellsFrom]; rfl
            | sl f xs b o k cap u hc hf hk hcell hrec =>
              refine ⟨_, ?_, mk_str _⟩
              rw [run_convert_bytes_string w src dst el _ _ _ hus hue hd]
              have hlc := run_loadCells_list (P := E.P) w ⟨b, o, none⟩ (ns.map (Value.int .u8)) (fun j v hj => by
                rw [List.getElem?_map] at hj
                cases hnj : ns[j]? with
                | none => rw [hnj] at hj; cases hj
                | some n =>
                  rw [hnj] at hj
                  simp only [Option.map_some, Option.some.injEq] at hj
                  subst hj
                  have hxj := hn2 j n hnj
                  have hk1 : k = 1 := by have := hk _ _ hxj; simpa using this.symm
                  have h1 := (hcell j _ 0 (.int .u8 n) hxj (by simp)).2
                  have h2 := hrec j _ 0 (.int .u8 n) hxj (by simp)
                  subst hk1
                  rw [Addr.add_off]
                  rw [Nat.mul_one, Nat.add_zero] at h1
                  rw [h1]
                  generalize u j 0 = q at h2
                  cases h2
                  rfl)
              simp only [List.length_map, hn1] at hlc
              rw [run_bytesToString w _ _ cap ns hlc, push_all]
              rfl
          | _ => cases h
        | _ => cases h
      | _ => cases h
    | _ => cases h0

theorem extract_gives {t : Operand} {i : Nat} {d : D} (h0 : opPure E e (.extract t i) = some (.ok d)) (hop : ∀ d, e t = some d → DRep g w d (ρ t)) :
    Gives E g w (Instr.extract (ρ t) i) d := by
  simp only [opPure, Option.some.injEq] at h0
  obtain ⟨dx, hx, h⟩ := R.bind_ok h0
  have hdx := hop _ (ofO_ok hx)
  cases dx with
  | tup vs =>
    simp only at h
    obtain ⟨us, hu, hr⟩ := rep_tup hdx
    obtain ⟨v, hv, hd⟩ := hr.at i d (ofO_ok h)
    refine ⟨v, ?_, hd⟩
    rw [hu]
    have : (⟨us⟩ : Array Value)[i]? = some v := by simpa using hv
    simp [Instr.extract, this]
  | _ => cases h

theorem len_gives {args : Array Operand} {tys : Array TypeId} {ty : TypeId} {cst : Array Bool} {d : D}
    (h0 : opPure E e (.call { callee := .builtin .len, args := args, argTypes := tys }) = some (.ok d)) (hop : ∀ x ∈ args.toList, ∀ d, e x = some d → DRep g w d (ρ x)) :
    ∃ v, (builtin .len tys ty cst (args.map ρ)).run E.P w = .ok (.value v) w ∧ DRep g w d v := by
  simp only [opPure, Option.some.injEq] at h0
  obtain ⟨args⟩ := args
  obtain ⟨tys⟩ := tys
  simp only at h0 hop
  cases args with
  | nil => cases h0
  | cons x rest => cases rest with
    | cons _ _ => cases h0
    | nil => cases tys with
      | nil => cases h0
      | cons t rest => cases rest with
        | cons _ _ => cases h0
        | nil =>
          simp only at h0
          obtain ⟨u, hu, h⟩ := R.bind_ok h0
          obtain ⟨dx, hx, h⟩ := R.bind_ok h
          have hu := und_ok hu
          have hdx := hop x (by simp) _ (ofO_ok hx)
          cases u with
          | string => cases dx with
            | c c => cases c with
              | str s =>
                cases h
                rw [show (({ toList := [x] } : Array Operand).map ρ) = #[ρ x] from by simp, rep_str hdx]
                exact ⟨_, by simp [builtin, Builtin.len_, run_underlying hu, goInt], mk_int _ _⟩
              | _ => cases h
            | _ => cases h
          | slice el =>
            have key : ∀ xs, CRep g.S w (.sl false xs) (ρ x) → d = .c (.int .i64 xs.length) → ∃ v, (builtin .len (⟨[t]⟩ : Array TypeId) ty cst ((⟨[x]⟩ : Array Operand).map ρ)).run E.P w = .ok (.value v) w ∧ DRep g w d v := by
              intro xs hr hd
              obtain ⟨p, cap, hv, _⟩ := rows_len hr
              subst hd
              rw [show (({ toList := [x] } : Array Operand).map ρ) = #[ρ x] from by simp, hv]
              exact ⟨_, by simp [builtin, Builtin.len_, run_underlying hu, goInt], mk_int _ _⟩
            cases dx with
            | c c => cases c with
              | sl f xs => cases h; exact key xs (rep_rows hdx rfl) rfl
              | _ => cases h
            | own tk xs => cases h; exact key xs (rep_rows hdx rfl) rfl
            | _ => cases h
          | _ => cases h

/-- What an operation without effect comes to. -/
def Fine (E : Env) (base : Nat) (w0 : World) (S0 : Nat → Nat → Prop) (g : Ghost) (δ : Nat → Option Nat) (σ : St) (w : World) (s : Sem Next) (d : D) : Prop :=
  ∃ v g' w', s.run E.P w = .ok (.value v) w' ∧ Le g g' w w' ∧ SRel E base w0 S0 g' δ σ w' ∧ DRep g' w' d v ∧ g'.β = g.β

theorem fine_of (hs : SRel E base w0 S0 g δ σ w) {s : Sem Value} {d : D} (h : Gives E g w s d) : Fine E base w0 S0 g δ σ w (do pure (.value (← s))) d := by
  obtain ⟨v, hv, hd⟩ := h
  exact ⟨v, g, w, by simp [hv], Le.refl _ _, hs, hd, rfl⟩

theorem fine_val (hs : SRel E base w0 S0 g δ σ w) {v : Value} {d : D} (h : DRep g w d v) : Fine E base w0 S0 g δ σ w (pure (.value v)) d :=
  ⟨v, g, w, rfl, Le.refl _ _, hs, h, rfl⟩

theorem opPure_fine (hs : SRel E base w0 S0 g δ σ w) {o : Oper} {d : D} (h : opPure E e o.op = some (.ok d))
    (hop : ∀ x ∈ o.op.operands.toList, ∀ d, e x = some d → DRep g w d (ρ x)) : Fine E base w0 S0 g δ σ w (execOp ρ o) d := by
  obtain ⟨dst, op, ty, pos, after, guard⟩ := o
  simp only at h hop
  cases op with
  | move x =>
    simp only [opPure, Option.some.injEq] at h
    exact fine_val hs (hop x (by simp [Op.operands]) d (ofO_ok h))
  | assign x =>
    simp only [opPure, Option.some.injEq] at h
    exact fine_val hs (hop x (by simp [Op.operands]) d (ofO_ok h))
  | pick c x y =>
    simp only [opPure, Option.some.injEq] at h
    obtain ⟨dc, hc, h⟩ := R.bind_ok h
    have hdc := hop c (by simp [Op.operands]) _ (ofO_ok hc)
    cases dc with
    | c c' => cases c' with
      | bool b =>
        have hb := rep_bool hdc
        cases b with
        | true =>
          have hx := hop x (by simp [Op.operands]) d (ofO_ok h)
          exact ⟨ρ x, g, w, by simp [execOp, hb, asBool], Le.refl _ _, hs, hx, rfl⟩
        | false =>
          have hy := hop y (by simp [Op.operands]) d (ofO_ok h)
          exact ⟨ρ y, g, w, by simp [execOp, hb, asBool], Le.refl _ _, hs, hy, rfl⟩
      | _ => cases h
    | _ => cases h
  | unOp op t x =>
    simp only [opPure, Option.some.injEq] at h
    obtain ⟨dx, hx, h⟩ := R.bind_ok h
    have hdx := hop x (by simp [Op.operands]) _ (ofO_ok hx)
    refine fine_of hs (s := Op.unary op (ρ x)) ?_
    cases op <;> cases dx <;> simp only [un] at h <;> try (cases h; done)
    all_goals (rename_i c; cases c <;> simp only at h <;> try (cases h; done))
    · cases h; rw [rep_int hdx]; exact ⟨_, by simp [Op.unary, Op.intArith], mk_int _ _⟩
    · cases h; rw [rep_bool hdx]; exact ⟨_, by simp [Op.unary], mk_bool _⟩
  | binOp op t x y yt =>
    simp only [opPure, Option.some.injEq] at h
    obtain ⟨dx, hx, h⟩ := R.bind_ok h
    obtain ⟨dy, hy, h⟩ := R.bind_ok h
    obtain ⟨v, hv, hd⟩ := bin_run h (hop x (by simp [Op.operands]) _ (ofO_ok hx)) (hop y (by simp [Op.operands]) _ (ofO_ok hy))
    exact fine_of hs ⟨v, hv w, hd⟩
  | convert src dst x => exact fine_of hs (convert_gives h (hop x (by simp [Op.operands])))
  | extract t i => exact fine_of hs (extract_gives h (hop t (by simp [Op.operands])))
  | nilCheck x =>
    simp only [opPure, Option.some.injEq] at h
    obtain ⟨dx, hx, h⟩ := R.bind_ok h
    have hdx := hop x (by simp [Op.operands]) _ (ofO_ok hx)
    cases dx with
    | c c => cases c with
      | rp xs i off =>
        cases h
        obtain ⟨a, ha⟩ := rep_rp hdx
        exact ⟨ρ x, g, w, by simp [execOp, ha], Le.refl _ _, hs, hdx, rfl⟩
      | _ => cases h
    | ptr b off =>
      cases h
      obtain ⟨k, _, ha⟩ := rep_ptr hdx
      exact ⟨ρ x, g, w, by simp [execOp, ha], Le.refl _ _, hs, hdx, rfl⟩
    | fn f a b =>
      cases h
      obtain ⟨fs, cs, ha, _⟩ := rep_fn hdx
      exact ⟨ρ x, g, w, by simp [execOp, ha], Le.refl _ _, hs, hdx, rfl⟩
    | _ => cases h
  | makeFunc fn first cap =>
    simp only [opPure, Option.some.injEq] at h
    cases fn with
    | func f =>
      simp only at h
      obtain ⟨as, has, h⟩ := R.bind_ok h
      obtain ⟨bs, hbs, h⟩ := R.bind_ok h
      cases h
      have h1 := mapO_rep (ρ := ρ) (ofO_ok has) (fun x hx => hop x (by simp [Op.operands]; exact .inl (by simpa using hx)))
      have h2 := mapO_rep (ρ := ρ) (ofO_ok hbs) (fun x hx => hop x (by simp [Op.operands]; exact .inr (by simpa using hx)))
      refine fine_of hs (s := Instr.makeFunc (.func f) (first.map ρ) (cap.map ρ)) ⟨_, rfl, ?_⟩
      simp only [DRep]
      exact ⟨first.toList.map ρ, cap.toList.map ρ, by congr 1 <;> (apply Array.ext'; simp), h1, h2⟩
    | _ => cases h
  | fieldAddr s x f => exact fine_of hs (fieldAddr_gives h (hop x (by simp [Op.operands])))
  | field s x f => exact fine_of hs (field_gives h (hop x (by simp [Op.operands])))
  | indexAddr t x ix => exact fine_of hs (indexAddr_gives h (hop x (by simp [Op.operands])) (hop ix (by simp [Op.operands])))
  | index t x ix => exact fine_of hs (index_gives h (hop x (by simp [Op.operands])) (hop ix (by simp [Op.operands])))
  | slice t x lo hi mx =>
    cases mx with
    | some m => simp only [opPure, Option.some.injEq] at h; cases h
    | none =>
      refine fine_of hs (slice_gives h (hop x (by simp [Op.operands])) (fun y hy => hop y ?_) (fun y hy => hop y ?_))
      · subst hy; simp [Op.operands]
      · subst hy; simp [Op.operands]
  | build t ps =>
    refine fine_of hs (build_gives h fun p hp => hop p.2 ?_)
    simp only [Op.operands]
    simp only [List.mem_map]
    exact ⟨p, hp, rfl⟩
  | buildSlice t len ps =>
    obtain ⟨v, g', w', h1, h2, h3, h4, h5⟩ := buildSlice_does (ρ := ρ) hs h (fun p hp => hop p.2 (by
      simp only [Op.operands]
      simp only [List.mem_map]
      exact ⟨p, hp, rfl⟩))
    exact ⟨v, g', w', by simp only [execOp, Sem.run_bind, h1, Result.andThen_ok, Sem.run_pure], h2, h3, h4, h5⟩
  | load t x =>
    cases hx : e x with
    | none => simp only [opPure, hx] at h; cases h
    | some dx =>
      have hdx := hop x (by simp [Op.operands]) dx hx
      cases dx with
      | c c => cases c with
        | rp xs i off => exact fine_of hs (load_rp_gives hx h hdx)
        | _ => simp only [opPure, hx] at h; cases h
      | _ => simp only [opPure, hx] at h; cases h
  | call c =>
    obtain ⟨callee, args, tys⟩ := c
    cases callee with
    | builtin b => cases b with
      | len =>
        obtain ⟨v, hv, hd⟩ := len_gives (ρ := ρ) (ty := ty) (cst := args.map fun | .const _ => true | _ => false) h (fun x hx => hop x (by simpa [Op.operands, Call.operands] using hx))
        refine ⟨v, g, w, ?_, Le.refl _ _, hs, hd, rfl⟩
        simp only [execOp, resolve, Sem.run_bind, Sem.run_pure, Result.andThen_ok, invoke]
        exact hv
      | _ => simp only [opPure] at h; cases h
    | _ => simp only [opPure] at h; cases h
  | _ => simp only [opPure] at h; cases h

end

end Go.Vm
