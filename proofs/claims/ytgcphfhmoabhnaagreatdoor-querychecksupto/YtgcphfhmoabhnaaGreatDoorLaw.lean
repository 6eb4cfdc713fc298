/- The plain law: the two sides say the same of each query whose expressions are small; no condition. -/
import Derived.Test.YtgcphfhmoabhnaaGreatDoorG3
import Derived.Test.YtgcphfhmoabhnaaGreatDoorG4
set_option linter.unusedVariables false
namespace Go.Vm
open Go.Proofs
theorem m96_l2_on (e : Exr) (j : Nat) (x : List Int) : ∀ (rem i : Nat), ∃ k, m96_l2 e j x rem i = .on k
  | 0, i => ⟨i, by rw [m96_l2]⟩
  | rem + 1, i => by
    rw [m96_l2]
    cases decide ((x.getD i default : Int) < (Exr.cols e).getD j default) with
    | true => exact m96_l2_on e j x rem (i + 1)
    | false => exact ⟨i, rfl⟩
theorem m96_l3_on (e : Exr) (j : Nat) (x : List Int) (k : Nat) (v : Bool) : ∀ (rem i : Nat) (y : List Int), ∃ z, m96_l3 e j x k v rem i y = .on z
  | 0, i, y => ⟨y, by rw [m96_l3]⟩
  | rem + 1, i, y => by rw [m96_l3]; exact m96_l3_on e j x k false rem (i + 1) _
theorem m96_l4_on (e : Exr) (j : Nat) (x : List Int) (k : Nat) (v : Bool) (u : List Int) : ∀ (rem i : Nat) (y : List Int), ∃ z, m96_l4 e j x k v u rem i y = .on z ∧ y.length ≤ z.length
  | 0, i, y => ⟨y, by rw [m96_l4], Nat.le_refl _⟩
  | rem + 1, i, y => by
    rw [m96_l4]
    obtain ⟨z, h1, h2⟩ := m96_l4_on e j x k false u rem (i + 1) (y ++ [x.getD i default])
    rw [List.length_append] at h2
    exact ⟨z, h1, by omega⟩
theorem m96_1_on (e : Exr) (j : Nat) (x : List Int) : ∃ v, m96_1 e j x = .on v ∧ 0 < v.length := by
  obtain ⟨k, h2⟩ := m96_l2_on e j x x.length 0
  unfold m96_1
  rw [h2]
  simp only [m96_2]
  obtain ⟨y, h3⟩ := m96_l3_on e j x k false k 0 []
  obtain ⟨z, h4, h5⟩ := m96_l4_on e j x k false y (x.length - k) k (y ++ [(Exr.cols e).getD j default])
  rw [List.length_append, List.length_singleton] at h5
  have fin : ∃ v, (match m96_l3 e j x k false k 0 [] with | .out r => (.out r : Lo (List Int) (List Int)) | .on yl3_a2 => (match m96_l4 e j x k false yl3_a2 (x.length - k) k (yl3_a2 ++ ([((Exr.cols e).getD j default)])) with | .out r => .out r | .on yl4_a2 => .on yl4_a2)) = .on v ∧ 0 < v.length := by
    rw [h3]
    simp only
    rw [h4]
    exact ⟨z, rfl, by omega⟩
  cases h : decide ((((k : Nat) : Int) : Int) < ((x.length : Nat) : Int)) with
  | false => exact fin
  | true =>
    have h := of_decide_eq_true h
    cases ((x.getD k default : Int) == (Exr.cols e).getD j default) with
    | true => exact ⟨x, rfl, by omega⟩
    | false => exact fin
theorem m96_l1_on (e : Exr) : ∀ (rem i : Nat) (x : List Int), ∃ v, m96_l1 e rem i x = .on v ∧ (v.length = 0 ↔ rem = 0 ∧ x.length = 0)
  | 0, i, x => ⟨x, by rw [m96_l1], by omega⟩
  | rem + 1, i, x => by
    obtain ⟨v, h1, h2⟩ := m96_1_on e i x
    obtain ⟨u, h3, h4⟩ := m96_l1_on e rem (i + 1) v
    rw [m96_l1, h1]
    exact ⟨u, h3, by omega⟩
theorem m43_96 (e : Exr) : decide (((((m43 e).length : Nat) : Int) : Int) > 0) = decide (((((m96 e).length : Nat) : Int) : Int) > 0) := by
  have h1 : (m43 e).length = 0 ↔ (Exr.cols e).length = 0 := Exr.colset_cols e
  obtain ⟨v, h2, h3⟩ := m96_l1_on e (Exr.cols e).length 0 []
  have h4 : m96 e = v := by unfold m96; rw [h2]
  rw [h4, Bool.eq_iff_iff, decide_eq_true_eq, decide_eq_true_eq]
  simp only [List.length_nil, and_true] at h3
  omega
end Go.Vm
namespace Go.Vm
open Go.Proofs
theorem m36_91 (c : Int) : m36 c = m91 c := by
  simp only [m36, m91, Bool.cond_eq_ite, beq_iff_eq, decide_eq_true_eq]
  repeat' split
  all_goals first | rfl | (simp; omega) | (rw [Bool.eq_iff_iff]; simp; omega)
theorem m38_94 (c : Int) : m38 c = m94 c := rfl
theorem m15_1_55 (s : ByteArray) (i : Nat) : m15_1 s i = m55_1 s i := by
  simp only [m15_1, m55_1, m36_91, m38_94]
theorem m15_l1_55 (s : ByteArray) : ∀ (rem i : Nat), m15_l1 s rem i = m55_l1 s rem i
  | 0, i => by rw [m15_l1, m55_l1]
  | rem + 1, i => by rw [m15_l1, m55_l1, m15_1_55, m15_l1_55 s rem (i + 1)]
def nameByte (c : Int) : Bool := m36 c || m38 c
theorem m15_l1_on (s : ByteArray) : ∀ (rem i : Nat), (∃ u, m15_l1 s rem i = .on u) ↔ ∀ j, i ≤ j → j < i + rem → nameByte (byteAt s j) = true
  | 0, i => by rw [m15_l1]; exact ⟨fun _ j h1 h2 => by omega, fun _ => ⟨_, rfl⟩⟩
  | rem + 1, i => by
    rw [m15_l1]
    have ih := m15_l1_on s rem (i + 1)
    have e : m15_1 s i = .on (!(nameByte (byteAt s i))) := by
      simp only [m15_1, nameByte]
      cases m36 (byteAt s i) <;> rfl
    rw [e]
    simp only
    cases q : nameByte (byteAt s i) with
    | true =>
      simp only [Bool.not_true, cond_false]
      rw [ih]
      exact ⟨fun h j h1 h2 => by
        by_cases hj : j = i
        · subst hj; exact q
        · exact h j (by omega) (by omega), fun h j h1 h2 => h j (by omega) (by omega)⟩
    | false =>
      simp only [Bool.not_false, cond_true]
      refine ⟨fun ⟨u, hu⟩ => (by cases hu), fun h => ?_⟩
      have := h i (by omega) (by omega)
      rw [q] at this; cases this
theorem m92_l1_law (l : List ByteArray) (s : ByteArray) : ∀ (rem i : Nat), i + rem = l.length → (match m92_l1 l s rem i with | .out r => r | .on _ => false) = decide (∃ x ∈ l.drop i, x.toList = s.toList)
  | 0, i, h => by
    rw [m92_l1, List.drop_eq_nil_of_le (by omega)]
    simp
  | rem + 1, i, h => by
    have hi : i < l.length := by omega
    rw [m92_l1, List.drop_eq_getElem_cons hi]
    have e : l.getD i default = l[i] := by rw [List.getD, List.getElem?_eq_getElem hi]; rfl
    rw [e]
    cases q : (ByteArray.toList l[i] == ByteArray.toList s) with
    | true =>
      have := eq_of_beq q
      simp only [cond_true]
      symm
      rw [decide_eq_true_eq]
      exact ⟨l[i], List.mem_cons_self, this⟩
    | false =>
      have hne : ByteArray.toList l[i] ≠ ByteArray.toList s := by simpa using q
      simp only [cond_false]
      rw [m92_l1_law l s rem (i + 1) (by omega), Bool.eq_iff_iff, decide_eq_true_eq, decide_eq_true_eq]
      constructor
      · rintro ⟨x, hx, e⟩; exact ⟨x, List.mem_cons_of_mem _ hx, e⟩
      · rintro ⟨x, hx, e⟩
        rcases List.mem_cons.1 hx with rfl | hx
        · exact absurd e hne
        · exact ⟨x, hx, e⟩
theorem m92_law (l : List ByteArray) (s : ByteArray) : m92 l s = decide (∃ x ∈ l, x.toList = s.toList) := by
  have := m92_l1_law l s l.length 0 (by omega)
  rw [List.drop_zero] at this
  exact this
def joinS : List (List UInt8) → List UInt8
  | [] => [32]
  | w :: ws => 32 :: (w ++ joinS ws)
theorem joinS_head : ∀ ws, ∃ r, joinS ws = 32 :: r
  | [] => ⟨[], rfl⟩
  | _ :: _ => ⟨_, rfl⟩
theorem index_pass (sub : List UInt8) (hs : ∃ r, sub = 32 :: r) : ∀ (w rest : List UInt8), (∀ b ∈ w, b ≠ 32) → (0 ≤ Lib.index (w ++ rest) sub ↔ 0 ≤ Lib.index rest sub)
  | [], rest, _ => Iff.rfl
  | b :: w, rest, h => by
    obtain ⟨r, rfl⟩ := hs
    have hb : b ≠ 32 := h b (by simp)
    have hp : (32 :: r).isPrefixOf (b :: (w ++ rest)) = false := by
      simp only [List.isPrefixOf]
      have : ((32 : UInt8) == b) = false := by simpa using fun e => hb e.symm
      rw [this]; rfl
    rw [List.cons_append, Lib.index, hp, ← index_pass (32 :: r) ⟨r, rfl⟩ w rest (fun x hx => h x (by simp [hx]))]
    have hg := Lib.index_ge (w ++ rest) (32 :: r)
    simp only [Bool.false_eq_true, if_false, beq_iff_eq]
    split <;> omega
theorem prefix_word : ∀ (t w r r' : List UInt8), (∀ b ∈ t, b ≠ 32) → (∀ b ∈ w, b ≠ 32) → ((t ++ 32 :: r).isPrefixOf (w ++ 32 :: r') = true → t = w)
  | [], [], r, r', _, _, _ => rfl
  | [], b :: w, r, r', _, h2, h => by
    simp only [List.nil_append, List.cons_append, List.isPrefixOf, Bool.and_eq_true, beq_iff_eq] at h
    exact absurd h.1.symm (h2 b (by simp))
  | a :: t, [], r, r', h1, _, h => by
    simp only [List.nil_append, List.cons_append, List.isPrefixOf, Bool.and_eq_true, beq_iff_eq] at h
    exact absurd h.1 (h1 a (by simp))
  | a :: t, b :: w, r, r', h1, h2, h => by
    simp only [List.cons_append, List.isPrefixOf, Bool.and_eq_true, beq_iff_eq] at h
    rw [h.1, prefix_word t w r r' (fun x hx => h1 x (by simp [hx])) (fun x hx => h2 x (by simp [hx])) h.2]
theorem prefix_self : ∀ (t r : List UInt8), (t ++ [32]).isPrefixOf (t ++ 32 :: r) = true
  | [], r => by simp [List.isPrefixOf]
  | a :: t, r => by
    have := prefix_self t r
    simp only [List.cons_append, List.isPrefixOf, beq_self_eq_true, Bool.true_and]
    exact this
theorem contains_words : ∀ (ws : List (List UInt8)) (t : List UInt8), (∀ w ∈ ws, ∀ b ∈ w, b ≠ 32) → (∀ b ∈ t, b ≠ 32) → (0 ≤ Lib.index (joinS ws) (32 :: (t ++ [32])) ↔ t ∈ ws)
  | [], t, _, ht => by
    have h1 : (32 :: (t ++ [32])).isPrefixOf [(32 : UInt8)] = false := by
      cases t <;> simp [List.isPrefixOf]
    rw [joinS, Lib.index, h1]
    simp only [Bool.false_eq_true, if_false, Lib.index, List.isEmpty_cons]
    simp
  | w :: ws, t, hw, ht => by
    obtain ⟨r, hr⟩ := joinS_head ws
    have ih := contains_words ws t (fun x hx => hw x (by simp [hx])) ht
    have hpass := index_pass (32 :: (t ++ [32])) ⟨_, rfl⟩ w (joinS ws) (hw w (by simp))
    rw [joinS, Lib.index]
    have hg := Lib.index_ge (w ++ joinS ws) (32 :: (t ++ [32]))
    cases hp : (32 :: (t ++ [32])).isPrefixOf (32 :: (w ++ joinS ws)) with
    | true =>
      simp only [if_true]
      simp only [List.isPrefixOf, beq_self_eq_true, Bool.true_and] at hp
      rw [hr] at hp
      have := prefix_word t w [] r ht (hw w (by simp)) hp
      exact ⟨fun _ => by rw [this]; simp, fun _ => by omega⟩
    | false =>
      simp only [Bool.false_eq_true, if_false, beq_iff_eq]
      have hne : t ≠ w := by
        rintro rfl
        simp only [List.isPrefixOf, beq_self_eq_true, Bool.true_and] at hp
        rw [hr, prefix_self] at hp
        cases hp
      rw [List.mem_cons]
      constructor
      · intro h
        refine .inr (ih.1 (hpass.1 ?_))
        split at h <;> omega
      · rintro (h | h)
        · exact absurd h hne
        · have := hpass.2 (ih.2 h)
          split <;> omega
theorem words_join : wordsB.data.toList = joinS (m93.map fun s => s.data.toList) := by kernel_rfl
theorem words_plain : ((m93.map fun s => s.data.toList).all fun w => w.all fun b => !(b == 32)) = true := by kernel_rfl
theorem word_in (s : ByteArray) (h : ∀ b ∈ s.data.toList, b ≠ 32) : m37 s = m92 m93 s := by
  have e : ((⟨#[32]⟩ ++ s) ++ ⟨#[32]⟩ : ByteArray).data.toList = 32 :: (s.data.toList ++ [32]) := by
    simp [ByteArray.data_append]
  rw [m37, m92_law, Lib.contains, words_join, e]
  have hw : ∀ w ∈ (m93.map fun s => s.data.toList), ∀ b ∈ w, b ≠ 32 := by
    intro w hw b hb
    have := List.all_eq_true.1 (List.all_eq_true.1 words_plain w hw) b hb
    simpa using this
  have := contains_words _ s.data.toList hw h
  rw [Bool.eq_iff_iff, decide_eq_true_eq, decide_eq_true_eq, this, List.mem_map]
  have tl : ∀ x : ByteArray, x.toList = x.data.toList := fun x => by cases x; exact ByteArray.toList_mk ..
  constructor
  · rintro ⟨x, hx, e⟩; exact ⟨x, hx, by rw [tl, tl, e]⟩
  · rintro ⟨x, hx, e⟩; exact ⟨x, hx, by rw [tl, tl] at e; exact e⟩
theorem name_same (s : ByteArray) : m15 s = m55 s := by
  have tl : ∀ x : ByteArray, x.toList = x.data.toList := fun x => by cases x; exact ByteArray.toList_mk ..
  have e0 : (ByteArray.toList s == ByteArray.toList (⟨#[]⟩)) = decide ((((s.size : Nat) : Int) : Int) < 1) := by
    rw [tl, tl, Bool.eq_iff_iff, decide_eq_true_eq, beq_iff_eq]
    have : s.data.toList.length = s.size := by rw [Array.length_toList]; rfl
    constructor
    · intro h; rw [h] at this; simp at this; omega
    · intro h; exact List.length_eq_zero_iff.1 (by omega)
  unfold m15 m55
  rw [e0, m36_91, m15_l1_55]
  cases decide ((((s.size : Nat) : Int) : Int) < 1) with
  | true => rfl
  | false =>
    cases decide ((((s.size : Nat) : Int) : Int) > 63) with
    | true => rfl
    | false =>
      cases (!(m91 (byteAt s 0))) with
      | true => rfl
      | false =>
        simp only [cond_false]
        by_cases hs : ∀ b ∈ s.data.toList, b ≠ 32
        · rw [word_in s hs]
        · -- a letter is no name's: both say no at last
          have hl : ∃ r, m55_l1 s s.size 0 = .out r ∧ r = false := by
            rw [← m15_l1_55]
            have hn : ¬ ∃ u, m15_l1 s s.size 0 = .on u := by
              rw [m15_l1_on]
              intro h
              apply hs
              intro b hb
              obtain ⟨j, hj, rfl⟩ := List.mem_iff_getElem.1 hb
              have hsz : s.data.toList.length = s.size := by rw [Array.length_toList]; rfl
              have := h j (by omega) (by omega)
              rintro e32
              have eb : byteAt s j = 32 := by
                unfold byteAt
                rw [List.getD, List.getElem?_eq_getElem hj, Option.getD_some, e32]; rfl
              rw [eb] at this
              revert this; decide
            have hf : ∀ (rem i : Nat) (r : Bool), m15_l1 s rem i = .out r → r = false := by
              intro rem
              induction rem with
              | zero => intro i r h; rw [m15_l1] at h; cases h
              | succ rem ih =>
                intro i r h
                rw [m15_l1] at h
                have e : m15_1 s i = .on (!(nameByte (byteAt s i))) := by
                  simp only [m15_1, nameByte]
                  cases m36 (byteAt s i) <;> rfl
                rw [e] at h
                simp only at h
                cases q : (!(nameByte (byteAt s i))) with
                | true => rw [q] at h; simp only [cond_true, Lo.out.injEq] at h; exact h.symm
                | false => rw [q] at h; exact ih _ _ h
            cases q : m15_l1 s s.size 0 with
            | on u => exact absurd ⟨u, q⟩ hn
            | out r => exact ⟨r, rfl, hf _ _ _ q⟩
          obtain ⟨r, h1, rfl⟩ := hl
          rw [h1]
          cases m37 s <;> cases m92 m93 s <;> rfl
end Go.Vm
namespace Go.Vm
open Go.Proofs
theorem m73_141 (v : Val) : m73 v = m141 v := by
  obtain ⟨k, n, f, s⟩ := v
  simp only [m73, m73_1, m73_2, m73_3, m73_4, m73_5, m73_6, m73_7, m141, m141_1, m141_2, m141_3, m141_4]
  by_cases h0 : k < 0
  · simp [h0]; cases (k == 4) <;> rfl
  · by_cases h5 : k > 5
    · simp [h0, h5]; cases (k == 4) <;> rfl
    · have hk : k = 0 ∨ k = 1 ∨ k = 2 ∨ k = 3 ∨ k = 4 ∨ k = 5 := by omega
      clear h0 h5
      generalize (ByteArray.toList s == ByteArray.toList (⟨#[]⟩)) = bs
      generalize Lib.validD s.data.toList = bv
      generalize decide ((((s.size : Nat) : Int) : Int) > 65536) = bz
      generalize ((n : Int) != 0) = b0
      generalize ((n : Int) != 1) = b1
      generalize (((f : Int) : Int) != 0) = bf
      rcases hk with rfl | rfl | rfl | rfl | rfl | rfl <;> cases bs <;> cases bv <;> cases bz <;> cases b0 <;> cases b1 <;> cases bf <;> rfl
theorem m128_l1_any {l : List Col} {p : Col → Bool} : ∀ (rem i : Nat), i + rem = l.length → match m128_l1 l p rem i with
      | .out r => 0 ≤ r ∧ (l.drop i).any p = true
      | .on _ => (l.drop i).any p = false
  | 0, i, h => by rw [m128_l1, List.drop_eq_nil_of_le (by omega)]; rfl
  | rem + 1, i, h => by
    have hi : i < l.length := by omega
    rw [m128_l1, List.drop_eq_getElem_cons hi, List.any_cons]
    have e : l.getD i default = l[i] := by rw [List.getD, List.getElem?_eq_getElem hi]; rfl
    rw [e]
    cases q : p l[i] with
    | true => exact ⟨by omega, rfl⟩
    | false =>
      have ih := m128_l1_any (l := l) (p := p) rem (i + 1) (by omega)
      simp only [cond_false, Bool.false_or]
      generalize m128_l1 l p rem (i + 1) = z at ih ⊢
      cases z with
      | out r => exact ih
      | on v => exact ih
theorem m71_any (l : List Col) (p : Col → Bool) : m71 l p = l.any p := by
  have h := m128_l1_any (l := l) (p := p) l.length 0 (by omega)
  rw [List.drop_zero] at h
  unfold m71 m128
  generalize m128_l1 l p l.length 0 = z at h ⊢
  cases z with
  | out r => rw [h.2]; exact decide_eq_true h.1
  | on v => rw [h]; rfl
theorem m86_l2_ahead {t : Tbl} {l : List Col} (hl : l = t.columns) {i1 : Nat} (h1 : i1 ≤ l.length) : ∀ (rem i : Nat), i + rem = i1 → match m86_l2 t i1 rem i with
      | .out r => r = 31 ∧ ((l.take i1).drop i).any (fun x => (ByteArray.toList x.name == ByteArray.toList (t.columns.getD i1 default).name)) = true
      | .on _ => ((l.take i1).drop i).any (fun x => (ByteArray.toList x.name == ByteArray.toList (t.columns.getD i1 default).name)) = false
  | 0, i, h => by rw [m86_l2, List.drop_eq_nil_of_le (by rw [List.length_take]; omega)]; rfl
  | rem + 1, i, h => by
    have hi : i < (l.take i1).length := by rw [List.length_take]; omega
    have hi2 : i < l.length := by omega
    rw [m86_l2, List.drop_eq_getElem_cons hi, List.any_cons]
    have e : (t.columns).getD i default = (l.take i1)[i] := by rw [← hl, List.getElem_take, List.getD, List.getElem?_eq_getElem hi2]; rfl
    rw [e]
    have ih := m86_l2_ahead (hl := hl) (h1 := h1) rem (i + 1) (by omega)
    generalize (l.take i1)[i] = x at e ⊢
    cases q : (ByteArray.toList x.name == ByteArray.toList (t.columns.getD i1 default).name) with
    | true => exact ⟨rfl, rfl⟩
    | false =>
      simp only [cond_false, Bool.false_or]
      generalize m86_l2 t i1 rem (i + 1) = z at ih ⊢
      cases z with
      | out r => exact ih
      | on v => exact ih
theorem m30_1_86 (t : Tbl) (i : Nat) : m30_1 t i = m86_1 t i := by
  simp only [m30_1, m30_2, m86_1, m73_141, Bool.cond_eq_ite]
  generalize (t.columns.getD i default).kind = a
  generalize (t.columns.getD i default).dflt.kind = b
  generalize m141 (t.columns.getD i default).dflt = c
  by_cases h1 : a < 1 <;> by_cases h2 : a > 5 <;> by_cases h3 : c = 0 <;> by_cases h4 : b = 0 <;> by_cases h5 : b = a <;> (try simp [h1, h2, h3, h4, h5]) <;> (try rw [bne_iff_ne.2 h4, bne_iff_ne.2 h5])
theorem m30_l1_86 (t : Tbl) : ∀ (rem i : Nat), i + rem = t.columns.length → m30_l1 t rem i = m86_l1 t rem i
  | 0, i, _ => by rw [m30_l1, m86_l1]
  | rem + 1, i, h => by
    rw [m30_l1, m86_l1, name_same, m71_any, m30_1_86, m30_l1_86 t rem (i + 1) (by omega)]
    have ha := m86_l2_ahead (t := t) rfl (i1 := i) (by omega) i 0 (by omega)
    rw [List.drop_zero] at ha
    cases (!(m55 (t.columns.getD i default).name)) with
    | true => rfl
    | false =>
      simp only [cond_false]
      rw [show (fun x => m72 x (t.columns.getD i default)) = fun x => (ByteArray.toList x.name == ByteArray.toList (t.columns.getD i default).name) from rfl]
      generalize m86_l2 t i i 0 = z at ha ⊢
      cases z with
      | out r => rw [ha.2, ha.1]; rfl
      | on v => rw [ha]; rfl
theorem m30_86 (t : Tbl) : m30 t = m86 t := by
  unfold m30 m86
  rw [m30_l1_86 t _ _ (by omega)]
  first | done | rfl
end Go.Vm
namespace Go.Vm
open Go.Proofs
theorem m85_l1_any {l : List Int} {v : Int} : ∀ (rem i : Nat), i + rem = l.length → match m85_l1 l v rem i with
      | .out r => 0 ≤ r ∧ (l.drop i).any (fun x => v == x) = true
      | .on _ => (l.drop i).any (fun x => v == x) = false
  | 0, i, h => by rw [m85_l1, List.drop_eq_nil_of_le (by omega)]; rfl
  | rem + 1, i, h => by
    have hi : i < l.length := by omega
    rw [m85_l1, List.drop_eq_getElem_cons hi, List.any_cons]
    have e : l.getD i default = l[i] := by rw [List.getD, List.getElem?_eq_getElem hi]; rfl
    rw [e]
    have ih := m85_l1_any (l := l) (v := v) rem (i + 1) (by omega)
    generalize l[i] = x at e ⊢
    cases qz : v == x with
    | true => exact ⟨by omega, rfl⟩
    | false =>
      simp only [cond_false, Bool.false_or]
      generalize m85_l1 l v rem (i + 1) = z at ih ⊢
      cases z with
      | out r => exact ih
      | on v => exact ih
theorem m52_any (l : List Int) (v : Int) : m52 l v = l.any (fun x => v == x) := by
  have h := m85_l1_any (l := l) (v := v) l.length 0 (by omega)
  rw [List.drop_zero] at h
  unfold m52 m85
  generalize m85_l1 l v l.length 0 = z at h ⊢
  cases z with
  | out r => rw [h.2]; exact decide_eq_true h.1
  | on v => rw [h]; rfl
theorem m74_l1_any {l : List Int} {p : Int → Bool} : ∀ (rem i : Nat), i + rem = l.length → match m74_l1 l p rem i with
      | .out r => 0 ≤ r ∧ (l.drop i).any (fun x => p x) = true
      | .on _ => (l.drop i).any (fun x => p x) = false
  | 0, i, h => by rw [m74_l1, List.drop_eq_nil_of_le (by omega)]; rfl
  | rem + 1, i, h => by
    have hi : i < l.length := by omega
    rw [m74_l1, List.drop_eq_getElem_cons hi, List.any_cons]
    have e : l.getD i default = l[i] := by rw [List.getD, List.getElem?_eq_getElem hi]; rfl
    rw [e]
    have ih := m74_l1_any (l := l) (p := p) rem (i + 1) (by omega)
    generalize l[i] = x at e ⊢
    cases qz : p x with
    | true => exact ⟨by omega, rfl⟩
    | false =>
      simp only [cond_false, Bool.false_or]
      generalize m74_l1 l p rem (i + 1) = z at ih ⊢
      cases z with
      | out r => exact ih
      | on v => exact ih
theorem m32_any (l : List Int) (p : Int → Bool) : m32 l p = l.any (fun x => p x) := by
  have h := m74_l1_any (l := l) (p := p) l.length 0 (by omega)
  rw [List.drop_zero] at h
  unfold m32 m74
  generalize m74_l1 l p l.length 0 = z at h ⊢
  cases z with
  | out r => rw [h.2]; exact decide_eq_true h.1
  | on v => rw [h]; rfl
theorem m75_l1_any {l : List Idx} {p : Idx → Bool} : ∀ (rem i : Nat), i + rem = l.length → match m75_l1 l p rem i with
      | .out r => 0 ≤ r ∧ (l.drop i).any (fun x => p x) = true
      | .on _ => (l.drop i).any (fun x => p x) = false
  | 0, i, h => by rw [m75_l1, List.drop_eq_nil_of_le (by omega)]; rfl
  | rem + 1, i, h => by
    have hi : i < l.length := by omega
    rw [m75_l1, List.drop_eq_getElem_cons hi, List.any_cons]
    have e : l.getD i default = l[i] := by rw [List.getD, List.getElem?_eq_getElem hi]; rfl
    rw [e]
    have ih := m75_l1_any (l := l) (p := p) rem (i + 1) (by omega)
    generalize l[i] = x at e ⊢
    cases qz : p x with
    | true => exact ⟨by omega, rfl⟩
    | false =>
      simp only [cond_false, Bool.false_or]
      generalize m75_l1 l p rem (i + 1) = z at ih ⊢
      cases z with
      | out r => exact ih
      | on v => exact ih
theorem m34_any (l : List Idx) (p : Idx → Bool) : m34 l p = l.any (fun x => p x) := by
  have h := m75_l1_any (l := l) (p := p) l.length 0 (by omega)
  rw [List.drop_zero] at h
  unfold m34 m75
  generalize m75_l1 l p l.length 0 = z at h ⊢
  cases z with
  | out r => rw [h.2]; exact decide_eq_true h.1
  | on v => rw [h]; rfl
theorem m80_l1_any {l : List Sst} {p : Sst → Bool} : ∀ (rem i : Nat), i + rem = l.length → match m80_l1 l p rem i with
      | .out r => 0 ≤ r ∧ (l.drop i).any (fun x => p x) = true
      | .on _ => (l.drop i).any (fun x => p x) = false
  | 0, i, h => by rw [m80_l1, List.drop_eq_nil_of_le (by omega)]; rfl
  | rem + 1, i, h => by
    have hi : i < l.length := by omega
    rw [m80_l1, List.drop_eq_getElem_cons hi, List.any_cons]
    have e : l.getD i default = l[i] := by rw [List.getD, List.getElem?_eq_getElem hi]; rfl
    rw [e]
    have ih := m80_l1_any (l := l) (p := p) rem (i + 1) (by omega)
    generalize l[i] = x at e ⊢
    cases qz : p x with
    | true => exact ⟨by omega, rfl⟩
    | false =>
      simp only [cond_false, Bool.false_or]
      generalize m80_l1 l p rem (i + 1) = z at ih ⊢
      cases z with
      | out r => exact ih
      | on v => exact ih
theorem m45_any (l : List Sst) (p : Sst → Bool) : m45 l p = l.any (fun x => p x) := by
  have h := m80_l1_any (l := l) (p := p) l.length 0 (by omega)
  rw [List.drop_zero] at h
  unfold m45 m80
  generalize m80_l1 l p l.length 0 = z at h ⊢
  cases z with
  | out r => rw [h.2]; exact decide_eq_true h.1
  | on v => rw [h]; rfl
theorem m140_l1_any {l : List Itm} {p : Itm → Bool} : ∀ (rem i : Nat), i + rem = l.length → match m140_l1 l p rem i with
      | .out r => 0 ≤ r ∧ (l.drop i).any (fun x => p x) = true
      | .on _ => (l.drop i).any (fun x => p x) = false
  | 0, i, h => by rw [m140_l1, List.drop_eq_nil_of_le (by omega)]; rfl
  | rem + 1, i, h => by
    have hi : i < l.length := by omega
    rw [m140_l1, List.drop_eq_getElem_cons hi, List.any_cons]
    have e : l.getD i default = l[i] := by rw [List.getD, List.getElem?_eq_getElem hi]; rfl
    rw [e]
    have ih := m140_l1_any (l := l) (p := p) rem (i + 1) (by omega)
    generalize l[i] = x at e ⊢
    cases qz : p x with
    | true => exact ⟨by omega, rfl⟩
    | false =>
      simp only [cond_false, Bool.false_or]
      generalize m140_l1 l p rem (i + 1) = z at ih ⊢
      cases z with
      | out r => exact ih
      | on v => exact ih
theorem m83_any (l : List Itm) (p : Itm → Bool) : m83 l p = l.any (fun x => p x) := by
  have h := m140_l1_any (l := l) (p := p) l.length 0 (by omega)
  rw [List.drop_zero] at h
  unfold m83 m140
  generalize m140_l1 l p l.length 0 = z at h ⊢
  cases z with
  | out r => rw [h.2]; exact decide_eq_true h.1
  | on v => rw [h]; rfl
theorem m77_l1_any {l : List (List Exr)} {p : List Exr → Bool} : ∀ (rem i : Nat), i + rem = l.length → match m77_l1 l p rem i with
      | .out r => 0 ≤ r ∧ (l.drop i).any (fun x => p x) = true
      | .on _ => (l.drop i).any (fun x => p x) = false
  | 0, i, h => by rw [m77_l1, List.drop_eq_nil_of_le (by omega)]; rfl
  | rem + 1, i, h => by
    have hi : i < l.length := by omega
    rw [m77_l1, List.drop_eq_getElem_cons hi, List.any_cons]
    have e : l.getD i default = l[i] := by rw [List.getD, List.getElem?_eq_getElem hi]; rfl
    rw [e]
    have ih := m77_l1_any (l := l) (p := p) rem (i + 1) (by omega)
    generalize l[i] = x at e ⊢
    cases qz : p x with
    | true => exact ⟨by omega, rfl⟩
    | false =>
      simp only [cond_false, Bool.false_or]
      generalize m77_l1 l p rem (i + 1) = z at ih ⊢
      cases z with
      | out r => exact ih
      | on v => exact ih
theorem m41_any (l : List (List Exr)) (p : List Exr → Bool) : m41 l p = l.any (fun x => p x) := by
  have h := m77_l1_any (l := l) (p := p) l.length 0 (by omega)
  rw [List.drop_zero] at h
  unfold m41 m77
  generalize m77_l1 l p l.length 0 = z at h ⊢
  cases z with
  | out r => rw [h.2]; exact decide_eq_true h.1
  | on v => rw [h]; rfl
theorem m155_l1_any {l : List ByteArray} {v : ByteArray} : ∀ (rem i : Nat), i + rem = l.length → match m155_l1 l v rem i with
      | .out r => 0 ≤ r ∧ (l.drop i).any (fun x => ByteArray.toList v == ByteArray.toList x) = true
      | .on _ => (l.drop i).any (fun x => ByteArray.toList v == ByteArray.toList x) = false
  | 0, i, h => by rw [m155_l1, List.drop_eq_nil_of_le (by omega)]; rfl
  | rem + 1, i, h => by
    have hi : i < l.length := by omega
    rw [m155_l1, List.drop_eq_getElem_cons hi, List.any_cons]
    have e : l.getD i default = l[i] := by rw [List.getD, List.getElem?_eq_getElem hi]; rfl
    rw [e]
    have ih := m155_l1_any (l := l) (v := v) rem (i + 1) (by omega)
    generalize l[i] = x at e ⊢
    cases qz : ByteArray.toList v == ByteArray.toList x with
    | true => exact ⟨by omega, rfl⟩
    | false =>
      simp only [cond_false, Bool.false_or]
      generalize m155_l1 l v rem (i + 1) = z at ih ⊢
      cases z with
      | out r => exact ih
      | on v => exact ih
theorem m134_any (l : List ByteArray) (v : ByteArray) : m134 l v = l.any (fun x => ByteArray.toList v == ByteArray.toList x) := by
  have h := m155_l1_any (l := l) (v := v) l.length 0 (by omega)
  rw [List.drop_zero] at h
  unfold m134 m155
  generalize m155_l1 l v l.length 0 = z at h ⊢
  cases z with
  | out r => rw [h.2]; exact decide_eq_true h.1
  | on v => rw [h]; rfl
theorem m101_l1_any {l : List Int} {v : Int} : ∀ (rem i : Nat), i + rem = l.length → match m101_l1 l v rem i with
      | .out r => r = true ∧ (l.drop i).any (fun x => x == v) = true
      | .on _ => (l.drop i).any (fun x => x == v) = false
  | 0, i, h => by rw [m101_l1, List.drop_eq_nil_of_le (by omega)]; rfl
  | rem + 1, i, h => by
    have hi : i < l.length := by omega
    rw [m101_l1, List.drop_eq_getElem_cons hi, List.any_cons]
    have e : l.getD i default = l[i] := by rw [List.getD, List.getElem?_eq_getElem hi]; rfl
    rw [e]
    have ih := m101_l1_any (l := l) (v := v) rem (i + 1) (by omega)
    generalize l[i] = x at e ⊢
    cases qz : x == v with
    | true => exact ⟨rfl, rfl⟩
    | false =>
      simp only [cond_false, Bool.false_or]
      generalize m101_l1 l v rem (i + 1) = z at ih ⊢
      cases z with
      | out r => exact ih
      | on v => exact ih
theorem m101_52 (l : List Int) (v : Int) : m101 l v = m52 l v := by
  have h := m101_l1_any (l := l) (v := v) l.length 0 (by omega)
  rw [List.drop_zero] at h
  have e : (fun x : Int => x == v) = fun x => v == x := by funext x; rw [Bool.eq_iff_iff, beq_iff_eq, beq_iff_eq]; exact eq_comm
  rw [m52_any, ← e]
  unfold m101
  generalize m101_l1 l v l.length 0 = z at h ⊢
  cases z with
  | out r => rw [h.2, h.1]
  | on v => rw [h]
theorem m87_l2_ahead {t : Tbl} {l : List Int} {i1 : Nat} (h1 : i1 ≤ l.length) : ∀ (rem i : Nat), i + rem = i1 → match m87_l2 t l i1 rem i with
      | .out r => r = false ∧ ((l.take i1).drop i).any (fun x => x == l.getD i1 default) = true
      | .on _ => ((l.take i1).drop i).any (fun x => x == l.getD i1 default) = false
  | 0, i, h => by rw [m87_l2, List.drop_eq_nil_of_le (by rw [List.length_take]; omega)]; rfl
  | rem + 1, i, h => by
    have hi : i < (l.take i1).length := by rw [List.length_take]; omega
    have hi2 : i < l.length := by omega
    rw [m87_l2, List.drop_eq_getElem_cons hi, List.any_cons]
    have e : (l).getD i default = (l.take i1)[i] := by rw [List.getElem_take, List.getD, List.getElem?_eq_getElem hi2]; rfl
    rw [e]
    have ih := m87_l2_ahead (h1 := h1) (t := t) (l := l) rem (i + 1) (by omega)
    generalize (l.take i1)[i] = x at e ⊢
    cases qz : x == l.getD i1 default with
    | true => exact ⟨rfl, rfl⟩
    | false =>
      simp only [cond_false, Bool.false_or]
      generalize m87_l2 t l i1 rem (i + 1) = z at ih ⊢
      cases z with
      | out r => exact ih
      | on v => exact ih
theorem m31_l1_87 (t : Tbl) (l : List Int) : ∀ (rem i : Nat), i + rem = l.length → m31_l1 t l rem i = m87_l1 t l rem i
  | 0, i, _ => by rw [m31_l1, m87_l1]
  | rem + 1, i, h => by
    rw [m31_l1, m87_l1, m52_any, m31_l1_87 t l rem (i + 1) (by omega)]
    have ha := m87_l2_ahead (t := t) (l := l) (i1 := i) (by omega) i 0 (by omega)
    rw [List.drop_zero] at ha
    have e : (fun x : Int => x == l.getD i default) = fun x => l.getD i default == x := by funext x; rw [Bool.eq_iff_iff, beq_iff_eq, beq_iff_eq]; exact eq_comm
    rw [e] at ha
    cases decide ((l.getD i default : Int) < 0) with
    | true => rfl
    | false =>
      cases decide ((l.getD i default : Int) ≥ ((t.columns.length : Nat) : Int)) with
      | true => rfl
      | false =>
        simp only [cond_false]
        generalize m87_l2 t l i i 0 = z at ha ⊢
        cases z with
        | out r => rw [ha.2, ha.1]; rfl
        | on v => rw [ha]; rfl
theorem m31_87 (t : Tbl) (l : List Int) : m31 t l = m87 t l := by
  unfold m31 m87
  rw [m31_l1_87 t l _ _ (by omega)]
theorem m95_l2_ahead {t : Tbl} {l : List Int} {i1 : Nat} (h1 : i1 ≤ l.length) : ∀ (rem i : Nat), i + rem = i1 → match m95_l2 t l i1 rem i with
      | .out r => r = false ∧ ((l.take i1).drop i).any (fun x => x == l.getD i1 default) = true
      | .on _ => ((l.take i1).drop i).any (fun x => x == l.getD i1 default) = false
  | 0, i, h => by rw [m95_l2, List.drop_eq_nil_of_le (by rw [List.length_take]; omega)]; rfl
  | rem + 1, i, h => by
    have hi : i < (l.take i1).length := by rw [List.length_take]; omega
    have hi2 : i < l.length := by omega
    rw [m95_l2, List.drop_eq_getElem_cons hi, List.any_cons]
    have e : (l).getD i default = (l.take i1)[i] := by rw [List.getElem_take, List.getD, List.getElem?_eq_getElem hi2]; rfl
    rw [e]
    have ih := m95_l2_ahead (h1 := h1) (t := t) (l := l) rem (i + 1) (by omega)
    generalize (l.take i1)[i] = x at e ⊢
    cases qz : x == l.getD i1 default with
    | true => exact ⟨rfl, rfl⟩
    | false =>
      simp only [cond_false, Bool.false_or]
      generalize m95_l2 t l i1 rem (i + 1) = z at ih ⊢
      cases z with
      | out r => exact ih
      | on v => exact ih
theorem m39_l1_95 (t : Tbl) (l : List Int) : ∀ (rem i : Nat), i + rem = l.length → m39_l1 t l rem i = m95_l1 t l rem i
  | 0, i, _ => by rw [m39_l1, m95_l1]
  | rem + 1, i, h => by
    rw [m39_l1, m95_l1, m52_any, m39_l1_95 t l rem (i + 1) (by omega)]
    have ha := m95_l2_ahead (t := t) (l := l) (i1 := i) (by omega) i 0 (by omega)
    rw [List.drop_zero] at ha
    have e : (fun x : Int => x == l.getD i default) = fun x => l.getD i default == x := by funext x; rw [Bool.eq_iff_iff, beq_iff_eq, beq_iff_eq]; exact eq_comm
    rw [e] at ha
    cases decide ((l.getD i default : Int) < 0) with
    | true => rfl
    | false =>
      cases decide ((l.getD i default : Int) ≥ ((t.columns.length : Nat) : Int)) with
      | true => rfl
      | false =>
        simp only [cond_false]
        generalize m95_l2 t l i i 0 = z at ha ⊢
        cases z with
        | out r => rw [ha.2, ha.1]; rfl
        | on v => rw [ha]; rfl
theorem m39_95 (t : Tbl) (l : List Int) : m39 t l = m95 t l := by
  unfold m39 m95
  rw [m39_l1_95 t l _ _ (by omega)]
  first | done | rfl
theorem m88_l2_ahead {t : Tbl} {l : List Idx} (hl : l = t.indexes) {i1 : Nat} (h1 : i1 ≤ l.length) : ∀ (rem i : Nat), i + rem = i1 → match m88_l2 t i1 rem i with
      | .out r => r = 31 ∧ ((l.take i1).drop i).any (fun x => (ByteArray.toList x.name == ByteArray.toList (t.indexes.getD i1 default).name)) = true
      | .on _ => ((l.take i1).drop i).any (fun x => (ByteArray.toList x.name == ByteArray.toList (t.indexes.getD i1 default).name)) = false
  | 0, i, h => by rw [m88_l2, List.drop_eq_nil_of_le (by rw [List.length_take]; omega)]; rfl
  | rem + 1, i, h => by
    have hi : i < (l.take i1).length := by rw [List.length_take]; omega
    have hi2 : i < l.length := by omega
    rw [m88_l2, List.drop_eq_getElem_cons hi, List.any_cons]
    have e : (t.indexes).getD i default = (l.take i1)[i] := by rw [← hl, List.getElem_take, List.getD, List.getElem?_eq_getElem hi2]; rfl
    rw [e]
    have ih := m88_l2_ahead (hl := hl) (h1 := h1) rem (i + 1) (by omega)
    generalize (l.take i1)[i] = x at e ⊢
    cases qz : (ByteArray.toList x.name == ByteArray.toList (t.indexes.getD i1 default).name) with
    | true => exact ⟨rfl, rfl⟩
    | false =>
      simp only [cond_false, Bool.false_or]
      generalize m88_l2 t i1 rem (i + 1) = z at ih ⊢
      cases z with
      | out r => exact ih
      | on v => exact ih
theorem m14_l1_88 (t : Tbl) : ∀ (rem i : Nat), i + rem = t.indexes.length → m14_l1 t rem i = m88_l1 t rem i
  | 0, i, _ => by rw [m14_l1, m88_l1]
  | rem + 1, i, h => by
    rw [m14_l1, m88_l1, name_same, m34_any, m31_87, m14_l1_88 t rem (i + 1) (by omega)]
    have ha := m88_l2_ahead (t := t) rfl (i1 := i) (by omega) i 0 (by omega)
    rw [List.drop_zero] at ha
    cases (!(m55 (t.indexes.getD i default).name)) with
    | true => rfl
    | false =>
      simp only [cond_false]
      rw [show (fun x => m35 x (t.indexes.getD i default)) = fun x => (ByteArray.toList x.name == ByteArray.toList (t.indexes.getD i default).name) from rfl]
      generalize m88_l2 t i i 0 = z at ha ⊢
      cases z with
      | out r => rw [ha.2, ha.1]; rfl
      | on v => rw [ha]; rfl
theorem m14_l2_53 (t : Tbl) : ∀ (rem i : Nat), m14_l2 t rem i = m53_l2 t rem i
  | 0, i => by rw [m14_l2, m53_l2]
  | rem + 1, i => by rw [m14_l2, m53_l2, name_same, m31_87, m14_l2_53 t rem (i + 1)]
theorem m53_l1_any {t : Tbl} : ∀ (rem i : Nat), i + rem = t.key.length → match m53_l1 t rem i with
      | .out r => r = 33 ∧ (t.key.drop i).any (fun x => m33 x t) = true
      | .on _ => (t.key.drop i).any (fun x => m33 x t) = false
  | 0, i, h => by rw [m53_l1, List.drop_eq_nil_of_le (by omega)]; rfl
  | rem + 1, i, h => by
    have hi : i < t.key.length := by omega
    rw [m53_l1, List.drop_eq_getElem_cons hi, List.any_cons]
    have e : t.key.getD i default = t.key[i] := by rw [List.getD, List.getElem?_eq_getElem hi]; rfl
    rw [e]
    have ih := m53_l1_any (t := t) rem (i + 1) (by omega)
    generalize t.key[i] = x at e ⊢
    rw [show (t.columns.getD x.toNat default).nul = m33 x t from rfl]
    cases qz : m33 x t with
    | true => exact ⟨rfl, rfl⟩
    | false =>
      simp only [cond_false, Bool.false_or]
      generalize m53_l1 t rem (i + 1) = z at ih ⊢
      cases z with
      | out r => exact ih
      | on v => exact ih
theorem m53_l1_out {t : Tbl} : ∀ (rem i : Nat) (r : Int), m88_l1 t rem i = .out r → r ≠ 0
  | 0, i, r, h => by rw [m88_l1] at h; cases h
  | rem + 1, i, r, h => by
    rw [m88_l1] at h
    have ih := m53_l1_out (t := t) rem (i + 1) r
    have h2 : ∀ (rem j : Nat) r, m88_l2 t i rem j = .out r → r = 31 := by
      intro rem
      induction rem with
      | zero => intro j r h; rw [m88_l2] at h; cases h
      | succ rem ih =>
        intro j r h
        rw [m88_l2] at h
        cases q : (ByteArray.toList ((t.indexes.getD j default).name) == ByteArray.toList ((t.indexes.getD i default).name)) with
        | true => rw [q] at h; cases h; rfl
        | false => rw [q] at h; exact ih _ _ h
    cases q1 : (!(m55 (t.indexes.getD i default).name)) with
    | true => rw [q1] at h; cases h; decide
    | false =>
      rw [q1] at h
      simp only [cond_false] at h
      cases q2 : m88_l2 t i i 0 with
      | out r' => rw [q2] at h; cases h; rw [h2 _ _ _ q2]; decide
      | on v =>
        rw [q2] at h
        simp only at h
        cases q3 : (!(m87 t (t.indexes.getD i default).columns)) with
        | true => rw [q3] at h; cases h; decide
        | false => rw [q3] at h; exact ih h
theorem m14_53 (t : Tbl) : m14 t = m53 t := by
  unfold m14 m53
  rw [name_same, m30_86, m31_87, m32_any, m14_l1_88 t _ _ (by omega), m14_l2_53]
  have hk := m53_l1_any (t := t) t.key.length 0 (by omega)
  rw [List.drop_zero] at hk
  have hm : m88 t = (match m88_l1 t t.indexes.length 0 with | .out r => r | .on _ => 0) := rfl
  rw [hm]
  have ho := m53_l1_out (t := t) t.indexes.length 0
  generalize m53_l1 t t.key.length 0 = z at hk ⊢
  generalize m88_l1 t t.indexes.length 0 = y at ho ⊢
  generalize m53_l2 t t.refs.length 0 = x
  cases z with
  | out r =>
    rw [hk.2, hk.1]
    simp only [cond_true]
  | on v =>
    rw [hk]
    cases y with
    | out r => simp only [cond_false]; rw [bne_iff_ne.2 (ho r rfl)]; rfl
    | on v => rfl
theorem m12_l1_20 (l : List Tbl) : ∀ (rem i : Nat), m12_l1 l rem i = m20_l1 l rem i
  | 0, i => by rw [m12_l1, m20_l1]
  | rem + 1, i => by rw [m12_l1, m20_l1, m14_53, m12_l1_20 l rem (i + 1)]
theorem m20_l2_l1 (l : List Tbl) : ∀ (rem i : Nat), m20_l2 l rem i = m20_l1 l rem i
  | 0, i => by rw [m20_l2, m20_l1]
  | rem + 1, i => by rw [m20_l2, m20_l1, m20_l2_l1 l rem (i + 1)]
theorem m12_20 (l : List Tbl) : m12 l = m20 l := by
  unfold m12 m20
  rw [m12_l1_20, m20_l2_l1]
  cases decide ((((l.length : Nat) : Int) : Int) > 64) <;> cases m20_l1 l l.length 0 <;> rfl
end Go.Vm
namespace Go.Vm
open Go.Proofs
theorem m133_199 (v : Val) : m133 v = m199 v := rfl
theorem m200_l1_any {l : List ByteArray} {s : ByteArray} : ∀ (rem i : Nat), i + rem = l.length → (match m200_l1 l s rem i with | .out r => r | .on _ => false) = (l.drop i).any (fun x => ByteArray.toList x == ByteArray.toList s)
  | 0, i, h => by rw [m200_l1, List.drop_eq_nil_of_le (by omega)]; rfl
  | rem + 1, i, h => by
    have hi : i < l.length := by omega
    rw [m200_l1, List.drop_eq_getElem_cons hi, List.any_cons]
    have e : l.getD i default = l[i] := by rw [List.getD, List.getElem?_eq_getElem hi]; rfl
    rw [e, ← m200_l1_any (l := l) (s := s) rem (i + 1) (by omega)]
    cases (ByteArray.toList l[i] == ByteArray.toList s) <;> rfl
theorem m200_any (l : List ByteArray) (s : ByteArray) : m200 l s = l.any (fun x => ByteArray.toList x == ByteArray.toList s) := by
  have h := m200_l1_any (l := l) (s := s) l.length 0 (by omega)
  rw [List.drop_zero] at h
  exact h
def isW (l : List (List UInt8)) (s : List UInt8) : Bool := l.any (fun x => s == x)
theorem tl_data (x : ByteArray) : x.toList = x.data.toList := by cases x; exact ByteArray.toList_mk ..
theorem m134_isW (l : List ByteArray) (s : ByteArray) : m134 l s = isW (l.map fun x => x.data.toList) s.data.toList := by
  rw [m134_any, isW, List.any_map]
  congr 1
  funext x
  rw [Function.comp, tl_data, tl_data]
theorem m200_isW (l : List ByteArray) (s : ByteArray) : m200 l s = isW (l.map fun x => x.data.toList) s.data.toList := by
  rw [m200_any, isW, List.any_map]
  congr 1
  funext x
  rw [Function.comp, tl_data, tl_data, Bool.eq_iff_iff, beq_iff_eq, beq_iff_eq]
  exact eq_comm
theorem isW_mem (l : List (List UInt8)) (s : List UInt8) : isW l s = decide (s ∈ l) := by
  rw [isW, Bool.eq_iff_iff, decide_eq_true_eq, List.any_eq_true]
  constructor
  · rintro ⟨x, hx, e⟩; rw [beq_iff_eq] at e; rw [e]; exact hx
  · intro h; exact ⟨s, h, beq_self_eq_true s⟩
theorem isW_same {l m : List (List UInt8)} (h : (l.all fun x => m.contains x) = true) (g : (m.all fun x => l.contains x) = true) (s : List UInt8) : isW l s = isW m s := by
  rw [isW_mem, isW_mem, Bool.eq_iff_iff, decide_eq_true_eq, decide_eq_true_eq]
  exact ⟨fun hs => List.contains_iff_mem.1 (List.all_eq_true.1 h s hs), fun hs => List.contains_iff_mem.1 (List.all_eq_true.1 g s hs)⟩
theorem isW_apart {l m : List (List UInt8)} (h : (l.all fun x => !(m.contains x)) = true) {s : List UInt8} (hs : isW l s = true) : isW m s = false := by
  rw [isW_mem, decide_eq_true_eq] at hs
  have := List.all_eq_true.1 h s hs
  cases q : isW m s with
  | false => rfl
  | true =>
    rw [isW_mem, decide_eq_true_eq] at q
    rw [List.contains_iff_mem.2 q] at this
    cases this
def bts (l : List ByteArray) : List (List UInt8) := l.map fun x => x.data.toList
theorem isW_cons (x : List UInt8) (l : List (List UInt8)) (s : List UInt8) : isW (x :: l) s = ((s == x) || isW l s) := rfl
theorem isW_append (l m : List (List UInt8)) (s : List UInt8) : isW (l ++ m) s = (isW l s || isW m s) := by rw [isW, isW, isW, List.any_append]
theorem una_same (s : ByteArray) : m134 unariesB s = m200 m201 s := by
  rw [m134_isW, m200_isW]
  exact isW_same (by kernel_rfl) (by kernel_rfl) _
theorem bin_same (s : ByteArray) : (bif m134 arithmeticB s then true else (bif m134 comparisonsB s then true else (bif (ByteArray.toList s == ByteArray.toList (⟨#[97, 110, 100]⟩)) then true else (ByteArray.toList s == ByteArray.toList (⟨#[111, 114]⟩))))) = m200 m202 s := by
  rw [m134_isW, m134_isW, m200_isW, tl_data, tl_data, tl_data]
  have e := isW_same (l := bts arithmeticB ++ (bts comparisonsB ++ [[97, 110, 100], [111, 114]])) (m := bts m202) (by kernel_rfl) (by kernel_rfl) s.data.toList
  rw [isW_append, isW_append, isW_cons, isW_cons] at e
  unfold bts at e
  rw [← e]
  cases isW (arithmeticB.map fun x => x.data.toList) s.data.toList <;> cases isW (comparisonsB.map fun x => x.data.toList) s.data.toList <;> simp only [cond_true, cond_false, Bool.true_or, Bool.false_or, Bool.or_true]
  have e2 : isW [] s.data.toList = false := rfl
  rw [e2, Bool.or_false]
  cases (s.data.toList == [97, 110, 100]) <;> rfl
theorem cmp_same (s : ByteArray) : m134 comparisonsB s = m208 s := by
  rw [m208, m134_isW, m200_isW]
  exact isW_same (by kernel_rfl) (by kernel_rfl) _
theorem ari_same (s : ByteArray) : m134 arithmeticB s = m206 s := by
  rw [m206, m134_isW, m200_isW]
  exact isW_same (by kernel_rfl) (by kernel_rfl) _
def nodeOk (t : Tbl) (e : Exr) : Bool := (bif ((e.kind : Int) == 1) then (bif (ByteArray.toList e.op == ByteArray.toList (⟨#[]⟩)) then (bif ((e.column : Int) == 0) then (bif ((((e.kids.length : Nat) : Int) : Int) == 0) then (((m141 e.value) : Int) == 0) else false) else false) else false) else (bif ((e.kind : Int) == 2) then (bif (ByteArray.toList e.op == ByteArray.toList (⟨#[]⟩)) then (bif (m199 e.value) then (bif ((((e.kids.length : Nat) : Int) : Int) == 0) then (bif decide ((e.column : Int) ≥ 0) then (decide ((e.column : Int) < ((t.columns.length : Nat) : Int))) else false) else false) else false) else false) else (bif ((e.kind : Int) == 3) then (bif (m200 m201 e.op) then (bif ((e.column : Int) == 0) then (bif (m199 e.value) then ((((e.kids.length : Nat) : Int) : Int) == 1) else false) else false) else false) else (bif ((e.kind : Int) == 4) then (bif (m200 m202 e.op) then (bif ((e.column : Int) == 0) then (bif (m199 e.value) then ((((e.kids.length : Nat) : Int) : Int) == 2) else false) else false) else false) else (bif ((e.kind : Int) == 5) then (bif (ByteArray.toList e.op == ByteArray.toList (⟨#[]⟩)) then (bif ((e.column : Int) == 0) then (bif (m199 e.value) then (decide ((((e.kids.length : Nat) : Int) : Int) ≥ 2)) else false) else false) else false) else false)))))
theorem m147_b_eq (rec : Tbl → Exr → Bool) (t : Tbl) (e : Exr) : m147_b rec t e = (match m147_b_l1 rec t e e.kids.length 0 with | .out r => r | .on _ => nodeOk t e) := rfl
theorem m147_l1_out (rec : Tbl → Exr → Bool) (t : Tbl) (e : Exr) : ∀ (rem i : Nat) (r : Bool), m147_b_l1 rec t e rem i = .out r → r = false
  | 0, i, r, h => by rw [m147_b_l1] at h; cases h
  | rem + 1, i, r, h => by
    rw [m147_b_l1] at h
    cases q : (!(rec t (e.kids.getD i default))) with
    | true => rw [q] at h; cases h; rfl
    | false => rw [q] at h; exact m147_l1_out rec t e rem (i + 1) r h
theorem m81_1_node (rec : Wkr → Exr → Int → (Bool × Wkr)) (w : Wkr) (e : Exr) (deep : Int) : match m81_b_1 rec w e deep with
      | .out r => r.1 = nodeOk w.t e ∧ r.2 = { w with left := (IntKind.i64.wrap (w.left - 1)) } ∧ (r.1 = true → e.kids.length = 0)
      | .on b => nodeOk w.t e = (b && ((e.column : Int) == 0) && m133 e.value) := by
  unfold m81_b_1 nodeOk
  rw [← una_same, ← bin_same, m73_141, m133_199]
  cases q1 : ((e.kind : Int) == 1) with
  | true =>
    simp only [cond_true]
    cases q2 : ((((e.kids.length : Nat) : Int) : Int) == 0) <;> cases (ByteArray.toList e.op == ByteArray.toList (⟨#[]⟩)) <;> cases ((e.column : Int) == 0) <;> simp only [cond_true, cond_false] <;> refine ⟨by first | rfl | trivial, by first | rfl | trivial, fun h => ?_⟩ <;> first | (cases h; done) | (have := eq_of_beq q2; omega)
  | false =>
    cases q2 : ((e.kind : Int) == 2) with
    | true =>
      simp only [cond_true, cond_false]
      cases q3 : ((((e.kids.length : Nat) : Int) : Int) == 0) <;> cases (ByteArray.toList e.op == ByteArray.toList (⟨#[]⟩)) <;> cases decide ((e.column : Int) ≥ 0) <;> cases decide ((e.column : Int) < ((w.t.columns.length : Nat) : Int)) <;> simp only [cond_true, cond_false] <;> refine ⟨by first | rfl | trivial | (cases m199 e.value <;> first | rfl | trivial), by first | rfl | trivial, fun h => ?_⟩ <;> first | (cases h; done) | (have := eq_of_beq q3; omega)
    | false =>
      cases q3 : ((e.kind : Int) == 3) with
      | true =>
        simp only [cond_true, cond_false]
        cases ((((e.kids.length : Nat) : Int) : Int) == 1) <;> cases m134 unariesB e.op <;> cases ((e.column : Int) == 0) <;> cases m199 e.value <;> rfl
      | false =>
        cases q4 : ((e.kind : Int) == 4) with
        | true =>
          simp only [cond_true, cond_false]
          cases ((((e.kids.length : Nat) : Int) : Int) == 2) <;> cases m134 arithmeticB e.op <;> cases m134 comparisonsB e.op <;> cases (ByteArray.toList e.op == ByteArray.toList (⟨#[97, 110, 100]⟩)) <;> cases (ByteArray.toList e.op == ByteArray.toList (⟨#[111, 114]⟩)) <;> cases ((e.column : Int) == 0) <;> cases m199 e.value <;> rfl
        | false =>
          simp only [cond_false]
          cases ((e.kind : Int) == 5) <;> cases (decide ((((e.kids.length : Nat) : Int) : Int) ≥ 2)) <;> cases (ByteArray.toList e.op == ByteArray.toList (⟨#[]⟩)) <;> cases ((e.column : Int) == 0) <;> cases m199 e.value <;> rfl
theorem wrap_small {x : Int} (h1 : -9223372036854775808 ≤ x) (h2 : x ≤ 9223372036854775807) : IntKind.i64.wrap x = x := by
  rw [IntKind.wrap_i64]; omega
def WalkSame (a : Bool × Wkr) (n : Int × Bool) (m : Bool) (w : Wkr) : Prop :=
  a.1 = (n.2 && m) ∧ a.2.t = w.t ∧ (a.1 = true → a.2.left = 1024 - n.1 ∧ 0 ≤ n.1 ∧ n.1 ≤ 1024)
theorem walk_loop {r1 : Wkr → Exr → Int → (Bool × Wkr)} {r2 : Exr → Int → Int → (Int × Bool)} {r3 : Tbl → Exr → Bool} {w0 : Wkr} {e : Exr} {deep had : Int} {v : Bool} {t : Tbl}
    (hd : 0 ≤ deep) (hd2 : deep ≤ 100)
    (hr : ∀ i, i < e.kids.length → ∀ w x d, w.t = t → w.left = 1024 - x → 0 ≤ x → x ≤ 1024 → 0 ≤ d → d ≤ 101 → WalkSame (r1 w (e.kids.getD i default) d) (r2 (e.kids.getD i default) x d) (r3 t (e.kids.getD i default)) w) :
    ∀ (rem i : Nat) (w : Wkr) (x : Int), i + rem = e.kids.length → w.t = t → w.left = 1024 - x → 0 ≤ x → x ≤ 1024 →
      (match m81_b_l1 r1 w0 e deep v rem i w with
        | .out r => r.1 = false ∧ r.2.t = t ∧ ((∃ z, m146_b_l1 r2 e had deep rem i x true = .on (z, false)) ∨ (∃ b, m147_b_l1 r3 t e rem i = .out b))
        | .on w2 => w2.t = t ∧ ∃ z, m146_b_l1 r2 e had deep rem i x true = .on (z, true) ∧ m147_b_l1 r3 t e rem i = .on () ∧ w2.left = 1024 - z ∧ 0 ≤ z ∧ z ≤ 1024)
  | 0, i, w, x, hi, ht, hl, h0, h1 => by
    rw [m81_b_l1, m146_b_l1, m147_b_l1]
    exact ⟨ht, x, rfl, rfl, hl, h0, h1⟩
  | rem + 1, i, w, x, hi, ht, hl, h0, h1 => by
    rw [m81_b_l1, m146_b_l1, m147_b_l1, wrap_small (x := deep + 1) (by omega) (by omega)]
    obtain ⟨a1, a2, a3⟩ := hr i (by omega) w x (deep + 1) ht hl h0 h1 (by omega) (by omega)
    generalize r1 w (e.kids.getD i default) (deep + 1) = p at a1 a2 a3 ⊢
    generalize r2 (e.kids.getD i default) x (deep + 1) = n at a1 a3 ⊢
    simp only [cond_true]
    obtain ⟨p1, p2⟩ := p
    obtain ⟨n1, n2⟩ := n
    simp only at a1 a2 a3 ⊢
    cases p1 with
    | false =>
      refine ⟨rfl, a2.trans ht, ?_⟩
      cases n2 with
      | false =>
        left
        cases rem with
        | zero => exact ⟨n1, by rw [m146_b_l1]⟩
        | succ rem => exact ⟨n1, by rw [m146_b_l1]; rfl⟩
      | true =>
        right
        rw [Bool.true_and] at a1
        rw [← a1]
        exact ⟨false, rfl⟩
    | true =>
      symm at a1
      rw [Bool.and_eq_true] at a1
      obtain ⟨rfl, e2⟩ := a1
      obtain ⟨b1, b2, b3⟩ := a3 rfl
      rw [e2]
      simp only [Bool.not_true, cond_false]
      have ih := walk_loop (w0 := w0) (had := had) (v := v) hd hd2 hr rem (i + 1) p2 n1 (by omega) (a2.trans ht) b1 b2 b3
      exact ih
theorem m146_l1_on (r2 : Exr → Int → Int → (Int × Bool)) (e : Exr) (had deep : Int) : ∀ (rem i : Nat) (x : Int) (b : Bool), ∃ z c, m146_b_l1 r2 e had deep rem i x b = .on (z, c)
  | 0, i, x, b => by rw [m146_b_l1]; exact ⟨_, _, rfl⟩
  | rem + 1, i, x, b => by
    rw [m146_b_l1]
    cases b with
    | false => exact ⟨_, _, rfl⟩
    | true => exact m146_l1_on r2 e had deep rem (i + 1) _ _
theorem walk_body {r1 : Wkr → Exr → Int → (Bool × Wkr)} {r2 : Exr → Int → Int → (Int × Bool)} {r3 : Tbl → Exr → Bool} {e : Exr} {t : Tbl}
    (hr : ∀ i, i < e.kids.length → ∀ w x d, w.t = t → w.left = 1024 - x → 0 ≤ x → x ≤ 1024 → 0 ≤ d → d ≤ 101 → WalkSame (r1 w (e.kids.getD i default) d) (r2 (e.kids.getD i default) x d) (r3 t (e.kids.getD i default)) w)
    (w : Wkr) (x d : Int) (ht : w.t = t) (hl : w.left = 1024 - x) (h0 : 0 ≤ x) (h1 : x ≤ 1024) (hd : 0 ≤ d) (hd2 : d ≤ 101) :
    WalkSame (m81_b r1 w e d) (m146_b r2 e x d) (m147_b r3 t e) w := by
  have hw : IntKind.i64.wrap (w.left - 1) = 1024 - (x + 1) := by rw [wrap_small (by omega) (by omega)]; omega
  have hx : IntKind.i64.wrap (x + 1) = x + 1 := wrap_small (by omega) (by omega)
  unfold m81_b m146_b
  rw [m147_b_eq, hx]
  have hn := m81_1_node r1 w e d
  rw [hw] at hn ⊢
  have hL := fun (hdd : d ≤ 100) (hx : x + 1 ≤ 1024) v => walk_loop (w0 := w) (had := x) (v := v) (deep := d) hd hdd hr e.kids.length 0 { w with left := 1024 - (x + 1) } (x + 1) (by omega) ht rfl (by omega) hx
  by_cases c1 : x + 1 > 1024
  · rw [decide_eq_true (show ((({ w with left := 1024 - (x + 1) } : Wkr).left : Int) < 0) by show 1024 - (x + 1) < 0; omega), decide_eq_true c1]
    exact ⟨rfl, rfl, fun h => by cases h⟩
  · rw [decide_eq_false (show ¬ ((({ w with left := 1024 - (x + 1) } : Wkr).left : Int) < 0) by show ¬ (1024 - (x + 1) < 0); omega), decide_eq_false c1]
    by_cases c2 : d > 100
    · rw [decide_eq_true c2]
      exact ⟨rfl, rfl, fun h => by cases h⟩
    · rw [decide_eq_false c2]
      simp only [cond_false]
      have hL := hL (by omega) (by omega)
      cases q3 : m81_b_1 r1 w e d with
      | out r =>
        rw [q3] at hn
        obtain ⟨n1, n2, n3⟩ := hn
        simp only
        cases hr1 : r.1 with
        | true =>
          have hk := n3 hr1
          rw [hk, m146_b_l1, m147_b_l1]
          refine ⟨?_, by rw [n2], fun _ => ⟨by rw [n2], by show 0 ≤ x + 1; omega, by show x + 1 ≤ 1024; omega⟩⟩
          rw [n1, ht]; rfl
        | false =>
          refine ⟨?_, by rw [n2], fun h => by rw [hr1] at h; cases h⟩
          have hno : nodeOk t e = false := by rw [← ht, ← n1, hr1]
          have hf : (match m147_b_l1 r3 t e e.kids.length 0 with | .out r => r | .on _ => nodeOk t e) = false := by
            cases q : m147_b_l1 r3 t e e.kids.length 0 with
            | out b => exact m147_l1_out _ _ _ _ _ _ q
            | on u => exact hno
          rw [hf, Bool.and_false, hr1]
      | on b =>
        rw [q3] at hn
        simp only at hn
        rw [ht] at hn
        simp only
        have hno : ∀ (z : Int × Bool), nodeOk t e = false → WalkSame (false, ({ w with left := 1024 - (x + 1) } : Wkr)) z (match m147_b_l1 r3 t e e.kids.length 0 with | .out r => r | .on _ => nodeOk t e) w := by
          intro z hh
          refine ⟨?_, rfl, fun h => by cases h⟩
          cases q : m147_b_l1 r3 t e e.kids.length 0 with
          | out b => rw [m147_l1_out _ _ _ _ _ _ q]; exact (Bool.and_false _).symm
          | on u => simp only [hh]; exact (Bool.and_false _).symm
        cases b with
        | false => exact hno _ hn
        | true =>
          rw [Bool.true_and] at hn
          have e1 : ((e.column : Int) != 0) = !((e.column : Int) == 0) := rfl
          rw [e1]
          cases q4 : ((e.column : Int) == 0) with
          | false => rw [q4] at hn; exact hno _ hn
          | true =>
            cases q5 : m133 e.value with
            | false => rw [q4, q5] at hn; exact hno _ hn
            | true =>
              rw [q4, q5] at hn
              simp only [Bool.not_true, cond_false]
              have hl := hL true
              obtain ⟨z0, c0, hz⟩ := m146_l1_on r2 e x d e.kids.length 0 (x + 1) true
              generalize m81_b_l1 r1 w e d true e.kids.length 0 { w with left := 1024 - (x + 1) } = y at hl ⊢
              cases y with
              | out r =>
                obtain ⟨l1, l2, l3⟩ := hl
                refine ⟨?_, by rw [l2, ht], fun h => by simp only at h; rw [l1] at h; cases h⟩
                simp only
                rw [l1]
                rcases l3 with ⟨z, hz⟩ | ⟨b, hb⟩
                · rw [hz]; rfl
                · rw [hb, m147_l1_out _ _ _ _ _ _ hb]; exact (Bool.and_false _).symm
              | on w2 =>
                obtain ⟨l1, z, l2, l3, l4, l5, l6⟩ := hl
                rw [l2, l3, hn]
                exact ⟨rfl, by rw [ht]; exact l1, fun _ => ⟨l4, l5, l6⟩⟩
theorem walk_same : ∀ (n : Nat) (t : Tbl) (e : Exr) (w : Wkr) (x d : Int), e.depth < n → w.t = t → w.left = 1024 - x → 0 ≤ x → x ≤ 1024 → 0 ≤ d → d ≤ 101 → WalkSame (m81 n w e d) (m146 n e x d) (m147 n t e) w
  | 0, _, _, _, _, _, h => absurd h (by omega)
  | n + 1, t, e, w, x, d, h => by
    rw [m81, m146, m147]
    exact walk_body (fun i hi w x d => walk_same n t _ w x d (by have := Exr.depth_kid hi; omega)) w x d
theorem may_same (t : Tbl) (e : Exr) : (m81r (⟨t, 1024⟩ : Wkr) e 1).1 = ((m146r e 0 1).2 && m147r t e) :=
  (walk_same (e.depth + 1) t e ⟨t, 1024⟩ 0 1 (by omega) rfl rfl (by omega) (by omega) (by omega) (by omega)).1
end Go.Vm
namespace Go.Vm
open Go.Proofs
def SameK (x y : Int × Bool) : Prop := x.2 = y.2 ∧ (x.2 = true → x.1 = y.1)
theorem SameK.rfl {x : Int × Bool} : SameK x x := ⟨Eq.refl _, fun _ => Eq.refl _⟩
theorem SameK.of {x y : Int × Bool} (h : x = y) : SameK x y := h ▸ SameK.rfl
theorem m137_203 (k : Int) : m137 k = m203 k := Eq.refl _
theorem m138_204 (k : Int) : m138 k = m204 k := Eq.refl _
theorem m136_205 (a b : Int) : m136 a b = m205 a b := by
  unfold m136 m205
  simp only [m137_203]
  cases ((a : Int) == b) <;> cases m203 a <;> cases m203 b <;> cases ((a : Int) == 0) <;> cases ((b : Int) == 0) <;> exact Eq.refl _
theorem num4 (k : Int) : k = 0 ∨ k = 2 ∨ k = 3 ∨ ((k == 0) = false ∧ (k == 2) = false ∧ (k == 3) = false) := by
  simp only [beq_eq_false_iff_ne]; omega
theorem m139_207 (op : ByteArray) (a b : Int) : SameK (m139 op a b) (m207 op a b) := by
  simp only [m139, m207, m139_2, m139_3, m139_1, m207_1, m207_2, m137_203, m203]
  generalize (ByteArray.toList op == ByteArray.toList (⟨#[37]⟩)) = p
  rcases num4 a with rfl | rfl | rfl | ⟨a0, a2, a3⟩ <;> rcases num4 b with rfl | rfl | rfl | ⟨b0, b2, b3⟩ <;> cases p <;> simp [SameK, mx, bne, *]
theorem kinds_l1 {r1 r2 : Tbl → Exr → Int × Bool} {t : Tbl} {e : Exr} (hr : ∀ i, i < e.kids.length → SameK (r1 t (e.kids.getD i default)) (r2 t (e.kids.getD i default))) :
    ∀ (rem i : Nat) (l : List Int), i + rem = e.kids.length → m82_b_l1 r1 t e rem i l = m148_b_l1 r2 t e rem i l
  | 0, i, l, h => by rw [m82_b_l1, m148_b_l1]
  | rem + 1, i, l, h => by
    obtain ⟨h1, h2⟩ := hr i (by omega)
    rw [m82_b_l1, m148_b_l1, ← h1, kinds_l1 hr rem (i + 1) _ (by omega)]
    cases q : (r1 t (e.kids.getD i default)).2 with
    | false => exact Eq.refl _
    | true => rw [h2 q]
theorem kinds_len {r2 : Tbl → Exr → Int × Bool} {t : Tbl} {e : Exr} : ∀ (rem i : Nat) (l m : List Int), m148_b_l1 r2 t e rem i l = .on m → m.length = l.length + rem
  | 0, i, l, m, h => by rw [m148_b_l1] at h; cases h; omega
  | rem + 1, i, l, m, h => by
    rw [m148_b_l1] at h
    cases q : (!(r2 t (e.kids.getD i default)).2) with
    | true => rw [q] at h; cases h
    | false =>
      rw [q] at h
      have := kinds_len rem (i + 1) _ m h
      rw [List.length_append, List.length_singleton] at this
      omega
theorem kinds_l2 {r2 : Tbl → Exr → Int × Bool} {t : Tbl} {e : Exr} {l : List Int} : ∀ (rem i : Nat), i + rem = l.length → match m148_b_l2 r2 t e l rem i with
      | .out r => r = (0, false) ∧ (l.drop i).any (fun x => m135 x l) = true
      | .on _ => (l.drop i).any (fun x => m135 x l) = false
  | 0, i, h => by rw [m148_b_l2, List.drop_eq_nil_of_le (by omega)]; exact Eq.refl _
  | rem + 1, i, h => by
    have hi : i < l.length := by omega
    have ih := kinds_l2 (r2 := r2) (t := t) (e := e) (l := l) rem (i + 1) (by omega)
    have e0 : l.getD i default = l[i] := by rw [List.getD, List.getElem?_eq_getElem hi]; exact Eq.refl _
    rw [m148_b_l2, List.drop_eq_getElem_cons hi, List.any_cons, e0]
    have e1 : m135 l[i] l = !(m205 (l.getD 0 default) l[i]) := by rw [m135, m136_205]
    rw [e1]
    cases q : (!(m205 (l.getD 0 default) l[i])) with
    | true => exact ⟨Eq.refl _, Eq.refl _⟩
    | false =>
      simp only [cond_false, Bool.false_or]
      generalize m148_b_l2 r2 t e l rem (i + 1) = z at ih ⊢
      cases z with
      | out r => exact ih
      | on v => exact ih
theorem op_is {s : ByteArray} {l : List UInt8} (h : (ByteArray.toList s == ByteArray.toList ⟨l.toArray⟩) = true) : s.data.toList = l := by
  have := eq_of_beq h
  rw [tl_data, tl_data] at this
  simpa using this
theorem op_eq (s : ByteArray) (l : List UInt8) : (ByteArray.toList s == ByteArray.toList ⟨l.toArray⟩) = (s.data.toList == l) := by
  rw [tl_data, tl_data]
theorem sorts (s : ByteArray) (h : m200 m202 s = true) :
    (m206 s = true ∧ m208 s = false ∧ (s.data.toList == [97, 110, 100]) = false ∧ (s.data.toList == [111, 114]) = false ∧ (s.data.toList == [110, 111, 116]) = false) ∨
    (m206 s = false ∧ m208 s = true ∧ (s.data.toList == [110, 111, 116]) = false) ∨
    (m206 s = false ∧ m208 s = false ∧ ((s.data.toList == [97, 110, 100]) = true ∨ ((s.data.toList == [97, 110, 100]) = false ∧ (s.data.toList == [111, 114]) = true)) ∧ (s.data.toList == [110, 111, 116]) = false) := by
  have b := bin_same s
  rw [h, ari_same, cmp_same, tl_data, tl_data, tl_data] at b
  have hA := fun q => isW_apart (l := bts arithmeticB) (m := bts comparisonsB ++ [[97, 110, 100], [111, 114], [110, 111, 116]]) (by kernel_rfl) (s := s.data.toList) q
  have hC := fun q => isW_apart (l := bts comparisonsB) (m := bts arithmeticB ++ [[110, 111, 116]]) (by kernel_rfl) (s := s.data.toList) q
  have eA : isW (bts arithmeticB) s.data.toList = m206 s := by rw [← ari_same, m134_isW]; exact Eq.refl _
  have eC : isW (bts comparisonsB) s.data.toList = m208 s := by rw [← cmp_same, m134_isW]; exact Eq.refl _
  rw [isW_append, isW_cons, isW_cons, isW_cons, eC, eA] at hA
  rw [isW_append, isW_cons, eC, eA] at hC
  cases q1 : m206 s with
  | true =>
    have := hA q1
    simp only [Bool.or_eq_false_iff] at this
    exact .inl ⟨Eq.refl _, this.1, this.2.1, this.2.2.1, this.2.2.2.1⟩
  | false =>
    cases q2 : m208 s with
    | true =>
      have := hC q2
      simp only [Bool.or_eq_false_iff] at this
      exact .inr (.inl ⟨Eq.refl _, Eq.refl _, this.2.1⟩)
    | false =>
      rw [q1, q2] at b
      simp only [cond_false] at b
      refine .inr (.inr ⟨Eq.refl _, Eq.refl _, ?_⟩)
      cases q3 : (s.data.toList == [97, 110, 100]) with
      | true => refine ⟨.inl (Eq.refl _), ?_⟩; rw [eq_of_beq q3]; decide
      | false =>
        have b2 : (s.data.toList == [111, 114]) = true := by
          cases q4 : (s.data.toList == [111, 114]) with
          | true => exact Eq.refl _
          | false =>
            have e3 : (s.data.toList == (⟨#[97, 110, 100]⟩ : ByteArray).data.toList) = false := q3
            have e4 : (s.data.toList == (⟨#[111, 114]⟩ : ByteArray).data.toList) = false := q4
            rw [e3, e4] at b
            cases b
        refine ⟨.inr ⟨Eq.refl _, b2⟩, ?_⟩
        rw [eq_of_beq b2]; decide
theorem kinds_body {r1 r2 : Tbl → Exr → Int × Bool} {t : Tbl} {e : Exr} (hn : nodeOk t e = true) (hr : ∀ i, i < e.kids.length → SameK (r1 t (e.kids.getD i default)) (r2 t (e.kids.getD i default))) :
    SameK (m82_b r1 t e) (m148_b r2 t e) := by
  unfold m82_b m148_b
  rw [kinds_l1 hr _ _ _ (by omega)]
  cases q0 : m148_b_l1 r2 t e e.kids.length 0 [] with
  | out r => exact SameK.rfl
  | on l =>
    have hlen := kinds_len _ _ _ _ q0
    have hlen : l.length = e.kids.length := by simpa using hlen
    simp only
    unfold nodeOk at hn
    cases q1 : ((e.kind : Int) == 1) with
    | true => exact SameK.rfl
    | false =>
      rw [q1] at hn
      cases q2 : ((e.kind : Int) == 2) with
      | true => exact SameK.rfl
      | false =>
        rw [q2] at hn
        simp only [cond_false] at hn ⊢
        have eneg : (ByteArray.toList e.op == ByteArray.toList (⟨#[45]⟩)) = (e.op.data.toList == [45]) := op_eq _ [45]
        have enot : (ByteArray.toList e.op == ByteArray.toList (⟨#[110, 111, 116]⟩)) = (e.op.data.toList == [110, 111, 116]) := op_eq _ [110, 111, 116]
        have eand : (ByteArray.toList e.op == ByteArray.toList (⟨#[97, 110, 100]⟩)) = (e.op.data.toList == [97, 110, 100]) := op_eq _ [97, 110, 100]
        have eor : (ByteArray.toList e.op == ByteArray.toList (⟨#[111, 114]⟩)) = (e.op.data.toList == [111, 114]) := op_eq _ [111, 114]
        cases q3 : ((e.kind : Int) == 3) with
        | true =>
          have k3 := eq_of_beq q3
          rw [q3] at hn
          have q5 : ((e.kind : Int) == 5) = false := by rw [k3]; decide
          rw [q5]
          simp only [cond_true, cond_false] at hn ⊢
          have hl1 : ((((l.length : Nat) : Int) : Int) == 1) = true := by
            rw [hlen]
            revert hn
            cases m200 m201 e.op <;> cases ((e.column : Int) == 0) <;> cases m199 e.value <;> intro hn <;> first | exact hn | cases hn
          unfold m82_b_1
          rw [enot, eneg, hl1]
          cases qn : (e.op.data.toList == [45]) with
          | true => exact SameK.of (Eq.refl _)
          | false => cases (e.op.data.toList == [110, 111, 116]) <;> exact SameK.of (Eq.refl _)
        | false =>
          rw [q3] at hn
          cases q4 : ((e.kind : Int) == 5) with
          | true =>
            simp only [cond_false, cond_true]
            have hl2 := kinds_l2 (r2 := r2) (t := t) (e := e) (l := l) (l.length - 1) 1 (by
              have k5 := eq_of_beq q4
              have : ((e.kind : Int) == 4) = false := by rw [k5]; decide
              rw [this, q4] at hn
              simp only [cond_false, cond_true] at hn
              revert hn
              cases (ByteArray.toList e.op == ByteArray.toList (⟨#[]⟩)) <;> cases ((e.column : Int) == 0) <;> cases m199 e.value <;> intro hn <;> first | (have := of_decide_eq_true hn; omega) | cases hn)
            rw [m32_any]
            generalize m148_b_l2 r2 t e l (l.length - 1) 1 = z at hl2 ⊢
            cases z with
            | out r => rw [hl2.2, hl2.1]; exact ⟨Eq.refl _, fun h => by cases h⟩
            | on v => rw [hl2]; exact SameK.of (Eq.refl _)
          | false =>
            cases q6 : ((e.kind : Int) == 4) with
            | false => rw [q6, q4] at hn; cases hn
            | true =>
              rw [q6] at hn
              simp only [cond_true, cond_false] at hn ⊢
              have hl1 : ((((l.length : Nat) : Int) : Int) == 1) = false ∧ m200 m202 e.op = true := by
                rw [hlen]
                revert hn
                cases m200 m202 e.op <;> cases ((e.column : Int) == 0) <;> cases m199 e.value <;> intro hn <;> first | (have := eq_of_beq hn; exact ⟨by rw [this]; decide, Eq.refl _⟩) | cases hn
              obtain ⟨hl1, hop⟩ := hl1
              unfold m82_b_1
              rw [enot, eneg, eand, eor, hl1, cmp_same]
              have e1 : (bif (e.op.data.toList == [45]) then Lo.on false else (Lo.on false : Lo Bool (Int × Bool))) = .on false := by cases (e.op.data.toList == [45]) <;> exact Eq.refl _
              rw [e1]
              rcases sorts e.op hop with ⟨h1, h2, h3, h4, h5⟩ | ⟨h1, h2, h3⟩ | ⟨h1, h2, h3, h4⟩
              · rw [h1, h2, h3, h4, h5]
                simp only [cond_false, cond_true]
                exact m139_207 _ _ _
              · rw [h1, h2, h3, m136_205]
                exact SameK.rfl
              · rw [h1, h2, h4]
                rcases h3 with h3 | ⟨h3, h5⟩
                · rw [h3]; exact SameK.rfl
                · rw [h3, h5]; exact SameK.rfl
theorem m147_l1_kids (rec : Tbl → Exr → Bool) (t : Tbl) (e : Exr) : ∀ (rem i : Nat), m147_b_l1 rec t e rem i = .on () → ∀ j, i ≤ j → j < i + rem → rec t (e.kids.getD j default) = true
  | 0, i, _, j, h1, h2 => by omega
  | rem + 1, i, h, j, h1, h2 => by
    rw [m147_b_l1] at h
    cases q : (!(rec t (e.kids.getD i default))) with
    | true => rw [q] at h; cases h
    | false =>
      rw [q] at h
      by_cases hj : j = i
      · subst hj; revert q; cases rec t (e.kids.getD j default) <;> intro q <;> first | exact Eq.refl _ | cases q
      · exact m147_l1_kids rec t e rem (i + 1) h j (by omega) (by omega)
theorem m147_parts {rec : Tbl → Exr → Bool} {t : Tbl} {e : Exr} (h : m147_b rec t e = true) : nodeOk t e = true ∧ ∀ i, i < e.kids.length → rec t (e.kids.getD i default) = true := by
  rw [m147_b_eq] at h
  cases q : m147_b_l1 rec t e e.kids.length 0 with
  | out r => rw [q, m147_l1_out _ _ _ _ _ _ q] at h; cases h
  | on u => rw [q] at h; exact ⟨h, fun i hi => m147_l1_kids rec t e _ _ q i (by omega) (by omega)⟩
theorem kinds_same : ∀ (n : Nat) (t : Tbl) (e : Exr), e.depth < n → m147 n t e = true → SameK (m82 n t e) (m148 n t e)
  | 0, _, _, h, _ => absurd h (by omega)
  | n + 1, t, e, h, hm => by
    rw [m147] at hm
    obtain ⟨h1, h2⟩ := m147_parts hm
    rw [m82, m148]
    exact kinds_body h1 fun i hi => kinds_same n t _ (by have := Exr.depth_kid hi; omega) (h2 i hi)
theorem m48_98 (t : Tbl) (e : Exr) : m48 t e = m98 t e := by
  unfold m48 m98
  rw [m14_53, may_same]
  cases (((m53 t) : Int) != 0) with
  | true => exact Eq.refl _
  | false =>
    cases (m146r e 0 1).2 with
    | false => exact Eq.refl _
    | true =>
      cases q : m147r t e with
      | false => exact Eq.refl _
      | true =>
        obtain ⟨h1, h2⟩ := kinds_same (e.depth + 1) t e (by omega) q
        have h1 : (m82r t e).2 = (m148r t e).2 := h1
        have h2 : (m82r t e).2 = true → (m82r t e).1 = (m148r t e).1 := h2
        rw [← h1]
        cases q2 : (m82r t e).2 with
        | false => exact Eq.refl _
        | true => rw [h2 q2]; exact Eq.refl _
end Go.Vm
namespace Go.Vm
open Go.Proofs
theorem m28_89 (e : Exr) : m28 e = m89 e := by
  show _ = m142_b (m142 e.depth) e Exr.zero
  have hv : m144 e.value Exr.zero.value = m133 e.value := rfl
  have hl : e.kids.length = 0 → m142_b_l1 (m142 e.depth) e Exr.zero e.kids.length 0 = .on () := by
    intro h; rw [h, m142_b_l1]
  unfold m142_b
  rw [hv]
  have e1 : Exr.zero.kind = 0 := rfl
  have e2 : Exr.zero.op = ⟨#[]⟩ := rfl
  have e3 : Exr.zero.column = 0 := rfl
  have e4 : Exr.zero.kids.length = 0 := rfl
  rw [e1, e2, e3, e4]
  unfold m28 m133
  cases q : ((((e.kids.length : Nat) : Int) : Int) == 0) with
  | true =>
    have q' := eq_of_beq q
    rw [hl (by omega)]
    have q2 : ((((e.kids.length : Nat) : Int) : Int) != ((0 : Nat) : Int)) = false := by show (!((((e.kids.length : Nat) : Int) : Int) == 0)) = false; rw [q]; rfl
    rw [q2]
    simp only [bne]
    cases ((e.kind : Int) == 0) <;> cases (ByteArray.toList e.op == ByteArray.toList (⟨#[]⟩)) <;> cases ((e.column : Int) == 0) <;> cases ((e.value.kind : Int) == 0) <;> cases ((e.value.n : Int) == 0) <;> cases (((e.value.f : Int) : Int) == 0) <;> cases (ByteArray.toList e.value.s == ByteArray.toList (⟨#[]⟩)) <;> rfl
  | false =>
    have q2 : ((((e.kids.length : Nat) : Int) : Int) != ((0 : Nat) : Int)) = true := by show (!((((e.kids.length : Nat) : Int) : Int) == 0)) = true; rw [q]; rfl
    rw [q2]
    simp only [bne]
    cases ((e.kind : Int) == 0) <;> cases (ByteArray.toList e.op == ByteArray.toList (⟨#[]⟩)) <;> cases ((e.column : Int) == 0) <;> cases ((e.value.kind : Int) == 0) <;> cases ((e.value.n : Int) == 0) <;> cases (((e.value.f : Int) : Int) == 0) <;> cases (ByteArray.toList e.value.s == ByteArray.toList (⟨#[]⟩)) <;> rfl
theorem m18_58 (t : Tbl) (e : Exr) : m18 t e = m58 t e := by
  unfold m18 m58 m18_1 m58_1
  rw [m28_89, m48_98]
  cases m89 e with
  | true => rfl
  | false =>
    cases q : (((m98 t e).2 : Int) == 0) with
    | true =>
      have : (((m98 t e).2 : Int) != 0) = false := by rw [bne, q]; rfl
      rw [this]
      cases ((m98 t e).1 : Int) != 1 <;> cases ((m98 t e).1 : Int) != 0 <;> first | rfl | exact eq_of_beq q
    | false =>
      have : (((m98 t e).2 : Int) != 0) = true := by rw [bne, q]; rfl
      rw [this]; rfl
theorem m44_97 (t : Tbl) (e : Exr) (c : Int) : m44 t e c = m97 t e c := by
  unfold m44 m97 m44_1 m97_1
  rw [m48_98]
  cases q : (((m98 t e).2 : Int) == 0) with
  | true =>
    have : (((m98 t e).2 : Int) != 0) = false := by rw [bne, q]; rfl
    rw [this]
    cases ((m98 t e).1 : Int) != (t.columns.getD c.toNat default).kind <;> cases ((m98 t e).1 : Int) != 0 <;> cases ((m98 t e).1 : Int) != 2 <;> cases ((t.columns.getD c.toNat default).kind : Int) != 3 <;> first | rfl | exact eq_of_beq q
  | false =>
    have : (((m98 t e).2 : Int) != 0) = true := by rw [bne, q]; rfl
    rw [this]; rfl
theorem m40_l1_56 (t : Tbl) (q : Qry) : ∀ (rem i : Nat) (l : List Int), ∃ m, m40_l1 t q rem i l = .on m ∧ m56_l1 t q rem i l = .on m
  | 0, i, l => by rw [m40_l1, m56_l1]; exact ⟨_, rfl, rfl⟩
  | rem + 1, i, l => by rw [m40_l1, m56_l1]; exact m40_l1_56 t q rem (i + 1) _
theorem m40_56 (t : Tbl) (q : Qry) : m56_1 t q = .on (m40 t q) := by
  unfold m56_1 m40
  obtain ⟨m, h1, h2⟩ := m40_l1_56 t q t.columns.length 0 []
  rw [h1, h2]
  by_cases h : q.columns.length = 0
  · rw [h]; rfl
  · have e1 : ((((q.columns.length : Nat) : Int) : Int) == 0) = false := by rw [beq_eq_false_iff_ne]; omega
    have e2 : decide ((((q.columns.length : Nat) : Int) : Int) > 0) = true := by rw [decide_eq_true_eq]; omega
    rw [e1, e2]; rfl
theorem m56_l2_any {t : Tbl} {q : Qry} {v : List Int} : ∀ (rem i : Nat), i + rem = q.rows.length → match m56_l2 t q v rem i with
      | .out r => r = 1 ∧ (q.rows.drop i).any (fun x => m42 x v) = true
      | .on _ => (q.rows.drop i).any (fun x => m42 x v) = false
  | 0, i, h => by rw [m56_l2, List.drop_eq_nil_of_le (by omega)]; rfl
  | rem + 1, i, h => by
    have hi : i < q.rows.length := by omega
    rw [m56_l2, List.drop_eq_getElem_cons hi, List.any_cons]
    have e : q.rows.getD i default = q.rows[i] := by rw [List.getD, List.getElem?_eq_getElem hi]; rfl
    rw [e]
    have ih := m56_l2_any (t := t) (q := q) (v := v) rem (i + 1) (by omega)
    generalize q.rows[i] = x at e ⊢
    rw [show ((((x.length : Nat) : Int) : Int) != ((v.length : Nat) : Int)) = m42 x v from rfl]
    cases qz : m42 x v with
    | true => exact ⟨rfl, rfl⟩
    | false =>
      simp only [cond_false, Bool.false_or]
      generalize m56_l2 t q v rem (i + 1) = z at ih ⊢
      cases z with
      | out r => exact ih
      | on v => exact ih
theorem m16_l2_56 {t : Tbl} {q : Qry} {i1 : Nat} (hs : ∀ x ∈ q.rows.getD i1 default, m24 x = false) : ∀ (rem i : Nat), i + rem = (q.rows.getD i1 default).length → m16_l2 t q i1 rem i = m56_l4 t q (m40 t q) i1 rem i
  | 0, i, _ => by rw [m16_l2, m56_l4]
  | rem + 1, i, h => by
    rw [m16_l2, m56_l4, hs _ (getD_mem (show i < (q.rows.getD i1 default).length by omega)), m44_97, m43_96, m16_l2_56 hs rem (i + 1) (by omega)]
    rfl
theorem m16_l1_56 {t : Tbl} {q : Qry} (hs : ∀ r ∈ q.rows, ∀ x ∈ r, m24 x = false) (hl : ∀ r ∈ q.rows, m42 r (m40 t q) = false) : ∀ (rem i : Nat), i + rem = q.rows.length → m16_l1 t q rem i = m56_l3 t q (m40 t q) rem i
  | 0, i, _ => by rw [m16_l1, m56_l3]
  | rem + 1, i, h => by
    have hm := getD_mem (show i < q.rows.length by omega)
    have e : (q.rows.getD i default).length = (m40 t q).length := by
      have := hl _ hm
      unfold m42 at this
      have := eq_of_bneF this
      omega
    rw [m16_l1, m56_l3, m16_l2_56 (hs _ hm) _ _ (by omega), e, m16_l1_56 hs hl rem (i + 1) (by omega)]
    first | done | rfl
theorem m16_56 {t : Tbl} {q : Qry} (hs : ∀ r ∈ q.rows, ∀ x ∈ r, m24 x = false) : m16 t q = m56 t q := by
  unfold m16 m56
  rw [m39_95, m40_56]
  simp only
  have h2 := m56_l2_any (t := t) (q := q) (v := m40 t q) q.rows.length 0 (by omega)
  rw [List.drop_zero] at h2
  rw [m41_any]
  cases (!(m95 t q.columns)) with
  | true => rfl
  | false =>
    cases decide ((((q.rows.length : Nat) : Int) : Int) < 1) with
    | true => rfl
    | false =>
      cases decide ((((q.rows.length : Nat) : Int) : Int) > 65536) with
      | true => rfl
      | false =>
        simp only [cond_false]
        generalize m56_l2 t q (m40 t q) q.rows.length 0 = z at h2 ⊢
        cases z with
        | out r => rw [h2.2, h2.1]; rfl
        | on v =>
          simp only
          simp only at h2
          rw [h2, m16_l1_56 hs (fun r hr => by
            cases qq : m42 r (m40 t q) with
            | false => rfl
            | true => rw [List.any_eq_true.2 ⟨r, hr, qq⟩] at h2; cases h2) _ _ (by omega)]
          rfl
theorem m57_l1_any {t : Tbl} {q : Qry} : ∀ (rem i : Nat), i + rem = q.sets.length → match m57_l1 t q rem i with
      | .out r => r = 5 ∧ (q.sets.drop i).any (fun x => m46 x t) = true
      | .on _ => (q.sets.drop i).any (fun x => m46 x t) = false
  | 0, i, h => by rw [m57_l1, List.drop_eq_nil_of_le (by omega)]; rfl
  | rem + 1, i, h => by
    have hi : i < q.sets.length := by omega
    rw [m57_l1, List.drop_eq_getElem_cons hi, List.any_cons]
    have e : q.sets.getD i default = q.sets[i] := by rw [List.getD, List.getElem?_eq_getElem hi]; rfl
    rw [e]
    have ih := m57_l1_any (t := t) (q := q) rem (i + 1) (by omega)
    generalize q.sets[i] = x at e ⊢
    rw [show ∀ z : Lo Unit Int, (bif decide ((x.column : Int) < 0) then Lo.out 5 else (bif decide ((x.column : Int) ≥ ((t.columns.length : Nat) : Int)) then Lo.out 5 else z)) = (bif m46 x t then Lo.out 5 else z) from fun z => by unfold m46; cases decide ((x.column : Int) < 0) <;> rfl]
    cases qz : m46 x t with
    | true => exact ⟨rfl, rfl⟩
    | false =>
      simp only [cond_false, Bool.false_or]
      generalize m57_l1 t q rem (i + 1) = z at ih ⊢
      cases z with
      | out r => exact ih
      | on v => exact ih
theorem m57_l3_ahead {t : Tbl} {q : Qry} {l : List Sst} (hl : l = q.sets) {i1 : Nat} (h1 : i1 ≤ l.length) : ∀ (rem i : Nat), i + rem = i1 → match m57_l3 t q i1 rem i with
      | .out r => r = 1 ∧ ((l.take i1).drop i).any (fun x => m47 x (q.sets.getD i1 default)) = true
      | .on _ => ((l.take i1).drop i).any (fun x => m47 x (q.sets.getD i1 default)) = false
  | 0, i, h => by rw [m57_l3, List.drop_eq_nil_of_le (by rw [List.length_take]; omega)]; rfl
  | rem + 1, i, h => by
    have hi : i < (l.take i1).length := by rw [List.length_take]; omega
    have hi2 : i < l.length := by omega
    rw [m57_l3, List.drop_eq_getElem_cons hi, List.any_cons]
    have e : (q.sets).getD i default = (l.take i1)[i] := by rw [← hl, List.getElem_take, List.getD, List.getElem?_eq_getElem hi2]; rfl
    rw [e]
    have ih := m57_l3_ahead (t := t) (q := q) hl h1 rem (i + 1) (by omega)
    generalize (l.take i1)[i] = x at e ⊢
    rw [show ((x.column : Int) == (q.sets.getD i1 default).column) = m47 x (q.sets.getD i1 default) from rfl]
    cases qz : m47 x (q.sets.getD i1 default) with
    | true => exact ⟨rfl, rfl⟩
    | false =>
      simp only [cond_false, Bool.false_or]
      generalize m57_l3 t q i1 rem (i + 1) = z at ih ⊢
      cases z with
      | out r => exact ih
      | on v => exact ih
theorem m17_l1_57 {t : Tbl} {q : Qry} : ∀ (rem i : Nat), i + rem = q.sets.length → m17_l1 t q.sets rem i = m57_l2 t q rem i
  | 0, i, _ => by rw [m17_l1, m57_l2]
  | rem + 1, i, h => by
    have ha := m57_l3_ahead (t := t) (q := q) rfl (i1 := i) (by omega) i 0 (by omega)
    rw [List.drop_zero] at ha
    rw [m17_l1, m57_l2, m45_any, m17_l1_57 rem (i + 1) (by omega)]
    generalize m57_l3 t q i i 0 = z at ha ⊢
    cases z with
    | out r => rw [ha.2, ha.1]; rfl
    | on v => rw [ha]; rfl
theorem m17_l2_57 {t : Tbl} {q : Qry} : ∀ (rem i : Nat), m17_l2 t q.sets rem i = m57_l4 t q rem i
  | 0, i => by rw [m17_l2, m57_l4]
  | rem + 1, i => by rw [m17_l2, m57_l4, m44_97, m17_l2_57 rem (i + 1)]
theorem m17_57 {t : Tbl} {q : Qry} : m17 t q.sets = m57 t q := by
  unfold m17 m57
  have h1 := m57_l1_any (t := t) (q := q) q.sets.length 0 (by omega)
  rw [List.drop_zero] at h1
  rw [m45_any, m17_l1_57 _ _ (by omega), m17_l2_57]
  have e : ((((q.sets.length : Nat) : Int) : Int) == 0) = decide ((((q.sets.length : Nat) : Int) : Int) < 1) := by rw [Bool.eq_iff_iff, beq_iff_eq, decide_eq_true_eq]; omega
  rw [e]
  cases decide ((((q.sets.length : Nat) : Int) : Int) < 1) with
  | true => rfl
  | false =>
    simp only [cond_false]
    generalize m57_l1 t q q.sets.length 0 = z at h1 ⊢
    cases z with
    | out r => rw [h1.2, h1.1]; rfl
    | on v => rw [h1]; rfl
theorem m100_l1_any {q : Qry} : ∀ (rem i : Nat) (b : Bool), i + rem = q.items.length → m100_l1 q rem i b = .on (b || (q.items.drop i).any (fun x => m84 x))
  | 0, i, b, h => by rw [m100_l1, List.drop_eq_nil_of_le (by omega)]; simp
  | rem + 1, i, b, h => by
    have hi : i < q.items.length := by omega
    have e : q.items.getD i default = q.items[i] := by rw [List.getD, List.getElem?_eq_getElem hi]; rfl
    rw [m100_l1, List.drop_eq_getElem_cons hi, List.any_cons, m100_1, e]
    cases b with
    | true => exact m100_l1_any rem (i + 1) true (by omega)
    | false => simp only [cond_false]; rw [m100_l1_any rem (i + 1) _ (by omega), Bool.false_or]; rfl
theorem m50_100 (q : Qry) : m50 q = m100 q := by
  unfold m50 m100
  rw [m100_l1_any _ _ _ (by omega), List.drop_zero, m83_any]
  cases decide ((((q.group.length : Nat) : Int) : Int) > 0) <;> rfl
theorem m49_99 (t : Tbl) (q : Qry) (x : Itm) : m49 t q x = m99 t q x := by
  simp only [m49, m49_1, m49_2, m49_3, m49_4, m49_5, m49_6, m49_7, m99, m99_1, m99_2, m99_3, m99_4, m99_5, m28_89, m48_98, name_same, m50_100, m101_52]
  by_cases h1 : (x.fold : Int) < 0
  · rw [decide_eq_true h1]; rfl
  · by_cases h2 : (x.fold : Int) > 5
    · rw [decide_eq_false h1, decide_eq_true h2]; rfl
    · have hk : x.fold = 0 ∨ x.fold = 1 ∨ x.fold = 2 ∨ x.fold = 3 ∨ x.fold = 4 ∨ x.fold = 5 := by omega
      generalize m98 t x.expr = p
      generalize m89 x.expr = b1
      generalize (ByteArray.toList x.name == ByteArray.toList (⟨#[]⟩)) = b2
      generalize m55 x.name = b3
      generalize m100 q = b4
      generalize ((x.expr.kind : Int) != 2) = b5
      generalize m52 q.group x.expr.column = b6
      generalize x.all = b7
      generalize x.fold = k at hk h1 h2 ⊢
      clear h1 h2
      obtain ⟨p1, p2⟩ := p
      simp only [bne]
      generalize (p1 == 2) = c1
      generalize (p1 == 3) = c2
      generalize (p1 == 0) = c3
      generalize (p2 == 0) = c4
      rcases hk with rfl | rfl | rfl | rfl | rfl | rfl <;> cases b7 <;> cases c4 <;> cases c1 <;> cases c2 <;> cases c3 <;> cases b1 <;> cases b2 <;> cases b3 <;> rfl
theorem m19_l1_59 (t : Tbl) (q : Qry) : ∀ (rem i : Nat) (l : List Int), m19_l1 t q rem i l = m59_l1 t q rem i l
  | 0, i, l => by rw [m19_l1, m59_l1]
  | rem + 1, i, l => by rw [m19_l1, m59_l1, m19_l1_59 t q rem (i + 1) _]
theorem m19_l2_59 (t : Tbl) (q : Qry) (l : List Int) : ∀ (rem i : Nat), m19_l2 t q l rem i = m59_l2 t q l rem i
  | 0, i => by rw [m19_l2, m59_l2]
  | rem + 1, i => by rw [m19_l2, m59_l2, m49_99, m19_l2_59 t q l rem (i + 1)]
theorem m59_l3_any {t : Tbl} {q : Qry} {l : List Int} (hg : m100 q = true) : ∀ (rem i : Nat), i + rem = l.length → match m59_l3 t q l rem i with
      | .out r => r = 252 ∧ (l.drop i).any (fun x => m51 x q) = true
      | .on _ => (l.drop i).any (fun x => m51 x q) = false
  | 0, i, h => by rw [m59_l3, List.drop_eq_nil_of_le (by omega)]; rfl
  | rem + 1, i, h => by
    have hi : i < l.length := by omega
    have e : l.getD i default = l[i] := by rw [List.getD, List.getElem?_eq_getElem hi]; rfl
    rw [m59_l3, List.drop_eq_getElem_cons hi, List.any_cons, e, hg, m101_52, show (!(m52 q.group l[i])) = m51 l[i] q from rfl]
    have ih := m59_l3_any (t := t) (q := q) (l := l) hg rem (i + 1) (by omega)
    cases qq : m51 l[i] q with
    | true => exact ⟨rfl, rfl⟩
    | false =>
      simp only [cond_false, cond_true, Bool.false_or]
      generalize m59_l3 t q l rem (i + 1) = z at ih ⊢
      cases z with
      | out r => exact ih
      | on v => exact ih
theorem m19_59 (t : Tbl) (q : Qry) : m19 t q = (bif (((m58 t q.wher) : Int) != 0) then (m58 t q.wher) else m59 t q) := by
  unfold m19 m59 m19_1
  rw [m18_58, m19_l1_59]
  cases (((m58 t q.wher) : Int) != 0) with
  | true => rfl
  | false =>
    cases m59_l1 t q q.order.length 0 [] with
    | out r => rfl
    | on l =>
      simp only [cond_false]
      rw [m39_95, m39_95, m19_l2_59, m50_100, m32_any]
      have h3 := fun hg => m59_l3_any (t := t) (q := q) (l := l) hg l.length 0 (by omega)
      have h4 : m100 q = false → m59_l3 t q l l.length 0 = .on () := by
        intro hg
        cases hl : l.length with
        | zero => rw [m59_l3]
        | succ n => rw [m59_l3, hg]; rfl
      rw [List.drop_zero] at h3
      cases hg : m100 q with
      | false => rw [h4 hg]; rfl
      | true =>
        have h3 := h3 hg
        generalize m59_l3 t q l l.length 0 = z at h3 ⊢
        cases z with
        | out r => rw [h3.2, h3.1]; rfl
        | on v => rw [h3]; rfl
theorem zI (n : Nat) : (((n : Int) : Int) == 0) = (n == 0) := by rw [Bool.eq_iff_iff, beq_iff_eq, beq_iff_eq]; omega
theorem zP (n : Nat) : decide (((n : Int) : Int) > 0) = !(n == 0) := by
  cases h : (n == 0) with
  | true => have := eq_of_beq h; rw [this]; rfl
  | false => rw [beq_eq_false_iff_ne] at h; exact decide_eq_true (by omega)
theorem zA (a b : Nat) : (a + b == 0) = ((a == 0) && (b == 0)) := by rw [Bool.eq_iff_iff, Bool.and_eq_true, beq_iff_eq, beq_iff_eq, beq_iff_eq]; omega
theorem zN (a : Nat) : (((a : Int) : Int) == ((0 : Nat) : Int)) = (a == 0) := zI a
theorem on_cond {α β : Type} (c : Bool) (x y : α) : (bif c then (Lo.on x : Lo α β) else Lo.on y) = Lo.on (bif c then x else y) := by cases c <;> rfl
theorem m29_90 (t : Tbl) : m29 t = m90 t Tbl.zero := by
  unfold m29 m90 m143
  have e1 : Tbl.zero.name = ⟨#[]⟩ := rfl
  have e2 : Tbl.zero.columns.length = 0 := rfl
  have e3 : Tbl.zero.key.length = 0 := rfl
  have e4 : Tbl.zero.indexes.length = 0 := rfl
  have e5 : Tbl.zero.refs.length = 0 := rfl
  rw [e1, e2, e3, e4, e5]
  simp only [bne, zI, zA, zN]
  cases (ByteArray.toList t.name == ByteArray.toList (⟨#[]⟩)) with
  | false => rfl
  | true =>
    cases h2 : (t.columns.length == 0) <;> cases h3 : (t.key.length == 0) <;> cases h4 : (t.indexes.length == 0) <;> cases h5 : (t.refs.length == 0) <;> first | rfl | (rw [eq_of_beq h3, m143_l1]; rfl) | (rw [eq_of_beq h2, eq_of_beq h3, eq_of_beq h4, eq_of_beq h5, m90_l1, m90_l2, m90_l3, m143_l1]; rfl)
theorem m13_54 (q : Qry) (h1 : ¬ q.kind < 1) (h2 : ¬ q.kind > 12) : m13 q = m54 q := by
  have hk : q.kind = 1 ∨ q.kind = 2 ∨ q.kind = 3 ∨ q.kind = 4 ∨ q.kind = 5 ∨ q.kind = 6 ∨ q.kind = 7 ∨ q.kind = 8 ∨ q.kind = 9 ∨ q.kind = 10 ∨ q.kind = 11 ∨ q.kind = 12 := by omega
  have z1 : m89 Exr.zero = true := by rw [← m28_89]; exact of_decide_eq_true (by kernel_rfl)
  have z2 : m90 Tbl.zero Tbl.zero = true := by rw [← m29_90]; exact of_decide_eq_true (by kernel_rfl)
  have z3 : ((([] : List Int).length : Nat) == 0) = true := rfl
  simp only [m13, m27, m54, m54_1, m54_2, m54_3, m54_4, m54_5, m54_6, m28_89, m29_90]
  generalize hK : q.kind = k at hk ⊢
  rcases hk with h | h | h | h | h | h | h | h | h | h | h | h <;> subst h <;> simp only [Int.reduceBEq, cond_true, cond_false, Bool.not_true, Bool.not_false, bne, zI, zP, zA, on_cond, z1, z2, List.length_nil] <;> (generalize (q.table == 0) = b1; generalize (q.columns.length == 0) = b2; generalize (q.rows.length == 0) = b3; generalize (q.sets.length == 0) = b4; generalize (q.items.length == 0) = b5; generalize (q.group.length == 0) = b6; generalize (q.order.length == 0) = b7; generalize (q.limit == 0) = b8; generalize (q.level == 0) = b9; generalize (q.stamp == 0) = b10; generalize (ByteArray.toList q.name == ByteArray.toList (⟨#[]⟩)) = b11; generalize m89 q.wher = b12; generalize m90 q.create Tbl.zero = b13) <;> (cases b1 <;> try simp) <;> (cases b2 <;> try simp) <;> (cases b3 <;> try simp) <;> (cases b4 <;> try simp) <;> (cases b5 <;> try simp) <;> (cases b6 <;> try simp) <;> (cases b7 <;> try simp) <;> (cases b8 <;> try simp) <;> (cases b9 <;> try simp) <;> (cases b10 <;> try simp) <;> (cases b11 <;> try simp) <;> (cases b12 <;> try simp) <;> (cases b13 <;> try simp)
theorem m5_7 {l : List Tbl} {q : Qry} (hs : ∀ r ∈ q.rows, ∀ x ∈ r, m24 x = false) : m5 l q = m7 l q := by
  unfold m5 m7 m21
  simp only [m5_1, m5_2, m21_1, m21_2, m21_3, m21_4, m21_5, m21_6]
  rw [m12_20, m14_53, name_same]
  cases (((m20 l) : Int) != 0) with
  | true => rfl
  | false =>
    by_cases h1 : (q.kind : Int) < 1
    · rw [decide_eq_true h1]; rfl
    · by_cases h2 : (q.kind : Int) > 12
      · rw [decide_eq_false h1, decide_eq_true h2]; rfl
      · rw [m13_54 q h1 h2, decide_eq_false h1, decide_eq_false h2, m16_56 hs, m17_57, m18_58, m19_59]
        have hk : q.kind = 1 ∨ q.kind = 2 ∨ q.kind = 3 ∨ q.kind = 4 ∨ q.kind = 5 ∨ q.kind = 6 ∨ q.kind = 7 ∨ q.kind = 8 ∨ q.kind = 9 ∨ q.kind = 10 ∨ q.kind = 11 ∨ q.kind = 12 := by omega
        cases m54 q with
        | false => rfl
        | true =>
          simp only [cond_false, Bool.not_true]
          generalize hK : q.kind = k at hk ⊢
          clear h1 h2
          rcases hk with h | h | h | h | h | h | h | h | h | h | h | h <;> subst h <;> simp only [Int.reduceBEq, cond_true, cond_false]
          all_goals (cases decide ((q.table : Int) < 0) <;> simp only [cond_true, cond_false])
          all_goals (cases decide ((q.table : Int) ≥ ((l.length : Nat) : Int)) <;> simp only [cond_true, cond_false])
          all_goals generalize l.getD q.table.toNat default = t
          · generalize m57 t q = a
            cases h : (a == 0) with
            | true =>
              simp only [bne, h, Bool.not_true, cond_true, cond_false]
              cases (m58 t q.wher == 0) <;> rfl
            | false => simp only [bne, h, Bool.not_false, cond_true, cond_false]
          · generalize m58 t q.wher = a
            cases (a == 0) <;> rfl
          · generalize m58 t q.wher = a
            cases h : (a == 0) <;> simp only [bne, h, Bool.not_true, Bool.not_false, cond_true, cond_false]
end Go.Vm
namespace Go.Vm
open Go.Proofs
theorem zero_small : m24 Exr.zero = false := of_decide_eq_true (by kernel_rfl)
theorem m10_small (e : Exr) : m24 (m10 e) = false := by
  unfold m10
  cases h : m24 e with
  | true => exact zero_small
  | false => rw [m25r_eq]; exact h
theorem m10_twice (e : Exr) : m10 (m10 e) = m10 e := by
  have h := m10_small e
  generalize m10 e = x at h ⊢
  unfold m10
  rw [h, m25r_eq]; rfl
theorem smallQ_twice (q : Qry) : smallQ (smallQ q) = smallQ q := by
  have e1 : ∀ l : List Exr, (l.map m10).map m10 = l.map m10 := fun l => by
    rw [List.map_map]; exact List.map_congr_left fun x _ => m10_twice x
  unfold smallQ
  simp only [List.map_map, m10_twice]
  congr 1
  · exact List.map_congr_left fun r _ => e1 r
  · exact List.map_congr_left fun s _ => by simp only [Function.comp, m10_twice]
  · exact List.map_congr_left fun s _ => by simp only [Function.comp, m10_twice]
theorem smallQ_small (q : Qry) : ∀ r ∈ (smallQ q).rows, ∀ x ∈ r, m24 x = false := by
  intro r hr x hx
  obtain ⟨s, _, rfl⟩ := List.mem_map.1 hr
  obtain ⟨y, _, rfl⟩ := List.mem_map.1 hx
  exact m10_small y
theorem m3_true (l : List Tbl) (q : Qry) : m3 l q = true := by
  unfold m3
  rw [m6_eq, m4_eq, m4_eq, smallQ_twice, m5_7 (smallQ_small q)]
  rw [show ((m7 l (smallQ q) : Int) == m7 l (smallQ q)) = true from beq_self_eq_true _]
  rfl
end Go.Vm
