import Derived.Test.YtjgegedgmkdoiaaKd
namespace Go.Pur
open Go
set_option linter.unusedSimpArgs false

/-! ### bytes -/
theorem lp_laws_toByteS (l : List Int) (hl : l.length ≤ 4294967296) : ∀ (d i : Nat), i + d = l.length →
    nrmK 0 [3] (blkK 0 (evLN tab.E 0 [0, 3, 4] b0_laws_toByteS ⟨upd (upd (upd u0 4 (.val (vI i))) 3 (.val (rf 0 l.length))) 0 (.val (vYs l)), h1 (.arr true 1 ((l.map eY).take i ++ List.replicate d (eY 0))), 1⟩)) =
      some (.normal, ⟨upd u0 3 (.val (rf 0 l.length)), h1 (oYs l), 1⟩) := by
  intro d
  induction d with
  | zero =>
    intro i h
    obtain rfl : i = l.length := by omega
    rw [evLN_eq]
    simp -implicitDefEqProofs
  | succ d ih =>
    intro i h
    have hi : i < l.length := by omega
    have hi' : i < (l.map eY).length := by simpa using hi
    rw [evLN_eq]
    have := ih (i + 1) (by omega)
    simp only [Int.natCast_add, Int.natCast_one] at this
    simp -implicitDefEqProofs [hi, fill_get hi', fill_set hi', w64 (x := (i : Int) + 1) (by omega) (by omega), this]
theorem E_laws_toByteS (l : List Int) (hl : (l.length : Int) ≤ 4294967296) : tab.E i_laws_toByteS [vYs l] [] = some ([rf 0 l.length], [oYs l]) := by
  refine Tab.E_of L_laws_toByteS rfl ?_
  have := lp_laws_toByteS l (by omega) l.length 0 (by omega)
  simp at this
  simp -implicitDefEqProofs [fn_laws_toByteS, hl, this]

theorem lp_laws_eqByteS (a b : List Int) (hl : a.length = b.length) (hm : a.length ≤ maxLen) : ∀ (d i : Nat), i + d = a.length →
    nrmK 0 [] (blkK 0 (evLN tab.E 0 [0, 1, 5] b0_laws_eqByteS ⟨upd (upd (upd u0 5 (.val (vI i))) 1 (.val (vYs b))) 0 (.val (vYs a)), h0, 1⟩)) =
      if a.drop i = b.drop i then some (.normal, ⟨u0, h0, 1⟩) else some (.ret, ⟨upd u0 4 (.val (vB false)), h0, 1⟩) := by
  intro d
  induction d with
  | zero =>
    intro i h
    obtain rfl : i = a.length := by omega
    rw [evLN_eq]
    simp [hl]
  | succ d ih =>
    intro i h
    have hi : i < a.length := by omega
    have hj : i < b.length := by omega
    have hw := w64 (x := (i : Int) + 1) (by omega) (by simp [maxLen] at hm; omega)
    have := ih (i + 1) (by omega)
    simp at this
    simp only [drop_eq_iff hi hj]
    rw [evLN_eq]
    by_cases he : a[i] = b[i]
    · simp -implicitDefEqProofs [hi, hj, he, hw, this]
    · simp -implicitDefEqProofs [hi, hj, he]
theorem E_laws_eqByteS (a b : List Int) (ha : a.length ≤ maxLen) : tab.E i_laws_eqByteS [vYs a, vYs b] [] = some ([vB (decide (a = b))], []) := by
  refine Tab.E_of L_laws_eqByteS rfl ?_
  by_cases hl : a.length = b.length
  · have := lp_laws_eqByteS a b hl ha a.length 0 (by omega)
    simp at this
    by_cases he : a = b
    · subst he
      simp at this
      simp -implicitDefEqProofs [fn_laws_eqByteS, this]
    · simp [he] at this
      simp -implicitDefEqProofs [fn_laws_eqByteS, hl, this, he]
  · have : a ≠ b := fun h => hl (by rw [h])
    have hl : ¬ (a.length : Int) = b.length := by omega
    simp -implicitDefEqProofs [fn_laws_eqByteS, this, hl]
theorem E_laws_szByteS (a : List Int) (left : Int) (h : 0 ≤ left) (h' : left ≤ 1048576) (ha : a.length ≤ maxLen) :
    tab.E i_laws_szByteS [vYs a, vI left] [] = some ([vI (if left - a.length < 0 then -1 else left - a.length)], []) := by
  refine Tab.E_of L_laws_szByteS rfl ?_
  have hw := w64 (x := left - a.length) (by simp [maxLen] at ha; omega) (by omega)
  by_cases h1 : left - a.length < 0 <;> simp -implicitDefEqProofs [fn_laws_szByteS, hw, h1]

/-! ### raw writes -/
structure RawT where
  kind : Int
  pos : Int
  data : List Int
  deriving DecidableEq
abbrev eRaw (r : RawT) : List T := [tI r.kind, tI r.pos, tYs r.data]
abbrev vRaw (r : RawT) : AV := ⟨true, [cI r.kind, cI r.pos, cYs r.data]⟩
abbrev vRaws (l : List RawT) : AV := ⟨false, [.t (.sl 3 (l.map eRaw))]⟩

theorem E_laws_toRaw (r : RawT) (h : (r.data.length : Int) ≤ 4294967296) : tab.E i_laws_toRaw [vRaw r] [] = some ([⟨true, [cI r.kind, cI r.pos, .ref (0, 0) 0 r.data.length]⟩], [oYs r.data]) := by
  refine Tab.E_of L_laws_toRaw rfl ?_
  simp -implicitDefEqProofs [fn_laws_toRaw, E_laws_toByteS r.data h]

theorem lp_laws_toRawS (l : List RawT) (hl : l.length ≤ 4294967296) (hd : ∀ r ∈ l, (r.data.length : Int) ≤ 4294967296) : ∀ (d i : Nat), i + d = l.length →
    nrmK 0 [3] (blkK 0 (evLN tab.E 0 [0, 3, 4] b0_laws_toRawS ⟨upd (upd (upd u0 4 (.val (vI i))) 3 (.val (rf 0 l.length))) 0 (.val (vRaws l)), h1 (.arr true 3 ((l.map eRaw).take i ++ List.replicate d [tI 0, tI 0, .sl 1 []])), 1⟩)) =
      some (.normal, ⟨upd u0 3 (.val (rf 0 l.length)), h1 (.arr true 3 (l.map eRaw)), 1⟩) := by
  intro d
  induction d with
  | zero =>
    intro i h
    obtain rfl : i = l.length := by omega
    rw [evLN_eq]
    simp -implicitDefEqProofs
  | succ d ih =>
    intro i h
    have hi : i < l.length := by omega
    have hi' : i < (l.map eRaw).length := by simpa using hi
    have hr := E_laws_toRaw l[i] (hd _ (List.getElem_mem hi))
    rw [evLN_eq]
    have := ih (i + 1) (by omega)
    simp only [Int.natCast_add, Int.natCast_one] at this
    have hs := fill_set (x := eRaw l[i]) (d := d) (z := [tI 0, tI 0, T.sl 1 []]) hi' (by simp)
    simp -implicitDefEqProofs [hi, fill_get hi', hs, w64 (x := (i : Int) + 1) (by omega) (by omega), hr, this]
theorem E_laws_toRawS (l : List RawT) (hl : (l.length : Int) ≤ 4294967296) (hd : ∀ r ∈ l, (r.data.length : Int) ≤ 4294967296) : tab.E i_laws_toRawS [vRaws l] [] = some ([rf 0 l.length], [.arr true 3 (l.map eRaw)]) := by
  refine Tab.E_of L_laws_toRawS rfl ?_
  have := lp_laws_toRawS l (by omega) hd l.length 0 (by omega)
  simp at this
  simp -implicitDefEqProofs [fn_laws_toRawS, hl, this]

theorem E_laws_eqRaw (a b : RawT) (h : a.data.length ≤ maxLen) : tab.E i_laws_eqRaw [vRaw a, vRaw b] [] = some ([vB (decide (a = b))], []) := by
  refine Tab.E_of L_laws_eqRaw rfl ?_
  obtain ⟨a1, a2, a3⟩ := a
  obtain ⟨b1, b2, b3⟩ := b
  have := E_laws_eqByteS a3 b3 h
  by_cases e1 : a1 = b1 <;> by_cases e2 : a2 = b2 <;> by_cases e3 : a3 = b3 <;> simp only [e3, decide_true, decide_false] at this <;> simp -implicitDefEqProofs [fn_laws_eqRaw, e1, e2, e3, this]

theorem lp_laws_eqRawS (a b : List RawT) (hl : a.length = b.length) (hm : a.length ≤ maxLen) (hd : ∀ r ∈ a, r.data.length ≤ maxLen) : ∀ (d i : Nat), i + d = a.length →
    nrmK 0 [] (blkK 0 (evLN tab.E 0 [0, 1, 5] b0_laws_eqRawS ⟨upd (upd (upd u0 5 (.val (vI i))) 1 (.val (vRaws b))) 0 (.val (vRaws a)), h0, 1⟩)) =
      if a.drop i = b.drop i then some (.normal, ⟨u0, h0, 1⟩) else some (.ret, ⟨upd u0 4 (.val (vB false)), h0, 1⟩) := by
  intro d
  induction d with
  | zero =>
    intro i h
    obtain rfl : i = a.length := by omega
    rw [evLN_eq]
    simp [hl]
  | succ d ih =>
    intro i h
    have hi : i < a.length := by omega
    have hj : i < b.length := by omega
    have hw := w64 (x := (i : Int) + 1) (by omega) (by simp [maxLen] at hm; omega)
    have := ih (i + 1) (by omega)
    have hr := E_laws_eqRaw a[i] b[i] (hd _ (List.getElem_mem hi))
    simp at this
    simp only [drop_eq_iff hi hj]
    rw [evLN_eq]
    by_cases he : a[i] = b[i] <;> simp only [he, decide_true, decide_false] at hr
    · simp -implicitDefEqProofs [hi, hj, he, hw, this, hr]
    · simp -implicitDefEqProofs [hi, hj, he, hr]
theorem E_laws_eqRawS (a b : List RawT) (ha : a.length ≤ maxLen) (hd : ∀ r ∈ a, r.data.length ≤ maxLen) : tab.E i_laws_eqRawS [vRaws a, vRaws b] [] = some ([vB (decide (a = b))], []) := by
  refine Tab.E_of L_laws_eqRawS rfl ?_
  by_cases hl : a.length = b.length
  · have := lp_laws_eqRawS a b hl ha hd a.length 0 (by omega)
    simp at this
    by_cases he : a = b
    · subst he
      simp at this
      simp -implicitDefEqProofs [fn_laws_eqRawS, this]
    · simp [he] at this
      simp -implicitDefEqProofs [fn_laws_eqRawS, hl, this, he]
  · have : a ≠ b := fun h => hl (by rw [h])
    have hl : ¬ (a.length : Int) = b.length := by omega
    simp -implicitDefEqProofs [fn_laws_eqRawS, this, hl]

/-- how much is left behind the data of raw writes; -1 where it is too little -/
def szR : List RawT → Int → Int
  | [], left => left
  | r :: l, left => if left - r.data.length < 0 then -1 else szR l (left - r.data.length)
theorem szR_le {l : List RawT} : ∀ {left : Int}, szR l left ≤ left ∨ szR l left = -1 := by
  induction l with
  | nil => intro left; exact .inl (Int.le_refl _)
  | cons r l ih =>
    intro left
    simp only [szR]
    split
    · exact .inr rfl
    · rcases ih (left := left - r.data.length) with h | h
      · left; omega
      · exact .inr h
theorem szR_data {l : List RawT} : ∀ {left : Int}, ¬ szR l left < 0 → ∀ r ∈ l, (r.data.length : Int) ≤ left := by
  induction l with
  | nil => intro left _ r hr; simp at hr
  | cons a l ih =>
    intro left h r hr
    simp only [szR] at h
    split at h
    · omega
    · rcases List.mem_cons.1 hr with rfl | hr
      · omega
      · have := ih h r hr; omega

theorem E_laws_szRaw (r : RawT) (left : Int) (h : 0 ≤ left) (h' : left ≤ 1048576) (ha : r.data.length ≤ maxLen) :
    tab.E i_laws_szRaw [vRaw r, vI left] [] = some ([vI (if left - r.data.length < 0 then -1 else left - r.data.length)], []) := by
  refine Tab.E_of L_laws_szRaw rfl ?_
  have := E_laws_szByteS r.data left h h' ha
  by_cases h1 : left - r.data.length < 0 <;> simp only [h1, if_true, if_false] at this ⊢ <;> simp -implicitDefEqProofs [fn_laws_szRaw, this, h1]

theorem lp_laws_szRawS (l : List RawT) (hm : l.length ≤ maxLen) (hd : ∀ r ∈ l, r.data.length ≤ maxLen) : ∀ (d i : Nat), i + d = l.length → ∀ left : Int, 0 ≤ left → left ≤ 1048576 →
    nrmK 0 [1] (blkK 0 (evLN tab.E 0 [0, 1, 5] b0_laws_szRawS ⟨upd (upd (upd u0 5 (.val (vI i))) 1 (.val (vI left))) 0 (.val (vRaws l)), h0, 1⟩)) =
      if szR (l.drop i) left < 0 then some (.ret, ⟨upd u0 4 (.val (vI (-1))), h0, 1⟩) else some (.normal, ⟨upd u0 1 (.val (vI (szR (l.drop i) left))), h0, 1⟩) := by
  intro d
  induction d with
  | zero =>
    intro i h left h1 h2
    obtain rfl : i = l.length := by omega
    have : ¬ left < 0 := by omega
    rw [evLN_eq, List.drop_length]
    simp only [szR, this, if_false]
    simp -implicitDefEqProofs
  | succ d ih =>
    intro i h left h1 h2
    have hi : i < l.length := by omega
    have hw := w64 (x := (i : Int) + 1) (by omega) (by simp [maxLen] at hm; omega)
    have hr := E_laws_szRaw l[i] left h1 h2 (hd _ (List.getElem_mem hi))
    rw [List.drop_eq_getElem_cons hi, evLN_eq]
    simp only [szR]
    by_cases e : left - (l[i].data.length : Int) < 0 <;> simp only [e, if_true, if_false] at hr ⊢
    · simp -implicitDefEqProofs [hi, hr]
    · have := ih (i + 1) (by omega) (left - l[i].data.length) (by omega) (by omega)
      by_cases e2 : szR (l.drop (i + 1)) (left - l[i].data.length) < 0 <;> simp only [e2, if_true, if_false, Int.natCast_add, Int.natCast_one] at this ⊢ <;>
        simp -implicitDefEqProofs [hi, hr, e, hw, this]
theorem E_laws_szRawS (l : List RawT) (left : Int) (h : 0 ≤ left) (h' : left ≤ 1048576) (hm : l.length ≤ maxLen) (hd : ∀ r ∈ l, r.data.length ≤ maxLen) :
    tab.E i_laws_szRawS [vRaws l, vI left] [] = some ([vI (if left - l.length < 0 then -1 else if szR l (left - l.length) < 0 then -1 else szR l (left - l.length))], []) := by
  refine Tab.E_of L_laws_szRawS rfl ?_
  have hw := w64 (x := left - l.length) (by simp [maxLen] at hm; omega) (by omega)
  by_cases e : left - (l.length : Int) < 0 <;> simp only [e, if_true, if_false]
  · simp -implicitDefEqProofs [fn_laws_szRawS, hw, e]
  · have := lp_laws_szRawS l hm hd l.length 0 (by omega) (left - l.length) (by omega) (by omega)
    rw [List.drop_zero] at this
    by_cases e2 : szR l (left - l.length) < 0 <;> simp only [e2, if_true, if_false, Int.natCast_zero] at this ⊢ <;> simp -implicitDefEqProofs [fn_laws_szRawS, hw, e, this]

/-! ### what raw writes cost -/
def costR : List RawT → Int → Int
  | [], s => s
  | r :: l, s => costR l (if r.kind = 1 then s + 40 else if r.kind = 2 then s + 1 else s)
theorem lp_impl_RawCost (l : List RawT) (hm : l.length ≤ 2097152) : ∀ (d i : Nat), i + d = l.length → ∀ s : Int, 0 ≤ s → s ≤ i * 40 →
    nrmK 0 [3] (blkK 0 (evLN tab.E 0 [3, 6, 7, 8] b0_impl_RawCost ⟨upd (upd (upd (upd u0 8 (.val (vI i))) 7 (.val (vI l.length))) 6 (.val (vRaws l))) 3 (.val (vI s)), h0, 1⟩)) =
      some (.normal, ⟨upd u0 3 (.val (vI (costR (l.drop i) s))), h0, 1⟩) := by
  intro d
  induction d with
  | zero =>
    intro i h s _ _
    obtain rfl : i = l.length := by omega
    rw [evLN_eq]
    simp -implicitDefEqProofs [costR]
  | succ d ih =>
    intro i h s h1 h2
    have hi : i < l.length := by omega
    have hw := w64 (x := (i : Int) + 1) (by omega) (by omega)
    have w1 := w64 (x := s + 40) (by omega) (by omega)
    have w2 := w64 (x := s + 1) (by omega) (by omega)
    rw [List.drop_eq_getElem_cons hi, evLN_eq]
    simp only [costR]
    by_cases e1 : l[i].kind = 1
    · have := ih (i + 1) (by omega) (s + 40) (by omega) (by omega)
      simp only [e1, if_true, Int.natCast_add, Int.natCast_one] at this ⊢
      simp -implicitDefEqProofs [hi, hw, w1, e1, this]
    · by_cases e2 : l[i].kind = 2
      · have := ih (i + 1) (by omega) (s + 1) (by omega) (by omega)
        simp only [e2, if_true, if_false, Int.natCast_add, Int.natCast_one, show ¬ (2 : Int) = 1 from by omega] at this ⊢
        simp -implicitDefEqProofs [hi, hw, w2, e2, this]
      · have := ih (i + 1) (by omega) s (by omega) (by omega)
        simp only [e1, e2, if_false, Int.natCast_add, Int.natCast_one] at this ⊢
        simp -implicitDefEqProofs [hi, hw, e1, e2, this]
theorem E_impl_RawCost (l : List RawT) (hm : l.length ≤ 2097152) : tab.E i_impl_RawCost [vRaws l] [] = some ([vI (costR l 0)], []) := by
  refine Tab.E_of L_impl_RawCost rfl ?_
  have := lp_impl_RawCost l hm l.length 0 (by omega) 0 (by omega) (by omega)
  simp at this
  simp -implicitDefEqProofs [fn_impl_RawCost, this]
theorem lp_spec_RawCost (l : List RawT) (hm : l.length ≤ 2097152) : ∀ (d i : Nat), i + d = l.length → ∀ s : Int, 0 ≤ s → s ≤ i * 40 →
    nrmK 0 [3] (blkK 0 (evLN tab.E 0 [0, 3, 4] b0_spec_RawCost ⟨upd (upd (upd u0 4 (.val (vI i))) 3 (.val (vI s))) 0 (.val (vRaws l)), h0, 1⟩)) =
      some (.normal, ⟨upd u0 3 (.val (vI (costR (l.drop i) s))), h0, 1⟩) := by
  intro d
  induction d with
  | zero =>
    intro i h s _ _
    obtain rfl : i = l.length := by omega
    rw [evLN_eq]
    simp -implicitDefEqProofs [costR]
  | succ d ih =>
    intro i h s h1 h2
    have hi : i < l.length := by omega
    have hw := w64 (x := (i : Int) + 1) (by omega) (by omega)
    have w1 := w64 (x := s + 40) (by omega) (by omega)
    have w2 := w64 (x := s + 1) (by omega) (by omega)
    rw [List.drop_eq_getElem_cons hi, evLN_eq]
    simp only [costR]
    by_cases e1 : l[i].kind = 1
    · have := ih (i + 1) (by omega) (s + 40) (by omega) (by omega)
      simp only [e1, if_true, Int.natCast_add, Int.natCast_one] at this ⊢
      simp -implicitDefEqProofs [hi, hw, w1, e1, this]
    · by_cases e2 : l[i].kind = 2
      · have := ih (i + 1) (by omega) (s + 1) (by omega) (by omega)
        simp only [e2, if_true, if_false, Int.natCast_add, Int.natCast_one, show ¬ (2 : Int) = 1 from by omega] at this ⊢
        simp -implicitDefEqProofs [hi, hw, w2, e2, this]
      · have := ih (i + 1) (by omega) s (by omega) (by omega)
        simp only [e1, e2, if_false, Int.natCast_add, Int.natCast_one] at this ⊢
        simp -implicitDefEqProofs [hi, hw, e1, e2, this]
theorem E_spec_RawCost (l : List RawT) (hm : l.length ≤ 2097152) : tab.E i_spec_RawCost [vRaws l] [] = some ([vI (costR l 0)], []) := by
  refine Tab.E_of L_spec_RawCost rfl ?_
  have := lp_spec_RawCost l hm l.length 0 (by omega) 0 (by omega) (by omega)
  simp at this
  simp -implicitDefEqProofs [fn_spec_RawCost, this]

theorem E_laws_FnExactRawCost (l : List RawT) (hm : l.length ≤ maxLen) (hd : ∀ r ∈ l, r.data.length ≤ maxLen) : tab.E i_laws_FnExactRawCost [vRaws l] [] = some ([vB true], []) := by
  refine Tab.E_of L_laws_FnExactRawCost rfl ?_
  have h1 := E_laws_szRawS l 1048576 (by omega) (by omega) hm hd
  by_cases e : (1048576 : Int) - l.length < 0
  · simp only [e, if_true] at h1
    simp -implicitDefEqProofs [fn_laws_FnExactRawCost, h1]
  · by_cases e2 : szR l (1048576 - l.length) < 0
    · simp only [e, e2, if_true, if_false] at h1
      simp -implicitDefEqProofs [fn_laws_FnExactRawCost, h1]
    · simp only [e, e2, if_false] at h1
      have hdd := szR_data e2
      have h2 := E_laws_toRawS l (by omega) (fun r hr => by have := hdd r hr; omega)
      simp -implicitDefEqProofs [fn_laws_FnExactRawCost, h1, e2, h2, E_spec_RawCost l (by omega), E_impl_RawCost l (by omega), E_laws_eqRawS l l hm hd]
end Go.Pur
