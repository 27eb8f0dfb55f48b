import Derived.Test.YtjgegedgmkdoiaaIb
namespace Go.Pur
open Go
set_option linter.unusedSimpArgs false

theorem lp_laws_eqIntS (a b : List Int) (hl : a.length = b.length) (hm : a.length ≤ maxLen) : ∀ (d i : Nat), i + d = a.length →
    nrmK 0 [] (blkK 0 (evLN tab.E 0 [0, 1, 5] b0_laws_eqIntS ⟨upd (upd (upd u0 5 (.val (vI i))) 1 (.val (vIs b))) 0 (.val (vIs a)), h0, 1⟩)) =
      if a.drop i = b.drop i then some (.normal, ⟨u0, h0, 1⟩) else some (.ret, ⟨upd u0 4 (.val (vB false)), h0, 1⟩) := by
  intro d
  induction d with
  | zero =>
    intro i h
    obtain rfl : i = a.length := by omega
    rw [evLN_eq]
    simp [hl]
  | succ d ih =>
    intro i h
    have hi : i < a.length := by omega
    have hj : i < b.length := by omega
    have hw := w64 (x := (i : Int) + 1) (by omega) (by simp [maxLen] at hm; omega)
    have := ih (i + 1) (by omega)
    simp at this
    simp only [drop_eq_iff hi hj]
    rw [evLN_eq]
    by_cases he : a[i] = b[i]
    · simp -implicitDefEqProofs [hi, hj, he, hw, this]
    · simp -implicitDefEqProofs [hi, hj, he]

theorem E_laws_eqIntS (a b : List Int) (ha : a.length ≤ maxLen) : tab.E i_laws_eqIntS [vIs a, vIs b] [] = some ([vB (decide (a = b))], []) := by
  refine Tab.E_of L_laws_eqIntS rfl ?_
  by_cases hl : a.length = b.length
  · have := lp_laws_eqIntS a b hl ha a.length 0 (by omega)
    simp at this
    by_cases he : a = b
    · subst he
      simp at this
      simp -implicitDefEqProofs [fn_laws_eqIntS, this]
    · simp [he] at this
      simp -implicitDefEqProofs [fn_laws_eqIntS, hl, this, he]
  · have : a ≠ b := fun h => hl (by rw [h])
    have hl : ¬ (a.length : Int) = b.length := by omega
    simp -implicitDefEqProofs [fn_laws_eqIntS, this, hl]

theorem E_laws_szIntS (a : List Int) (left : Int) (h : 0 ≤ left) (h' : left ≤ 1048576) (ha : a.length ≤ maxLen) :
    tab.E i_laws_szIntS [vIs a, vI left] [] = some ([vI (if left - a.length < 0 then -1 else left - a.length)], []) := by
  refine Tab.E_of L_laws_szIntS rfl ?_
  have hw := w64 (x := left - a.length) (by simp [maxLen] at ha; omega) (by omega)
  by_cases h1 : left - a.length < 0 <;> simp -implicitDefEqProofs [fn_laws_szIntS, hw, h1]

abbrev vRollout (s : List Int) (m : Int) : AV := ⟨true, [cIs s, cI m]⟩

theorem E_laws_szRollout (s : List Int) (m left : Int) (h : 0 ≤ left) (h' : left ≤ 1048576) (ha : s.length ≤ maxLen) :
    tab.E i_laws_szRollout [vRollout s m, vI left] [] = some ([vI (if left - s.length < 0 then -1 else left - s.length)], []) := by
  refine Tab.E_of L_laws_szRollout rfl ?_
  have := E_laws_szIntS s left h h' ha
  by_cases h1 : left - s.length < 0 <;> simp only [h1, if_true, if_false] at this <;> simp -implicitDefEqProofs [fn_laws_szRollout, this, h1]

theorem E_laws_toRollout (s : List Int) (m : Int) (ha : (s.length : Int) ≤ 4294967296) :
    tab.E i_laws_toRollout [vRollout s m] [] = some ([⟨true, [.ref (0, 0) 0 s.length, cI m]⟩], [oIs s]) := by
  refine Tab.E_of L_laws_toRollout rfl ?_
  have := E_laws_toIntS s ha
  simp -implicitDefEqProofs [fn_laws_toRollout, this]

theorem E_laws_eqRollout (s : List Int) (m : Int) (s' : List Int) (m' : Int) (ha : s.length ≤ maxLen) :
    tab.E i_laws_eqRollout [vRollout s m, vRollout s' m'] [] = some ([vB (decide (s = s') && decide (m = m'))], []) := by
  refine Tab.E_of L_laws_eqRollout rfl ?_
  have := E_laws_eqIntS s s' ha
  by_cases h1 : s = s' <;> by_cases h2 : m = m' <;> simp only [h1, h2, decide_true, decide_false] at this ⊢ <;> simp -implicitDefEqProofs [fn_laws_eqRollout, this, h1, h2]
end Go.Pur
