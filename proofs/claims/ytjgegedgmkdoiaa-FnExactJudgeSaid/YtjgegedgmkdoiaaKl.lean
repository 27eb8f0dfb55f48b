import Derived.Test.YtjgegedgmkdoiaaKk
namespace Go.Pur
open Go
set_option linter.unusedSimpArgs false

theorem E_laws_toDeed (d : DeedT) : tab.E i_laws_toDeed [vDeed d] [] = some ([vDeed d], []) := by
  refine Tab.E_of L_laws_toDeed rfl ?_
  simp -implicitDefEqProofs [fn_laws_toDeed]
theorem lp_laws_toDeedS (l : List DeedT) (hl : l.length ≤ 4294967296) : ∀ (d i : Nat), i + d = l.length →
    nrmK 0 [3] (blkK 0 (evLN tab.E 0 [0, 3, 4] b0_laws_toDeedS ⟨upd (upd (upd u0 4 (.val (vI i))) 3 (.val (rf 0 l.length))) 0 (.val (vDeeds l)), h1 (.arr true 3 ((l.map eDeed).take i ++ List.replicate d [tI 0, tI 0, tI 0])), 1⟩)) =
      some (.normal, ⟨upd u0 3 (.val (rf 0 l.length)), h1 (.arr true 3 (l.map eDeed)), 1⟩) := by
  intro d
  induction d with
  | zero =>
    intro i h
    obtain rfl : i = l.length := by omega
    rw [evLN_eq]
    simp -implicitDefEqProofs
  | succ d ih =>
    intro i h
    have hi : i < l.length := by omega
    have hi' : i < (l.map eDeed).length := by simpa using hi
    have hr := E_laws_toDeed l[i]
    rw [evLN_eq]
    have := ih (i + 1) (by omega)
    simp only [Int.natCast_add, Int.natCast_one] at this
    have hs := fill_set (x := eDeed l[i]) (d := d) (z := [tI 0, tI 0, tI 0]) hi' (by simp)
    simp -implicitDefEqProofs [hi, fill_get hi', hs, w64 (x := (i : Int) + 1) (by omega) (by omega), hr, this]
theorem E_laws_toDeedS (l : List DeedT) (hl : (l.length : Int) ≤ 4294967296) : tab.E i_laws_toDeedS [vDeeds l] [] = some ([rf 0 l.length], [.arr true 3 (l.map eDeed)]) := by
  refine Tab.E_of L_laws_toDeedS rfl ?_
  have := lp_laws_toDeedS l (by omega) l.length 0 (by omega)
  simp at this
  simp -implicitDefEqProofs [fn_laws_toDeedS, hl, this]
theorem E_laws_szDeedS (a : List DeedT) (left : Int) (h : 0 ≤ left) (h' : left ≤ 1048576) (ha : a.length ≤ maxLen) :
    tab.E i_laws_szDeedS [vDeeds a, vI left] [] = some ([vI (if left - a.length < 0 then -1 else left - a.length)], []) := by
  refine Tab.E_of L_laws_szDeedS rfl ?_
  have hw := w64 (x := left - a.length) (by simp [maxLen] at ha; omega) (by omega)
  by_cases h1 : left - a.length < 0 <;> simp -implicitDefEqProofs [fn_laws_szDeedS, hw, h1]
theorem E_laws_eqDeed (a b : DeedT) : tab.E i_laws_eqDeed [vDeed a, vDeed b] [] = some ([vB (decide (a = b))], []) := by
  refine Tab.E_of L_laws_eqDeed rfl ?_
  obtain ⟨a1, a2, a3⟩ := a
  obtain ⟨b1, b2, b3⟩ := b
  by_cases e1 : a1 = b1 <;> by_cases e2 : a2 = b2 <;> by_cases e3 : a3 = b3 <;> simp -implicitDefEqProofs [fn_laws_eqDeed, e1, e2, e3]
theorem lp_laws_eqDeedS (a b : List DeedT) (hl : a.length = b.length) (hm : a.length ≤ maxLen) : ∀ (d i : Nat), i + d = a.length →
    nrmK 0 [] (blkK 0 (evLN tab.E 0 [0, 1, 5] b0_laws_eqDeedS ⟨upd (upd (upd u0 5 (.val (vI i))) 1 (.val (vDeeds b))) 0 (.val (vDeeds a)), h0, 1⟩)) =
      if a.drop i = b.drop i then some (.normal, ⟨u0, h0, 1⟩) else some (.ret, ⟨upd u0 4 (.val (vB false)), h0, 1⟩) := by
  intro d
  induction d with
  | zero =>
    intro i h
    obtain rfl : i = a.length := by omega
    rw [evLN_eq]
    simp [hl]
  | succ d ih =>
    intro i h
    have hi : i < a.length := by omega
    have hj : i < b.length := by omega
    have hw := w64 (x := (i : Int) + 1) (by omega) (by simp [maxLen] at hm; omega)
    have := ih (i + 1) (by omega)
    have hr := E_laws_eqDeed a[i] b[i]
    simp at this
    simp only [drop_eq_iff hi hj]
    rw [evLN_eq]
    by_cases he : a[i] = b[i] <;> simp only [he, decide_true, decide_false] at hr
    · simp -implicitDefEqProofs [hi, hj, he, hw, this, hr]
    · simp -implicitDefEqProofs [hi, hj, he, hr]
theorem E_laws_eqDeedS (a : List DeedT) (ha : a.length ≤ maxLen) : tab.E i_laws_eqDeedS [vDeeds a, vDeeds a] [] = some ([vB true], []) := by
  refine Tab.E_of L_laws_eqDeedS rfl ?_
  have := lp_laws_eqDeedS a a rfl ha a.length 0 (by omega)
  simp at this
  simp -implicitDefEqProofs [fn_laws_eqDeedS, this]

theorem E_impl_Fair (l : List DeedT) (hl : l.length ≤ maxLen) : tab.E i_impl_Fair [vDeeds l] [] = some ([vB (decide (l.length ≤ 500) && decide (found l = []))], []) := by
  refine Tab.E_of L_impl_Fair rfl ?_
  have h := E_impl_Judge l hl
  by_cases e : 500 < l.length
  · rw [if_pos e] at h
    have e' : ¬ l.length ≤ 500 := by omega
    simp -implicitDefEqProofs [fn_impl_Fair, h, e']
  · rw [if_neg e] at h
    have e' : l.length ≤ 500 := by omega
    cases hf : found l with
    | nil =>
      rw [hf] at h
      simp at h
      simp -implicitDefEqProofs [fn_impl_Fair, h, e']
    | cons p ps =>
      rw [hf] at h
      have : ¬ ((ps.length : Int) + 1 = 0) := by omega
      simp at h
      simp -implicitDefEqProofs [fn_impl_Fair, h, e', this]
theorem E_spec_Fair (l : List DeedT) (hl : l.length ≤ maxLen) : tab.E i_spec_Fair [vDeeds l] [] = some ([vB (decide (l.length ≤ 500) && decide (found l = []))], []) := by
  refine Tab.E_of L_spec_Fair rfl ?_
  have h := E_spec_Judge l hl
  by_cases e : 500 < l.length
  · rw [if_pos e] at h
    have e' : ¬ l.length ≤ 500 := by omega
    simp -implicitDefEqProofs [fn_spec_Fair, h, e']
  · rw [if_neg e] at h
    have e' : l.length ≤ 500 := by omega
    cases hf : found l with
    | nil =>
      rw [hf] at h
      simp at h
      simp -implicitDefEqProofs [fn_spec_Fair, h, e']
    | cons p ps =>
      rw [hf] at h
      have : ¬ ((ps.length : Int) + 1 = 0) := by omega
      simp at h
      simp -implicitDefEqProofs [fn_spec_Fair, h, e', this]
theorem E_laws_FnExactFair (l : List DeedT) (hl : l.length ≤ maxLen) : tab.E i_laws_FnExactFair [vDeeds l] [] = some ([vB true], []) := by
  refine Tab.E_of L_laws_FnExactFair rfl ?_
  have h1 := E_laws_szDeedS l 1048576 (by omega) (by omega) hl
  by_cases e : (1048576 : Int) - l.length < 0
  · simp only [e, if_true] at h1
    simp -implicitDefEqProofs [fn_laws_FnExactFair, h1]
  · simp only [e, if_false] at h1
    have h2 := E_laws_toDeedS l (by omega)
    have h3 := E_spec_Fair l hl
    have h4 := E_impl_Fair l hl
    have h5 := E_laws_eqDeedS l hl
    simp -implicitDefEqProofs [fn_laws_FnExactFair, h1, e, h2, h3, h4, h5]
end Go.Pur
