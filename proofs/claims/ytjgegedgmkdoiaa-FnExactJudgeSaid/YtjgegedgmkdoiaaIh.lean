import Derived.Test.YtjgegedgmkdoiaaIg
namespace Go.Pur
open Go
set_option linter.unusedSimpArgs false

theorem E_impl_isRollout (s : List Int) (m : Int) (hl : s.length ≤ maxLen) : tab.E i_impl_isRollout [vRollout s m] [] = some ([vB (rollOk s m)], []) := by
  refine Tab.E_of L_impl_isRollout rfl ?_
  have := lp_impl_isRollout s m hl s.length 0 (by omega)
  have h1 := E_impl_in s.length 1 6
  have h2 := E_impl_in m 0 100
  simp only [okShares, rollOk]
  cases e1 : inB s.length 1 6 <;> cases e2 : inB m 0 100 <;> cases e3 : (List.range' 0 s.length).all (okAt s) <;>
    simp only [e1, e2, e3, if_true, if_false, Bool.false_eq_true, Int.natCast_zero] at this h1 h2 ⊢ <;>
    simp -implicitDefEqProofs [fn_impl_isRollout, h1, h2, this]
set_option maxHeartbeats 1000000 in
theorem lp_spec_RolloutOk (s : List Int) (m : Int) (hl : s.length ≤ maxLen) : ∀ (d i : Nat), i + d = s.length →
    nrmK 0 [1] (blkK 0 (evLN tab.E 0 [1, 3] b0_spec_RolloutOk ⟨upd (upd u0 3 (.val (vI i))) 1 (.val (v1 (.ptr (0, 0) 0))), h1 (.row [cIs s, cI m]), 1⟩)) =
      if (List.range' i d).all (okAt s) = true then some (.normal, ⟨upd u0 1 (.val (v1 (.ptr (0, 0) 0))), h1 (.row [cIs s, cI m]), 1⟩) else some (.ret, ⟨upd u0 2 (.val (vB false)), h0, 1⟩) := by
  intro d
  induction d with
  | zero =>
    intro i h
    obtain rfl : i = s.length := by omega
    rw [evLN_eq]
    simp -implicitDefEqProofs
  | succ d ih =>
    intro i h
    have hi : i < s.length := by omega
    have hw := w64 (x := (i : Int) + 1) (by omega) (by simp [maxLen] at hl; omega)
    have := ih (i + 1) (by omega)
    have hin := E_spec_l1In s[i] 1 100
    rw [evLN_eq]
    cases i with
    | zero =>
      simp only [List.range'_succ, List.all_cons, okAt_zero hi] at this ⊢
      cases hb : inB s[0] 1 100 <;> cases hr : (List.range' (0 + 1) d).all (okAt s) <;> simp only [hr, hb, Bool.and_true, Bool.and_false, Bool.true_and, Bool.false_and, if_true, if_false, Bool.false_eq_true] at this hin ⊢ <;> simp at hw this <;>
        simp -implicitDefEqProofs [hi, hw, this, hin]
    | succ j =>
      have hj : j < s.length := by omega
      have hw2 := w64 (x := (j : Int)) (by omega) (by simp [maxLen] at hl; omega)
      have hp : (0 : Int) < (j : Int) + 1 := by omega
      have hn : ¬ (j : Int) + 1 ≤ 0 := by omega
      have hn2 : (0 : Int) ≤ (j : Int) + 1 := by omega
      have hi2 : (j : Int) + 1 < s.length := by omega
      simp only [List.range'_succ, List.all_cons, okAt_succ hi] at this ⊢
      simp at hw
      cases hb : inB s[j + 1] 1 100 <;> by_cases hc : s[j] < s[j + 1] <;> cases hr : (List.range' (j + 1 + 1) d).all (okAt s) <;>
        simp only [hr, hb, hc, decide_true, decide_false, Bool.and_true, Bool.and_false, Bool.true_and, Bool.false_and, if_true, if_false, Bool.false_eq_true] at this hin ⊢ <;> simp at this <;>
        simp -implicitDefEqProofs [hi, hj, hw, hw2, this, hin, hp, hn, hn2, hi2, hc, Int.not_le.2, Int.not_lt.1]

theorem E_spec_RolloutOk (s : List Int) (m : Int) (hl : s.length ≤ maxLen) : tab.E i_spec_RolloutOk [vRollout s m] [] = some ([vB (rollOk s m)], []) := by
  refine Tab.E_of L_spec_RolloutOk rfl ?_
  have := lp_spec_RolloutOk s m hl s.length 0 (by omega)
  have h1 := E_spec_l1In s.length 1 6
  have h2 := E_spec_l1In m 0 100
  simp only [okShares, rollOk]
  cases e1 : inB s.length 1 6 <;> cases e2 : inB m 0 100 <;> cases e3 : (List.range' 0 s.length).all (okAt s) <;>
    simp only [e1, e2, e3, if_true, if_false, Bool.false_eq_true, Int.natCast_zero] at this h1 h2 ⊢ <;>
    simp -implicitDefEqProofs [fn_spec_RolloutOk, h1, h2, this]

/-! ### due -/
def due (s : List Int) (m u w : Int) : Int :=
  if rollOk s m = true ∧ inB u 0 60 = true ∧ inB w 0 (s.length - 1) = true then IntKind.i64.wrap ((IntKind.i64.wrap (u * s.getD w.toNat 0)).tdiv 100) else 0

theorem E_impl_Due (s : List Int) (m u w : Int) (hl : s.length ≤ maxLen) : tab.E i_impl_Due [vRollout s m, vI u, vI w] [] = some ([vI (due s m u w)], []) := by
  refine Tab.E_of L_impl_Due rfl ?_
  have h1 := E_impl_isRollout s m hl
  have h2 := E_impl_in u 0 60
  have h3 := E_impl_in w 0 (s.length - 1)
  have hw := w64 (x := (s.length : Int) - 1) (by omega) (by simp [maxLen] at hl; omega)
  unfold due
  cases e1 : rollOk s m <;> cases e2 : inB u 0 60 <;> cases e3 : inB w 0 (s.length - 1) <;> simp only [e1, e2, e3, Bool.false_eq_true, false_and, and_false, if_false, and_self, if_true] at h1 h2 h3 ⊢
  all_goals first
    | (simp -implicitDefEqProofs [fn_impl_Due, h1, h2, h3, hw]; done)
    | (have h4 := inB_iff.1 e3
       have h5 : w.toNat < s.length := by omega
       simp -implicitDefEqProofs [fn_impl_Due, h1, h2, h3, hw, h4.1, h5])
theorem E_spec_Due (s : List Int) (m u w : Int) (hl : s.length ≤ maxLen) : tab.E i_spec_Due [vRollout s m, vI u, vI w] [] = some ([vI (due s m u w)], []) := by
  refine Tab.E_of L_spec_Due rfl ?_
  have h1 := E_spec_RolloutOk s m hl
  have h2 := E_spec_l1In u 0 60
  have h3 := E_spec_l1In w 0 (s.length - 1)
  have hw := w64 (x := (s.length : Int) - 1) (by omega) (by simp [maxLen] at hl; omega)
  unfold due
  cases e1 : rollOk s m <;> cases e2 : inB u 0 60 <;> cases e3 : inB w 0 (s.length - 1) <;> simp only [e1, e2, e3, Bool.false_eq_true, false_and, and_false, if_false, and_self, if_true] at h1 h2 h3 ⊢
  all_goals first
    | (simp -implicitDefEqProofs [fn_spec_Due, h1, h2, h3, hw]; done)
    | (have h4 := inB_iff.1 e3
       have h5 : w.toNat < s.length := by omega
       simp -implicitDefEqProofs [fn_spec_Due, h1, h2, h3, hw, h4.1, h5])

/-! ### rows of five, fleets -/
theorem E_laws_szFleet (s : List Int) (w : Int) (hd : Bool) (left : Int) (h : 0 ≤ left) (h' : left ≤ 1048576) (ha : s.length ≤ maxLen) :
    tab.E i_laws_szFleet [vFleet s w hd, vI left] [] = some ([vI (if left - s.length < 0 then -1 else left - s.length)], []) := by
  refine Tab.E_of L_laws_szFleet rfl ?_
  have := E_laws_szIntS s left h h' ha
  by_cases h1 : left - s.length < 0 <;> simp only [h1, if_true, if_false] at this ⊢ <;> simp -implicitDefEqProofs [fn_laws_szFleet, this, h1]
theorem E_laws_toFleet (s : List Int) (w : Int) (hd : Bool) (ha : (s.length : Int) ≤ 4294967296) :
    tab.E i_laws_toFleet [vFleet s w hd] [] = some ([⟨true, [.ref (0, 0) 0 s.length, cI w, cB hd]⟩], [oIs s]) := by
  refine Tab.E_of L_laws_toFleet rfl ?_
  have := E_laws_toIntS s ha
  simp -implicitDefEqProofs [fn_laws_toFleet, this]
theorem E_laws_eqFleet (s : List Int) (w : Int) (hd : Bool) (s' : List Int) (w' : Int) (hd' : Bool) (ha : s.length ≤ maxLen) :
    tab.E i_laws_eqFleet [vFleet s w hd, vFleet s' w' hd'] [] = some ([vB (decide (s = s') && (decide (w = w') && hd == hd'))], []) := by
  refine Tab.E_of L_laws_eqFleet rfl ?_
  have := E_laws_eqIntS s s' ha
  by_cases h1 : s = s' <;> by_cases h2 : w = w' <;> cases hd <;> cases hd' <;> simp only [h1, h2, decide_true, decide_false] at this ⊢ <;> simp -implicitDefEqProofs [fn_laws_eqFleet, this, h2]
end Go.Pur
