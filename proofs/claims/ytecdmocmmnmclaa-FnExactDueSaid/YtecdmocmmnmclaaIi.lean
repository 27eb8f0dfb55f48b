import Derived.Test.YtecdmocmmnmclaaIh
namespace Go.Pur
open Go
set_option linter.unusedSimpArgs false

theorem E_laws_FnExactSpend (a b c n : Int) : tab.E i_laws_FnExactSpend [vSup a b c, vI n] [] = some ([vB true], []) := by
  refine Tab.E_of L_laws_FnExactSpend rfl ?_
  have h1 := E_spec_Spend a b c n
  have h2 := E_impl_Spend a b c n
  cases e : spendOk a b c n <;> simp only [e, if_true, if_false, Bool.false_eq_true] at h1 h2 <;> simp -implicitDefEqProofs [fn_laws_FnExactSpend, E_laws_toSupply, E_laws_eqSupply, h1, h2]
theorem E_laws_FnExactRested (a b c n : Int) (hn : n ≤ 9223372036854775807) : tab.E i_laws_FnExactRested [vSup a b c, vI n] [] = some ([vB true], []) := by
  refine Tab.E_of L_laws_FnExactRested rfl ?_
  simp -implicitDefEqProofs [fn_laws_FnExactRested, E_laws_toSupply, E_laws_eqSupply, E_spec_Rested a b c n hn, E_impl_Rested a b c n]
theorem E_laws_FnExactRolloutOk (s : List Int) (m : Int) (hl : s.length ≤ maxLen) : tab.E i_laws_FnExactRolloutOk [vRollout s m] [] = some ([vB true], []) := by
  refine Tab.E_of L_laws_FnExactRolloutOk rfl ?_
  have h1 := E_laws_szRollout s m 1048576 (by omega) (by omega) hl
  by_cases e : (1048576 : Int) - s.length < 0
  · simp only [e, if_true] at h1
    simp -implicitDefEqProofs [fn_laws_FnExactRolloutOk, h1]
  · simp only [e, if_false] at h1
    simp -implicitDefEqProofs [fn_laws_FnExactRolloutOk, h1, e, E_laws_toRollout s m (by omega), E_spec_RolloutOk s m hl, E_impl_RolloutOk s m hl, E_laws_eqRollout s m s m hl]
theorem E_laws_FnExactDue (s : List Int) (m u w : Int) (hl : s.length ≤ maxLen) : tab.E i_laws_FnExactDue [vRollout s m, vI u, vI w] [] = some ([vB true], []) := by
  refine Tab.E_of L_laws_FnExactDue rfl ?_
  have h1 := E_laws_szRollout s m 1048576 (by omega) (by omega) hl
  by_cases e : (1048576 : Int) - s.length < 0
  · simp only [e, if_true] at h1
    simp -implicitDefEqProofs [fn_laws_FnExactDue, h1]
  · simp only [e, if_false] at h1
    simp -implicitDefEqProofs [fn_laws_FnExactDue, h1, e, E_laws_toRollout s m (by omega), E_spec_Due s m u w hl, E_impl_Due s m u w hl, E_laws_eqRollout s m s m hl]
theorem E_laws_FnExactCounts (s : List Int) (w : Int) (hd : Bool) (hl : s.length ≤ maxLen) : tab.E i_laws_FnExactCounts [vFleet s w hd] [] = some ([vB true], []) := by
  refine Tab.E_of L_laws_FnExactCounts rfl ?_
  have h1 := E_laws_szFleet s w hd 1048576 (by omega) (by omega) hl
  by_cases e : (1048576 : Int) - s.length < 0
  · simp only [e, if_true] at h1
    simp -implicitDefEqProofs [fn_laws_FnExactCounts, h1]
  · simp only [e, if_false] at h1
    simp -implicitDefEqProofs [fn_laws_FnExactCounts, h1, e, E_laws_toFleet s w hd (by omega), E_spec_Counts s w hd hl, E_impl_Counts s w hd hl, E_laws_eqFleet s w hd s w hd hl, E_laws_eqIntA5]
end Go.Pur
