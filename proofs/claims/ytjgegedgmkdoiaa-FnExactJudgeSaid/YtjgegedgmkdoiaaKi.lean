import Derived.Test.YtjgegedgmkdoiaaKh
namespace Go.Pur
open Go
set_option linter.unusedSimpArgs false

/-! ### what deeds do -/
def js0 : JS := ⟨0, 0, 0, false, false, 0, 0, false, 0, false⟩
def thn (j : JS) (d : DeedT) : JS :=
  if d.kind = 1 then js0
  else if d.kind = 2 then { j with opn := true, slot := d.slot, made := 0, known := true }
  else if d.kind = 3 then { j with made := d.value, known := true }
  else if d.kind = 4 then { j with cand := d.slot, trials := 3, opn := false, waits := true }
  else if d.kind = 5 then { j with opn := false }
  else if d.kind = 6 then (if tries j = true then { j with known := false, started := true, trials := IntKind.i64.wrap (j.trials - 1), runs := j.cand } else { j with known := false, started := true, waits := false, runs := j.conf })
  else if d.kind = 7 then (if j.waits = true then { j with conf := j.cand, waits := false } else j)
  else if d.kind = 8 then { j with waits := false }
  else j
def thnS (j : JS) (d : DeedT) : JS := if d.kind = 3 ∧ j.opn = false then j else thn j d

theorem E_impl_newJudge : tab.E i_impl_newJudge [] [] = some ([v1 (.ptr (0, 0) 0)], [jR js0]) := by
  refine Tab.E_of L_impl_newJudge rfl ?_
  simp -implicitDefEqProofs [fn_impl_newJudge, js0]
theorem E_spec_l21First : tab.E i_spec_l21First [] [] = some ([kV js0], []) := by
  refine Tab.E_of L_spec_l21First rfl ?_
  simp -implicitDefEqProofs [fn_spec_l21First, js0]

set_option maxHeartbeats 4000000 in
theorem E_impl_judge_then (j : JS) (d : DeedT) : tab.E i_impl_judge_then [v1 (.ptr (0, 0) 0), vDeed d] [jR j] = some ([], [jR (thn j d)]) := by
  refine Tab.E_of L_impl_judge_then rfl ?_
  have ht := E_impl_judge_tries j
  have hn := E_impl_newJudge
  unfold thn
  by_cases h1 : d.kind = 1
  · simp only [h1, if_true]
    simp -implicitDefEqProofs [fn_impl_judge_then, List.range_one, h1, hn, js0]
  by_cases h2 : d.kind = 2
  · simp only [h2, if_true, if_false, show ¬ (2 : Int) = 1 from by omega]
    simp -implicitDefEqProofs [fn_impl_judge_then, List.range_one, h2]
  by_cases h3 : d.kind = 3
  · simp only [h3, if_true, if_false, show ¬ (3 : Int) = 1 from by omega, show ¬ (3 : Int) = 2 from by omega]
    simp -implicitDefEqProofs [fn_impl_judge_then, List.range_one, h3]
  by_cases h4 : d.kind = 4
  · simp only [h1, h2, h3, h4, if_true, if_false, show ¬ (4 : Int) = 1 from by omega, show ¬ (4 : Int) = 2 from by omega, show ¬ (4 : Int) = 3 from by omega]
    simp -implicitDefEqProofs [fn_impl_judge_then, List.range_one, h4]
  by_cases h5 : d.kind = 5
  · simp only [h5, if_true, if_false, show ¬ (5 : Int) = 1 from by omega, show ¬ (5 : Int) = 2 from by omega, show ¬ (5 : Int) = 3 from by omega, show ¬ (5 : Int) = 4 from by omega]
    simp -implicitDefEqProofs [fn_impl_judge_then, List.range_one, h5]
  by_cases h6 : d.kind = 6
  · simp only [h6, if_true, if_false, show ¬ (6 : Int) = 1 from by omega, show ¬ (6 : Int) = 2 from by omega, show ¬ (6 : Int) = 3 from by omega, show ¬ (6 : Int) = 4 from by omega, show ¬ (6 : Int) = 5 from by omega]
    have ht2 := E_impl_judge_tries { j with known := false, started := true }
    have e2 : tries { j with known := false, started := true } = tries j := rfl
    rw [e2] at ht2
    cases e : tries j <;> rw [e] at ht2 <;> simp only [if_true, if_false, Bool.false_eq_true] <;> simp -implicitDefEqProofs [fn_impl_judge_then, List.range_one, h6, ht2]
  by_cases h7 : d.kind = 7
  · simp only [h7, if_true, if_false, show ¬ (7 : Int) = 1 from by omega, show ¬ (7 : Int) = 2 from by omega, show ¬ (7 : Int) = 3 from by omega, show ¬ (7 : Int) = 4 from by omega, show ¬ (7 : Int) = 5 from by omega, show ¬ (7 : Int) = 6 from by omega]
    cases e : j.waits <;> simp only [if_true, if_false, Bool.false_eq_true] <;> simp -implicitDefEqProofs [fn_impl_judge_then, List.range_one, h7, e]
  by_cases h8 : d.kind = 8
  · simp only [h8, if_true, if_false, show ¬ (8 : Int) = 1 from by omega, show ¬ (8 : Int) = 2 from by omega, show ¬ (8 : Int) = 3 from by omega, show ¬ (8 : Int) = 4 from by omega, show ¬ (8 : Int) = 5 from by omega, show ¬ (8 : Int) = 6 from by omega, show ¬ (8 : Int) = 7 from by omega]
    simp -implicitDefEqProofs [fn_impl_judge_then, List.range_one, h8]
  simp only [h1, h2, h3, h4, h5, h6, h7, h8, if_false]
  simp -implicitDefEqProofs [fn_impl_judge_then, List.range_one, h1, h2, h3, h4, h5, h6, h7, h8]

set_option maxHeartbeats 4000000 in
theorem E_spec_l21Then (j : JS) (d : DeedT) : tab.E i_spec_l21Then [kV j, vDeed d] [] = some ([kV (thnS j d)], []) := by
  refine Tab.E_of L_spec_l21Then rfl ?_
  have hn := E_spec_l21First
  unfold thnS thn
  by_cases h1 : d.kind = 1
  · simp only [h1, if_true, if_false, show ¬ (1 : Int) = 3 from by omega, false_and]
    simp -implicitDefEqProofs [fn_spec_l21Then, h1, hn, js0]
  by_cases h2 : d.kind = 2
  · simp only [h2, if_true, if_false, show ¬ (2 : Int) = 1 from by omega, show ¬ (2 : Int) = 3 from by omega, false_and]
    simp -implicitDefEqProofs [fn_spec_l21Then, h2]
  by_cases h3 : d.kind = 3
  · cases e : j.opn
    · simp only [h3, and_self, if_true]
      simp -implicitDefEqProofs [fn_spec_l21Then, h3, e]
    · simp only [h3, if_true, if_false, Bool.true_eq_false, and_false, show ¬ (3 : Int) = 1 from by omega, show ¬ (3 : Int) = 2 from by omega]
      simp -implicitDefEqProofs [fn_spec_l21Then, h3, e]
  by_cases h4 : d.kind = 4
  · simp only [h4, if_true, if_false, show ¬ (4 : Int) = 1 from by omega, show ¬ (4 : Int) = 2 from by omega, show ¬ (4 : Int) = 3 from by omega, false_and]
    simp -implicitDefEqProofs [fn_spec_l21Then, h4]
  by_cases h5 : d.kind = 5
  · simp only [h5, if_true, if_false, show ¬ (5 : Int) = 1 from by omega, show ¬ (5 : Int) = 2 from by omega, show ¬ (5 : Int) = 3 from by omega, show ¬ (5 : Int) = 4 from by omega, false_and]
    simp -implicitDefEqProofs [fn_spec_l21Then, h5]
  by_cases h6 : d.kind = 6
  · simp only [h6, if_true, if_false, show ¬ (6 : Int) = 1 from by omega, show ¬ (6 : Int) = 2 from by omega, show ¬ (6 : Int) = 3 from by omega, show ¬ (6 : Int) = 4 from by omega, show ¬ (6 : Int) = 5 from by omega, false_and]
    cases e1 : j.waits
    · have : tries j = false := by simp [tries, e1]
      simp only [this, Bool.false_eq_true, if_false]
      simp -implicitDefEqProofs [fn_spec_l21Then, h6, e1]
    · by_cases e2 : 0 < j.trials
      · have : tries j = true := by simp [tries, e1, e2]
        simp only [this, if_true]
        simp -implicitDefEqProofs [fn_spec_l21Then, h6, e1, e2]
      · have : tries j = false := by simp [tries, e2]
        simp only [this, Bool.false_eq_true, if_false]
        simp -implicitDefEqProofs [fn_spec_l21Then, h6, e1, e2]
  by_cases h7 : d.kind = 7
  · simp only [h7, if_true, if_false, show ¬ (7 : Int) = 1 from by omega, show ¬ (7 : Int) = 2 from by omega, show ¬ (7 : Int) = 3 from by omega, show ¬ (7 : Int) = 4 from by omega, show ¬ (7 : Int) = 5 from by omega, show ¬ (7 : Int) = 6 from by omega, false_and]
    cases e : j.waits <;> simp only [if_true, if_false, Bool.false_eq_true] <;> simp -implicitDefEqProofs [fn_spec_l21Then, h7, e]
  by_cases h8 : d.kind = 8
  · simp only [h8, if_true, if_false, show ¬ (8 : Int) = 1 from by omega, show ¬ (8 : Int) = 2 from by omega, show ¬ (8 : Int) = 3 from by omega, show ¬ (8 : Int) = 4 from by omega, show ¬ (8 : Int) = 5 from by omega, show ¬ (8 : Int) = 6 from by omega, show ¬ (8 : Int) = 7 from by omega, false_and]
    simp -implicitDefEqProofs [fn_spec_l21Then, h8]
  simp only [h1, h2, h3, h4, h5, h6, h7, h8, if_false, false_and]
  simp -implicitDefEqProofs [fn_spec_l21Then, h1, h2, h3, h4, h5, h6, h7, h8]
end Go.Pur
