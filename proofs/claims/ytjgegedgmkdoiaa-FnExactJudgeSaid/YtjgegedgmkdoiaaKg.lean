import Derived.Test.YtjgegedgmkdoiaaKf
namespace Go.Pur
open Go
set_option linter.unusedSimpArgs false

set_option maxHeartbeats 1000000 in
theorem ib1 (j : JS) (i : Int) (d : DeedT) : tab.E i_impl_judge_breaks [jT j, vI 1, vI i, vDeed d] [] = some ([vB (brk j 1 i d)], []) := by
  refine Tab.E_of L_impl_judge_breaks rfl ?_
  by_cases h1 : i = 0 <;> by_cases h2 : d.kind = 1 <;> simp -implicitDefEqProofs [fn_impl_judge_breaks, brk, h1, h2]
set_option maxHeartbeats 1000000 in
theorem ib2 (j : JS) (i : Int) (d : DeedT) : tab.E i_impl_judge_breaks [jT j, vI 2, vI i, vDeed d] [] = some ([vB (brk j 2 i d)], []) := by
  refine Tab.E_of L_impl_judge_breaks rfl ?_
  have := E_impl_fieldsOk d
  simp -implicitDefEqProofs [fn_impl_judge_breaks, brk, this]
set_option maxHeartbeats 1000000 in
theorem ib3 (j : JS) (i : Int) (d : DeedT) : tab.E i_impl_judge_breaks [jT j, vI 3, vI i, vDeed d] [] = some ([vB (brk j 3 i d)], []) := by
  refine Tab.E_of L_impl_judge_breaks rfl ?_
  cases e1 : j.waits <;> by_cases h2 : d.kind = 2
  · simp -implicitDefEqProofs [fn_impl_judge_breaks, brk, e1, h2]
  · by_cases h4 : d.kind = 4 <;> simp -implicitDefEqProofs [fn_impl_judge_breaks, brk, e1, h2, h4]
  · simp -implicitDefEqProofs [fn_impl_judge_breaks, brk, e1, h2]
  · by_cases h4 : d.kind = 4 <;> simp -implicitDefEqProofs [fn_impl_judge_breaks, brk, e1, h2, h4]
set_option maxHeartbeats 1000000 in
theorem ib4 (j : JS) (i : Int) (d : DeedT) : tab.E i_impl_judge_breaks [jT j, vI 4, vI i, vDeed d] [] = some ([vB (brk j 4 i d)], []) := by
  refine Tab.E_of L_impl_judge_breaks rfl ?_
  by_cases h2 : d.kind = 2
  · by_cases h3 : d.slot = j.conf <;> simp -implicitDefEqProofs [fn_impl_judge_breaks, brk, h2, h3]
  · by_cases h4 : d.kind = 4
    · by_cases h3 : d.slot = j.conf
      · simp -implicitDefEqProofs [fn_impl_judge_breaks, brk, h2, h4, h3]
      · cases e1 : j.opn
        · simp -implicitDefEqProofs [fn_impl_judge_breaks, brk, h2, h4, h3, e1]
        · by_cases h5 : d.slot = j.slot
          · have h3' : ¬ j.slot = j.conf := h5 ▸ h3
            simp -implicitDefEqProofs [fn_impl_judge_breaks, brk, h2, h4, h3', e1, h5]
          · simp -implicitDefEqProofs [fn_impl_judge_breaks, brk, h2, h4, h3, e1, h5]
    · simp -implicitDefEqProofs [fn_impl_judge_breaks, brk, h2, h4]
set_option maxHeartbeats 1000000 in
theorem ib5 (j : JS) (i : Int) (d : DeedT) : tab.E i_impl_judge_breaks [jT j, vI 5, vI i, vDeed d] [] = some ([vB (brk j 5 i d)], []) := by
  refine Tab.E_of L_impl_judge_breaks rfl ?_
  cases e1 : j.opn <;> by_cases h3 : d.kind = 3
  · simp -implicitDefEqProofs [fn_impl_judge_breaks, brk, e1, h3]
  · by_cases h4 : d.kind = 4
    · simp -implicitDefEqProofs [fn_impl_judge_breaks, brk, e1, h3, h4]
    · by_cases h5 : d.kind = 5 <;> simp -implicitDefEqProofs [fn_impl_judge_breaks, brk, e1, h3, h4, h5]
  · simp -implicitDefEqProofs [fn_impl_judge_breaks, brk, e1, h3]
  · by_cases h4 : d.kind = 4
    · simp -implicitDefEqProofs [fn_impl_judge_breaks, brk, e1, h3, h4]
    · by_cases h5 : d.kind = 5 <;> simp -implicitDefEqProofs [fn_impl_judge_breaks, brk, e1, h3, h4, h5]
set_option maxHeartbeats 1000000 in
theorem ib6 (j : JS) (i : Int) (d : DeedT) : tab.E i_impl_judge_breaks [jT j, vI 6, vI i, vDeed d] [] = some ([vB (brk j 6 i d)], []) := by
  refine Tab.E_of L_impl_judge_breaks rfl ?_
  cases e1 : j.opn
  · simp -implicitDefEqProofs [fn_impl_judge_breaks, brk, e1]
  cases e2 : j.known
  · simp -implicitDefEqProofs [fn_impl_judge_breaks, brk, e1, e2]
  by_cases h3 : d.kind = 3
  · by_cases h5 : d.value < j.made <;> simp -implicitDefEqProofs [fn_impl_judge_breaks, brk, e1, e2, h3, h5]
  · by_cases h4 : d.kind = 4
    · by_cases h5 : d.value = j.made <;> simp -implicitDefEqProofs [fn_impl_judge_breaks, brk, e1, e2, h3, h4, h5]
    · simp -implicitDefEqProofs [fn_impl_judge_breaks, brk, e1, e2, h3, h4]
set_option maxHeartbeats 1000000 in
theorem ib7 (j : JS) (i : Int) (d : DeedT) : tab.E i_impl_judge_breaks [jT j, vI 7, vI i, vDeed d] [] = some ([vB (brk j 7 i d)], []) := by
  refine Tab.E_of L_impl_judge_breaks rfl ?_
  have ht := E_impl_judge_tries j
  by_cases h6 : d.kind = 6
  · cases e : tries j <;> rw [e] at ht
    · by_cases h7 : d.slot = j.conf <;> simp -implicitDefEqProofs [fn_impl_judge_breaks, brk, ht, e, h6, h7]
    · by_cases h7 : d.slot = j.cand <;> simp -implicitDefEqProofs [fn_impl_judge_breaks, brk, ht, e, h6, h7]
  · cases e : tries j <;> rw [e] at ht <;> simp -implicitDefEqProofs [fn_impl_judge_breaks, brk, ht, e, h6]
set_option maxHeartbeats 1000000 in
theorem ib8 (j : JS) (i : Int) (d : DeedT) : tab.E i_impl_judge_breaks [jT j, vI 8, vI i, vDeed d] [] = some ([vB (brk j 8 i d)], []) := by
  refine Tab.E_of L_impl_judge_breaks rfl ?_
  by_cases h7 : d.kind = 7
  · cases e1 : j.waits
    · simp -implicitDefEqProofs [fn_impl_judge_breaks, brk, h7, e1]
    · by_cases h1 : d.slot = j.cand
      · cases e2 : j.started
        · simp -implicitDefEqProofs [fn_impl_judge_breaks, brk, h7, e1, h1, e2]
        · by_cases h3 : j.runs = j.cand <;> simp -implicitDefEqProofs [fn_impl_judge_breaks, brk, h7, e1, h1, e2, h3]
      · simp -implicitDefEqProofs [fn_impl_judge_breaks, brk, h7, e1, h1]
  · simp -implicitDefEqProofs [fn_impl_judge_breaks, brk, h7]
set_option maxHeartbeats 1000000 in
theorem ib9 (j : JS) (i : Int) (d : DeedT) : tab.E i_impl_judge_breaks [jT j, vI 9, vI i, vDeed d] [] = some ([vB (brk j 9 i d)], []) := by
  refine Tab.E_of L_impl_judge_breaks rfl ?_
  by_cases h8 : d.kind = 8
  · cases e1 : j.waits <;> simp -implicitDefEqProofs [fn_impl_judge_breaks, brk, h8, e1]
  · simp -implicitDefEqProofs [fn_impl_judge_breaks, brk, h8]
theorem E_impl_judge_breaks (j : JS) (i : Int) (d : DeedT) (r : Int) (h : 1 ≤ r) (h' : r ≤ 9) : tab.E i_impl_judge_breaks [jT j, vI r, vI i, vDeed d] [] = some ([vB (brk j r i d)], []) := by
  have : r = 1 ∨ r = 2 ∨ r = 3 ∨ r = 4 ∨ r = 5 ∨ r = 6 ∨ r = 7 ∨ r = 8 ∨ r = 9 := by omega
  rcases this with rfl | rfl | rfl | rfl | rfl | rfl | rfl | rfl | rfl
  · exact ib1 ..
  · exact ib2 ..
  · exact ib3 ..
  · exact ib4 ..
  · exact ib5 ..
  · exact ib6 ..
  · exact ib7 ..
  · exact ib8 ..
  · exact ib9 ..
end Go.Pur
