import Derived.Test.YtjgegedgmkdoiaaKg
namespace Go.Pur
open Go
set_option linter.unusedSimpArgs false

set_option maxHeartbeats 2000000 in
theorem E_spec_l21Field (d : DeedT) : tab.E i_spec_l21Field [vDeed d] [] = some ([vB (field d)], []) := by
  refine Tab.E_of L_spec_l21Field rfl ?_
  obtain ⟨k, s, v⟩ := d
  have hs := E_spec_l1In s 0 1
  unfold field
  simp only
  by_cases h1 : k = 1
  · subst h1
    have hv := E_spec_l1In v 0 1024
    by_cases e2 : s = 0
    · subst e2
      rw [show inB 0 0 1 = true from rfl] at hs ⊢
      cases e3 : inB v 0 1024 <;> rw [e3] at hv <;> simp -implicitDefEqProofs [fn_spec_l21Field, hs, hv, e3]
    · cases e1 : inB s 0 1 <;> simp -implicitDefEqProofs [fn_spec_l21Field, e1, e2]
  by_cases h3 : k = 3
  · subst h3
    have hv := E_spec_l1In v 0 1024
    by_cases e2 : s = 0
    · subst e2
      rw [show inB 0 0 1 = true from rfl] at hs ⊢
      cases e3 : inB v 0 1024 <;> rw [e3] at hv <;> simp -implicitDefEqProofs [fn_spec_l21Field, hs, hv, e3]
    · cases e1 : inB s 0 1 <;> simp -implicitDefEqProofs [fn_spec_l21Field, e1, e2]
  by_cases h2 : k = 2
  · subst h2
    have hv := E_spec_l1In v 1 2147483647
    cases e1 : inB s 0 1 <;> rw [e1] at hs
    · simp -implicitDefEqProofs [fn_spec_l21Field, hs, e1]
    · cases e3 : inB v 1 2147483647 <;> rw [e3] at hv <;> simp -implicitDefEqProofs [fn_spec_l21Field, hs, hv, e1, e3]
  by_cases h4 : k = 4
  · subst h4
    have hv := E_spec_l1In v 0 1024
    cases e1 : inB s 0 1 <;> rw [e1] at hs
    · simp -implicitDefEqProofs [fn_spec_l21Field, hs, e1]
    · cases e3 : inB v 0 1024 <;> rw [e3] at hv <;> simp -implicitDefEqProofs [fn_spec_l21Field, hs, hv, e1, e3]
  by_cases h5 : k = 5
  · subst h5
    have hv := E_spec_l1In v 2 17
    by_cases e2 : s = 0
    · subst e2
      rw [show inB 0 0 1 = true from rfl] at hs ⊢
      cases e3 : inB v 2 17 <;> rw [e3] at hv <;> simp -implicitDefEqProofs [fn_spec_l21Field, hs, hv, e3]
    · cases e1 : inB s 0 1 <;> simp -implicitDefEqProofs [fn_spec_l21Field, e1, e2]
  have hz : inB v 0 0 = decide (v = 0) := by
    rw [Bool.eq_iff_iff, inB_iff, decide_eq_true_iff]; omega
  rw [hz]
  by_cases h6 : k = 6
  · subst h6
    cases e1 : inB s 0 1 <;> rw [e1] at hs
    · simp -implicitDefEqProofs [fn_spec_l21Field, hs, e1]
    · by_cases e3 : v = 0 <;> simp -implicitDefEqProofs [fn_spec_l21Field, hs, e1, e3]
  by_cases h7 : k = 7
  · subst h7
    cases e1 : inB s 0 1 <;> rw [e1] at hs
    · simp -implicitDefEqProofs [fn_spec_l21Field, hs, e1]
    · by_cases e3 : v = 0 <;> simp -implicitDefEqProofs [fn_spec_l21Field, hs, e1, e3]
  by_cases h8 : k = 8
  · subst h8
    by_cases e2 : s = 0
    · subst e2
      rw [show inB 0 0 1 = true from rfl] at hs ⊢
      by_cases e3 : v = 0 <;> simp -implicitDefEqProofs [fn_spec_l21Field, hs, e3]
    · cases e1 : inB s 0 1 <;> simp -implicitDefEqProofs [fn_spec_l21Field, e1, e2]
  simp only [h1, h2, h3, h4, h5, h6, h7, h8, or_self, if_false]
  by_cases e2 : s = 0
  · subst e2
    rw [show inB 0 0 1 = true from rfl] at hs
    simp -implicitDefEqProofs [fn_spec_l21Field, hs, h1, h2, h3, h4, h5, h6, h7, h8]
  · simp -implicitDefEqProofs [fn_spec_l21Field, h1, h2, h3, h4, h5, h6, h7, h8, e2]

set_option maxHeartbeats 1000000 in
theorem sb1 (j : JS) (i : Int) (d : DeedT) : tab.E i_spec_l21Breaks [kV j, vDeed d, vI i, vI 1] [] = some ([vB (brk j 1 i d)], []) := by
  refine Tab.E_of L_spec_l21Breaks rfl ?_
  by_cases h1 : i = 0 <;> by_cases h2 : d.kind = 1 <;> simp -implicitDefEqProofs [fn_spec_l21Breaks, brk, h1, h2]
set_option maxHeartbeats 1000000 in
theorem sb2 (j : JS) (i : Int) (d : DeedT) : tab.E i_spec_l21Breaks [kV j, vDeed d, vI i, vI 2] [] = some ([vB (brk j 2 i d)], []) := by
  refine Tab.E_of L_spec_l21Breaks rfl ?_
  have := E_spec_l21Field d
  simp -implicitDefEqProofs [fn_spec_l21Breaks, brk, this]
set_option maxHeartbeats 1000000 in
theorem sb3 (j : JS) (i : Int) (d : DeedT) : tab.E i_spec_l21Breaks [kV j, vDeed d, vI i, vI 3] [] = some ([vB (brk j 3 i d)], []) := by
  refine Tab.E_of L_spec_l21Breaks rfl ?_
  cases e1 : j.waits <;> by_cases h2 : d.kind = 2
  · simp -implicitDefEqProofs [fn_spec_l21Breaks, brk, e1, h2]
  · by_cases h4 : d.kind = 4 <;> simp -implicitDefEqProofs [fn_spec_l21Breaks, brk, e1, h2, h4]
  · simp -implicitDefEqProofs [fn_spec_l21Breaks, brk, e1, h2]
  · by_cases h4 : d.kind = 4 <;> simp -implicitDefEqProofs [fn_spec_l21Breaks, brk, e1, h2, h4]
set_option maxHeartbeats 1000000 in
theorem sb4 (j : JS) (i : Int) (d : DeedT) : tab.E i_spec_l21Breaks [kV j, vDeed d, vI i, vI 4] [] = some ([vB (brk j 4 i d)], []) := by
  refine Tab.E_of L_spec_l21Breaks rfl ?_
  by_cases h2 : d.kind = 2
  · by_cases h3 : d.slot = j.conf <;> simp -implicitDefEqProofs [fn_spec_l21Breaks, brk, h2, h3]
  · by_cases h4 : d.kind = 4
    · by_cases h3 : d.slot = j.conf
      · simp -implicitDefEqProofs [fn_spec_l21Breaks, brk, h2, h4, h3]
      · cases e1 : j.opn
        · simp -implicitDefEqProofs [fn_spec_l21Breaks, brk, h2, h4, h3, e1]
        · by_cases h5 : d.slot = j.slot
          · have h3' : ¬ j.slot = j.conf := h5 ▸ h3
            simp -implicitDefEqProofs [fn_spec_l21Breaks, brk, h2, h4, h3', e1, h5]
          · simp -implicitDefEqProofs [fn_spec_l21Breaks, brk, h2, h4, h3, e1, h5]
    · simp -implicitDefEqProofs [fn_spec_l21Breaks, brk, h2, h4]
set_option maxHeartbeats 1000000 in
theorem sb5 (j : JS) (i : Int) (d : DeedT) : tab.E i_spec_l21Breaks [kV j, vDeed d, vI i, vI 5] [] = some ([vB (brk j 5 i d)], []) := by
  refine Tab.E_of L_spec_l21Breaks rfl ?_
  cases e1 : j.opn <;> by_cases h3 : d.kind = 3
  · simp -implicitDefEqProofs [fn_spec_l21Breaks, brk, e1, h3]
  · by_cases h4 : d.kind = 4
    · simp -implicitDefEqProofs [fn_spec_l21Breaks, brk, e1, h3, h4]
    · by_cases h5 : d.kind = 5 <;> simp -implicitDefEqProofs [fn_spec_l21Breaks, brk, e1, h3, h4, h5]
  · simp -implicitDefEqProofs [fn_spec_l21Breaks, brk, e1, h3]
  · by_cases h4 : d.kind = 4
    · simp -implicitDefEqProofs [fn_spec_l21Breaks, brk, e1, h3, h4]
    · by_cases h5 : d.kind = 5 <;> simp -implicitDefEqProofs [fn_spec_l21Breaks, brk, e1, h3, h4, h5]
set_option maxHeartbeats 1000000 in
theorem sb6 (j : JS) (i : Int) (d : DeedT) : tab.E i_spec_l21Breaks [kV j, vDeed d, vI i, vI 6] [] = some ([vB (brk j 6 i d)], []) := by
  refine Tab.E_of L_spec_l21Breaks rfl ?_
  cases e1 : j.opn
  · simp -implicitDefEqProofs [fn_spec_l21Breaks, brk, e1]
  cases e2 : j.known
  · simp -implicitDefEqProofs [fn_spec_l21Breaks, brk, e1, e2]
  by_cases h3 : d.kind = 3
  · by_cases h5 : d.value < j.made <;> simp -implicitDefEqProofs [fn_spec_l21Breaks, brk, e1, e2, h3, h5]
  · by_cases h4 : d.kind = 4
    · by_cases h5 : d.value = j.made <;> simp -implicitDefEqProofs [fn_spec_l21Breaks, brk, e1, e2, h3, h4, h5]
    · simp -implicitDefEqProofs [fn_spec_l21Breaks, brk, e1, e2, h3, h4]
set_option maxHeartbeats 1000000 in
theorem sb7 (j : JS) (i : Int) (d : DeedT) : tab.E i_spec_l21Breaks [kV j, vDeed d, vI i, vI 7] [] = some ([vB (brk j 7 i d)], []) := by
  refine Tab.E_of L_spec_l21Breaks rfl ?_
  cases e1 : j.waits
  · by_cases h6 : d.kind = 6
    · by_cases h7 : d.slot = j.conf <;> simp -implicitDefEqProofs [fn_spec_l21Breaks, brk, tries, e1, h6, h7]
    · simp -implicitDefEqProofs [fn_spec_l21Breaks, brk, tries, e1, h6]
  · by_cases e2 : 0 < j.trials
    · by_cases h6 : d.kind = 6
      · by_cases h7 : d.slot = j.cand <;> simp -implicitDefEqProofs [fn_spec_l21Breaks, brk, tries, e1, e2, h6, h7]
      · simp -implicitDefEqProofs [fn_spec_l21Breaks, brk, tries, e1, e2, h6]
    · by_cases h6 : d.kind = 6
      · by_cases h7 : d.slot = j.conf <;> simp -implicitDefEqProofs [fn_spec_l21Breaks, brk, tries, e1, e2, h6, h7]
      · simp -implicitDefEqProofs [fn_spec_l21Breaks, brk, tries, e1, e2, h6]
set_option maxHeartbeats 1000000 in
theorem sb8 (j : JS) (i : Int) (d : DeedT) : tab.E i_spec_l21Breaks [kV j, vDeed d, vI i, vI 8] [] = some ([vB (brk j 8 i d)], []) := by
  refine Tab.E_of L_spec_l21Breaks rfl ?_
  by_cases h7 : d.kind = 7
  · cases e1 : j.waits
    · simp -implicitDefEqProofs [fn_spec_l21Breaks, brk, h7, e1]
    · by_cases h1 : d.slot = j.cand
      · cases e2 : j.started
        · simp -implicitDefEqProofs [fn_spec_l21Breaks, brk, h7, e1, h1, e2]
        · by_cases h3 : j.runs = j.cand <;> simp -implicitDefEqProofs [fn_spec_l21Breaks, brk, h7, e1, h1, e2, h3]
      · simp -implicitDefEqProofs [fn_spec_l21Breaks, brk, h7, e1, h1]
  · simp -implicitDefEqProofs [fn_spec_l21Breaks, brk, h7]
set_option maxHeartbeats 1000000 in
theorem sb9 (j : JS) (i : Int) (d : DeedT) : tab.E i_spec_l21Breaks [kV j, vDeed d, vI i, vI 9] [] = some ([vB (brk j 9 i d)], []) := by
  refine Tab.E_of L_spec_l21Breaks rfl ?_
  by_cases h8 : d.kind = 8
  · cases e1 : j.waits <;> simp -implicitDefEqProofs [fn_spec_l21Breaks, brk, h8, e1]
  · simp -implicitDefEqProofs [fn_spec_l21Breaks, brk, h8]
theorem E_spec_l21Breaks (j : JS) (i : Int) (d : DeedT) (r : Int) (h : 1 ≤ r) (h' : r ≤ 9) : tab.E i_spec_l21Breaks [kV j, vDeed d, vI i, vI r] [] = some ([vB (brk j r i d)], []) := by
  have : r = 1 ∨ r = 2 ∨ r = 3 ∨ r = 4 ∨ r = 5 ∨ r = 6 ∨ r = 7 ∨ r = 8 ∨ r = 9 := by omega
  rcases this with rfl | rfl | rfl | rfl | rfl | rfl | rfl | rfl | rfl
  · exact sb1 ..
  · exact sb2 ..
  · exact sb3 ..
  · exact sb4 ..
  · exact sb5 ..
  · exact sb6 ..
  · exact sb7 ..
  · exact sb8 ..
  · exact sb9 ..
end Go.Pur
