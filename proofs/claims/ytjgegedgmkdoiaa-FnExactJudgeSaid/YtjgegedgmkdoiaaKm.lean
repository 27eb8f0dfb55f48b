import Derived.Test.YtjgegedgmkdoiaaKl
namespace Go.Pur
open Go
set_option linter.unusedSimpArgs false

abbrev vFinds (l : List (Int × Int)) : AV := ⟨false, [.t (.sl 2 (l.map eFind))]⟩
theorem E_laws_eqFinding (a b : Int × Int) : tab.E i_laws_eqFinding [⟨true, [cI a.1, cI a.2]⟩, ⟨true, [cI b.1, cI b.2]⟩] [] = some ([vB (decide (a = b))], []) := by
  refine Tab.E_of L_laws_eqFinding rfl ?_
  obtain ⟨a1, a2⟩ := a
  obtain ⟨b1, b2⟩ := b
  by_cases e1 : a1 = b1 <;> by_cases e2 : a2 = b2 <;> simp -implicitDefEqProofs [fn_laws_eqFinding, e1, e2]
theorem lp_laws_eqFindingS (a : List (Int × Int)) (hm : a.length ≤ maxLen) : ∀ (d i : Nat), i + d = a.length →
    nrmK 0 [] (blkK 0 (evLN tab.E 0 [0, 1, 5] b0_laws_eqFindingS ⟨upd (upd (upd u0 5 (.val (vI i))) 1 (.val (vFinds a))) 0 (.val (vFinds a)), h0, 1⟩)) = some (.normal, ⟨u0, h0, 1⟩) := by
  intro d
  induction d with
  | zero =>
    intro i h
    obtain rfl : i = a.length := by omega
    rw [evLN_eq]
    simp -implicitDefEqProofs
  | succ d ih =>
    intro i h
    have hi : i < a.length := by omega
    have hw := w64 (x := (i : Int) + 1) (by omega) (by simp [maxLen] at hm; omega)
    have := ih (i + 1) (by omega)
    have hr := E_laws_eqFinding a[i] a[i]
    simp only [Int.natCast_add, Int.natCast_one, decide_true] at this hr
    rw [evLN_eq]
    simp -implicitDefEqProofs [hi, hw, this, hr]
theorem E_laws_eqFindingS (a : List (Int × Int)) (ha : a.length ≤ maxLen) : tab.E i_laws_eqFindingS [vFinds a, vFinds a] [] = some ([vB true], []) := by
  refine Tab.E_of L_laws_eqFindingS rfl ?_
  have := lp_laws_eqFindingS a ha a.length 0 (by omega)
  simp at this
  simp -implicitDefEqProofs [fn_laws_eqFindingS, this]

/-! ### marks -/
def mkD (k : Int) (n : Nat) : List (List T) := (List.range n).map fun (j : Nat) => [tI (k + 3 * (j : Int)), tI (k + 3 * (j : Int) + 1), tI (k + 3 * (j : Int) + 1 + 1)]
theorem mkD_length (k : Int) (n : Nat) : (mkD k n).length = n := by simp [mkD]
def mkF (k : Int) (n : Nat) : List (List T) := (List.range n).map fun (j : Nat) => [tI (k + 2 * (j : Int)), tI (k + 2 * (j : Int) + 1)]
theorem mkF_length (k : Int) (n : Nat) : (mkF k n).length = n := by simp [mkF]
theorem mkF_at {k : Int} {n i : Nat} (h : i < (mkF k n).length) : (mkF k n)[i] = [tI (k + 2 * (i : Int)), tI (k + 2 * (i : Int) + 1)] := by simp [mkF]
theorem set_get {α : Type} {A : List α} {i : Nat} (h : i < A.length) (x : α) : (A.set i x)[i]? = some x := by simp [h]

set_option maxHeartbeats 1000000 in
theorem lp_laws_markDeedS (l : List DeedT) (k : Int) (hk : 0 ≤ k) (hk' : k ≤ 1000) (hn : (l.length : Int) ≤ 1048576) : ∀ (d i : Nat), i + d = l.length →
    nrmK 1 [1] (blkK 0 (evLN tab.E 1 [0, 1, 5] b0_laws_markDeedS ⟨upd (upd (upd u0 5 (.val (vI i))) 1 (.val (vI (k + 3 * i)))) 0 (.val (rf 0 l.length)), h1 (.arr true 3 ((mkD k l.length).take i ++ (l.map eDeed).drop i)), 1⟩)) =
      some (.normal, ⟨upd u0 1 (.val (vI (k + 3 * l.length))), h1 (.arr true 3 (mkD k l.length)), 1⟩) := by
  intro d
  induction d with
  | zero =>
    intro i h
    obtain rfl : i = l.length := by omega
    rw [evLN_eq, List.take_of_length_le (by rw [mkD_length]; omega), show (l.map eDeed).drop l.length = [] from List.drop_of_length_le (by simp), List.append_nil]
    simp -implicitDefEqProofs [List.range_one]
  | succ d ih =>
    intro i h
    have hi : i < l.length := by omega
    have hL : i < (mkD k l.length).length := by rw [mkD_length]; exact hi
    have hl : (l.map eDeed).length = (mkD k l.length).length := by rw [mkD_length]; simp
    have hA := mix_get hL hl
    have hlen : i < ((mkD k l.length).take i ++ (l.map eDeed).drop i).length := (List.getElem?_eq_some_iff.1 hA).1
    have hx := fun x => set_get hlen x
    have hs := mix_set (x := [tI (k + 3 * (i : Int)), tI (k + 3 * (i : Int) + 1), tI (k + 3 * (i : Int) + 1 + 1)]) hL hl (by simp [mkD, hi])
    have w0 := w64 (x := (i : Int) + 1) (by omega) (by omega)
    have w1 := w64 (x := k + 3 * (i : Int) + 1) (by omega) (by omega)
    have w2 := w64 (x := k + 3 * (i : Int) + 1 + 1) (by omega) (by omega)
    have w3 := w64 (x := k + 3 * (i : Int) + 1 + 1 + 1) (by omega) (by omega)
    have := ih (i + 1) (by omega)
    simp only [Int.natCast_add, Int.natCast_one] at this
    rw [show k + 3 * ((i : Int) + 1) = k + 3 * (i : Int) + 1 + 1 + 1 from by omega] at this
    simp only [List.getElem_map] at hA
    rw [evLN_eq]
    generalize hAA : (mkD k l.length).take i ++ (l.map eDeed).drop i = A at hA hx hs
    simp -implicitDefEqProofs [List.range_one, hi, hAA, hA, hx, hs, w0, w1, w2, w3, this]
theorem E_laws_markDeedS (l : List DeedT) (k : Int) (hk : 0 ≤ k) (hk' : k ≤ 1000) (hn : (l.length : Int) ≤ 1048576) :
    tab.E i_laws_markDeedS [rf 0 l.length, vI k] [.arr true 3 (l.map eDeed)] = some ([vI (k + 3 * l.length)], [.arr true 3 (mkD k l.length)]) := by
  refine Tab.E_of L_laws_markDeedS rfl ?_
  have := lp_laws_markDeedS l k hk hk' hn l.length 0 (by omega)
  simp at this
  simp -implicitDefEqProofs [fn_laws_markDeedS, List.range_one, this]

set_option maxHeartbeats 1000000 in
theorem lp_laws_markFindingS (l : List (Int × Int)) (k : Int) (hk : 0 ≤ k) (hk' : k ≤ 1000) (hn : (l.length : Int) ≤ 1048576) : ∀ (d i : Nat), i + d = l.length →
    nrmK 1 [1] (blkK 0 (evLN tab.E 1 [0, 1, 5] b0_laws_markFindingS ⟨upd (upd (upd u0 5 (.val (vI i))) 1 (.val (vI (k + 2 * i)))) 0 (.val (rf 0 l.length)), h1 (.arr true 2 ((mkF k l.length).take i ++ (l.map eFind).drop i)), 1⟩)) =
      some (.normal, ⟨upd u0 1 (.val (vI (k + 2 * l.length))), h1 (.arr true 2 (mkF k l.length)), 1⟩) := by
  intro d
  induction d with
  | zero =>
    intro i h
    obtain rfl : i = l.length := by omega
    rw [evLN_eq, List.take_of_length_le (by rw [mkF_length]; omega), show (l.map eFind).drop l.length = [] from List.drop_of_length_le (by simp), List.append_nil]
    simp -implicitDefEqProofs [List.range_one]
  | succ d ih =>
    intro i h
    have hi : i < l.length := by omega
    have hL : i < (mkF k l.length).length := by rw [mkF_length]; exact hi
    have hl : (l.map eFind).length = (mkF k l.length).length := by rw [mkF_length]; simp
    have hA := mix_get hL hl
    have hlen : i < ((mkF k l.length).take i ++ (l.map eFind).drop i).length := (List.getElem?_eq_some_iff.1 hA).1
    have hx := fun x => set_get hlen x
    have hs := mix_set (x := [tI (k + 2 * (i : Int)), tI (k + 2 * (i : Int) + 1)]) hL hl (by simp [mkF, hi])
    have w0 := w64 (x := (i : Int) + 1) (by omega) (by omega)
    have w1 := w64 (x := k + 2 * (i : Int) + 1) (by omega) (by omega)
    have w2 := w64 (x := k + 2 * (i : Int) + 1 + 1) (by omega) (by omega)
    have := ih (i + 1) (by omega)
    simp only [Int.natCast_add, Int.natCast_one] at this
    rw [show k + 2 * ((i : Int) + 1) = k + 2 * (i : Int) + 1 + 1 from by omega] at this
    simp only [List.getElem_map] at hA
    rw [evLN_eq]
    generalize hAA : (mkF k l.length).take i ++ (l.map eFind).drop i = A at hA hx hs
    simp -implicitDefEqProofs [List.range_one, hi, hAA, hA, hx, hs, w0, w1, w2, this]
theorem E_laws_markFindingS (l : List (Int × Int)) (k : Int) (hk : 0 ≤ k) (hk' : k ≤ 1000) (hn : (l.length : Int) ≤ 1048576) :
    tab.E i_laws_markFindingS [rf 0 l.length, vI k] [.arr true 2 (l.map eFind)] = some ([vI (k + 2 * l.length)], [.arr true 2 (mkF k l.length)]) := by
  refine Tab.E_of L_laws_markFindingS rfl ?_
  have := lp_laws_markFindingS l k hk hk' hn l.length 0 (by omega)
  simp at this
  simp -implicitDefEqProofs [fn_laws_markFindingS, List.range_one, this]
theorem E_laws_markFindingS_nil (k : Int) : tab.E i_laws_markFindingS [v1 (.nils 2), vI k] [] = some ([vI k], []) := by
  refine Tab.E_of L_laws_markFindingS rfl ?_
  simp -implicitDefEqProofs [fn_laws_markFindingS, evLN_eq]

theorem lp_laws_heldFindingS (k : Int) (n : Nat) (hk : 0 ≤ k) (hk' : k ≤ 1000) (hn : (n : Int) ≤ 1048576) : ∀ (d i : Nat), i + d = n →
    nrmK 0 [1] (blkK 0 (evLN tab.E 0 [0, 1, 5] b0_laws_heldFindingS ⟨upd (upd (upd u0 5 (.val (vI i))) 1 (.val (vI (k + 2 * i)))) 0 (.val (v1 (.t (.sl 2 (mkF k n))))), h0, 1⟩)) =
      some (.normal, ⟨upd u0 1 (.val (vI (k + 2 * n))), h0, 1⟩) := by
  intro d
  induction d with
  | zero =>
    intro i h
    obtain rfl : i = n := by omega
    rw [evLN_eq]
    simp -implicitDefEqProofs [mkF_length]
  | succ d ih =>
    intro i h
    have hi : i < n := by omega
    have w0 := w64 (x := (i : Int) + 1) (by omega) (by omega)
    have w1 := w64 (x := k + 2 * (i : Int) + 1) (by omega) (by omega)
    have w2 := w64 (x := k + 2 * (i : Int) + 1 + 1) (by omega) (by omega)
    have := ih (i + 1) (by omega)
    simp only [Int.natCast_add, Int.natCast_one] at this
    rw [show k + 2 * ((i : Int) + 1) = k + 2 * (i : Int) + 1 + 1 from by omega] at this
    rw [evLN_eq]
    simp -implicitDefEqProofs [mkF_length, mkF_at, hi, w0, w1, w2, this]
theorem E_laws_heldFindingS (k : Int) (n : Nat) (hk : 0 ≤ k) (hk' : k ≤ 1000) (hn : (n : Int) ≤ 1048576) :
    tab.E i_laws_heldFindingS [v1 (.t (.sl 2 (mkF k n))), vI k] [] = some ([vI (k + 2 * n)], []) := by
  refine Tab.E_of L_laws_heldFindingS rfl ?_
  have := lp_laws_heldFindingS k n hk hk' hn n 0 (by omega)
  simp at this
  simp -implicitDefEqProofs [fn_laws_heldFindingS, this]

set_option maxHeartbeats 2000000 in
theorem E_laws_FnExactJudge (l : List DeedT) (hl : l.length ≤ maxLen) : tab.E i_laws_FnExactJudge [vDeeds l] [] = some ([vB true], []) := by
  refine Tab.E_of L_laws_FnExactJudge rfl ?_
  have h1 := E_laws_szDeedS l 1048576 (by omega) (by omega) hl
  by_cases e : (1048576 : Int) - l.length < 0
  · simp only [e, if_true] at h1
    simp -implicitDefEqProofs [fn_laws_FnExactJudge, h1]
  simp only [e, if_false] at h1
  have h2 := E_laws_toDeedS l (by omega)
  have h3 := E_spec_Judge l hl
  have h4 := E_impl_Judge l hl
  have h5 := E_laws_eqDeedS l hl
  have h6 := E_laws_markDeedS l 1 (by omega) (by omega) (by omega)
  have h6' : ¬ (1 : Int) + 3 * l.length < 0 := by omega
  by_cases e2 : 500 < l.length
  · rw [if_pos e2] at h3 h4
    have h7 := E_laws_eqFindingS [] (by simp)
    have h8 := E_laws_markFindingS_nil 1
    have h9 := E_laws_heldFindingS 1 0 (by omega) (by omega) (by omega)
    simp [vFinds] at h7
    simp [mkF] at h9
    simp -implicitDefEqProofs [fn_laws_FnExactJudge, h1, e, h2, h3, h4, h5, h6, h6', h7, h8, h9]
  · rw [if_neg e2] at h3 h4
    have hfl := found_length (l := l) (by omega)
    have h7 := E_laws_eqFindingS (found l) (by simp [maxLen]; omega)
    have h8 := E_laws_markFindingS (found l) 1 (by omega) (by omega) (by omega)
    have h9 := E_laws_heldFindingS 1 (found l).length (by omega) (by omega) (by omega)
    have h9' : ¬ (1 : Int) + 2 * (found l).length < 0 := by omega
    have h10 : (mkF 1 (found l).length).take (found l).length = mkF 1 (found l).length := List.take_of_length_le (by rw [mkF_length]; omega)
    simp -implicitDefEqProofs [fn_laws_FnExactJudge, h1, e, h2, h3, h4, h5, h6, h6', h7, h8, h9, h9', h10, mkF_length]
end Go.Pur
