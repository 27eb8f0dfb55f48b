import Derived.Test.YtjgegedgmkdoiaaIe
namespace Go.Pur
open Go
set_option linter.unusedSimpArgs false

/-! ### counts -/
def cn (us : List Int) (k : Int) : Int := us.countP fun u => decide (u = k)
theorem cn_nil (k : Int) : cn [] k = 0 := rfl
theorem cn_cons (u : Int) (us : List Int) (k : Int) : cn (u :: us) k = (if u = k then 1 else 0) + cn us k := by
  unfold cn
  rw [List.countP_cons]
  by_cases h : u = k <;> simp [h]; omega
theorem cn_le (us : List Int) (k : Int) : 0 ≤ cn us k ∧ cn us k ≤ us.length := by
  unfold cn
  have := List.countP_le_length (p := fun u => decide (u = k)) (l := us)
  omega
abbrev o5 (a b c d e : Int) : LObj := .arr true 1 [eI a, eI b, eI c, eI d, eI e]
abbrev v5 (a b c d e : Int) : AV := ⟨true, [cI a, cI b, cI c, cI d, cI e]⟩
abbrev vFleet (us : List Int) (w : Int) (hd : Bool) : AV := ⟨true, [cIs us, cI w, cB hd]⟩

theorem in5 {u : Int} (h : inB u 0 4 = true) : u = 0 ∨ u = 1 ∨ u = 2 ∨ u = 3 ∨ u = 4 := by
  rw [inB_iff] at h; omega
theorem not5 {u : Int} (h : inB u 0 4 = false) : u ≠ 0 ∧ u ≠ 1 ∧ u ≠ 2 ∧ u ≠ 3 ∧ u ≠ 4 := by
  have : ¬ inB u 0 4 = true := by simp [h]
  rw [inB_iff] at this; omega

set_option maxHeartbeats 1000000 in
theorem lp_impl_Counts (us : List Int) (hl : us.length ≤ maxLen) : ∀ (d i : Nat), i + d = us.length → ∀ a b c e f : Int, (0 ≤ a ∧ a ≤ i) ∧ (0 ≤ b ∧ b ≤ i) ∧ (0 ≤ c ∧ c ≤ i) ∧ (0 ≤ e ∧ e ≤ i) ∧ (0 ≤ f ∧ f ≤ i) →
    nrmK 0 [2, 3] (blkK 0 (evLN tab.E 0 [2, 3, 8, 9, 10] b0_impl_Counts ⟨upd (upd (upd (upd (upd u0 10 (.val (vI i))) 9 (.val (vI us.length))) 8 (.val (vIs us))) 3 (.val (v1 (.pel (0, 1) 0 0)))) 2 (.val (v1 (.pel (0, 0) 0 0))), h2 (o5 0 0 0 0 0) (o5 a b c e f), 1⟩)) =
      some (.normal, ⟨upd (upd u0 3 (.val (v1 (.pel (0, 1) 0 0)))) 2 (.val (v1 (.pel (0, 0) 0 0))), h2 (o5 0 0 0 0 0) (o5 (a + cn (us.drop i) 0) (b + cn (us.drop i) 1) (c + cn (us.drop i) 2) (e + cn (us.drop i) 3) (f + cn (us.drop i) 4)), 1⟩) := by
  intro d
  induction d with
  | zero =>
    intro i h a b c e f _
    obtain rfl : i = us.length := by omega
    rw [evLN_eq]
    simp -implicitDefEqProofs [cn_nil]
  | succ d ih =>
    intro i h a b c e f hb
    have hi : i < us.length := by omega
    have hm : (us.length : Int) ≤ 9223372036854775807 := by simp [maxLen] at hl; omega
    have hw := w64 (x := (i : Int) + 1) (by omega) (by omega)
    have hin := E_impl_in us[i] 0 4
    have st := fun a b c e f h => ih (i + 1) (by omega) a b c e f h
    rw [List.drop_eq_getElem_cons hi, evLN_eq]
    simp only [cn_cons, Int.natCast_add, Int.natCast_one] at st ⊢
    cases he : inB us[i] 0 4 <;> rw [he] at hin
    · obtain ⟨n0, n1, n2, n3, n4⟩ := not5 he
      have := st a b c e f (by omega)
      simp only [n0, n1, n2, n3, n4, if_false, Int.zero_add]
      simp -implicitDefEqProofs [hi, hw, hin, this]
    · rcases in5 he with hu | hu | hu | hu | hu <;> simp only [hu] at hin ⊢
      · have := st (a + 1) b c e f (by omega)
        have hw2 := w64 (x := a + 1) (by omega) (by omega)
        simp -implicitDefEqProofs [hi, hw, hw2, hin, this, hu, Int.add_assoc]
      · have := st a (b + 1) c e f (by omega)
        have hw2 := w64 (x := b + 1) (by omega) (by omega)
        simp -implicitDefEqProofs [hi, hw, hw2, hin, this, hu, Int.add_assoc]
      · have := st a b (c + 1) e f (by omega)
        have hw2 := w64 (x := c + 1) (by omega) (by omega)
        simp -implicitDefEqProofs [hi, hw, hw2, hin, this, hu, Int.add_assoc]
      · have := st a b c (e + 1) f (by omega)
        have hw2 := w64 (x := e + 1) (by omega) (by omega)
        simp -implicitDefEqProofs [hi, hw, hw2, hin, this, hu, Int.add_assoc]
      · have := st a b c e (f + 1) (by omega)
        have hw2 := w64 (x := f + 1) (by omega) (by omega)
        simp -implicitDefEqProofs [hi, hw, hw2, hin, this, hu, Int.add_assoc]

theorem E_impl_Counts (us : List Int) (w : Int) (hd : Bool) (hl : us.length ≤ maxLen) : tab.E i_impl_Counts [vFleet us w hd] [] = some ([v5 (cn us 0) (cn us 1) (cn us 2) (cn us 3) (cn us 4)], []) := by
  refine Tab.E_of L_impl_Counts rfl ?_
  have := lp_impl_Counts us hl us.length 0 (by omega) 0 0 0 0 0 (by omega)
  simp at this
  simp -implicitDefEqProofs [fn_impl_Counts, this]
set_option maxHeartbeats 1000000 in
theorem lp_spec_Counts (us : List Int) (w : Int) (hd : Bool) (hl : us.length ≤ maxLen) : ∀ (d i : Nat), i + d = us.length → ∀ a b c e f : Int, (0 ≤ a ∧ a ≤ i) ∧ (0 ≤ b ∧ b ≤ i) ∧ (0 ≤ c ∧ c ≤ i) ∧ (0 ≤ e ∧ e ≤ i) ∧ (0 ≤ f ∧ f ≤ i) →
    nrmK 0 [2, 3] (blkK 0 (evLN tab.E 0 [1, 2, 3, 4] b0_spec_Counts ⟨upd (upd (upd (upd u0 4 (.val (vI i))) 3 (.val (v1 (.pel (0, 2) 0 0)))) 2 (.val (v1 (.pel (0, 1) 0 0)))) 1 (.val (v1 (.ptr (0, 0) 0))), h3 (.row [cIs us, cI w, cB hd]) (o5 0 0 0 0 0) (o5 a b c e f), 1⟩)) =
      some (.normal, ⟨upd (upd u0 3 (.val (v1 (.pel (0, 1) 0 0)))) 2 (.val (v1 (.pel (0, 0) 0 0))), h2 (o5 0 0 0 0 0) (o5 (a + cn (us.drop i) 0) (b + cn (us.drop i) 1) (c + cn (us.drop i) 2) (e + cn (us.drop i) 3) (f + cn (us.drop i) 4)), 1⟩) := by
  intro d
  induction d with
  | zero =>
    intro i h a b c e f _
    obtain rfl : i = us.length := by omega
    rw [evLN_eq]
    simp -implicitDefEqProofs [cn_nil]
  | succ d ih =>
    intro i h a b c e f hb
    have hi : i < us.length := by omega
    have hm : (us.length : Int) ≤ 9223372036854775807 := by simp [maxLen] at hl; omega
    have hw := w64 (x := (i : Int) + 1) (by omega) (by omega)
    have hin := E_spec_l1In us[i] 0 4
    have st := fun a b c e f h => ih (i + 1) (by omega) a b c e f h
    rw [List.drop_eq_getElem_cons hi, evLN_eq]
    simp only [cn_cons, Int.natCast_add, Int.natCast_one] at st ⊢
    cases he : inB us[i] 0 4 <;> rw [he] at hin
    · obtain ⟨n0, n1, n2, n3, n4⟩ := not5 he
      have := st a b c e f (by omega)
      simp only [n0, n1, n2, n3, n4, if_false, Int.zero_add]
      simp -implicitDefEqProofs [hi, hw, hin, this]
    · rcases in5 he with hu | hu | hu | hu | hu <;> simp only [hu] at hin ⊢
      · have := st (a + 1) b c e f (by omega)
        have hw2 := w64 (x := a + 1) (by omega) (by omega)
        simp -implicitDefEqProofs [hi, hw, hw2, hin, this, hu, Int.add_assoc]
      · have := st a (b + 1) c e f (by omega)
        have hw2 := w64 (x := b + 1) (by omega) (by omega)
        simp -implicitDefEqProofs [hi, hw, hw2, hin, this, hu, Int.add_assoc]
      · have := st a b (c + 1) e f (by omega)
        have hw2 := w64 (x := c + 1) (by omega) (by omega)
        simp -implicitDefEqProofs [hi, hw, hw2, hin, this, hu, Int.add_assoc]
      · have := st a b c (e + 1) f (by omega)
        have hw2 := w64 (x := e + 1) (by omega) (by omega)
        simp -implicitDefEqProofs [hi, hw, hw2, hin, this, hu, Int.add_assoc]
      · have := st a b c e (f + 1) (by omega)
        have hw2 := w64 (x := f + 1) (by omega) (by omega)
        simp -implicitDefEqProofs [hi, hw, hw2, hin, this, hu, Int.add_assoc]

theorem E_spec_Counts (us : List Int) (w : Int) (hd : Bool) (hl : us.length ≤ maxLen) : tab.E i_spec_Counts [vFleet us w hd] [] = some ([v5 (cn us 0) (cn us 1) (cn us 2) (cn us 3) (cn us 4)], []) := by
  refine Tab.E_of L_spec_Counts rfl ?_
  have := lp_spec_Counts us w hd hl us.length 0 (by omega) 0 0 0 0 0 (by omega)
  simp at this
  simp -implicitDefEqProofs [fn_spec_Counts, this]
end Go.Pur
