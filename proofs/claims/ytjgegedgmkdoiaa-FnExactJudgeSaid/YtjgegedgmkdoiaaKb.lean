import Derived.Test.YtjgegedgmkdoiaaKa
namespace Go.Pur
open Go
set_option linter.unusedSimpArgs false

/-! ### marks -/
def mkI (k : Int) (n : Nat) : List Int := (List.range n).map fun (j : Nat) => k + (j : Int)
theorem mkI_length (k : Int) (n : Nat) : (mkI k n).length = n := by simp [mkI]
theorem mkI_get {k : Int} {n i : Nat} (h : i < n) : (mkI k n)[i]? = some (k + (i : Int)) := by simp [mkI, h]
theorem mkI_at {k : Int} {n i : Nat} (h : i < (mkI k n).length) : (mkI k n)[i] = k + (i : Int) := by simp [mkI]
theorem mkI_take (k : Int) (n : Nat) : ((mkI k n).map eI).take n = (mkI k n).map eI := List.take_of_length_le (by simp [mkI_length])
theorem mix_get {α : Type} {L es : List α} {i : Nat} (h : i < L.length) (hl : es.length = L.length) : (L.take i ++ es.drop i)[i]? = some (es[i]'(by omega)) := by
  have hk : (L.take i).length = i := by rw [List.length_take]; omega
  rw [List.getElem?_append_right (by omega), hk, Nat.sub_self, List.getElem?_drop]
  simp [get_at (show i < es.length from by omega)]
theorem mix_set {α : Type} {L es : List α} {i : Nat} {x : α} (h : i < L.length) (hl : es.length = L.length) (hx : L[i]? = some x) : (L.take i ++ es.drop i).set i x = L.take (i + 1) ++ es.drop (i + 1) := by
  have hk : (L.take i).length = i := by rw [List.length_take]; omega
  have ht : L.take (i + 1) = L.take i ++ [x] := by rw [List.take_add_one, hx]; rfl
  rw [List.set_append_right _ _ (by omega), hk, Nat.sub_self, List.drop_eq_getElem_cons (show i < es.length from by omega), ht, List.append_assoc]
  rfl

theorem lp_laws_markIntS (o : Bool) (es : List (List T)) (k : Int) (n : Nat) (he : es.length = n) (hk : -9223372036854775808 ≤ k) (hk' : k + n ≤ 9223372036854775807) (hn : (n : Int) ≤ 4294967296) : ∀ (d i : Nat), i + d = n →
    nrmK 1 [1] (blkK 0 (evLN tab.E 1 [0, 1, 5] b0_laws_markIntS ⟨upd (upd (upd u0 5 (.val (vI i))) 1 (.val (vI (k + i)))) 0 (.val (rf 0 n)), h1 (.arr o 1 (((mkI k n).map eI).take i ++ es.drop i)), 1⟩)) =
      some (.normal, ⟨upd u0 1 (.val (vI (k + n))), h1 (.arr o 1 ((mkI k n).map eI)), 1⟩) := by
  intro d
  induction d with
  | zero =>
    intro i h
    obtain rfl : i = n := by omega
    rw [evLN_eq, mkI_take, show es.drop i = [] from List.drop_of_length_le (by omega), List.append_nil]
    simp -implicitDefEqProofs [List.range_one]
  | succ d ih =>
    intro i h
    have hi : i < n := by omega
    have hL : i < ((mkI k n).map eI).length := by simp [mkI_length, hi]
    have hl : es.length = ((mkI k n).map eI).length := by simp [mkI_length, he]
    have hg := mix_get hL hl
    have hs := mix_set (x := eI (k + i)) hL hl (by simp [mkI_get hi])
    have w1 := w64 (x := (i : Int) + 1) (by omega) (by omega)
    have w2 := w64 (x := k + (i : Int) + 1) (by omega) (by omega)
    have := ih (i + 1) (by omega)
    rw [evLN_eq]
    simp only [Int.natCast_add, Int.natCast_one, ← Int.add_assoc] at this
    simp -implicitDefEqProofs [List.range_one, hi, hg, hs, w1, w2, this]

theorem E_laws_markIntS (o : Bool) (es : List (List T)) (k : Int) (n : Nat) (he : es.length = n) (hk : -9223372036854775808 ≤ k) (hk' : k + n ≤ 9223372036854775807) (hn : (n : Int) ≤ 4294967296) :
    tab.E i_laws_markIntS [rf 0 n, vI k] [.arr o 1 es] = some ([vI (k + n)], [.arr o 1 ((mkI k n).map eI)]) := by
  refine Tab.E_of L_laws_markIntS rfl ?_
  have := lp_laws_markIntS o es k n he hk hk' hn n 0 (by omega)
  simp at this
  simp -implicitDefEqProofs [fn_laws_markIntS, List.range_one, this]
theorem E_laws_markIntS_nil (k : Int) : tab.E i_laws_markIntS [v1 (.nils 1), vI k] [] = some ([vI k], []) := by
  refine Tab.E_of L_laws_markIntS rfl ?_
  simp -implicitDefEqProofs [fn_laws_markIntS, evLN_eq]

theorem lp_laws_heldIntS (k : Int) (n : Nat) (hk : -9223372036854775808 ≤ k) (hk' : k + n ≤ 9223372036854775807) (hn : (n : Int) ≤ 4294967296) : ∀ (d i : Nat), i + d = n →
    nrmK 0 [1] (blkK 0 (evLN tab.E 0 [0, 1, 5] b0_laws_heldIntS ⟨upd (upd (upd u0 5 (.val (vI i))) 1 (.val (vI (k + i)))) 0 (.val (vIs (mkI k n))), h0, 1⟩)) =
      some (.normal, ⟨upd u0 1 (.val (vI (k + n))), h0, 1⟩) := by
  intro d
  induction d with
  | zero =>
    intro i h
    obtain rfl : i = n := by omega
    rw [evLN_eq]
    simp -implicitDefEqProofs [mkI_length]
  | succ d ih =>
    intro i h
    have hi : i < n := by omega
    have w1 := w64 (x := (i : Int) + 1) (by omega) (by omega)
    have w2 := w64 (x := k + (i : Int) + 1) (by omega) (by omega)
    have := ih (i + 1) (by omega)
    rw [evLN_eq]
    simp only [Int.natCast_add, Int.natCast_one, ← Int.add_assoc] at this
    simp -implicitDefEqProofs [mkI_length, mkI_get hi, mkI_at, hi, w1, w2, this]
theorem E_laws_heldIntS (k : Int) (n : Nat) (hk : -9223372036854775808 ≤ k) (hk' : k + n ≤ 9223372036854775807) (hn : (n : Int) ≤ 4294967296) :
    tab.E i_laws_heldIntS [vIs (mkI k n), vI k] [] = some ([vI (k + n)], []) := by
  refine Tab.E_of L_laws_heldIntS rfl ?_
  have := lp_laws_heldIntS k n hk hk' hn n 0 (by omega)
  simp at this
  simp -implicitDefEqProofs [fn_laws_heldIntS, this]

/-! ### pacing -/
def pN (g l c r : Int) : Int := (c + r - l + g - 1).tdiv g
/-- the level and the tick at which an act is begun -/
def pStep (m g l t c r : Int) : Option (Int × Int) :=
  if l < c + r then (if m < c + r ∨ g = 0 then none else some (min m (l + g * pN g l c r), t + pN g l c r)) else some (l, t)
def pacedR (m g r : Int) : List Int → Int → Int → Option (List Int)
  | [], _, _ => some []
  | c :: cs, l, t => match pStep m g l t c r with
    | none => none
    | some (l', t') => (pacedR m g r cs (restL (l' - c) m g 1) (t' + 1)).map (t' :: ·)

theorem pN_ediv {g l c r : Int} (hg : 0 < g) (hl : l < c + r) : pN g l c r = (c + r - l + g - 1) / g := by
  unfold pN
  exact Int.tdiv_eq_ediv_of_nonneg (by omega)
theorem pN_bounds {g l c r : Int} (hg : 0 < g) (hl : l < c + r) : 1 ≤ pN g l c r ∧ pN g l c r ≤ c + r - l ∧ c + r ≤ l + g * pN g l c r := by
  rw [pN_ediv hg hl]
  have h1 := Int.emod_nonneg (c + r - l + g - 1) (by omega : g ≠ 0)
  have h2 := Int.emod_lt_of_pos (c + r - l + g - 1) hg
  have h3 := Int.mul_ediv_add_emod (c + r - l + g - 1) g
  have hge : 1 ≤ (c + r - l + g - 1) / g := by
    rw [Int.le_ediv_iff_mul_le hg]; omega
  have hle : (c + r - l + g - 1) / g ≤ c + r - l := by
    have hm : (c + r - l) * 1 ≤ (c + r - l) * g := Int.mul_le_mul_of_nonneg_left (by omega) (by omega)
    rw [Int.ediv_le_iff_le_mul hg]
    have : (c + r - l) * g = g * (c + r - l) := Int.mul_comm _ _
    omega
  exact ⟨hge, hle, by omega⟩
theorem pStep_next {m g l t c r : Int} (hg : 0 < g) (hl : l < c + r) : pStep m g l t c r = pStep m g (min m (l + g)) (t + 1) c r := by
  unfold pStep
  by_cases h1 : m < c + r
  · rw [if_pos hl, if_pos (.inl h1), if_pos (by omega), if_pos (.inl h1)]
  · rw [if_pos hl, if_neg (by omega)]
    by_cases h2 : min m (l + g) < c + r
    · have e1 : min m (l + g) = l + g := by omega
      rw [if_pos h2, if_neg (by omega)]
      rw [e1] at h2 ⊢
      have e2 : pN g l c r = pN g (l + g) c r + 1 := by
        rw [pN_ediv hg hl, pN_ediv hg h2, show c + r - l + g - 1 = (c + r - (l + g) + g - 1) + 1 * g from by omega, Int.add_mul_ediv_right _ _ (by omega)]
      rw [e2, Int.mul_add, Int.mul_one]
      congr 2
      · congr 1; omega
      · omega
    · rw [if_neg h2]
      have e1 : pN g l c r = 1 := by
        obtain ⟨b1, b2, b3⟩ := pN_bounds hg hl
        have h5 : pN g l c r ≤ 1 := by
          rw [pN_ediv hg hl]
          have : (c + r - l + g - 1) / g < 2 := by
            rw [Int.ediv_lt_iff_lt_mul hg]; omega
          omega
        omega
      rw [e1, Int.mul_one]

theorem restL_one {m g l : Int} (h : supOk l m g = true) : supOk (restL l m g 1) m g = true := by
  obtain ⟨h1, h2, h3, h4, h5, h6⟩ := supOk_iff.1 h
  rw [supOk_iff]
  unfold restL
  have : min (1 : Int) 100000 = 1 := by omega
  rw [this, Int.mul_one]
  split <;> omega

theorem pStep_some {m g l t c r l' t' : Int} (h : supOk l m g = true) (hc : 0 ≤ c) (hr : 0 ≤ r) (hp : pStep m g l t c r = some (l', t')) : c + r ≤ l' ∧ l' ≤ m ∧ t ≤ t' ∧ t' ≤ t + 100000 ∧ supOk (l' - c) m g = true := by
  obtain ⟨h1, h2, h3, h4, h5, h6⟩ := supOk_iff.1 h
  rw [supOk_iff]
  unfold pStep at hp
  split at hp
  · rename_i hl
    split at hp
    · cases hp
    · rename_i hn
      simp only [Option.some.injEq, Prod.mk.injEq] at hp
      obtain ⟨b1, b2, b3⟩ := pN_bounds (show 0 < g from by omega) hl
      omega
  · simp only [Option.some.injEq, Prod.mk.injEq] at hp
    omega

theorem lp0_impl_Paced (cs : List Int) (a b c r : Int) (hl : cs.length ≤ maxLen) : ∀ (d i : Nat), i + d = cs.length →
    nrmK 0 [1, 2, 3] (blkK 0 (evLN tab.E 0 [1, 2, 3, 29, 30, 31] b0_impl_Paced ⟨upd (upd (upd (upd (upd (upd u0 31 (.val (vI i))) 30 (.val (vI cs.length))) 29 (.val (vIs cs))) 3 (.val (v1 (.ptr (0, 0) 0)))) 2 (.val (vI r))) 1 (.val (vIs cs)), h1 (.row [cI a, cI b, cI c]), 1⟩)) =
      if (cs.drop i).all (fun u => inB u 0 100000) = true then some (.normal, ⟨upd (upd (upd u0 3 (.val (v1 (.ptr (0, 0) 0)))) 2 (.val (vI r))) 1 (.val (vIs cs)), h1 (.row [cI a, cI b, cI c]), 1⟩)
      else some (.ret, ⟨upd (upd u0 7 (.val (vB false))) 6 (.val (v1 (.nils 1))), h0, 1⟩) := by
  intro d
  induction d with
  | zero =>
    intro i h
    obtain rfl : i = cs.length := by omega
    rw [evLN_eq]
    simp -implicitDefEqProofs
  | succ d ih =>
    intro i h
    have hi : i < cs.length := by omega
    have hm : (cs.length : Int) ≤ 9223372036854775807 := by simp [maxLen] at hl; omega
    have hw := w64 (x := (i : Int) + 1) (by omega) (by omega)
    have hq := E_impl_in cs[i] 0 100000
    have := ih (i + 1) (by omega)
    rw [List.drop_eq_getElem_cons hi, evLN_eq]
    generalize hp : (fun u => inB u 0 100000) = p at this ⊢
    have hpi : inB cs[i] 0 100000 = p cs[i] := by rw [← hp]
    rw [hpi] at hq
    rw [show (cs[i] :: cs.drop (i + 1)).all p = (p cs[i] && (cs.drop (i + 1)).all p) from List.all_cons ..]
    cases e : p cs[i] <;> rw [e] at hq <;> cases e2 : (cs.drop (i + 1)).all p <;> simp only [e2, if_true, if_false, Bool.false_eq_true, Bool.true_and, Bool.false_and, Int.natCast_add, Int.natCast_one] at this ⊢ <;>
      simp -implicitDefEqProofs [hi, hw, hq, this]

theorem lp0_spec_Paced (cs : List Int) (a b c r : Int) (hl : cs.length ≤ maxLen) : ∀ (d i : Nat), i + d = cs.length →
    nrmK 0 [1, 2, 3] (blkK 0 (evLN tab.E 0 [1, 2, 3, 8] b0_spec_Paced ⟨upd (upd (upd (upd u0 8 (.val (vI i))) 3 (.val (v1 (.ptr (0, 0) 0)))) 2 (.val (vI r))) 1 (.val (vIs cs)), h1 (.row [cI a, cI b, cI c]), 1⟩)) =
      if (cs.drop i).all (fun u => inB u 0 100000) = true then some (.normal, ⟨upd (upd (upd u0 3 (.val (v1 (.ptr (0, 0) 0)))) 2 (.val (vI r))) 1 (.val (vIs cs)), h1 (.row [cI a, cI b, cI c]), 1⟩)
      else some (.ret, ⟨upd (upd u0 7 (.val (vB false))) 6 (.val (rf 0 0)), h1 (.arr true 1 []), 1⟩) := by
  intro d
  induction d with
  | zero =>
    intro i h
    obtain rfl : i = cs.length := by omega
    rw [evLN_eq]
    simp -implicitDefEqProofs
  | succ d ih =>
    intro i h
    have hi : i < cs.length := by omega
    have hm : (cs.length : Int) ≤ 9223372036854775807 := by simp [maxLen] at hl; omega
    have hw := w64 (x := (i : Int) + 1) (by omega) (by omega)
    have hq := E_spec_l1In cs[i] 0 100000
    have := ih (i + 1) (by omega)
    rw [List.drop_eq_getElem_cons hi, evLN_eq]
    generalize hp : (fun u => inB u 0 100000) = p at this ⊢
    have hpi : inB cs[i] 0 100000 = p cs[i] := by rw [← hp]
    rw [hpi] at hq
    rw [show (cs[i] :: cs.drop (i + 1)).all p = (p cs[i] && (cs.drop (i + 1)).all p) from List.all_cons ..]
    cases e : p cs[i] <;> rw [e] at hq <;> cases e2 : (cs.drop (i + 1)).all p <;> simp only [e2, if_true, if_false, Bool.false_eq_true, Bool.true_and, Bool.false_and, Int.natCast_add, Int.natCast_one, List.map_nil] at this ⊢ <;>
      simp -implicitDefEqProofs [hi, hw, hq, this]
end Go.Pur
