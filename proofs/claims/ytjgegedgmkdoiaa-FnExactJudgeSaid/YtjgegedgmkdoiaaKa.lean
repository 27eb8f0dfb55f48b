import Derived.Test.YtjgegedgmkdoiaaIh
namespace Go.Pur
open Go
set_option linter.unusedSimpArgs false

/-! ### the first that fits -/
theorem lp_slices_IndexFunc____int_int_ (f : FuncId) (p : Int → Bool) (l : List Int) (hl : l.length ≤ maxLen) (hp : ∀ x ∈ l, tab.E f [vI x] [] = some ([vB (p x)], [])) : ∀ (d i : Nat), i + d = l.length →
    nrmK 0 [] (blkK 0 (evLN tab.E 0 [0, 1, 7, 8] b0_slices_IndexFunc____int_int_ ⟨upd (upd (upd (upd u0 8 (.val (vI i))) 7 (.val (vI l.length))) 1 (.val (v1 (.t (.fn f [] []))))) 0 (.val (vIs l)), h0, 1⟩)) =
      if (l.drop i).any p = true then some (.ret, ⟨upd u0 4 (.val (vI (i + (l.drop i).findIdx p : Nat))), h0, 1⟩) else some (.normal, ⟨u0, h0, 1⟩) := by
  intro d
  induction d with
  | zero =>
    intro i h
    obtain rfl : i = l.length := by omega
    rw [evLN_eq]
    simp -implicitDefEqProofs
  | succ d ih =>
    intro i h
    have hi : i < l.length := by omega
    have hm : (l.length : Int) ≤ 9223372036854775807 := by simp [maxLen] at hl; omega
    have hw := w64 (x := (i : Int) + 1) (by omega) (by omega)
    have hq := hp l[i] (List.getElem_mem hi)
    have := ih (i + 1) (by omega)
    rw [List.drop_eq_getElem_cons hi, evLN_eq]
    simp only [List.any_cons, List.findIdx_cons]
    cases e : p l[i] <;> rw [e] at hq
    · cases e2 : (l.drop (i + 1)).any p <;> simp only [e2, if_true, if_false, Bool.false_eq_true, Bool.false_or, cond_false, Int.natCast_add, Int.natCast_one] at this ⊢
      · simp -implicitDefEqProofs [hi, hw, hq, this]
      · have hc : (i : Int) + 1 + (List.findIdx p (List.drop (i + 1) l) : Nat) = (i : Int) + ((List.findIdx p (List.drop (i + 1) l) : Nat) + 1) := by omega
        rw [hc] at this
        simp -implicitDefEqProofs [hi, hw, hq, this]
    · simp only [Bool.true_or, if_true, cond_true, Nat.add_zero]
      simp -implicitDefEqProofs [hi, hq]

theorem E_slices_IndexFunc____int_int_ (f : FuncId) (p : Int → Bool) (l : List Int) (hl : l.length ≤ maxLen) (hp : ∀ x ∈ l, tab.E f [vI x] [] = some ([vB (p x)], [])) :
    tab.E i_slices_IndexFunc____int_int_ [vIs l, v1 (.t (.fn f [] []))] [] = some ([vI (if l.any p = true then (l.findIdx p : Nat) else -1)], []) := by
  refine Tab.E_of L_slices_IndexFunc____int_int_ rfl ?_
  have := lp_slices_IndexFunc____int_int_ f p l hl hp l.length 0 (by omega)
  simp only [List.drop_zero, Nat.zero_add, Int.natCast_zero] at this
  cases e : l.any p <;> simp only [e, if_true, if_false, Bool.false_eq_true] at this ⊢ <;> simp -implicitDefEqProofs [fn_slices_IndexFunc____int_int_, this]

theorem E_slices_ContainsFunc____int_int_ (f : FuncId) (p : Int → Bool) (l : List Int) (hl : l.length ≤ maxLen) (hp : ∀ x ∈ l, tab.E f [vI x] [] = some ([vB (p x)], [])) :
    tab.E i_slices_ContainsFunc____int_int_ [vIs l, v1 (.t (.fn f [] []))] [] = some ([vB (l.any p)], []) := by
  refine Tab.E_of L_slices_ContainsFunc____int_int_ rfl ?_
  have := E_slices_IndexFunc____int_int_ f p l hl hp
  have hn : (0 : Int) ≤ (l.findIdx p : Nat) := by omega
  cases e : l.any p <;> simp only [e, if_true, if_false, Bool.false_eq_true] at this ⊢ <;> simp -implicitDefEqProofs [fn_slices_ContainsFunc____int_int_, this, hn]

/-! ### fleets -/
theorem E_impl_isFleet_1 (u : Int) : tab.E i_impl_isFleet_1 [vI u] [] = some ([vB (!inB u 0 4)], []) := by
  refine Tab.E_of L_impl_isFleet_1 rfl ?_
  simp -implicitDefEqProofs [fn_impl_isFleet_1, E_impl_in]

theorem lp_spec_l9All (l : List Int) (m : Int) (p : Int → Bool) (hp : ∀ u, inB u 0 m = p u) (hl : l.length ≤ maxLen) : ∀ (d i : Nat), i + d = l.length →
    nrmK 0 [] (blkK 0 (evLN tab.E 0 [0, 1, 5] b0_spec_l9All ⟨upd (upd (upd u0 5 (.val (vI i))) 1 (.val (vI m))) 0 (.val (vIs l)), h0, 1⟩)) =
      if (l.drop i).all p = true then some (.normal, ⟨u0, h0, 1⟩) else some (.ret, ⟨upd u0 4 (.val (vB false)), h0, 1⟩) := by
  intro d
  induction d with
  | zero =>
    intro i h
    obtain rfl : i = l.length := by omega
    rw [evLN_eq]
    simp -implicitDefEqProofs
  | succ d ih =>
    intro i h
    have hi : i < l.length := by omega
    have hm : (l.length : Int) ≤ 9223372036854775807 := by simp [maxLen] at hl; omega
    have hw := w64 (x := (i : Int) + 1) (by omega) (by omega)
    have hq := E_spec_l1In l[i] 0 m
    rw [hp] at hq
    have := ih (i + 1) (by omega)
    rw [List.drop_eq_getElem_cons hi, evLN_eq]
    rw [show (l[i] :: l.drop (i + 1)).all p = (p l[i] && (l.drop (i + 1)).all p) from List.all_cons ..]
    cases e : p l[i] <;> rw [e] at hq <;> cases e2 : (l.drop (i + 1)).all p <;> simp only [e2, if_true, if_false, Bool.false_eq_true, Bool.true_and, Bool.false_and, Int.natCast_add, Int.natCast_one] at this ⊢ <;>
      simp -implicitDefEqProofs [hi, hw, hq, this]

theorem E_spec_l9All (l : List Int) (m : Int) (hl : l.length ≤ maxLen) : tab.E i_spec_l9All [vIs l, vI m] [] = some ([vB (l.all fun u => inB u 0 m)], []) := by
  refine Tab.E_of L_spec_l9All rfl ?_
  have := lp_spec_l9All l m (fun u => inB u 0 m) (fun _ => rfl) hl l.length 0 (by omega)
  simp only [List.drop_zero, Int.natCast_zero] at this
  cases e : l.all (fun u => inB u 0 m) <;> simp only [e, if_true, if_false, Bool.false_eq_true] at this ⊢ <;> simp -implicitDefEqProofs [fn_spec_l9All, this]

/-- how many are not idle -/
def offN (us : List Int) : Int := us.length - cn us 0
theorem offN_wrap (us : List Int) (hl : us.length ≤ maxLen) : IntKind.i64.wrap ((us.length : Int) - cn us 0) = offN us := by
  have := cn_le us 0
  have hm : (us.length : Int) ≤ 9223372036854775807 := by simp [maxLen] at hl; omega
  exact w64 (by omega) (by omega)

theorem E_impl_Fleet_offered (us : List Int) (w : Int) (hd : Bool) (hl : us.length ≤ maxLen) : tab.E i_impl_Fleet_offered [v1 (.t (.pt [tIs us, tI w, tB hd]))] [] = some ([vI (offN us)], []) := by
  refine Tab.E_of L_impl_Fleet_offered rfl ?_
  simp -implicitDefEqProofs [fn_impl_Fleet_offered, E_impl_Counts us w hd hl, offN_wrap us hl]
theorem E_spec_l20Out (us : List Int) (w : Int) (hd : Bool) (hl : us.length ≤ maxLen) : tab.E i_spec_l20Out [vFleet us w hd] [] = some ([vI (offN us)], []) := by
  refine Tab.E_of L_spec_l20Out rfl ?_
  simp -implicitDefEqProofs [fn_spec_l20Out, E_spec_Counts us w hd hl, offN_wrap us hl]

/-- is a fleet right by a rollout -/
def fleetOk (us : List Int) (w : Int) (s : List Int) (m : Int) : Bool :=
  rollOk s m && (decide (us.length ≤ 60) && (inB w 0 (s.length - 1) && ((us.all fun u => inB u 0 4) && decide (offN us ≤ due s m us.length w))))

set_option maxHeartbeats 1000000 in
theorem E_impl_isFleet (us : List Int) (w : Int) (hd : Bool) (s : List Int) (m : Int) (hl : us.length ≤ maxLen) (hs : s.length ≤ maxLen) :
    tab.E i_impl_isFleet [vFleet us w hd, vRollout s m] [] = some ([vB (fleetOk us w s m)], []) := by
  refine Tab.E_of L_impl_isFleet rfl ?_
  have h1 := E_impl_isRollout s m hs
  have h2 := E_impl_in w 0 (s.length - 1)
  have h3 := E_slices_ContainsFunc____int_int_ i_impl_isFleet_1 (fun u => !inB u 0 4) us hl (fun x _ => E_impl_isFleet_1 x)
  have h4 := E_impl_Fleet_offered us w hd hl
  have h5 := E_impl_Due s m us.length w hs
  have hw := w64 (x := (s.length : Int) - 1) (by omega) (by simp [maxLen] at hs; omega)
  rw [show us.any (fun u => !inB u 0 4) = !us.all (fun u => inB u 0 4) from by rw [List.not_all_eq_any_not]] at h3
  simp only [fleetOk]
  have hle : us.length ≤ 60 ↔ ¬ (60 : Int) < us.length := by omega
  cases e1 : rollOk s m <;> rw [e1] at h1
  · simp -implicitDefEqProofs [fn_impl_isFleet, h1]
  by_cases e2 : (60 : Int) < us.length
  · have e2' : ¬ us.length ≤ 60 := by omega
    simp -implicitDefEqProofs [fn_impl_isFleet, h1, e2, e2']
  have e2' : us.length ≤ 60 := by omega
  cases e3 : inB w 0 (s.length - 1) <;> rw [e3] at h2
  · simp -implicitDefEqProofs [fn_impl_isFleet, h1, e2, e2', h2, hw]
  cases e4 : us.all (fun u => inB u 0 4) <;> rw [e4] at h3
  · simp -implicitDefEqProofs [fn_impl_isFleet, h1, e2, e2', h2, hw, h3]
  · simp -implicitDefEqProofs [fn_impl_isFleet, h1, e2, e2', h2, hw, h3, h4, h5]

theorem E_impl_FleetOk (us : List Int) (w : Int) (hd : Bool) (s : List Int) (m : Int) (hl : us.length ≤ maxLen) (hs : s.length ≤ maxLen) :
    tab.E i_impl_FleetOk [vFleet us w hd, vRollout s m] [] = some ([vB (fleetOk us w s m)], []) := by
  refine Tab.E_of L_impl_FleetOk rfl ?_
  simp -implicitDefEqProofs [fn_impl_FleetOk, E_impl_isFleet us w hd s m hl hs]

set_option maxHeartbeats 1000000 in
theorem E_spec_FleetOk (us : List Int) (w : Int) (hd : Bool) (s : List Int) (m : Int) (hl : us.length ≤ maxLen) (hs : s.length ≤ maxLen) :
    tab.E i_spec_FleetOk [vFleet us w hd, vRollout s m] [] = some ([vB (fleetOk us w s m)], []) := by
  refine Tab.E_of L_spec_FleetOk rfl ?_
  have h1 := E_spec_RolloutOk s m hs
  have h2 := E_spec_l1In w 0 (s.length - 1)
  have h3 := E_spec_l9All us 4 hl
  have h4 := E_spec_l20Out us w hd hl
  have h5 := E_spec_Due s m us.length w hs
  have hw := w64 (x := (s.length : Int) - 1) (by omega) (by simp [maxLen] at hs; omega)
  simp only [fleetOk]
  cases e1 : rollOk s m <;> rw [e1] at h1
  · simp -implicitDefEqProofs [fn_spec_FleetOk, h1]
  by_cases e2 : (60 : Int) < us.length
  · have e2' : ¬ us.length ≤ 60 := by omega
    simp -implicitDefEqProofs [fn_spec_FleetOk, h1, e2, e2']
  have e2' : us.length ≤ 60 := by omega
  cases e3 : inB w 0 (s.length - 1) <;> rw [e3] at h2
  · simp -implicitDefEqProofs [fn_spec_FleetOk, h1, e2, e2', h2, hw]
  cases e4 : us.all (fun u => inB u 0 4) <;> rw [e4] at h3
  · simp -implicitDefEqProofs [fn_spec_FleetOk, h1, e2, e2', h2, hw, h3]
  · simp -implicitDefEqProofs [fn_spec_FleetOk, h1, e2, e2', h2, hw, h3, h4, h5]

set_option maxHeartbeats 1000000 in
theorem E_laws_FnExactFleetOk (us : List Int) (w : Int) (hd : Bool) (s : List Int) (m : Int) (hl : us.length ≤ maxLen) (hs : s.length ≤ maxLen) :
    tab.E i_laws_FnExactFleetOk [vFleet us w hd, vRollout s m] [] = some ([vB true], []) := by
  refine Tab.E_of L_laws_FnExactFleetOk rfl ?_
  have h1 := E_laws_szFleet us w hd 1048576 (by omega) (by omega) hl
  by_cases e : (1048576 : Int) - us.length < 0
  · simp only [e, if_true] at h1
    simp -implicitDefEqProofs [fn_laws_FnExactFleetOk, h1]
  simp only [e, if_false] at h1
  have h2 := E_laws_szRollout s m (1048576 - us.length) (by omega) (by omega) hs
  by_cases e2 : (1048576 : Int) - us.length - s.length < 0
  · simp only [e2, if_true] at h2
    simp -implicitDefEqProofs [fn_laws_FnExactFleetOk, h1, h2, e]
  simp only [e2, if_false] at h2
  simp -implicitDefEqProofs [fn_laws_FnExactFleetOk, h1, h2, e, e2, E_laws_toRollout s m (by omega), E_laws_toFleet us w hd (by omega), E_spec_FleetOk us w hd s m hl hs, E_impl_FleetOk us w hd s m hl hs, E_laws_eqRollout s m s m hs, E_laws_eqFleet us w hd us w hd hl]
end Go.Pur
