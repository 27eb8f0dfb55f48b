import Derived.Test.YtjgegedgmkdoiaaId
namespace Go.Pur
open Go
set_option linter.unusedSimpArgs false

/-! ### supplies -/
abbrev vSup (a b c : Int) : AV := ⟨true, [cI a, cI b, cI c]⟩
def supOk (a b c : Int) : Bool := inB b 0 100000 && (inB a 0 b && inB c 0 100000)
theorem supOk_iff {a b c : Int} : supOk a b c = true ↔ 0 ≤ b ∧ b ≤ 100000 ∧ 0 ≤ a ∧ a ≤ b ∧ 0 ≤ c ∧ c ≤ 100000 := by
  simp [supOk, inB_iff]; omega

theorem E_laws_toSupply (a b c : Int) : tab.E i_laws_toSupply [vSup a b c] [] = some ([vSup a b c], []) := by
  refine Tab.E_of L_laws_toSupply rfl ?_
  simp -implicitDefEqProofs [fn_laws_toSupply]
theorem E_spec_SupplyOk (a b c : Int) : tab.E i_spec_SupplyOk [vSup a b c] [] = some ([vB (supOk a b c)], []) := by
  refine Tab.E_of L_spec_SupplyOk rfl ?_
  simp -implicitDefEqProofs [fn_spec_SupplyOk, E_spec_l1In, supOk]
  cases inB b 0 100000 <;> cases inB a 0 b <;> cases inB c 0 100000 <;> rfl
theorem E_impl_isSupply (a b c : Int) : tab.E i_impl_isSupply [vSup a b c] [] = some ([vB (supOk a b c)], []) := by
  refine Tab.E_of L_impl_isSupply rfl ?_
  simp -implicitDefEqProofs [fn_impl_isSupply, E_impl_in, supOk]
  cases inB b 0 100000 <;> cases inB a 0 b <;> cases inB c 0 100000 <;> rfl
def spendOk (a b c n : Int) : Bool := supOk a b c && inB n 0 a
theorem E_impl_Spend (a b c n : Int) : tab.E i_impl_Spend [vSup a b c, vI n] [] = some (if spendOk a b c n = true then ([vSup (IntKind.i64.wrap (a - n)) b c, vB true], []) else ([vSup a b c, vB false], [])) := by
  refine Tab.E_of L_impl_Spend rfl ?_
  simp -implicitDefEqProofs [fn_impl_Spend, E_impl_isSupply, E_impl_in, spendOk]
  cases supOk a b c <;> cases inB n 0 a <;> rfl
/-- how full a right supply is some ticks later -/
def restL (l m g t : Int) : Int := if 0 < g then min m (l + g * min t 100000) else l

theorem E_impl_rested (l m g t : Int) (h : supOk l m g = true) (ht : 0 ≤ t) : tab.E i_impl_rested [vSup l m g, vI t] [] = some ([vSup (restL l m g t) m g], []) := by
  refine Tab.E_of L_impl_rested rfl ?_
  obtain ⟨h1, h2, h3, h4, h5, h6⟩ := supOk_iff.1 h
  have hb : 0 ≤ g * min t 100000 ∧ g * min t 100000 ≤ 100000 * 100000 := by
    refine ⟨Int.mul_nonneg h5 (by omega), ?_⟩
    exact Int.le_trans (Int.mul_le_mul_of_nonneg_right h6 (by omega)) (Int.mul_le_mul_of_nonneg_left (by omega) (by omega))
  have e1 := w64 (x := g * min t 100000) (by omega) (by omega)
  have e2 := w64 (x := l + g * min t 100000) (by omega) (by omega)
  by_cases hg : 0 < g <;> simp -implicitDefEqProofs [fn_impl_rested, restL, hg, e1, e2]

def restA (l m g t : Int) : Int := if supOk l m g = true ∧ 0 ≤ t then restL l m g t else l
theorem E_impl_Rested (l m g t : Int) : tab.E i_impl_Rested [vSup l m g, vI t] [] = some ([vSup (restA l m g t) m g], []) := by
  refine Tab.E_of L_impl_Rested rfl ?_
  cases h : supOk l m g
  · simp -implicitDefEqProofs [fn_impl_Rested, E_impl_isSupply, h, restA]
  · by_cases ht : t < 0
    · have : ¬ 0 ≤ t := by omega
      simp -implicitDefEqProofs [fn_impl_Rested, E_impl_isSupply, h, ht, this, restA]
    · have h0 : 0 ≤ t := by omega
      simp -implicitDefEqProofs [fn_impl_Rested, E_impl_isSupply, h, ht, h0, restA, E_impl_rested l m g t h h0]

theorem E_spec_l4Min (a b : Int) : tab.E i_spec_l4Min [vI a, vI b] [] = some ([vI (min a b)], []) := by
  refine Tab.E_of L_spec_l4Min rfl ?_
  by_cases h : a < b
  · have : min a b = a := by omega
    simp -implicitDefEqProofs [fn_spec_l4Min, h, this]
  · have : min a b = b := by omega
    simp -implicitDefEqProofs [fn_spec_l4Min, h, this]

theorem restL_step {l m g n : Int} (h0 : 0 ≤ l) (h1 : m ≤ 100000) (h2 : l < m) (h3 : 0 < g) (hn : 0 < n) : min m (min (l + g) m + g * min (n - 1) 100000) = min m (l + g * min n 100000) := by
  have hp : 0 ≤ g * min (n - 1) 100000 := Int.mul_nonneg (by omega) (by omega)
  by_cases hc : n ≤ 100000
  · have e1 : min (n - 1) 100000 = n - 1 := by omega
    have e2 : min n 100000 = n := by omega
    rw [e1] at hp ⊢
    rw [e2]
    have e3 : g * n = g * (n - 1) + g := by rw [Int.mul_sub, Int.mul_one]; omega
    rw [e3]
    omega
  · have hq : g * 1 ≤ g * min (n - 1) 100000 := Int.mul_le_mul_of_nonneg_left (by omega) (by omega)
    have e1 : min (n - 1) 100000 = 100000 := by omega
    have e2 : min n 100000 = 100000 := by omega
    rw [e1] at hp hq ⊢
    rw [e2]
    have hg : 1 * 100000 ≤ g * 100000 := Int.mul_le_mul_of_nonneg_right (by omega) (by omega)
    omega

theorem lp_spec_Rested (l0 m0 g0 m g t : Int) (hm : m ≤ 100000) (hg : 0 ≤ g) (hg' : g ≤ 100000) (ht : t ≤ 9223372036854775807) : ∀ (d : Nat) (l k : Int), 0 ≤ l → l ≤ m → (m - l).toNat = d → 0 ≤ k → k ≤ 9223372036854775807 →
    nrmK 0 [4, 5] (blkK 0 (evLN tab.E 0 [1, 4, 5, 6] b0_spec_Rested ⟨upd (upd (upd (upd u0 6 (.val (vI k))) 5 (.val (v1 (.ptr (0, 1) 0)))) 4 (.val (v1 (.ptr (0, 0) 0)))) 1 (.val (vI t)), h2 (.row [cI l0, cI m0, cI g0]) (.row [cI l, cI m, cI g]), 1⟩)) =
      some (.normal, ⟨upd (upd u0 5 (.val (v1 (.ptr (0, 1) 0)))) 4 (.val (v1 (.ptr (0, 0) 0))), h2 (.row [cI l0, cI m0, cI g0]) (.row [cI (if 0 < g ∧ 0 < t - k then min m (l + g * min (t - k) 100000) else l), cI m, cI g]), 1⟩) := by
  intro d
  induction d using Nat.strongRecOn with
  | ind d ih =>
    intro l k hl hlm hd hk hk'
    rw [evLN_eq]
    by_cases c1 : k < t
    · by_cases c2 : l < m
      · by_cases c3 : 0 < g
        · have hw := w64 (x := k + 1) (by omega) (by omega)
          have hw2 := w64 (x := l + g) (by omega) (by omega)
          have := ih (m - min (l + g) m).toNat (by omega) (min (l + g) m) (k + 1) (by omega) (by omega) rfl (by omega) (by omega)
          have hn : 0 < t - k := by omega
          have hv : (if 0 < g ∧ 0 < t - (k + 1) then min m (min (l + g) m + g * min (t - (k + 1)) 100000) else min (l + g) m) = min m (l + g * min (t - k) 100000) := by
            by_cases hn2 : 0 < t - (k + 1)
            · rw [if_pos ⟨c3, hn2⟩, show t - (k + 1) = t - k - 1 from by omega]
              exact restL_step hl hm c2 c3 hn
            · rw [if_neg (by omega), show min (t - k) 100000 = 1 from by omega]; omega
          rw [hv] at this
          rw [if_pos ⟨c3, hn⟩]
          simp -implicitDefEqProofs [c1, c2, c3, hw, hw2, E_spec_l4Min, this]
        · rw [if_neg (by omega)]
          simp -implicitDefEqProofs [c1, c2, c3]
      · have : (if 0 < g ∧ 0 < t - k then min m (l + g * min (t - k) 100000) else l) = l := by
          split
          · have : 0 ≤ g * min (t - k) 100000 := Int.mul_nonneg hg (by omega)
            omega
          · rfl
        rw [this]
        simp -implicitDefEqProofs [c1, c2]
    · rw [if_neg (by omega)]
      simp -implicitDefEqProofs [c1]

theorem E_spec_Rested (l m g t : Int) (ht : t ≤ 9223372036854775807) : tab.E i_spec_Rested [vSup l m g, vI t] [] = some ([vSup (restA l m g t) m g], []) := by
  refine Tab.E_of L_spec_Rested rfl ?_
  cases h : supOk l m g
  · simp -implicitDefEqProofs [fn_spec_Rested, E_spec_SupplyOk, h, restA]
  · obtain ⟨h1, h2, h3, h4, h5, h6⟩ := supOk_iff.1 h
    have := lp_spec_Rested 0 0 0 m g t h2 h5 h6 ht (m - l).toNat l 0 h3 h4 rfl (by omega) (by omega)
    have hv : (if 0 < g ∧ 0 < t - 0 then min m (l + g * min (t - 0) 100000) else l) = restA l m g t := by
      simp only [restA, h, restL, true_and, Int.sub_zero]
      by_cases c1 : 0 < g
      · by_cases c2 : 0 < t
        · rw [if_pos ⟨c1, c2⟩, if_pos (by omega), if_pos c1]
        · rw [if_neg (by omega)]
          by_cases c3 : 0 ≤ t
          · rw [if_pos c3, if_pos c1, show min t 100000 = 0 from by omega, Int.mul_zero]; omega
          · rw [if_neg c3]
      · rw [if_neg (by omega)]
        split <;> simp [c1]
    rw [hv] at this
    simp -implicitDefEqProofs [fn_spec_Rested, E_spec_SupplyOk, h, this]
end Go.Pur
