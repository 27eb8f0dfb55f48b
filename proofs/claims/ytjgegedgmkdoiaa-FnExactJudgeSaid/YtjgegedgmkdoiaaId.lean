import Derived.Test.YtjgegedgmkdoiaaIc
namespace Go.Pur
open Go
set_option linter.unusedSimpArgs false

/-! ### rollouts -/
def okAt (s : List Int) (i : Nat) : Bool := inB (s.getD i 0) 1 100 && (decide (i = 0) || decide (s.getD (i - 1) 0 < s.getD i 0))
def okShares (s : List Int) : Bool := (List.range' 0 s.length).all (okAt s)
def rollOk (s : List Int) (m : Int) : Bool := inB s.length 1 6 && (inB m 0 100 && okShares s)

theorem okAt_zero {s : List Int} (h : 0 < s.length) : okAt s 0 = inB s[0] 1 100 := by
  simp [okAt, get_at h]
theorem okAt_succ {s : List Int} {j : Nat} (h : j + 1 < s.length) : okAt s (j + 1) = (inB s[j + 1] 1 100 && decide (s[j] < s[j + 1])) := by
  have h' : j < s.length := by omega
  simp [okAt, get_at h, get_at h']

theorem lp_impl_isRollout (s : List Int) (m : Int) (hl : s.length ≤ maxLen) : ∀ (d i : Nat), i + d = s.length →
    nrmK 0 [] (blkK 0 (evLN tab.E 0 [1, 17, 18, 19] b0_impl_isRollout ⟨upd (upd (upd (upd u0 19 (.val (vI i))) 18 (.val (vI s.length))) 17 (.val (vIs s))) 1 (.val (v1 (.ptr (0, 0) 0))), h1 (.row [cIs s, cI m]), 1⟩)) =
      if (List.range' i d).all (okAt s) = true then some (.normal, ⟨u0, h0, 1⟩) else some (.ret, ⟨upd u0 2 (.val (vB false)), h0, 1⟩) := by
  intro d
  induction d with
  | zero =>
    intro i h
    obtain rfl : i = s.length := by omega
    rw [evLN_eq]
    simp -implicitDefEqProofs
  | succ d ih =>
    intro i h
    have hi : i < s.length := by omega
    have hw := w64 (x := (i : Int) + 1) (by omega) (by simp [maxLen] at hl; omega)
    have := ih (i + 1) (by omega)
    have hin := E_impl_in s[i] 1 100
    rw [evLN_eq]
    cases i with
    | zero =>
      simp only [List.range'_succ, List.all_cons, okAt_zero hi] at this ⊢
      cases hb : inB s[0] 1 100 <;> cases hr : (List.range' (0 + 1) d).all (okAt s) <;> simp only [hr, hb, Bool.and_true, Bool.and_false, Bool.true_and, Bool.false_and, if_true, if_false, Bool.false_eq_true] at this hin ⊢ <;> simp at hw this <;>
        simp -implicitDefEqProofs [hi, hw, this, hin]
    | succ j =>
      have hj : j < s.length := by omega
      have hw2 := w64 (x := (j : Int)) (by omega) (by simp [maxLen] at hl; omega)
      have hp : (0 : Int) < (j : Int) + 1 := by omega
      have hn : ¬ (j : Int) + 1 ≤ 0 := by omega
      have hn2 : (0 : Int) ≤ (j : Int) + 1 := by omega
      have hi2 : (j : Int) + 1 < s.length := by omega
      simp only [List.range'_succ, List.all_cons, okAt_succ hi] at this ⊢
      simp at hw
      cases hb : inB s[j + 1] 1 100 <;> by_cases hc : s[j] < s[j + 1] <;> cases hr : (List.range' (j + 1 + 1) d).all (okAt s) <;>
        simp only [hr, hb, hc, decide_true, decide_false, Bool.and_true, Bool.and_false, Bool.true_and, Bool.false_and, if_true, if_false, Bool.false_eq_true] at this hin ⊢ <;> simp at this <;>
        simp -implicitDefEqProofs [hi, hj, hw, hw2, this, hin, hp, hn, hn2, hi2, hc, Int.not_le.2, Int.not_lt.1]
end Go.Pur
