import Derived.Test.YtjgegedgmkdoiaaIa
namespace Go.Pur
open Go
set_option linter.unusedSimpArgs false

def inB (x lo hi : Int) : Bool := decide (lo ≤ x) && decide (x ≤ hi)
theorem inB_iff {x lo hi : Int} : inB x lo hi = true ↔ lo ≤ x ∧ x ≤ hi := by simp [inB]

theorem E_spec_l1In (x lo hi : Int) : tab.E i_spec_l1In [vI x, vI lo, vI hi] [] = some ([vB (inB x lo hi)], []) := by
  refine Tab.E_of L_spec_l1In rfl ?_
  simp -implicitDefEqProofs [fn_spec_l1In, inB]
  grind
theorem E_impl_in (x lo hi : Int) : tab.E i_impl_in [vI x, vI lo, vI hi] [] = some ([vB (inB x lo hi)], []) := by
  refine Tab.E_of L_impl_in rfl ?_
  simp -implicitDefEqProofs [fn_impl_in, inB]
  grind

theorem lp_laws_toIntS (l : List Int) (hl : l.length ≤ 4294967296) : ∀ (d i : Nat), i + d = l.length →
    nrmK 0 [3] (blkK 0 (evLN tab.E 0 [0, 3, 4] b0_laws_toIntS ⟨upd (upd (upd u0 4 (.val (vI i))) 3 (.val (rf 0 l.length))) 0 (.val (vIs l)), h1 (.arr true 1 ((l.map eI).take i ++ List.replicate d (eI 0))), 1⟩)) =
      some (.normal, ⟨upd u0 3 (.val (rf 0 l.length)), h1 (oIs l), 1⟩) := by
  intro d
  induction d with
  | zero =>
    intro i h
    obtain rfl : i = l.length := by omega
    rw [evLN_eq]
    simp
  | succ d ih =>
    intro i h
    have hi : i < l.length := by omega
    have hi' : i < (l.map eI).length := by simpa using hi
    rw [evLN_eq]
    simp -implicitDefEqProofs [hi, fill_get hi', fill_set hi', w64 (x := (i : Int) + 1) (by omega) (by omega)]
    exact ih (i + 1) (by omega)

theorem E_laws_toIntS (l : List Int) (hl : (l.length : Int) ≤ 4294967296) : tab.E i_laws_toIntS [v1 (cIs l)] [] = some ([rf 0 l.length], [oIs l]) := by
  refine Tab.E_of L_laws_toIntS rfl ?_
  have := lp_laws_toIntS l (by omega) l.length 0 (by omega)
  simp at this
  simp -implicitDefEqProofs [fn_laws_toIntS, hl, this]
end Go.Pur
