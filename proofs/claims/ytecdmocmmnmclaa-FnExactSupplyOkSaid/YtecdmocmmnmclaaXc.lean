/- The law FnExactSupplyOk answers true for every input, and the input reads as it did; no conditions. -/
import Derived.Test.YtecdmocmmnmclaaXb
import Derived.Test.YtecdmocmmnmclaaRows
import Derived.JoinedOf
import Derived.JoinedAt
import Derived.RowKit3
namespace Go.Proofs.Ytecdmocmmnmclaa
open Go Go.Pur Go.Proofs
open Go.ChangeShapes Go.WideShapes Go.ChangeAt Go.RowKit

theorem tabOk : TabOK Try.prog tab where
  fns := fun f fn h => by
    unfold tab tabFns at h
    simp only at h
    split at h <;> first
      | (cases h; first | exact ok3 | exact ok9 | exact ok10 | exact ok11 | exact ok30 | exact ok31 | exact ok32)
      | cases h
  given := fun f g h => by cases h

theorem e30 (k : Nat) (x lo hi : Int) : evN tab (k + 1) 30 [AV.int .i64 x, AV.int .i64 lo, AV.int .i64 hi] [] = some ([AV.bool (inB x lo hi)], []) := ev30 _ _ _ _ _
theorem e32 (k : Nat) (x lo hi : Int) : evN tab (k + 1) 32 [AV.int .i64 x, AV.int .i64 lo, AV.int .i64 hi] [] = some ([AV.bool (inB x lo hi)], []) := ev32 _ _ _ _ _
theorem e10 (k : Nat) (a b c : Int) : evN tab (k + 1) 10 [sup a b c] [] = some ([sup a b c], []) := ev10 _ _ _ _ _
theorem e9 (k : Nat) (a b c : Int) : evN tab (k + 2) 9 [sup a b c] [] = some ([AV.bool (supOk a b c)], []) := ev9 _ _ (e30 k) _ _ _
theorem e31 (k : Nat) (a b c : Int) : evN tab (k + 2) 31 [sup a b c] [] = some ([AV.bool (supOk a b c)], []) := ev31 _ _ (e32 k) _ _ _
theorem e11 (k : Nat) (a b c : Int) : evN tab (k + 3) 11 [sup a b c] [] = some ([AV.bool (supOk a b c)], []) := ev11 _ _ (e31 k) _ _ _
theorem e3 (a b c : Int) : evN tab 4 3 [sup a b c] [] = some ([AV.bool true], []) := ev3 _ _ (e10 2) (e9 1) (e11 0) _ _ _

theorem Try.own : ownKnob Try.prog.godebug = none := by kernel_rfl
theorem Try.laidOut : laidOutB Try.prog = true := by kernel_rfl

theorem p3 : Try.f3.params.toList = [23] := by kernel_rfl
theorem agg23 : isAggT Try.prog 23 = some true := by kernel_rfl

theorem wfs : ∀ rows, WfAll Try.prog 3 Try.f3.params.toList rows → evN tab 4 3 (avsOf Try.prog Try.f3.params.toList rows) [] = some ([AV.bool true], []) := by
  intro rows h
  rw [p3] at h ⊢
  obtain ⟨r, l, rfl, h1, rfl⟩ := h
  simp only [Wf, Try.underlying23, Try.underlying3, WfRow, List.map_cons, List.map_nil] at h1
  obtain ⟨_, _, rfl, _, ⟨x, rfl, _⟩, _, _, rfl, _, ⟨y, rfl, _⟩, _, _, rfl, _, ⟨z, rfl, _⟩, rfl⟩ := h1
  simp only [avsOf, avOf, agg23]
  exact e3 x y z

theorem plainP : Try.f3.params.toList.all (plainT Try.prog 3) = true := by kernel_rfl
theorem readP : ∀ t ∈ Try.f3.params.toList, Try.prog.readableRec t = true ∧ t < Try.prog.types.size := by
  have h : Try.f3.params.toList.all (fun t => Try.prog.readableRec t && decide (t < Try.prog.types.size)) = true := by kernel_rfl
  intro t ht
  have := List.all_eq_true.1 h t ht
  simpa using this

theorem lifted (os : Os) (started : os.Started) (H : Type) (enc : TypeId × Value → H) :
    ReturnsInHanded {} Try.checked os 3 .any (Rows.fnExactSupplyOkSpec.pre6 enc Try.prog Try.f3 Rows.fnExactSupplyOkRow.domain false) (Rows.fnExactSupplyOkSpec.post enc Try.prog Try.f3 false Rows.fnExactSupplyOkRow.fresh Rows.fnExactSupplyOkRow.handsOn Rows.fnExactSupplyOkRow.again) := by
  refine returnsInHanded_of_change (C := Try.checked) Try.own started (by kernel_rfl) Try.func3
    (ChangeSpec.witness6 (enc := enc) (C := Try.checked) false ⟨#[], #[.agg #[.int .i64 0, .int .i64 0, .int .i64 0]], []⟩ 8 (by kernel_rfl) (by kernel_rfl) (by kernel_rfl) (by kernel_rfl)) ?_
  intro W base args ds gs before hval hW _ _
  have hW' := hW
  obtain ⟨p, q, hA, hV, rfl, _, _⟩ := hW
  have hd : ∃ d, ds = [d] := by
    have h := hA
    rw [p3] at h
    obtain ⟨_, d, _, rfl, _⟩ := trodAll_one h
    exact ⟨d, rfl⟩
  obtain ⟨d, rfl⟩ := hd
  have hg : gs = [] := by
    cases gs with
    | nil => rfl
    | cons g gs => exact hV.elim
  subst hg
  refine (law_calls (evN_good tabOk 4) (k := 3) (ts := Try.f3.params.toList) (List.all_eq_true.1 plainP) (fun j t v h1 h2 => hval j t v (by simpa using h1) (by simpa using h2)) hA wfs).mono fun e W' ⟨he, hb⟩ => ⟨_, he, ?_⟩
  exact law_post Try.laidOut readP rfl (by kernel_rfl) (tb := 4) (by kernel_rfl) rfl hW' hb

theorem holds : Rows.FnExactSupplyOkSaid :=
  OpenClaim.holds_of_wide 3 Try.f3 rfl rfl rfl rfl rfl rfl rfl ⟨rfl, rfl, rfl, rfl, rfl⟩ rfl rfl rfl rfl rfl (by kernel_rfl) Try.func3 (by kernel_rfl)
    (of_decide_eq_true (by kernel_rfl)) (of_decide_eq_true (by kernel_rfl))
    (fun os started H enc _ => lifted os started H enc)

#print axioms holds
end Go.Proofs.Ytecdmocmmnmclaa
