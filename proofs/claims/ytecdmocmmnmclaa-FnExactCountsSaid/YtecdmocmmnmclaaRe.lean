/- FnExactCounts answers true for every input, and the input reads as it did; no conditions. -/
import Derived.Test.YtecdmocmmnmclaaIi
import Derived.Test.YtecdmocmmnmclaaFz
import Derived.Test.YtecdmocmmnmclaaRows
import Derived.JoinedOf
import Derived.JoinedAt
import Derived.RowKit3
namespace Go.Proofs.Ytecdmocmmnmclaa.FnExactCounts
open Go Go.Pur Go.Proofs
open Go.ChangeShapes Go.WideShapes Go.ChangeAt Go.RowKit
set_option linter.unusedSimpArgs false
set_option linter.unusedVariables false

theorem own : ownKnob Try.prog.godebug = none := by kernel_rfl
theorem laidOut : laidOutB Try.prog = true := by kernel_rfl
theorem ps : Try.f7.params.toList = [43] := by kernel_rfl
theorem agg43 : isAggT Try.prog 43 = some true := by kernel_rfl

theorem wfs : ∀ rows, WfAll Try.prog 8 Try.f7.params.toList rows → tab.E 7 (avsOf Try.prog Try.f7.params.toList rows) [] = some ([vB true], []) := by
  intro rows h
  rw [ps] at h ⊢
  obtain ⟨r1, l, rfl, h1, rfl⟩ := h
  simp only [Wf, Try.underlying3, Try.underlying4, Try.underlying33, Try.underlying43, WfRow, List.map_cons, List.map_nil, List.replicate] at h1
  obtain ⟨_, _, rfl, _, ⟨x1, rfl, l1, q1⟩, _, _, rfl, _, ⟨x2, rfl, q2⟩, _, _, rfl, _, ⟨x3, rfl⟩, rfl⟩ := h1
  obtain ⟨x1, rfl, q1⟩ := wfMap eI _ fun y hy => by
    have h := q1 y hy
    obtain ⟨n, rfl, h⟩ := h
    exact ⟨n, rfl, lit_i64 h⟩
  rw [List.length_map] at l1
  have q2 := lit_i64 q2
  simp only [avsOf, avOf, agg43]
  exact E_laws_FnExactCounts x1 x2 x3 l1

theorem lifted (os : Os) (started : os.Started) (H : Type) (enc : TypeId × Value → H) :
    ReturnsInHanded {} Try.checked os 7 .any (Rows.fnExactCountsSpec.pre6 enc Try.prog Try.f7 Rows.fnExactCountsRow.domain false) (Rows.fnExactCountsSpec.post enc Try.prog Try.f7 false Rows.fnExactCountsRow.fresh Rows.fnExactCountsRow.handsOn Rows.fnExactCountsRow.again) := by
  refine returnsInHanded_of_change (C := Try.checked) own started (by kernel_rfl) Try.func7
    (ChangeSpec.witness6 (enc := enc) (C := Try.checked) false ⟨#[], #[.agg #[.slice none 0 0, .int .i64 0, .bool false]], []⟩ 8 (by kernel_rfl) (by kernel_rfl) (by kernel_rfl) (by kernel_rfl)) ?_
  intro W base args ds gs before hval hW _ _
  have hW' := hW
  obtain ⟨p, q, hA, hV, rfl, _, _⟩ := hW
  have hd := trodAll_length hA
  rw [ps] at hd
  obtain ⟨d1, rfl⟩ := len1 hd
  have hg : gs = [] := by
    cases gs with
    | nil => rfl
    | cons g gs => exact hV.elim
  subst hg
  refine (law_calls' (tab_ok allOk) (k := 8) (ts := Try.f7.params.toList) (by kernel_rfl) (fun j t v h1 h2 => hval j t v (by simpa using h1) (by simpa using h2)) hA wfs).mono fun e W' ⟨he, hb⟩ => ⟨_, he, ?_⟩
  exact law_post laidOut (read_of (by kernel_rfl)) rfl (by kernel_rfl) (tb := 4) (by kernel_rfl) rfl hW' hb

theorem holds : Rows.FnExactCountsSaid :=
  OpenClaim.holds_of_wide 7 Try.f7 rfl rfl rfl rfl rfl rfl rfl ⟨rfl, rfl, rfl, rfl, rfl⟩ rfl rfl rfl rfl rfl (by kernel_rfl) Try.func7 (by kernel_rfl)
    (of_decide_eq_true (by kernel_rfl)) (of_decide_eq_true (by kernel_rfl))
    (fun os started H enc _ => lifted os started H enc)

#print axioms holds
end Go.Proofs.Ytecdmocmmnmclaa.FnExactCounts
