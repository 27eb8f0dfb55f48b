/- FnExactRolloutOk answers true for every input, and the input reads as it did; no conditions. -/
import Derived.Test.YtecdmocmmnmclaaIi
import Derived.Test.YtecdmocmmnmclaaFz
import Derived.Test.YtecdmocmmnmclaaRows
import Derived.JoinedOf
import Derived.JoinedAt
import Derived.RowKit3
namespace Go.Proofs.Ytecdmocmmnmclaa.FnExactRolloutOk
open Go Go.Pur Go.Proofs
open Go.ChangeShapes Go.WideShapes Go.ChangeAt Go.RowKit
set_option linter.unusedSimpArgs false
set_option linter.unusedVariables false

theorem own : ownKnob Try.prog.godebug = none := by kernel_rfl
theorem laidOut : laidOutB Try.prog = true := by kernel_rfl
theorem ps : Try.f6.params.toList = [35] := by kernel_rfl
theorem agg35 : isAggT Try.prog 35 = some true := by kernel_rfl

theorem wfs : ∀ rows, WfAll Try.prog 8 Try.f6.params.toList rows → tab.E 6 (avsOf Try.prog Try.f6.params.toList rows) [] = some ([vB true], []) := by
  intro rows h
  rw [ps] at h ⊢
  obtain ⟨r1, l, rfl, h1, rfl⟩ := h
  simp only [Wf, Try.underlying3, Try.underlying33, Try.underlying35, WfRow, List.map_cons, List.map_nil, List.replicate] at h1
  obtain ⟨_, _, rfl, _, ⟨x1, rfl, l1, q1⟩, _, _, rfl, _, ⟨x2, rfl, q2⟩, rfl⟩ := h1
  obtain ⟨x1, rfl, q1⟩ := wfMap eI _ fun y hy => by
    have h := q1 y hy
    obtain ⟨n, rfl, h⟩ := h
    exact ⟨n, rfl, lit_i64 h⟩
  rw [List.length_map] at l1
  have q2 := lit_i64 q2
  simp only [avsOf, avOf, agg35]
  exact E_laws_FnExactRolloutOk x1 x2 l1

theorem lifted (os : Os) (started : os.Started) (H : Type) (enc : TypeId × Value → H) :
    ReturnsInHanded {} Try.checked os 6 .any (Rows.fnExactRolloutOkSpec.pre6 enc Try.prog Try.f6 Rows.fnExactRolloutOkRow.domain false) (Rows.fnExactRolloutOkSpec.post enc Try.prog Try.f6 false Rows.fnExactRolloutOkRow.fresh Rows.fnExactRolloutOkRow.handsOn Rows.fnExactRolloutOkRow.again) := by
  refine returnsInHanded_of_change (C := Try.checked) own started (by kernel_rfl) Try.func6
    (ChangeSpec.witness6 (enc := enc) (C := Try.checked) false ⟨#[], #[.agg #[.slice none 0 0, .int .i64 0]], []⟩ 8 (by kernel_rfl) (by kernel_rfl) (by kernel_rfl) (by kernel_rfl)) ?_
  intro W base args ds gs before hval hW _ _
  have hW' := hW
  obtain ⟨p, q, hA, hV, rfl, _, _⟩ := hW
  have hd := trodAll_length hA
  rw [ps] at hd
  obtain ⟨d1, rfl⟩ := len1 hd
  have hg : gs = [] := by
    cases gs with
    | nil => rfl
    | cons g gs => exact hV.elim
  subst hg
  refine (law_calls' (tab_ok allOk) (k := 8) (ts := Try.f6.params.toList) (by kernel_rfl) (fun j t v h1 h2 => hval j t v (by simpa using h1) (by simpa using h2)) hA wfs).mono fun e W' ⟨he, hb⟩ => ⟨_, he, ?_⟩
  exact law_post laidOut (read_of (by kernel_rfl)) rfl (by kernel_rfl) (tb := 4) (by kernel_rfl) rfl hW' hb

theorem holds : Rows.FnExactRolloutOkSaid :=
  OpenClaim.holds_of_wide 6 Try.f6 rfl rfl rfl rfl rfl rfl rfl ⟨rfl, rfl, rfl, rfl, rfl⟩ rfl rfl rfl rfl rfl (by kernel_rfl) Try.func6 (by kernel_rfl)
    (of_decide_eq_true (by kernel_rfl)) (of_decide_eq_true (by kernel_rfl))
    (fun os started H enc _ => lifted os started H enc)

#print axioms holds
end Go.Proofs.Ytecdmocmmnmclaa.FnExactRolloutOk
