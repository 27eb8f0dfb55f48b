/- FnExactPaced answers true for every input, and the input reads as it did; no conditions. -/
import Derived.Test.YtjgegedgmkdoiaaKd
import Derived.Test.YtjgegedgmkdoiaaFz
import Derived.Test.YtjgegedgmkdoiaaRows
import Derived.JoinedOf
import Derived.JoinedAt
import Derived.RowKit3
namespace Go.Proofs.Ytjgegedgmkdoiaa.FnExactPaced
open Go Go.Pur Go.Proofs
open Go.ChangeShapes Go.WideShapes Go.ChangeAt Go.RowKit
set_option linter.unusedSimpArgs false
set_option linter.unusedVariables false
set_option maxRecDepth 100000

theorem own : ownKnob Try.prog.godebug = none := by kernel_rfl
theorem laidOut : laidOutB Try.prog = true := by kernel_rfl
theorem ps : Try.f4.params.toList = [30, 31, 3] := by kernel_rfl
theorem agg3 : isAggT Try.prog 3 = some false := by kernel_rfl
theorem agg30 : isAggT Try.prog 30 = some true := by kernel_rfl
theorem agg31 : isAggT Try.prog 31 = some false := by kernel_rfl

theorem wfs : ∀ rows, WfAll Try.prog 8 Try.f4.params.toList rows → tab.E 4 (avsOf Try.prog Try.f4.params.toList rows) [] = some ([vB true], []) := by
  intro rows h
  rw [ps] at h ⊢
  obtain ⟨r1, l, rfl, h1, r2, m1, rfl, h2, r3, m2, rfl, h3, rfl⟩ := h
  simp only [Wf, Try.underlying3, Try.underlying30, Try.underlying31, WfRow, List.map_cons, List.map_nil, List.replicate] at h1 h2 h3
  obtain ⟨_, _, rfl, _, ⟨x1, rfl, q1⟩, _, _, rfl, _, ⟨x2, rfl, q2⟩, _, _, rfl, _, ⟨x3, rfl, q3⟩, rfl⟩ := h1
  obtain ⟨x4, rfl, l1, q4⟩ := h2
  obtain ⟨x5, rfl, q5⟩ := h3
  have q1 := lit_i64 q1
  have q2 := lit_i64 q2
  have q3 := lit_i64 q3
  obtain ⟨x4, rfl, q4⟩ := wfMap eI _ fun y hy => by
    have h := q4 y hy
    obtain ⟨n, rfl, h⟩ := h
    exact ⟨n, rfl, lit_i64 h⟩
  rw [List.length_map] at l1
  have q5 := lit_i64 q5
  simp only [avsOf, avOf, agg3, agg30, agg31]
  exact E_laws_FnExactPaced x1 x2 x3 x4 x5 l1

theorem lifted (os : Os) (started : os.Started) (H : Type) (enc : TypeId × Value → H) :
    ReturnsInHanded {} Try.checked os 4 .any (Rows.fnExactPacedSpec.pre6 enc Try.prog Try.f4 Rows.fnExactPacedRow.domain false) (Rows.fnExactPacedSpec.post enc Try.prog Try.f4 false Rows.fnExactPacedRow.fresh Rows.fnExactPacedRow.handsOn Rows.fnExactPacedRow.again) := by
  refine returnsInHanded_of_change (C := Try.checked) own started (by kernel_rfl) Try.func4
    (ChangeSpec.witness6 (enc := enc) (C := Try.checked) false ⟨#[], #[.agg #[.int .i64 0, .int .i64 0, .int .i64 0], .slice none 0 0, .int .i64 0], []⟩ 8 (by kernel_rfl) (by kernel_rfl) (by kernel_rfl) (by kernel_rfl)) ?_
  intro W base args ds gs before hval hW _ _
  have hW' := hW
  obtain ⟨p, q, hA, hV, rfl, _, _⟩ := hW
  have hd := trodAll_length hA
  rw [ps] at hd
  obtain ⟨d1, d2, d3, rfl⟩ := len3 hd
  have hg : gs = [] := by
    cases gs with
    | nil => rfl
    | cons g gs => exact hV.elim
  subst hg
  refine (law_calls' tabOk (k := 8) (ts := Try.f4.params.toList) (by kernel_rfl) (fun j t v h1 h2 => hval j t v (by simpa using h1) (by simpa using h2)) hA wfs).mono fun e W' ⟨he, hb⟩ => ⟨_, he, ?_⟩
  exact law_post laidOut (read_of (by kernel_rfl)) rfl (by kernel_rfl) (tb := 4) (by kernel_rfl) rfl hW' hb

theorem holds : Rows.FnExactPacedSaid :=
  OpenClaim.holds_of_wide 4 Try.f4 rfl rfl rfl rfl rfl rfl rfl ⟨rfl, rfl, rfl, rfl, rfl⟩ rfl rfl rfl rfl rfl (by kernel_rfl) Try.func4 (by kernel_rfl)
    (of_decide_eq_true (by kernel_rfl)) (of_decide_eq_true (by kernel_rfl))
    (fun os started H enc _ => lifted os started H enc)

#print axioms holds
end Go.Proofs.Ytjgegedgmkdoiaa.FnExactPaced
