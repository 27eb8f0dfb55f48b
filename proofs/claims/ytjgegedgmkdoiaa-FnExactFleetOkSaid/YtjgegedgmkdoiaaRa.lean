/- FnExactFleetOk answers true for every input, and the input reads as it did; no conditions. -/
import Derived.Test.YtjgegedgmkdoiaaKa
import Derived.Test.YtjgegedgmkdoiaaFz
import Derived.Test.YtjgegedgmkdoiaaRows
import Derived.JoinedOf
import Derived.JoinedAt
import Derived.RowKit3
namespace Go.Proofs.Ytjgegedgmkdoiaa.FnExactFleetOk
open Go Go.Pur Go.Proofs
open Go.ChangeShapes Go.WideShapes Go.ChangeAt Go.RowKit
set_option linter.unusedSimpArgs false
set_option linter.unusedVariables false
set_option maxRecDepth 100000

theorem own : ownKnob Try.prog.godebug = none := by kernel_rfl
theorem laidOut : laidOutB Try.prog = true := by kernel_rfl
theorem ps : Try.f7.params.toList = [50, 52] := by kernel_rfl
theorem agg50 : isAggT Try.prog 50 = some true := by kernel_rfl
theorem agg52 : isAggT Try.prog 52 = some true := by kernel_rfl

theorem wfs : ∀ rows, WfAll Try.prog 8 Try.f7.params.toList rows → tab.E 7 (avsOf Try.prog Try.f7.params.toList rows) [] = some ([vB true], []) := by
  intro rows h
  rw [ps] at h ⊢
  obtain ⟨r1, l, rfl, h1, r2, m1, rfl, h2, rfl⟩ := h
  simp only [Wf, Try.underlying3, Try.underlying4, Try.underlying31, Try.underlying50, Try.underlying52, WfRow, List.map_cons, List.map_nil, List.replicate] at h1 h2
  obtain ⟨_, _, rfl, _, ⟨x1, rfl, l1, q1⟩, _, _, rfl, _, ⟨x2, rfl, q2⟩, _, _, rfl, _, ⟨x3, rfl⟩, rfl⟩ := h1
  obtain ⟨_, _, rfl, _, ⟨x4, rfl, l2, q3⟩, _, _, rfl, _, ⟨x5, rfl, q4⟩, rfl⟩ := h2
  obtain ⟨x1, rfl, q1⟩ := wfMap eI _ fun y hy => by
    have h := q1 y hy
    obtain ⟨n, rfl, h⟩ := h
    exact ⟨n, rfl, lit_i64 h⟩
  rw [List.length_map] at l1
  have q2 := lit_i64 q2
  obtain ⟨x4, rfl, q3⟩ := wfMap eI _ fun y hy => by
    have h := q3 y hy
    obtain ⟨n, rfl, h⟩ := h
    exact ⟨n, rfl, lit_i64 h⟩
  rw [List.length_map] at l2
  have q4 := lit_i64 q4
  simp only [avsOf, avOf, agg50, agg52]
  exact E_laws_FnExactFleetOk x1 x2 x3 x4 x5 l1 l2

theorem lifted (os : Os) (started : os.Started) (H : Type) (enc : TypeId × Value → H) :
    ReturnsInHanded {} Try.checked os 7 .any (Rows.fnExactFleetOkSpec.pre6 enc Try.prog Try.f7 Rows.fnExactFleetOkRow.domain false) (Rows.fnExactFleetOkSpec.post enc Try.prog Try.f7 false Rows.fnExactFleetOkRow.fresh Rows.fnExactFleetOkRow.handsOn Rows.fnExactFleetOkRow.again) := by
  refine returnsInHanded_of_change (C := Try.checked) own started (by kernel_rfl) Try.func7
    (ChangeSpec.witness6 (enc := enc) (C := Try.checked) false ⟨#[], #[.agg #[.slice none 0 0, .int .i64 0, .bool false], .agg #[.slice none 0 0, .int .i64 0]], []⟩ 8 (by kernel_rfl) (by kernel_rfl) (by kernel_rfl) (by kernel_rfl)) ?_
  intro W base args ds gs before hval hW _ _
  have hW' := hW
  obtain ⟨p, q, hA, hV, rfl, _, _⟩ := hW
  have hd := trodAll_length hA
  rw [ps] at hd
  obtain ⟨d1, d2, rfl⟩ := len2 hd
  have hg : gs = [] := by
    cases gs with
    | nil => rfl
    | cons g gs => exact hV.elim
  subst hg
  refine (law_calls' tabOk (k := 8) (ts := Try.f7.params.toList) (by kernel_rfl) (fun j t v h1 h2 => hval j t v (by simpa using h1) (by simpa using h2)) hA wfs).mono fun e W' ⟨he, hb⟩ => ⟨_, he, ?_⟩
  exact law_post laidOut (read_of (by kernel_rfl)) rfl (by kernel_rfl) (tb := 4) (by kernel_rfl) rfl hW' hb

theorem holds : Rows.FnExactFleetOkSaid :=
  OpenClaim.holds_of_wide 7 Try.f7 rfl rfl rfl rfl rfl rfl rfl ⟨rfl, rfl, rfl, rfl, rfl⟩ rfl rfl rfl rfl rfl (by kernel_rfl) Try.func7 (by kernel_rfl)
    (of_decide_eq_true (by kernel_rfl)) (of_decide_eq_true (by kernel_rfl))
    (fun os started H enc _ => lifted os started H enc)

#print axioms holds
end Go.Proofs.Ytjgegedgmkdoiaa.FnExactFleetOk
