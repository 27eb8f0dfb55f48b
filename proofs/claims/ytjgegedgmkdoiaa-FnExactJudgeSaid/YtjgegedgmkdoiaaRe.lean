/- FnExactJudge answers true for every input, and the input reads as it did; no conditions. -/
import Derived.Test.YtjgegedgmkdoiaaKm
import Derived.Test.YtjgegedgmkdoiaaFz
import Derived.Test.YtjgegedgmkdoiaaRows
import Derived.JoinedOf
import Derived.JoinedAt
import Derived.RowKit3
namespace Go.Proofs.Ytjgegedgmkdoiaa.FnExactJudge
open Go Go.Pur Go.Proofs
open Go.ChangeShapes Go.WideShapes Go.ChangeAt Go.RowKit
set_option linter.unusedSimpArgs false
set_option linter.unusedVariables false
set_option maxRecDepth 100000

theorem own : ownKnob Try.prog.godebug = none := by kernel_rfl
theorem laidOut : laidOutB Try.prog = true := by kernel_rfl
theorem ps : Try.f9.params.toList = [63] := by kernel_rfl
theorem agg63 : isAggT Try.prog 63 = some false := by kernel_rfl

theorem wfs : ∀ rows, WfAll Try.prog 8 Try.f9.params.toList rows → tab.E 9 (avsOf Try.prog Try.f9.params.toList rows) [] = some ([vB true], []) := by
  intro rows h
  rw [ps] at h ⊢
  obtain ⟨r1, l, rfl, h1, rfl⟩ := h
  simp only [Wf, Try.underlying3, Try.underlying63, Try.underlying129, WfRow, List.map_cons, List.map_nil, List.replicate] at h1
  obtain ⟨x1, rfl, l1, q1⟩ := h1
  obtain ⟨x1, rfl, w1⟩ := wfMap eDeed (fun _ => True) fun y hy => by
    have h := q1 y hy
    obtain ⟨_, _, rfl, _, ⟨k, rfl, _⟩, _, _, rfl, _, ⟨p, rfl, _⟩, _, _, rfl, _, ⟨v, rfl, _⟩, rfl⟩ := h
    exact ⟨⟨k, p, v⟩, rfl, trivial⟩
  rw [List.length_map] at l1
  simp only [avsOf, avOf, agg63]
  exact E_laws_FnExactJudge x1 l1

theorem lifted (os : Os) (started : os.Started) (H : Type) (enc : TypeId × Value → H) :
    ReturnsInHanded {} Try.checked os 9 .any (Rows.fnExactJudgeSpec.pre6 enc Try.prog Try.f9 Rows.fnExactJudgeRow.domain false) (Rows.fnExactJudgeSpec.post enc Try.prog Try.f9 false Rows.fnExactJudgeRow.fresh Rows.fnExactJudgeRow.handsOn Rows.fnExactJudgeRow.again) := by
  refine returnsInHanded_of_change (C := Try.checked) own started (by kernel_rfl) Try.func9
    (ChangeSpec.witness6 (enc := enc) (C := Try.checked) false ⟨#[], #[.slice none 0 0], []⟩ 8 (by kernel_rfl) (by kernel_rfl) (by kernel_rfl) (by kernel_rfl)) ?_
  intro W base args ds gs before hval hW _ _
  have hW' := hW
  obtain ⟨p, q, hA, hV, rfl, _, _⟩ := hW
  have hd := trodAll_length hA
  rw [ps] at hd
  obtain ⟨d1, rfl⟩ := len1 hd
  have hg : gs = [] := by
    cases gs with
    | nil => rfl
    | cons g gs => exact hV.elim
  subst hg
  refine (law_calls' tabOk (k := 8) (ts := Try.f9.params.toList) (by kernel_rfl) (fun j t v h1 h2 => hval j t v (by simpa using h1) (by simpa using h2)) hA wfs).mono fun e W' ⟨he, hb⟩ => ⟨_, he, ?_⟩
  exact law_post laidOut (read_of (by kernel_rfl)) rfl (by kernel_rfl) (tb := 4) (by kernel_rfl) rfl hW' hb

theorem holds : Rows.FnExactJudgeSaid :=
  OpenClaim.holds_of_wide 9 Try.f9 rfl rfl rfl rfl rfl rfl rfl ⟨rfl, rfl, rfl, rfl, rfl⟩ rfl rfl rfl rfl rfl (by kernel_rfl) Try.func9 (by kernel_rfl)
    (of_decide_eq_true (by kernel_rfl)) (of_decide_eq_true (by kernel_rfl))
    (fun os started H enc _ => lifted os started H enc)

#print axioms holds
end Go.Proofs.Ytjgegedgmkdoiaa.FnExactJudge
