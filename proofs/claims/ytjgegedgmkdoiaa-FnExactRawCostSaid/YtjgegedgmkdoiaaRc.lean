/- FnExactRawCost answers true for every input, and the input reads as it did; no conditions. -/
import Derived.Test.YtjgegedgmkdoiaaKe
import Derived.Test.YtjgegedgmkdoiaaFz
import Derived.Test.YtjgegedgmkdoiaaRows
import Derived.JoinedOf
import Derived.JoinedAt
import Derived.RowKit3
namespace Go.Proofs.Ytjgegedgmkdoiaa.FnExactRawCost
open Go Go.Pur Go.Proofs
open Go.ChangeShapes Go.WideShapes Go.ChangeAt Go.RowKit
set_option linter.unusedSimpArgs false
set_option linter.unusedVariables false
set_option maxRecDepth 100000

theorem own : ownKnob Try.prog.godebug = none := by kernel_rfl
theorem laidOut : laidOutB Try.prog = true := by kernel_rfl
theorem ps : Try.f3.params.toList = [22] := by kernel_rfl
theorem agg22 : isAggT Try.prog 22 = some false := by kernel_rfl

theorem wfs : ∀ rows, WfAll Try.prog 8 Try.f3.params.toList rows → tab.E 3 (avsOf Try.prog Try.f3.params.toList rows) [] = some ([vB true], []) := by
  intro rows h
  rw [ps] at h ⊢
  obtain ⟨r1, l, rfl, h1, rfl⟩ := h
  simp only [Wf, Try.underlying3, Try.underlying5, Try.underlying22, Try.underlying42, Try.underlying112, WfRow, List.map_cons, List.map_nil, List.replicate] at h1
  obtain ⟨x1, rfl, l1, q1⟩ := h1
  obtain ⟨x1, rfl, w1⟩ := wfMap eRaw (fun r => r.data.length ≤ maxLen) fun y hy => by
    have h := q1 y hy
    obtain ⟨_, _, rfl, _, ⟨k, rfl, _⟩, _, _, rfl, _, ⟨p, rfl, _⟩, _, _, rfl, _, ⟨es, rfl, hl, hes⟩, rfl⟩ := h
    obtain ⟨d, rfl, hq⟩ := wfMap eY (fun _ => True) fun z hz => by
      obtain ⟨n, rfl, hn⟩ := hes z hz
      exact ⟨n, rfl, trivial⟩
    rw [List.length_map] at hl
    exact ⟨⟨k, p, d⟩, rfl, hl⟩
  rw [List.length_map] at l1
  simp only [avsOf, avOf, agg22]
  exact E_laws_FnExactRawCost x1 l1 w1

theorem lifted (os : Os) (started : os.Started) (H : Type) (enc : TypeId × Value → H) :
    ReturnsInHanded {} Try.checked os 3 .any (Rows.fnExactRawCostSpec.pre6 enc Try.prog Try.f3 Rows.fnExactRawCostRow.domain false) (Rows.fnExactRawCostSpec.post enc Try.prog Try.f3 false Rows.fnExactRawCostRow.fresh Rows.fnExactRawCostRow.handsOn Rows.fnExactRawCostRow.again) := by
  refine returnsInHanded_of_change (C := Try.checked) own started (by kernel_rfl) Try.func3
    (ChangeSpec.witness6 (enc := enc) (C := Try.checked) false ⟨#[], #[.slice none 0 0], []⟩ 8 (by kernel_rfl) (by kernel_rfl) (by kernel_rfl) (by kernel_rfl)) ?_
  intro W base args ds gs before hval hW _ _
  have hW' := hW
  obtain ⟨p, q, hA, hV, rfl, _, _⟩ := hW
  have hd := trodAll_length hA
  rw [ps] at hd
  obtain ⟨d1, rfl⟩ := len1 hd
  have hg : gs = [] := by
    cases gs with
    | nil => rfl
    | cons g gs => exact hV.elim
  subst hg
  refine (law_calls' tabOk (k := 8) (ts := Try.f3.params.toList) (by kernel_rfl) (fun j t v h1 h2 => hval j t v (by simpa using h1) (by simpa using h2)) hA wfs).mono fun e W' ⟨he, hb⟩ => ⟨_, he, ?_⟩
  exact law_post laidOut (read_of (by kernel_rfl)) rfl (by kernel_rfl) (tb := 4) (by kernel_rfl) rfl hW' hb

theorem holds : Rows.FnExactRawCostSaid :=
  OpenClaim.holds_of_wide 3 Try.f3 rfl rfl rfl rfl rfl rfl rfl ⟨rfl, rfl, rfl, rfl, rfl⟩ rfl rfl rfl rfl rfl (by kernel_rfl) Try.func3 (by kernel_rfl)
    (of_decide_eq_true (by kernel_rfl)) (of_decide_eq_true (by kernel_rfl))
    (fun os started H enc _ => lifted os started H enc)

#print axioms holds
end Go.Proofs.Ytjgegedgmkdoiaa.FnExactRawCost
