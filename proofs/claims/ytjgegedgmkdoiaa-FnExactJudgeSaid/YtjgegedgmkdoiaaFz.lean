/- From a law's answers over all data of its parameters' types to its row. -/
import Derived.Test.YtjgegedgmkdoiaaFy
namespace Go.Pur
open Go Go.RowKit Go.ChangeShapes
set_option linter.unusedSimpArgs false

theorem wfMap {α : Type} {es : List (List T)} (f : α → List T) (Q : α → Prop) (h : ∀ x ∈ es, ∃ a, x = f a ∧ Q a) : ∃ l : List α, es = l.map f ∧ ∀ a ∈ l, Q a := by
  induction es with
  | nil => exact ⟨[], rfl, by simp⟩
  | cons x es ih =>
    obtain ⟨a, rfl, ha⟩ := h x (by simp)
    obtain ⟨l, rfl, hl⟩ := ih fun y hy => h y (by simp [hy])
    refine ⟨a :: l, rfl, fun b hb => ?_⟩
    simp only [List.mem_cons] at hb
    rcases hb with rfl | hb
    · exact ha
    · exact hl b hb

theorem lookup_mem {L : List (Nat × IFn)} {f : Nat} {fn : IFn} (h : L.lookup f = some fn) : (f, fn) ∈ L := by
  induction L with
  | nil => cases h
  | cons p L ih =>
    obtain ⟨a, b⟩ := p
    simp only [List.lookup] at h
    split at h
    · rename_i he
      simp only [Option.some.injEq] at h
      have : f = a := by simpa using he
      subst this h
      simp
    · exact List.mem_cons_of_mem _ (ih h)

theorem tab_ok {P : Program} {L : List (Nat × IFn)} (h : L.all (fun p => okIFn P p.1 p.2) = true) : TabOK P ⟨fun f => L.lookup f, fun _ => none⟩ where
  fns := fun f fn hf => List.all_eq_true.1 h (f, fn) (lookup_mem hf)
  given := fun f g hg => by cases hg

theorem lit_i64 {n : Int} (h : (Lit.int .i64 n).wf = true) : -9223372036854775808 ≤ n ∧ n ≤ 9223372036854775807 := by
  simpa [Lit.wf, IntKind.min, IntKind.max, IntKind.signed, IntKind.bits] using h
theorem lit_u8 {n : Int} (h : (Lit.int .u8 n).wf = true) : 0 ≤ n ∧ n ≤ 255 := by
  simpa [Lit.wf, IntKind.min, IntKind.max, IntKind.signed, IntKind.bits] using h

section
variable {P : Program} {W : World}

theorem law_calls' {tb : Tab} (ht : TabOK P tb) {H : Type} {enc : TypeId × Value → H} {base k : Nat} {f : FuncId} {ts : List TypeId} {args : Array Value} {ds : List (DataW H)} {p : List MemPlace} (hp : ts.all (plainT P k) = true)
    (hv : ∀ (j : Nat) t v, ts[j]? = some t → args.toList[j]? = some v → Value.okWide P W .any base t v) (hA : DataW.TrodAll enc P W 0 (fun _ => true) true ts args.toList ds p)
    (hrun : ∀ rows, WfAll P k ts rows → tb.E f (avsOf P ts rows) [] = some ([vB true], [])) : Calls P f args W fun e W' => e = .returned (.bool true) ∧ Below W.heap.size W W' :=
  law_calls (Tab.E_good ht) (List.all_eq_true.1 hp) hv hA hrun

theorem read_of {P : Program} {ts : List TypeId} (h : ts.all (fun t => P.readableRec t && decide (t < P.types.size)) = true) : ∀ t ∈ ts, P.readableRec t = true ∧ t < P.types.size := by
  intro t ht
  simpa using List.all_eq_true.1 h t ht

/-- as many data as parameters -/
theorem trodAll_length {H : Type} {enc : TypeId × Value → H} : ∀ {ts : List TypeId} {vs : List Value} {ds : List (DataW H)} {p : List MemPlace}, DataW.TrodAll enc P W 0 (fun _ => true) true ts vs ds p → ds.length = ts.length
  | [], vs, ds, p, h => by
    obtain ⟨_, rfl, _⟩ := trodAll_nil h
    rfl
  | t :: ts, vs, ds, p, h => by
    obtain ⟨v, vs1, d, ds1, a, b, rfl, rfl, rfl, h1, h2⟩ := trodAll_cons h
    simp [trodAll_length h2]

theorem len1 {α : Type} {l : List α} (h : l.length = 1) : ∃ a, l = [a] := List.length_eq_one_iff.1 h
theorem len2 {α : Type} {l : List α} (h : l.length = 2) : ∃ a b, l = [a, b] := by
  match l, h with
  | [a, b], _ => exact ⟨a, b, rfl⟩
theorem len3 {α : Type} {l : List α} (h : l.length = 3) : ∃ a b c, l = [a, b, c] := by
  match l, h with
  | [a, b, c], _ => exact ⟨a, b, c, rfl⟩
theorem len4 {α : Type} {l : List α} (h : l.length = 4) : ∃ a b c d, l = [a, b, c, d] := by
  match l, h with
  | [a, b, c, d], _ => exact ⟨a, b, c, d, rfl⟩
theorem len5 {α : Type} {l : List α} (h : l.length = 5) : ∃ a b c d e, l = [a, b, c, d, e] := by
  match l, h with
  | [a, b, c, d, e], _ => exact ⟨a, b, c, d, e, rfl⟩
end
end Go.Pur
