/- A law that reads its arguments and answers true: from the evaluator's answer, over all trees of the parameters' types, to the row's contract. -/
import Derived.Test.YtjgegedgmkdoiaaFv
namespace Go.Pur
open Go Go.RowKit
set_option linter.unusedSimpArgs false

def avOf (P : Program) (t : TypeId) (r : List T) : AV := ⟨(isAggT P t).getD false, r.map .t⟩

def WfAll (P : Program) (k : Nat) : List TypeId → List (List T) → Prop
  | [], rs => rs = []
  | t :: ts, rs => ∃ r l, rs = r :: l ∧ Wf P k t r ∧ WfAll P k ts l

def avsOf (P : Program) : List TypeId → List (List T) → List AV
  | t :: ts, r :: rs => avOf P t r :: avsOf P ts rs
  | _, _ => []

section
variable {P : Program} {W W' : World}

theorem arg_tree {H : Type} {enc : TypeId × Value → H} {base k : Nat} {t : TypeId} {v : Value} {d : DataW H} {p : List MemPlace} (hp : plainT P k t = true) (hv : Value.okWide P W .any base t v)
    (h : DataW.Trod enc P W 0 (fun _ => true) true t v d p) : ∃ ts, Wf P k t ts ∧ RepA W (All W) (fun _ => none) v (avOf P t ts) := by
  obtain ⟨fuel, hf⟩ := h
  obtain ⟨ts, h1, h2⟩ := trod_tree k fuel t _ d p hp hf
  refine ⟨ts, h2, ?_⟩
  have agg : ∀ cs : Array Value, RepR W cs.toList ts → RepA W (All W) (fun _ => none) (.agg cs) ⟨true, ts.map .t⟩ := fun cs h1 => by
    refine .agg ⟨by rw [List.length_map, h1.1], fun i u c hu hc => ?_⟩
    rw [List.getElem?_map] at hc
    obtain ⟨x, hx, rfl⟩ := Option.map_eq_some_iff.1 hc
    exact .t (h1.2 i u x hu hx)
  have one : ∀ x : T, v.cells = #[v] → ts = [x] → RepA W (All W) (fun _ => none) v ⟨false, ts.map .t⟩ := fun x hc hx => by
    subst hx
    rw [hc] at h1
    exact .one (.t (h1.2 0 v x rfl rfl))
  unfold plainT at hp
  cases k with
  | zero => simp [Wf] at h2
  | succ k =>
    simp only at hp
    cases hu : P.underlying t with
    | none => simp [hu] at hp
    | some u =>
      unfold Wf at h2
      simp only [hu] at hp h2
      unfold avOf
      cases u <;> simp only [Bool.false_eq_true] at hp
      case struct fs =>
        simp only [Value.okWide, hu] at hv
        obtain ⟨cs, rfl, _⟩ := hv
        simpa [isAggT, hu] using agg cs h1
      case array n e =>
        simp only [Value.okWide, hu] at hv
        obtain ⟨cs, rfl, _⟩ := hv
        simpa [isAggT, hu] using agg cs h1
      case bool =>
        obtain ⟨b, hb⟩ := h2
        simp only [isAggT, hu, Option.getD_some]
        exact one _ (by cases v <;> first | rfl | simp [Value.okWide, hu, Cell.okWide, Cell.ok] at hv) hb
      case int kd =>
        obtain ⟨n, hb, _⟩ := h2
        simp only [isAggT, hu, Option.getD_some]
        exact one _ (by cases v <;> first | rfl | simp [Value.okWide, hu, Cell.okWide, Cell.ok] at hv) hb
      case string =>
        obtain ⟨s, hb, _⟩ := h2
        simp only [isAggT, hu, Option.getD_some]
        exact one _ (by cases v <;> first | rfl | simp [Value.okWide, hu, Cell.okWide, Cell.ok] at hv) hb
      case slice e =>
        obtain ⟨es, hb, _⟩ := h2
        simp only [isAggT, hu, Option.getD_some]
        exact one _ (by cases v <;> first | rfl | simp [Value.okWide, hu, Cell.okWide, Cell.ok] at hv) hb

theorem args_trees {H : Type} {enc : TypeId × Value → H} {base k : Nat} : ∀ {ts : List TypeId} {vs : List Value} {ds : List (DataW H)} {p : List MemPlace}, (∀ t ∈ ts, plainT P k t = true) →
    (∀ (j : Nat) t v, ts[j]? = some t → vs[j]? = some v → Value.okWide P W .any base t v) → DataW.TrodAll enc P W 0 (fun _ => true) true ts vs ds p →
    ∃ rows, WfAll P k ts rows ∧ (avsOf P ts rows).length = vs.length ∧ ∀ (i : Nat) v x, vs[i]? = some v → (avsOf P ts rows)[i]? = some x → RepA W (All W) (fun _ => none) v x
  | [], vs, ds, p, _, _, h => by
    obtain ⟨rfl, rfl, rfl⟩ := ChangeShapes.trodAll_nil h
    exact ⟨[], rfl, rfl, fun i v x hv => by simp at hv⟩
  | t :: ts, vs, ds, p, hp, hv, h => by
    obtain ⟨v, vs1, d, ds1, a, b, rfl, rfl, rfl, h1, h2⟩ := ChangeShapes.trodAll_cons h
    obtain ⟨r, hr1, hr2⟩ := arg_tree (hp t (by simp)) (hv 0 t v rfl rfl) h1
    obtain ⟨rows, hw, hl, ha⟩ := args_trees (fun u hu => hp u (by simp [hu])) (fun j u x hu hx => hv (j + 1) u x (by simpa using hu) (by simpa using hx)) h2
    refine ⟨r :: rows, ⟨r, rows, rfl, hr1, hw⟩, by simp [avsOf, hl], fun i x y hx hy => ?_⟩
    cases i with
    | zero => simp [avsOf] at hx hy; subst hx hy; exact hr2
    | succ i => simp [avsOf] at hx hy; exact ha i x y hx hy

/-- a function that answers a flat value over trees, whatever the memory: it answers it, and below nothing has turned -/
theorem law_calls {ef : EF} (good : GoodEF P ef) {H : Type} {enc : TypeId × Value → H} {base k : Nat} {f : FuncId} {ts : List TypeId} {args : Array Value} {ds : List (DataW H)} {p : List MemPlace} (hp : ∀ t ∈ ts, plainT P k t = true)
    (hv : ∀ (j : Nat) t v, ts[j]? = some t → args.toList[j]? = some v → Value.okWide P W .any base t v) (hA : DataW.TrodAll enc P W 0 (fun _ => true) true ts args.toList ds p)
    (hrun : ∀ rows, WfAll P k ts rows → ef f (avsOf P ts rows) [] = some ([AV.bool true], [])) : Calls P f args W fun e W' => e = .returned (.bool true) ∧ Below W.heap.size W W' := by
  obtain ⟨rows, hw, hl, ha⟩ := args_trees hp hv hA
  obtain ⟨_, _, hc⟩ := good f _ _ _ _ (hrun rows hw)
  refine (hc W (All W) (fun _ => none) (fun _ _ => False) args ⟨fun n ob hn => by simp [entryHeap] at hn, fun n m b hn => by simp [entryHeap] at hn, fun n b hn => by simp [entryHeap] at hn, fun n b hn => by simp [entryHeap] at hn, fun b hb => hb⟩
    (fun n x hx => by cases hx) (by rw [hl]; simp) (fun i v x hi hx => ha i v x (by simpa using hi) hx)).mono fun e W' hpost => ?_
  obtain ⟨v, I', β', O', rfl, _, hr, _, hevo, _, _, _⟩ := hpost
  have hv : v = .bool true := by
    cases hr with
    | val h => exact repA_bool h rfl
  subst hv
  exact ⟨rfl, hevo.os, hevo.tape, hevo.output, hevo.size, fun b hb => hevo.same b hb fun ⟨n, hn, _⟩ => by simp [entryHeap] at hn⟩

theorem trodAll_stay {H : Type} {enc : TypeId × Value → H} (hl : laidOutB P = true) (hb : Below W.heap.size W W') {sp : Nat → Bool} : ∀ {ts : List TypeId} {vs : List Value} {ds : List (DataW H)} {p : List MemPlace},
    (∀ t ∈ ts, P.readableRec t = true ∧ t < P.types.size) → DataW.TrodAll enc P W 0 (fun _ => true) true ts vs ds p → (∀ x ∈ p, x.block < W.heap.size) → (∀ x ∈ p, sp x.block = true) → DataW.TrodAll enc P W' 0 sp true ts vs ds p
  | [], vs, ds, p, _, h, _, _ => by
    obtain ⟨rfl, rfl, rfl⟩ := ChangeShapes.trodAll_nil h
    rfl
  | t :: ts, vs, ds, p, ht, h, hlt, hsp => by
    obtain ⟨v, vs1, d, ds1, a, b, rfl, rfl, rfl, h1, h2⟩ := ChangeShapes.trodAll_cons h
    obtain ⟨r1, r2⟩ := ht t (by simp)
    exact ⟨a, b, WideElems.Trod_stays hl r1 r2 h1 (fun x hx => hb.same (hlt x (by simp [hx]))) (fun x hx => hsp x (by simp [hx])),
      trodAll_stay hl hb (fun u hu => ht u (by simp [hu])) h2 (fun x hx => hlt x (by simp [hx])) (fun x hx => hsp x (by simp [hx])), rfl⟩

/-- the row's contract behind such a call -/
theorem law_post {H : Type} {enc : TypeId × Value → H} {fn : Func} {s : ChangeSpec} {apart fresh handsOn again : Bool} {args : Array Value} {ds gs : List (DataW H)} {before : List MemPlace} {tb : TypeId} (hl : laidOutB P = true)
    (ht : ∀ t ∈ fn.params.toList, P.readableRec t = true ∧ t < P.types.size) (hvars : s.vars = []) (hres : fn.resultTypes = #[tb]) (htb : P.underlying tb = some .bool)
    (hs : s.fn H (ds ++ gs) = { results := [.lit (.bool true)], args := ds }) (hW : DataW.Whole enc P fn.params.toList s.vars apart W args.toList ds gs before) (hb : Below W.heap.size W W') :
    s.post enc P fn apart fresh handsOn again W args (.bool true) W' := by
  have hW' := hW
  obtain ⟨p, q, hA, hV, rfl, hz, hn⟩ := hW
  have hold : ∀ x ∈ p ++ q, x.block < W.heap.size := fun x hx => by simpa using hW'.lt x hx
  rw [hvars] at hV
  have hgq : gs = [] ∧ q = [] := by
    cases gs with
    | nil => exact ⟨rfl, hV⟩
    | cons g gs => exact hV.elim
  obtain ⟨rfl, rfl⟩ := hgq
  rw [List.append_nil] at hold hz hn hs
  have hr : ∀ (b : Nat) (sp : Nat → Bool) (hd : Bool), DataW.TrodAll enc P W' b sp hd fn.resultTypes.toList ((Value.bool true).resultList fn.resultTypes.size) (s.fn H ds).results [] := fun b sp hd => by
    rw [hres, hs]
    exact ⟨[], [], ⟨1, by simp [DataW.trod, Value.cells, htb]⟩, rfl, rfl⟩
  have ha : ∀ sp : Nat → Bool, (∀ x ∈ p, sp x.block = true) → DataW.TrodAll enc P W' 0 sp true fn.params.toList args.toList (s.fn H ds).args p := fun sp hsp => by
    rw [hs]
    exact trodAll_stay hl hb ht hA hold hsp
  have hv : ∀ sp : Nat → Bool, DataW.TrodVars enc P W' sp s.vars (s.fn H ds).vars [] := fun sp => by
    rw [hs, hvars]; rfl
  refine ⟨ds, [], p ++ [], [], p, [], hW', by simpa using hr _ _ _, by simpa using ha _ fun x hx => by simpa using hold x hx, by simpa using hv _, hb.frame _, fun _ => ⟨fun j t r hj hrj => ?_, (s.fn H ds).results ++ (s.fn H ds).args, (s.fn H ds).vars, p, ?_, fun x hx _ => by simpa using hx⟩⟩
  · rw [hres] at hj hrj
    cases j with
    | zero =>
      simp [Value.resultList] at hj hrj
      subst hj hrj
      simp [Value.okWide, htb, Cell.okWide, Cell.ok]
    | succ j => simp at hj
  · refine ⟨p, [], ?_, hv _, by simp, fun b off hx => ?_, fun hap => by simpa using hn hap⟩
    · simpa using ChangeShapes.trodAll_append (ha (fun _ => true) fun _ _ => rfl) (hr 0 (fun _ => true) true)
    · rw [hb.frozen (hold _ hx)]
      exact hz b off hx

end
end Go.Pur
