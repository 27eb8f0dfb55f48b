/- Functions: what the evaluator says of them is what a call comes to. -/
import Derived.Test.YtjgegedgmkdoiaaFt
namespace Go.Pur
open Go
set_option linter.unusedSimpArgs false

def okRes (P : Program) : List ResultVar → List IRes → Bool
  | [], [] => true
  | .tmp t :: xs, .tmp t' :: ys => t == t' && okRes P xs ys
  | .cell a t :: xs, .cell a' agg n :: ys => a == a' && varT P t agg n && okRes P xs ys
  | _, _ => false

def okIFn (P : Program) (f : FuncId) (fn : IFn) : Bool :=
  match P.funcs[f]? with
  | some g => g.name != "runtime.NumGoroutine" && g.ntmps == fn.nt && okRes P g.results.toList fn.results && (match g.body with
    | some c => okC P fn.nt c fn.body
    | none => false)
  | none => false

def resRead (tmps : Array Value) : ResultVar → Sem Value
  | .tmp t => pure (tmps.getD t Go.undef)
  | .cell a t => do loadVar t (← asAddr (tmps.getD a Go.undef))

theorem results_eq (g : Func) (tmps : Array Value) : results g tmps = (do
    let vs ← g.results.mapM (resRead tmps)
    pure (if h : vs.size = 1 then vs[0] else .tuple vs)) := by
  have hf : ∀ (f : ResultVar → Sem Value), f = resRead tmps → (do
    let vs ← g.results.mapM f
    pure (if h : vs.size = 1 then vs[0] else .tuple vs) : Sem Value) = (do
    let vs ← g.results.mapM (resRead tmps)
    pure (if h : vs.size = 1 then vs[0] else .tuple vs)) := fun f hf => by rw [hf]
  exact hf _ (by funext x; cases x <;> rfl)

section
variable {P : Program} {M0 M : Mem} {h0 : Nm → Option LObj} {m nt : Nat} {bound : Nat → Prop} {a : Act} {σ σ' : St} {ef : EF}

/-- one result is read -/
theorem res_sound (s : Sim M0 h0 m nt bound a σ M) {x : ResultVar} {y : IRes} {av : AV} (hok : okRes P [x] [y] = true) (hev : (resOf σ.env y).val σ.heap = some av) :
    ∃ v, (resRead a.tmps x).run P M.w = .ok v M.w ∧ RepA M.w M.I M.β v av := by
  have envV : ∀ {t : Nat} {e : AV}, σ.env t = .val e → RepA M.w M.I M.β (a.tmps.getD t Go.undef) e := fun {t e} he => by
    have h1 := s.env t
    rw [he] at h1
    generalize a.tmps.getD t Go.undef = u at h1 ⊢
    cases h1 with
    | val h => exact h
  cases x with
  | tmp t =>
    cases y with
    | cell => simp [okRes] at hok
    | tmp t' =>
      simp [okRes] at hok
      subst hok
      simp only [resOf] at hev
      split at hev
      · rename_i e he
        simp only [HM.val, Option.some.injEq] at hev
        subst hev
        exact ⟨_, rfl, envV he⟩
      · simp [HM.val] at hev
  | cell b t =>
    cases y with
    | tmp => simp [okRes] at hok
    | cell b' agg n =>
      simp [okRes] at hok
      obtain ⟨rfl, hv⟩ := hok
      obtain ⟨_, _, hagg⟩ := varT_parts hv
      simp only [resOf] at hev
      split at hev
      · rename_i k i he
        have hc := repA_cell (c := .ptr k i) (envV he) rfl
        simp only [HM.val] at hev
        cases hm : σ.heap k with
        | none => simp [hm, HM.val] at hev
        | some ob =>
          cases ob with
          | arr => simp [hm, HM.val] at hev
          | gone => simp [hm, HM.val] at hev
          | row cs =>
            simp only [hm] at hev
            split at hev
            · rename_i hle
              simp only [HM.val, Option.some.injEq] at hev
              subst hev
              generalize hu : a.tmps.getD b Go.undef = u at hc
              cases hc with
              | ptr hβ =>
                cases s.rel.obj k _ hm with
                | row hβ' hb hO hcc =>
                  rename_i b1 off sz b1' off' sz' arr ty
                  rw [hβ] at hβ'
                  simp only [Option.some.injEq, Prod.mk.injEq] at hβ'
                  obtain ⟨rfl, rfl, _⟩ := hβ'
                  have hlt : ((cs.drop i).take n).length = n := by simp; omega
                  have hcell : ∀ (k : Nat) c, ((cs.drop i).take n)[k]? = some c → ∃ v, arr[off + i + k]? = some v ∧ RepC M.w M.I M.β v c := fun k c hk => by
                    rw [List.getElem?_take] at hk
                    split at hk
                    · rw [List.getElem?_drop] at hk
                      rw [Nat.add_assoc]
                      exact hcc _ _ hk
                    · cases hk
                  refine ⟨_, ?_, load_rep (β := M.β) hlt hagg (fun k => arr.getD (off + i + k) Go.undef) fun k c hk => ?_⟩
                  · simp only [resRead, hu]
                    have hld := load_var (P := P) (w := M.w) (b := b1) (off := off + i) hv hlt (fun k => arr.getD (off + i + k) Go.undef) fun k c hk => ?_
                    · simp only [asAddr, Sem.run_bind, Sem.run_pure, Result.andThen, hld]
                    obtain ⟨v, h2, _⟩ := hcell k c hk
                    rw [cell_heap hb, Array.getD_eq_getD_getElem?, h2]; rfl
                  · obtain ⟨v, h2, h3⟩ := hcell k c hk
                    rw [Array.getD_eq_getD_getElem?, h2]; exact h3
            · simp [HM.val] at hev
      · rename_i k he
        have hc := repA_cell (c := .pel k 0 0) (envV he) rfl
        simp only [HM.val] at hev
        cases hm : σ.heap k with
        | none => simp [hm, HM.val] at hev
        | some ob =>
          cases ob with
          | row => simp [hm, HM.val] at hev
          | gone => simp [hm, HM.val] at hev
          | arr own sz es =>
            simp only [hm] at hev
            split at hev
            · rename_i hcond
              obtain ⟨hn, hown⟩ := hcond
              simp only [HM.val, Option.some.injEq] at hev
              subst hev
              generalize hu : a.tmps.getD b Go.undef = u at hc
              cases hc with
              | pel hβ hzp =>
                cases s.rel.obj k _ hm with
                | arr0 hβ' => rw [hβ] at hβ'; simp at hβ'; omega
                | arr vals Ss hβ' hb hO hsz h0 hoff hcc hx ht hsub hdis =>
                  rename_i b1 off sz1 b1' off' ar ty
                  rw [hβ] at hβ'
                  simp only [Option.some.injEq, Prod.mk.injEq] at hβ'
                  obtain ⟨rfl, rfl, rfl⟩ := hβ'
                  have hlt : (es.flatten.map Cell.t).length = n := by rw [List.length_map, flatten_length es hsz, hn]
                  refine ⟨_, ?_, load_rep (β := M.β) hlt hagg vals fun k c hk => ?_⟩
                  · simp only [resRead, hu]
                    have hld := load_var (P := P) (w := M.w) (b := b1) (off := off + 0 * sz1 + 0) hv hlt vals fun k c hk => ?_
                    · simp only [asAddr, Sem.run_bind, Sem.run_pure, Result.andThen, hld]
                    obtain ⟨c', hk', rfl⟩ := Option.map_eq_some_iff.1 (List.getElem?_map .. ▸ hk)
                    rw [cell_heap hb, show off + 0 * sz1 + 0 + k = off + k from by omega]
                    exact hcc _ _ hk'
                  · obtain ⟨c', hk', rfl⟩ := Option.map_eq_some_iff.1 (List.getElem?_map .. ▸ hk)
                    cases own with
                    | false => exact .t (ht rfl _ _ hk')
                    | true =>
                      rcases hown with h1 | h1
                      · cases h1
                      · rw [List.all_eq_true] at h1
                        exact .t (RepT.flat ((hx rfl _ _ hk').toT (I := Ss k) fun b hb => hb) (h1 c' (List.mem_of_getElem? hk')))
            · simp [HM.val] at hev
      · simp [HM.val] at hev

theorem ress_sound (s : Sim M0 h0 m nt bound a σ M) : ∀ {xs : List ResultVar} {ys : List IRes} {avs : List AV}, okRes P xs ys = true → (HM.mapM (resOf σ.env) ys).val σ.heap = some avs →
    ∃ vs : List Value, (xs.mapM (resRead a.tmps)).run P M.w = .ok vs M.w ∧ vs.length = avs.length ∧ ∀ (i : Nat) v av, vs[i]? = some v → avs[i]? = some av → RepA M.w M.I M.β v av
  | [], [], avs, _, hev => by
    simp only [HM.mapM, HM.val, Option.some.injEq] at hev
    subst hev
    exact ⟨[], by simp, rfl, fun i v av hv => by simp at hv⟩
  | [], _ :: _, _, hok, _ => by simp [okRes] at hok
  | .tmp _ :: _, [], _, hok, _ => by simp [okRes] at hok
  | .cell _ _ :: _, [], _, hok, _ => by simp [okRes] at hok
  | x :: xs, y :: ys, avs, hok, hev => by
    have hok2 : okRes P [x] [y] = true ∧ okRes P xs ys = true := by
      cases x <;> cases y <;> simp [okRes] at hok ⊢
      · exact hok
      · exact ⟨hok.1, hok.2⟩
    simp only [HM.mapM, val_bind] at hev
    obtain ⟨av, h1, hev⟩ := Option.bind_eq_some_iff.1 hev
    obtain ⟨avs', h2, hev⟩ := Option.bind_eq_some_iff.1 hev
    simp only [HM.val, Option.some.injEq] at hev
    subst hev
    obtain ⟨v, hr, hv⟩ := res_sound s hok2.1 h1
    obtain ⟨vs, hrs, hl, hvs⟩ := ress_sound s hok2.2 h2
    refine ⟨v :: vs, ?_, by simp [hl], fun i u av' hu hav => ?_⟩
    · rw [List.mapM_cons]
      simp [hr, hrs]
    · cases i with
      | zero => simp at hu hav; subst hu hav; exact hv
      | succ i => simp at hu hav; exact hvs i u av' hu hav

theorem repE_results {w : World} {I : Nat → Prop} {β : Beta} {vs : List Value} {avs : List AV} (hl : vs.length = avs.length) (hr : ∀ (i : Nat) v av, vs[i]? = some v → avs[i]? = some av → RepA w I β v av) :
    RepE w I β (if h : vs.toArray.size = 1 then vs.toArray[0] else .tuple vs.toArray) (Ent.ofRes avs) := by
  match vs, avs, hl with
  | [], [], _ => exact .tup (by simp) fun i v c hv => by simp at hv
  | [v], [x], _ => exact .val (hr 0 v x rfl rfl)
  | v :: v' :: vs, x :: y :: avs, hl =>
    have : ¬ (v :: v' :: vs).toArray.size = 1 := by simp
    rw [dif_neg this]
    exact .tup (by simpa using hl) fun i u c hu hc => hr i u c (by simpa using hu) hc

theorem entryEnv_get : ∀ (as : List AV) (i t : Nat), entryEnv i as t = if i ≤ t then (match as[t - i]? with | some a => .val a | none => .nil) else .nil
  | [], i, t => by simp [entryEnv]
  | a :: as, i, t => by
    have ih := entryEnv_get as (i + 1) t
    simp only [entryEnv, upd]
    by_cases h1 : t = i
    · subst h1; simp
    · rw [if_neg h1, ih]
      by_cases h2 : i + 1 ≤ t
      · rw [if_pos h2, if_pos (by omega), show t - i = (t - (i + 1)) + 1 from by omega, List.getElem?_cons_succ]
      · rw [if_neg h2, if_neg (by omega)]

theorem finish_sound {fn : IFn} {objs : List LObj} {rs : List AV} {os : List LObj} (s : SimC M0 h0 objs.length nt a σ M) {g : Func} (hok : okRes P g.results.toList fn.results = true) (hf : finish fn objs.length σ = some (rs, os)) :
    objs.length ≤ os.length ∧ ∃ v I' β' O', (results g a.tmps).run P M.w = .ok v M.w ∧ HRel M.w I' β' O' (entryHeap 0 os) ∧ RepE M.w I' β' v (Ent.ofRes rs) ∧ (∀ i, i < objs.length → β' (0, i) = M0.β (0, i)) ∧
      Evo (Owned M0.O h0) M0.w M.w ∧ (∀ b, M0.I b → I' b) ∧ (∀ b, I' b → M0.I b ∨ M0.w.heap.size ≤ b ∨ Owned M0.O h0 b) ∧ (∀ b, Owned O' (entryHeap 0 os) b → M0.w.heap.size ≤ b ∨ Owned M0.O h0 b) := by
  unfold finish at hf
  split at hf
  · cases hf
  · rename_i avs havs
    split at hf
    · cases hf
    · rename_i ns os0 hcol
      simp only [Option.some.injEq, Prod.mk.injEq] at hf
      obtain ⟨rfl, rfl⟩ := hf
      obtain ⟨coll, _⟩ := collect_spec _ _ _ _ _ _ (coll_nil (h := σ.heap)) hcol
      have hroot := collect_roots _ _ _ [] _ _ _ (by simpa using roots_nodup objs.length) hcol
      obtain ⟨vs, hr, hl, hvs⟩ := ress_sound s.1 hok havs
      refine ⟨?_, (if h : vs.toArray.size = 1 then vs.toArray[0] else .tuple vs.toArray), M.I, calleeB ns M.β, calleeO ns M.O, ?_, entry_rel s.1.rel coll, ?_, fun i hi => ?_, s.1.since.evo, s.1.since.keepI, s.1.since.newI, fun b hb => s.1.since.newO b (owned_entry coll hb)⟩
      · have := hroot.length_le
        simp only [List.nil_append, List.length_map, List.length_range] at this ⊢
        rw [coll.len]; exact this
      · rw [results_eq]
        have : (g.results.mapM (resRead a.tmps)).run P M.w = .ok vs.toArray M.w := by
          rw [Array.mapM_eq_mapM_toList]
          simp [hr]
        simp [this]
      · have hE := repE_results hl hvs
        exact hE.ofRes fun v x hx hra => hra.ren (over_place ns M.β)
      · rw [← s.1.since.names i hi]
        simp [calleeB, roots_get (by simpa using hroot) hi]

theorem evFn_sound (good : GoodEF P ef) {k : Nat} {f : FuncId} {fn : IFn} {args : List AV} {objs : List LObj} {rs : List AV} {os : List LObj} (hok : okIFn P f fn = true) (hev : evFn ef k fn args objs = some (rs, os)) :
    okFn P f = true ∧ CallOK P f args objs rs os := by
  unfold okIFn at hok
  split at hok
  · rename_i g hg
    simp only [Bool.and_eq_true, beq_iff_eq] at hok
    obtain ⟨⟨⟨hname, hnt⟩, hres⟩, hbody⟩ := hok
    cases hb : g.body with
    | none => rw [hb] at hbody; cases hbody
    | some c =>
      rw [hb] at hbody
      simp only at hbody
      refine ⟨by unfold okFn; rw [hg]; simp [hb]; simpa using hname, ?_⟩
      unfold evFn at hev
      split at hev
      · cases hev
      · rename_i ex σ hex hrun
        have hlen : objs.length ≤ os.length := by
          unfold finish at hev
          split at hev
          · cases hev
          · split at hev
            · cases hev
            · rename_i ns os0 hcol
              simp only [Option.some.injEq, Prod.mk.injEq] at hev
              obtain ⟨rfl, rfl⟩ := hev
              obtain ⟨coll, _⟩ := collect_spec _ _ _ _ _ _ (coll_nil (h := σ.heap)) hcol
              have hroot := collect_roots _ _ _ [] _ _ _ (by simpa using roots_nodup objs.length) hcol
              have := hroot.length_le
              simp only [List.nil_append, List.length_map, List.length_range] at this ⊢
              rw [coll.len]; exact this
        refine ⟨hlen, fun w I β O vs hrel hz hvl hva => ?_⟩
        refine calls_of_wp hg hb ?_
        let M0 : Mem := ⟨w, I, β, O⟩
        have s0 : SimC M0 (entryHeap 0 objs) objs.length fn.nt { tmps := vs ++ Array.replicate (g.ntmps - vs.size) Go.undef, defers := [] } ⟨entryEnv 0 args, entryHeap 0 objs, 1⟩ M0 := by
          refine ⟨⟨by simp; omega, rfl, fun t => ?_, hrel, .refl _ _ _, fun n x hx => ?_⟩, Nat.le_refl _⟩
          · simp only
            rw [entryEnv_get, if_pos (Nat.zero_le _), Nat.sub_zero]
            cases hx : args[t]? with
            | none => exact .nil
            | some av =>
              have hlt : t < vs.size := by rw [hvl]; exact (List.getElem?_eq_some_iff.1 hx).1
              have hv : vs[t]? = some vs[t] := Array.getElem?_eq_getElem hlt
              have : (vs ++ Array.replicate (g.ntmps - vs.size) Go.undef).getD t Go.undef = vs[t] := by
                rw [Array.getD_eq_getD_getElem?, Array.getElem?_append_left hlt, hv]; rfl
              rw [this]
              exact .val (hva t _ av hv hx)
          · have := hz n x hx
            simp only; omega
        have main : ∀ a' M', SimC M0 (entryHeap 0 objs) objs.length fn.nt a' σ M' → bodyPost P g (fun en w' => ∃ v I' β' O', en = .returned v ∧ HRel w' I' β' O' (entryHeap 0 os) ∧ RepE w' I' β' v (Ent.ofRes rs) ∧ (∀ i, i < objs.length → β' (0, i) = β (0, i)) ∧
            Evo (Owned O (entryHeap 0 objs)) w w' ∧ (∀ b, I b → I' b) ∧ (∀ b, I' b → I b ∨ w.heap.size ≤ b ∨ Owned O (entryHeap 0 objs) b) ∧ (∀ b, Owned O' (entryHeap 0 os) b → w.heap.size ≤ b ∨ Owned O (entryHeap 0 objs) b)) ex.out a' M'.w := by
          intro a' M' s'
          obtain ⟨_, v, I', β', O', h1, h2, h3, h4, h5, h6, h7, h8⟩ := finish_sound s' hres hev
          have post : a'.defers = [] ∧ ∃ v, (results g a'.tmps).run P M'.w = .ok v M'.w ∧ (∃ v' I' β' O', Ending.returned v = .returned v' ∧ HRel M'.w I' β' O' (entryHeap 0 os) ∧ RepE M'.w I' β' v' (Ent.ofRes rs) ∧ (∀ i, i < objs.length → β' (0, i) = β (0, i)) ∧
            Evo (Owned O (entryHeap 0 objs)) w M'.w ∧ (∀ b, I b → I' b) ∧ (∀ b, I' b → I b ∨ w.heap.size ≤ b ∨ Owned O (entryHeap 0 objs) b) ∧ (∀ b, Owned O' (entryHeap 0 os) b → w.heap.size ≤ b ∨ Owned O (entryHeap 0 objs) b)) :=
            ⟨s'.1.defers, v, h1, v, I', β', O', rfl, h2, h3, h4, h5, h6, h7, h8⟩
          cases ex with
          | normal => exact post
          | ret => exact post
          | exit id => exact absurd rfl (hex id)
        exact code_sound good (loop_sound good k) fn.body c _ _ σ M0 ex _ hbody s0 hrun main
      · cases hev
  · cases hok

/-- a table whose functions are the program's, and whose given functions do what they say -/
structure TabOK (P : Program) (tb : Tab) : Prop where
  fns : ∀ f fn, tb.fns f = some fn → okIFn P f fn = true
  given : ∀ f g, tb.given f = some g → ∀ args objs rs os, g args objs = some (rs, os) → okFn P f = true ∧ CallOK P f args objs rs os

theorem evN_good {tb : Tab} (ht : TabOK P tb) : ∀ k, GoodEF P (evN tb k)
  | 0 => fun f args objs rs os hev => by simp [evN] at hev
  | k + 1 => fun f args objs rs os hev => by
    have ih := evN_good ht k
    simp only [evN] at hev
    split at hev
    · rename_i g hg
      exact ht.given f g hg args objs rs os hev
    · split at hev
      · rename_i fn hfn
        exact evFn_sound ih (ht.fns f fn hfn) hev
      · cases hev

end
end Go.Pur
