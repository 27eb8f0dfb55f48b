/- Regions, the plain part: an operation looks only at its operands and at the names it reads; two that are apart may change places. -/
import Derived.Test.YtjgegedgmkdoiaaFq
namespace Go.Pur
open Go
set_option linter.unusedSimpArgs false

theorem HM.local {α : Type} {h h' : Nm → Option LObj} : ∀ (m : HM α), (∀ n ∈ m.names h, h' n = h n) → m.val h' = m.val h ∧ m.names h' = m.names h
  | .ret _, _ => ⟨rfl, rfl⟩
  | .fail, _ => ⟨rfl, rfl⟩
  | .rd n k, hn => by
    simp only [HM.names, List.mem_cons] at hn
    have h1 := hn n (.inl rfl)
    have h2 := HM.local (k (h n)) fun m hm => hn m (.inr hm)
    simp only [HM.val, HM.names, h1]
    exact ⟨h2.1, by rw [h2.2]⟩

theorem get_congr {env env' : Nat → Ent} {x : Opd} (hx : ∀ t ∈ x.tmp, env' t = env t) : x.get env' = x.get env := by
  cases x with
  | c a => rfl
  | t n => simp only [Opd.get, hx n (by simp [Opd.tmp])]
theorem full_congr {env env' : Nat → Ent} {x : Opd} (hx : ∀ t ∈ x.tmp, env' t = env t) : x.full env' = x.full env := by
  simp only [Opd.full, get_congr hx]
theorem optInt_congr {env env' : Nat → Ent} {d : Int} {x : Option Opd} (hx : ∀ t ∈ optTmp x, env' t = env t) : optInt env' d x = optInt env d x := by
  cases x with
  | none => rfl
  | some x => simp only [optInt, get_congr (x := x) hx]
theorem mapM_congr {α γ : Type} {f g : α → Option γ} : ∀ {l : List α}, (∀ x ∈ l, f x = g x) → l.mapM f = l.mapM g
  | [], _ => rfl
  | x :: l, hx => by simp only [List.mapM_cons, hx x (by simp), mapM_congr (l := l) fun y hy => hx y (by simp [hy])]

theorem evOp_env {ef : EF} {slot : Nat} {env env' : Nat → Ent} : ∀ {op : IOp}, (∀ t ∈ op.tmps, env' t = env t) → evOp ef slot env' op = evOp ef slot env op := by
  intro op hop
  have g1 : ∀ (x : Opd), (∀ t ∈ x.tmp, t ∈ op.tmps) → x.get env' = x.get env := fun x hx => get_congr fun t ht => hop t (hx t ht)
  have g2 : ∀ (x : Opd), (∀ t ∈ x.tmp, t ∈ op.tmps) → x.full env' = x.full env := fun x hx => full_congr fun t ht => hop t (hx t ht)
  have g3 : ∀ (d : Int) (x : Option Opd), (∀ t ∈ optTmp x, t ∈ op.tmps) → optInt env' d x = optInt env d x := fun d x hx => optInt_congr fun t ht => hop t (hx t ht)
  cases op with
  | ext i x =>
    cases x with
    | c a => rfl
    | t n => simp only [evOp, hop n (by simp [IOp.tmps, Opd.tmp])]
  | bld z ps =>
    simp only [evOp]
    rw [mapM_congr fun p hp => by rw [g2 p.2.2 fun t ht => by simp only [IOp.tmps, List.mem_flatMap]; exact ⟨p, hp, ht⟩]]
  | bsl sz len z ps =>
    simp only [evOp]
    rw [mapM_congr fun p hp => by rw [g2 p.2.2 fun t ht => by simp only [IOp.tmps, List.mem_flatMap]; exact ⟨p, hp, ht⟩]]
  | mkf f xs ys =>
    simp only [evOp]
    rw [mapM_congr (l := xs) fun p hp => by rw [g1 p fun t ht => by simp only [IOp.tmps, List.mem_append, List.mem_flatMap]; exact .inl ⟨p, hp, ht⟩],
      mapM_congr (l := ys) fun p hp => by rw [g1 p fun t ht => by simp only [IOp.tmps, List.mem_append, List.mem_flatMap]; exact .inr ⟨p, hp, ht⟩]]
  | call f as =>
    simp only [evOp]
    rw [mapM_congr fun p hp => by rw [g1 p.2 fun t ht => by simp only [IOp.tmps, List.mem_flatMap]; exact ⟨p, hp, ht⟩]]
  | callv x as =>
    simp only [evOp]
    rw [mapM_congr fun p hp => by rw [g1 p.2 fun t ht => by simp only [IOp.tmps, List.mem_append, List.mem_flatMap]; exact .inr ⟨p, hp, ht⟩],
      g1 x fun t ht => by simp only [IOp.tmps, List.mem_append]; exact .inl ht]
  | mov x =>
    have : x.ent env' = x.ent env := by
      cases x with
      | c a => rfl
      | t n => exact hop n (by simp [IOp.tmps, Opd.tmp])
    simp only [evOp, this]
  | pick x y z => simp only [evOp]; rw [g1 x fun t ht => by simp [IOp.tmps, ht], g1 y fun t ht => by simp [IOp.tmps, ht], g1 z fun t ht => by simp [IOp.tmps, ht]]
  | alc => rfl
  | alcA => rfl
  | lena => rfl
  | bad => rfl
  | box x => simp only [evOp]; rw [g2 x fun t ht => by simpa [IOp.tmps] using ht]
  | boxA sz x => simp only [evOp]; rw [g2 x fun t ht => by simpa [IOp.tmps] using ht]
  | ld ag n x => simp only [evOp]; rw [g1 x fun t ht => by simpa [IOp.tmps] using ht]
  | st n x y => simp only [evOp]; rw [g1 x fun t ht => by simp [IOp.tmps, ht], g2 y fun t ht => by simp [IOp.tmps, ht]]
  | nilc x => simp only [evOp]; rw [g1 x fun t ht => by simpa [IOp.tmps] using ht]
  | bin o x y => simp only [evOp]; rw [g1 x fun t ht => by simp [IOp.tmps, ht], g1 y fun t ht => by simp [IOp.tmps, ht]]
  | eqb o x y => simp only [evOp]; rw [g1 x fun t ht => by simp [IOp.tmps, ht], g1 y fun t ht => by simp [IOp.tmps, ht]]
  | isnil o x => simp only [evOp]; rw [g1 x fun t ht => by simpa [IOp.tmps] using ht]
  | un o x => simp only [evOp]; rw [g1 x fun t ht => by simpa [IOp.tmps] using ht]
  | cvi o x => simp only [evOp]; rw [g1 x fun t ht => by simpa [IOp.tmps] using ht]
  | fa o x => simp only [evOp]; rw [g1 x fun t ht => by simpa [IOp.tmps] using ht]
  | fd _ _ _ x => simp only [evOp]; rw [g1 x fun t ht => by simpa [IOp.tmps] using ht]
  | ia al sz x y =>
    cases al <;> (simp only [evOp]; rw [g1 x fun t ht => by simp [IOp.tmps, ht], g1 y fun t ht => by simp [IOp.tmps, ht]])
  | ixs x y => simp only [evOp]; rw [g1 x fun t ht => by simp [IOp.tmps, ht], g1 y fun t ht => by simp [IOp.tmps, ht]]
  | ixa _ _ _ x y => simp only [evOp]; rw [g1 x fun t ht => by simp [IOp.tmps, ht], g1 y fun t ht => by simp [IOp.tmps, ht]]
  | ms _ _ x y => simp only [evOp]; rw [g1 x fun t ht => by simp [IOp.tmps, ht], g1 y fun t ht => by simp [IOp.tmps, ht]]
  | sls x lo hi =>
    have h1 : ∀ d, optInt env' d lo = optInt env d lo := fun d => g3 d lo fun t ht => by simp [IOp.tmps, ht]
    have h2 : ∀ d, optInt env' d hi = optInt env d hi := fun d => g3 d hi fun t ht => by simp [IOp.tmps, ht]
    simp only [evOp, h1, h2, g1 x fun t ht => by simp [IOp.tmps, ht]]
  | slc _ x lo hi =>
    have h1 : ∀ d, optInt env' d lo = optInt env d lo := fun d => g3 d lo fun t ht => by simp [IOp.tmps, ht]
    have h2 : ∀ d, optInt env' d hi = optInt env d hi := fun d => g3 d hi fun t ht => by simp [IOp.tmps, ht]
    simp only [evOp, h1, h2, g1 x fun t ht => by simp [IOp.tmps, ht]]
  | sla _ _ x lo hi =>
    have h1 : ∀ d, optInt env' d lo = optInt env d lo := fun d => g3 d lo fun t ht => by simp [IOp.tmps, ht]
    have h2 : ∀ d, optInt env' d hi = optInt env d hi := fun d => g3 d hi fun t ht => by simp [IOp.tmps, ht]
    simp only [evOp, h1, h2, g1 x fun t ht => by simp [IOp.tmps, ht]]
  | app _ x y => simp only [evOp]; rw [g1 x fun t ht => by simp [IOp.tmps, ht], g1 y fun t ht => by simp [IOp.tmps, ht]]
  | len x => simp only [evOp]; rw [g1 x fun t ht => by simpa [IOp.tmps] using ht]
  | lens x => simp only [evOp]; rw [g1 x fun t ht => by simpa [IOp.tmps] using ht]
  | mnx _ x y => simp only [evOp]; rw [g1 x fun t ht => by simp [IOp.tmps, ht], g1 y fun t ht => by simp [IOp.tmps, ht]]
  | cpy _ x y => simp only [evOp]; rw [g1 x fun t ht => by simp [IOp.tmps, ht], g1 y fun t ht => by simp [IOp.tmps, ht]]

/-! ### a guard that is known is what it is -/

theorem bool_eq {e : Ent} {x : Bool} (he : e.bool? = some x) : e = .val (.bool x) := by
  cases e with
  | val a =>
    obtain ⟨g, cs⟩ := a
    simp only [Ent.bool?, AV.bool?] at he
    split at he
    · rename_i heq
      simp only [Option.some.injEq] at he
      subst he
      rw [heq]; rfl
    · cases he
  | nil => simp [Ent.bool?] at he
  | tup => simp [Ent.bool?] at he

theorem upd_id {κ α : Type} [DecidableEq κ] {f : κ → α} {k : κ} {v : α} (hv : f k = v) : upd f k v = f := by
  funext x
  by_cases hx : x = k
  · subst hx; rw [upd_same, hv]
  · rw [upd_other _ _ _ hx]

def plainG (ef : EF) (slot : Nat) (o : IOper) (σ : St) : Option (St × Foot) :=
  match o.guard with
  | none => stepU ef slot o σ
  | some (g, want) => match (σ.env g).bool? with
    | none => if (σ.env g).isUnd = true then some (stepSkip o σ) else none
    | some x => if x = want then stepU ef slot o σ else some (stepSkip o σ)

theorem stepG_plain (ef : EF) (slot : Nat) (o : IOper) (σ : St) : stepG ef slot o σ = plainG ef slot o σ := by
  unfold stepG plainG
  cases hg : o.guard with
  | none => rfl
  | some gw =>
    obtain ⟨g, want⟩ := gw
    simp only
    cases hb : (σ.env g).bool? with
    | none => rfl
    | some x =>
      have he := bool_eq hb
      have : ({ σ with env := upd σ.env g (.val (.bool x)) } : St) = σ := by
        rw [upd_id he]
      cases x <;> cases want <;> simp only [this, if_true, if_false, Bool.false_eq_true, reduceCtorEq, Bool.true_eq_false]

/-! ### changing places -/

theorem putDst_comm {env : Nat → Ent} {d d' : Option Nat} {e e' : Ent} (hne : ∀ x, d = some x → d' ≠ some x) : putDst (putDst env d e) d' e' = putDst (putDst env d' e') d e := by
  cases d with
  | none => rfl
  | some x => cases d' with
    | none => rfl
    | some y =>
      have hxy : x ≠ y := fun he => hne x rfl (by rw [he])
      funext k
      simp only [putDst, upd]
      by_cases h1 : k = x <;> by_cases h2 : k = y
      · subst h1; exact absurd h2 hxy
      · subst h1; simp [hxy]
      · subst h2; simp [h1]
      · simp [h1, h2]

theorem putWr_other : ∀ (w : Wr) (h : Nm → Option LObj) (n : Nm), n ∉ w.map (·.1) → putWr h w n = h n
  | [], _, _, _ => rfl
  | (m, o) :: w, h, n, hn => by
    simp only [List.map_cons, List.mem_cons, not_or] at hn
    simp only [putWr]
    rw [putWr_other w _ n hn.2, upd_other _ _ _ hn.1]

theorem putWr_in : ∀ (w : Wr) (h h' : Nm → Option LObj) (n : Nm), n ∈ w.map (·.1) → putWr h w n = putWr h' w n
  | [], _, _, _, hn => by simp at hn
  | (m, o) :: w, h, h', n, hn => by
    simp only [putWr]
    by_cases h2 : n ∈ w.map (·.1)
    · exact putWr_in w _ _ n h2
    · rw [putWr_other w _ n h2, putWr_other w _ n h2]
      simp only [List.map_cons, List.mem_cons] at hn
      rcases hn with rfl | hn
      · rw [upd_same, upd_same]
      · exact absurd hn h2

theorem putWr_comm {h : Nm → Option LObj} {w w' : Wr} (hd : ∀ n ∈ w.map (·.1), n ∉ w'.map (·.1)) : putWr (putWr h w) w' = putWr (putWr h w') w := by
  funext n
  by_cases h1 : n ∈ w.map (·.1)
  · rw [putWr_other w' _ n (hd n h1)]
    exact putWr_in w _ _ n h1
  · rw [putWr_other w (putWr h w') n h1]
    by_cases h2 : n ∈ w'.map (·.1)
    · exact putWr_in w' _ _ n h2
    · rw [putWr_other w' _ n h2, putWr_other w' _ n h2, putWr_other w _ n h1]

/-- what a step does, as a change -/
structure Eff where
  ent : Ent
  wr : Wr
  rd : List Nm

def effOf (ef : EF) (slot : Nat) (o : IOper) (env : Nat → Ent) (h : Nm → Option LObj) : Option Eff :=
  let u := match (evOp ef slot env o.op).val h with
    | some (e, w) => some ⟨e, w, (evOp ef slot env o.op).names h⟩
    | none => none
  match o.guard with
  | none => u
  | some (g, want) => match (env g).bool? with
    | none => if (env g).isUnd = true then some ⟨.tup [], [], []⟩ else none
    | some x => if x = want then u else some ⟨.tup [], [], []⟩

theorem step_eff (ef : EF) (slot : Nat) (o : IOper) (σ : St) :
    stepG ef slot o σ = (effOf ef slot o σ.env σ.heap).map fun f => (⟨putDst σ.env o.dst f.ent, putWr σ.heap f.wr, σ.next⟩, ⟨f.rd, f.wr.map (·.1)⟩) := by
  rw [stepG_plain]
  unfold plainG effOf
  cases hg : o.guard with
  | none =>
    simp only [stepU]
    cases (evOp ef slot σ.env o.op).val σ.heap with
    | none => rfl
    | some p => rfl
  | some gw =>
    obtain ⟨g, want⟩ := gw
    simp only
    cases hb : (σ.env g).bool? with
    | none =>
      simp only
      by_cases hx : (σ.env g).isUnd = true
      · simp only [hx, if_true, stepSkip, putWr, Option.map_some, List.map_nil]
      · simp only [hx, if_false, Option.map_none, Bool.false_eq_true]
    | some x =>
      simp only
      by_cases hx : x = want
      · simp only [hx, if_true, stepU]
        cases (evOp ef slot σ.env o.op).val σ.heap with
        | none => rfl
        | some p => rfl
      · simp only [hx, if_false, stepSkip, putWr, Option.map_some, List.map_nil]

theorem eff_congr {ef : EF} {slot : Nat} {o : IOper} {env env' : Nat → Ent} {h h' : Nm → Option LObj} {f : Eff} (he : ∀ t ∈ o.looks, env' t = env t) (hf : effOf ef slot o env h = some f) (hh : ∀ n ∈ f.rd, h' n = h n) :
    effOf ef slot o env' h' = some f := by
  have he1 : evOp ef slot env' o.op = evOp ef slot env o.op := evOp_env fun t ht => he t (by simp [IOper.looks, ht])
  have hu : ∀ {f}, (match (evOp ef slot env o.op).val h with
    | some (e, w) => some (⟨e, w, (evOp ef slot env o.op).names h⟩ : Eff)
    | none => none) = some f → (∀ n ∈ f.rd, h' n = h n) → (match (evOp ef slot env' o.op).val h' with
    | some (e, w) => some (⟨e, w, (evOp ef slot env' o.op).names h'⟩ : Eff)
    | none => none) = some f := by
    intro f h1 h2
    rw [he1]
    cases hv : (evOp ef slot env o.op).val h with
    | none => rw [hv] at h1; cases h1
    | some p =>
      rw [hv] at h1
      simp only [Option.some.injEq] at h1
      subst h1
      obtain ⟨l1, l2⟩ := HM.local (h := h) (h' := h') (evOp ef slot env o.op) h2
      rw [l1, l2, hv]
  unfold effOf at hf ⊢
  cases hg : o.guard with
  | none =>
    simp only [hg] at hf ⊢
    exact hu hf hh
  | some gw =>
    obtain ⟨g, want⟩ := gw
    simp only [hg] at hf ⊢
    rw [he g (by simp [IOper.looks, hg])]
    cases hb : (env g).bool? with
    | none =>
      simp only [hb] at hf ⊢
      by_cases hx : (env g).isUnd = true
      · simp only [hx, if_true] at hf ⊢
        exact hf
      · simp [hx] at hf
    | some x =>
      simp only [hb] at hf ⊢
      by_cases hx : x = want
      · simp only [hx, if_true] at hf ⊢
        exact hu hf hh
      · simp only [hx, if_false] at hf ⊢
        exact hf

theorem swap {ef : EF} {s t : Nat} {x y : IOper} {σ σ1 σ2 : St} {f g : Foot} (h1 : stepG ef s x σ = some (σ1, f)) (h2 : stepG ef t y σ1 = some (σ2, g)) (hap : apartB x y f g = true) :
    ∃ σ3, stepG ef t y σ = some (σ3, g) ∧ stepG ef s x σ3 = some (σ2, f) := by
  rw [step_eff] at h1 h2
  obtain ⟨fx, hfx, h1⟩ := Option.map_eq_some_iff.1 h1
  obtain ⟨fy, hfy, h2⟩ := Option.map_eq_some_iff.1 h2
  simp only [Prod.mk.injEq] at h1 h2
  obtain ⟨rfl, rfl⟩ := h1
  obtain ⟨rfl, rfl⟩ := h2
  simp only [apartB, Bool.and_eq_true, List.all_eq_true, Bool.not_eq_true', List.contains_eq_mem, decide_eq_false_iff_not] at hap
  obtain ⟨⟨⟨d1, d2⟩, d3⟩, d4⟩ := hap
  have envy : ∀ t ∈ y.looks, σ.env t = putDst σ.env x.dst fx.ent t := by
    intro k hk
    cases hd : x.dst with
    | none => rfl
    | some d =>
      simp only [hd, Bool.and_eq_true, Bool.not_eq_true', decide_eq_false_iff_not] at d1
      simp only [putDst]
      rw [upd_other]
      intro he; subst he; exact d1.1 hk
  have envx : ∀ t ∈ x.looks, putDst σ.env y.dst fy.ent t = σ.env t := by
    intro k hk
    cases hd : y.dst with
    | none => rfl
    | some d =>
      simp only [hd, Bool.not_eq_true', decide_eq_false_iff_not] at d2
      simp only [putDst]
      rw [upd_other]
      intro he; subst he; exact d2 hk
  have e1 : effOf ef t y σ.env σ.heap = some fy := eff_congr envy hfy fun n hn => by
    simp only
    rw [putWr_other]
    intro hm
    exact (d3 n hm).1 hn
  have e2 : effOf ef s x (putDst σ.env y.dst fy.ent) (putWr σ.heap fy.wr) = some fx := eff_congr envx hfx fun n hn => by
    rw [putWr_other]
    intro hm
    exact (d4 n hm) hn
  refine ⟨⟨putDst σ.env y.dst fy.ent, putWr σ.heap fy.wr, σ.next⟩, by rw [step_eff, e1]; rfl, ?_⟩
  rw [step_eff]
  simp only [e2, Option.map_some]
  rw [putDst_comm, putWr_comm]
  · intro n hn hm
    exact (d3 n hm).2 hn
  · intro d hd hd2
    simp only [hd2, Bool.and_eq_true] at d1
    rw [hd] at d1
    simp at d1

/-! ### a run, with its footprints -/

def runF (ef : EF) (base : Nat) : List (Nat × IOper) → St → Option (St × List (Nat × IOper × Foot))
  | [], σ => some (σ, [])
  | (i, o) :: l, σ => match stepG ef (base + i) o σ with
    | some (σ', f) => (runF ef base l σ').map fun r => (r.1, (i, o, f) :: r.2)
    | none => none

theorem runDraw_runF {ef : EF} {base : Nat} : ∀ {l : List (Nat × IOper)} {acc : List (Nat × IOper × Foot)} {σ σ' : St}, runDraw ef base l acc σ = some σ' →
    ∃ fs, runF ef base l σ = some (σ', fs) ∧ orderB (acc ++ fs) = true
  | [], acc, σ, σ', hr => by
    simp only [runDraw] at hr
    split at hr
    · rename_i ho
      simp only [Option.some.injEq] at hr
      subst hr
      exact ⟨[], rfl, by simpa using ho⟩
    · cases hr
  | (i, o) :: l, acc, σ, σ', hr => by
    simp only [runDraw] at hr
    cases hs : stepG ef (base + i) o σ with
    | none => simp [hs] at hr
    | some p =>
      obtain ⟨σ1, f⟩ := p
      simp only [hs] at hr
      obtain ⟨fs, h1, h2⟩ := runDraw_runF hr
      refine ⟨(i, o, f) :: fs, ?_, by simpa using h2⟩
      simp only [runF, hs, h1, Option.map_some]

theorem runF_keys {ef : EF} {base : Nat} : ∀ {l : List (Nat × IOper)} {σ σ' : St} {fs : List (Nat × IOper × Foot)}, runF ef base l σ = some (σ', fs) → fs.map (fun x => (x.1, x.2.1)) = l
  | [], σ, σ', fs, hr => by
    simp only [runF, Option.some.injEq, Prod.mk.injEq] at hr
    obtain ⟨_, rfl⟩ := hr
    rfl
  | (i, o) :: l, σ, σ', fs, hr => by
    simp only [runF] at hr
    cases hs : stepG ef (base + i) o σ with
    | none => simp [hs] at hr
    | some p =>
      obtain ⟨σ1, f⟩ := p
      simp only [hs] at hr
      obtain ⟨r, h1, h2⟩ := Option.map_eq_some_iff.1 hr
      obtain ⟨σ2, fs'⟩ := r
      simp only [Prod.mk.injEq] at h2
      obtain ⟨rfl, rfl⟩ := h2
      simp only [List.map_cons, runF_keys h1]

/-- one of the list that waits for none of those ahead of it may be done first -/
theorem runF_front {ef : EF} {base : Nat} {i : Nat} {o : IOper} {f : Foot} : ∀ {l1 : List (Nat × IOper × Foot)} {l2 : List (Nat × IOper × Foot)} {σ σ' : St},
    runF ef base ((l1 ++ (i, o, f) :: l2).map fun x => (x.1, x.2.1)) σ = some (σ', l1 ++ (i, o, f) :: l2) → orderB (l1 ++ (i, o, f) :: l2) = true → (∀ x ∈ l1, x.1 ∉ o.after) →
    ∃ σ1, stepG ef (base + i) o σ = some (σ1, f) ∧ runF ef base ((l1 ++ l2).map fun x => (x.1, x.2.1)) σ1 = some (σ', l1 ++ l2) ∧ orderB (l1 ++ l2) = true
  | [], l2, σ, σ', hr, ho, _ => by
    simp only [List.nil_append, List.map_cons, runF] at hr ⊢
    cases hs : stepG ef (base + i) o σ with
    | none => simp [hs] at hr
    | some p =>
      obtain ⟨σ1, f'⟩ := p
      simp only [hs] at hr
      obtain ⟨r, h1, h2⟩ := Option.map_eq_some_iff.1 hr
      obtain ⟨σ2, fs'⟩ := r
      simp only [Prod.mk.injEq, List.cons.injEq, true_and] at h2
      obtain ⟨rfl, rfl, rfl⟩ := h2
      refine ⟨σ1, rfl, h1, ?_⟩
      simp only [List.nil_append, orderB, Bool.and_eq_true] at ho
      exact ho.2
  | (j, x, g) :: l1, l2, σ, σ', hr, ho, hw => by
    simp only [List.cons_append, List.map_cons, runF] at hr
    cases hs : stepG ef (base + j) x σ with
    | none => simp [hs] at hr
    | some p =>
      obtain ⟨σ1, g'⟩ := p
      simp only [hs] at hr
      obtain ⟨r, h1, h2⟩ := Option.map_eq_some_iff.1 hr
      obtain ⟨σ2, fs'⟩ := r
      simp only [Prod.mk.injEq, List.cons.injEq, true_and] at h2
      obtain ⟨rfl, rfl, rfl⟩ := h2
      simp only [List.cons_append, orderB, Bool.and_eq_true, List.all_eq_true] at ho
      obtain ⟨ha, ho⟩ := ho
      obtain ⟨σ3, h3, h4, h5⟩ := runF_front (l1 := l1) (l2 := l2) h1 ho fun y hy => hw y (by simp [hy])
      have hap : apartB x o g' f = true := by
        have := ha (i, o, f) (by simp)
        simp only [Bool.or_eq_true] at this
        rcases this with h6 | h6
        · exact absurd (by simpa using h6) (hw (j, x, g') (by simp))
        · exact h6
      obtain ⟨σ4, h6, h7⟩ := swap hs h3 hap
      refine ⟨σ4, h6, ?_, ?_⟩
      · simp only [List.cons_append, List.map_cons, runF, h7, h4, Option.map_some]
      · simp only [List.cons_append, orderB, Bool.and_eq_true, List.all_eq_true]
        exact ⟨fun y hy => ha y (by
          simp only [List.mem_append, List.mem_cons] at hy ⊢
          rcases hy with hy | hy
          · exact .inl hy
          · exact .inr (.inr hy)), h5⟩

theorem orderB_quiet {flags : List Nat} : ∀ {fs : List (Nat × IOper × Foot)}, (∀ x ∈ fs, (x.2.2.wr.isEmpty || flags.contains x.1) = true) → ordS flags (fs.map fun x => (x.1, x.2.1)) = true → orderB fs = true
  | [], _, _ => rfl
  | (i, x, f) :: l, hf, ho => by
    simp only [List.map_cons, ordS, Bool.and_eq_true, List.all_eq_true] at ho
    simp only [orderB, Bool.and_eq_true, List.all_eq_true]
    refine ⟨fun p hp => ?_, orderB_quiet (fun y hy => hf y (by simp [hy])) ho.2⟩
    obtain ⟨j, y, g⟩ := p
    have h1 := ho.1 (j, y) (List.mem_map.2 ⟨(j, y, g), hp, rfl⟩)
    have h2 := hf (i, x, f) (by simp)
    have h3 := hf (j, y, g) (by simp [hp])
    simp only [Bool.or_eq_true, Bool.and_eq_true, Bool.not_eq_true'] at h1 h2 h3 ⊢
    rcases h1 with h1 | ⟨⟨h1, h4⟩, h5⟩
    · exact .inl h1
    · right
      rw [h1] at h2
      rw [h4] at h3
      have e1 : f.wr = [] := by simpa using h2
      have e2 : g.wr = [] := by simpa using h3
      unfold apartB
      unfold apartS at h5
      rw [e1, e2]
      simpa using h5

theorem runQ_draw {ef : EF} {base : Nat} {flags : List Nat} : ∀ {l : List (Nat × IOper)} {acc : List (Nat × IOper × Foot)} {σ σ' : St}, runQ ef base flags l σ = some σ' →
    ∃ fs, (∀ x ∈ fs, (x.2.2.wr.isEmpty || flags.contains x.1) = true) ∧ fs.map (fun x => (x.1, x.2.1)) = l ∧ runDraw ef base l acc σ = if orderB (acc ++ fs) = true then some σ' else none
  | [], acc, σ, σ', h => by
    simp only [runQ, Option.some.injEq] at h
    subst h
    exact ⟨[], by simp, rfl, by simp [runDraw]⟩
  | (i, o) :: l, acc, σ, σ', h => by
    simp only [runQ] at h
    cases hs : stepG ef (base + i) o σ with
    | none => rw [hs] at h; cases h
    | some p =>
      obtain ⟨σ1, f⟩ := p
      rw [hs] at h
      simp only at h
      split at h
      · rename_i hw
        obtain ⟨fs, h1, h2, h3⟩ := runQ_draw (acc := acc ++ [(i, o, f)]) h
        refine ⟨(i, o, f) :: fs, fun x hx => ?_, by simp [h2], ?_⟩
        · simp only [List.mem_cons] at hx
          rcases hx with rfl | hx
          · exact hw
          · exact h1 x hx
        · simp only [runDraw, hs]
          rw [h3]
          simp
      · cases h

theorem runRegQ_reg {ef : EF} {flags : List Nat} {ops : List IOper} {σ σ' : St} (ho : ordS flags (indexed 0 ops) = true) (h : runRegQ ef flags ops σ = some σ') : runReg ef true ops σ = some σ' := by
  unfold runRegQ at h
  unfold runReg
  simp only [if_true]
  obtain ⟨fs, h1, h2, h3⟩ := runQ_draw (acc := []) h
  rw [h3, List.nil_append, if_pos (orderB_quiet h1 (by rw [h2]; exact ho))]

end Go.Pur
