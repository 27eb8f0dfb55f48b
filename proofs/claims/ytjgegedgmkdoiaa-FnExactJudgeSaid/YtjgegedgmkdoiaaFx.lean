/- The limit of the evaluator: what the program answers with no bound on rounds and calls; and the words that a walk uses. -/
import Derived.Test.YtjgegedgmkdoiaaFw
namespace Go.Pur
open Go
set_option linter.unusedSimpArgs false

/-! ### more answers of what is called, more rounds: the same answers -/

def EFle (e e' : EF) : Prop := ∀ f a o r, e f a o = some r → e' f a o = some r

theorem bind_mono {α β : Type} {h : Nm → Option LObj} {f g : α → HM β} (hfg : ∀ a r, (f a).val h = some r → (g a).val h = some r ∧ (g a).names h = (f a).names h) :
    ∀ (x : HM α) r, (x.bind f).val h = some r → (x.bind g).val h = some r ∧ (x.bind g).names h = (x.bind f).names h
  | .ret a, r, hr => hfg a r hr
  | .fail, r, hr => by simp [HM.bind, HM.val] at hr
  | .rd n k, r, hr => by
    simp only [HM.bind, HM.val, HM.names] at hr ⊢
    obtain ⟨h1, h2⟩ := bind_mono hfg (k (h n)) r hr
    exact ⟨h1, by rw [h2]⟩

section
variable {e e' : EF} (le : EFle e e')
include le

theorem doCall_mono {slot : Nat} {f : FuncId} {args : List (Bool × AV)} {h : Nm → Option LObj} {r : Out} (hr : (doCall e slot f args).val h = some r) :
    (doCall e' slot f args).val h = some r ∧ (doCall e' slot f args).names h = (doCall e slot f args).names h := by
  unfold doCall at hr ⊢
  refine bind_mono (fun as r hr => bind_mono (fun nos r hr => ?_) _ r hr) _ r hr
  simp only at hr ⊢
  cases hc : e f (as.map fun x => x.1.ren (placeOf nos.1)) (nos.2.map (LObj.ren (placeOf nos.1))) with
  | none => rw [hc] at hr; simp [HM.val] at hr
  | some q => rw [le _ _ _ _ hc]; rw [hc] at hr; exact ⟨hr, rfl⟩

theorem evOp_mono {slot : Nat} {env : Nat → Ent} {op : IOp} {h : Nm → Option LObj} {r : Out} (hr : (evOp e slot env op).val h = some r) :
    (evOp e' slot env op).val h = some r ∧ (evOp e' slot env op).names h = (evOp e slot env op).names h := by
  cases op
  case call f args =>
    simp only [evOp] at hr ⊢
    generalize args.mapM (fun p => (p.2.get env).map fun a => (p.1, a)) = q at hr ⊢
    cases q with
    | some as => exact doCall_mono le hr
    | none => simp [HM.val] at hr
  case ia alen sz x i => cases alen <;> exact ⟨hr, rfl⟩
  case callv x args =>
    simp only [evOp] at hr ⊢
    generalize args.mapM (fun p => (p.2.get env).map fun a => (p.1, a)) = q at hr ⊢
    generalize (x.get env).bind AV.cell? = c at hr ⊢
    cases q with
    | none => simp [HM.val] at hr
    | some as =>
      split at hr
      · rename_i h1 h2; cases h2; exact doCall_mono le hr
      · rename_i h1 h2; cases h2; exact doCall_mono le hr
      · simp [HM.val] at hr
  all_goals exact ⟨hr, rfl⟩

theorem stepU_mono {slot : Nat} {o : IOper} {σ : St} {r : St × Foot} (hr : stepU e slot o σ = some r) : stepU e' slot o σ = some r := by
  unfold stepU at hr ⊢
  split at hr
  · rename_i en w hv
    obtain ⟨h1, h2⟩ := evOp_mono le hv
    rw [h1]
    simp only [h2]
    exact hr
  · cases hr

theorem stepG_mono {slot : Nat} {o : IOper} {σ : St} {r : St × Foot} (hr : stepG e slot o σ = some r) : stepG e' slot o σ = some r := by
  unfold stepG at hr ⊢
  split at hr
  · exact stepU_mono le hr
  · rename_i g want hg
    generalize (σ.env g).bool? = y at hr ⊢
    cases y with
    | none => exact hr
    | some x =>
      cases x <;> cases want <;> simp only [if_true, if_false, Bool.false_eq_true] at hr ⊢ <;> first | exact stepU_mono le hr | exact hr

theorem runOps_mono {base : Nat} : ∀ {l : List (Nat × IOper)} {σ r : St}, runOps e base l σ = some r → runOps e' base l σ = some r
  | [], σ, r, hr => hr
  | (i, o) :: l, σ, r, hr => by
    simp only [runOps] at hr ⊢
    cases hs : stepG e (base + i) o σ with
    | none => rw [hs] at hr; cases hr
    | some q => rw [hs] at hr; rw [stepG_mono le hs]; exact runOps_mono hr

theorem runDraw_mono {base : Nat} : ∀ {l : List (Nat × IOper)} {acc : List (Nat × IOper × Foot)} {σ r : St}, runDraw e base l acc σ = some r → runDraw e' base l acc σ = some r
  | [], acc, σ, r, hr => hr
  | (i, o) :: l, acc, σ, r, hr => by
    simp only [runDraw] at hr ⊢
    cases hs : stepG e (base + i) o σ with
    | none => rw [hs] at hr; cases hr
    | some q => rw [hs] at hr; rw [stepG_mono le hs]; exact runDraw_mono hr

theorem runReg_mono {draw : Bool} {ops : List IOper} {σ r : St} (hr : runReg e draw ops σ = some r) : runReg e' draw ops σ = some r := by
  unfold runReg at hr ⊢
  simp only at hr ⊢
  split at hr
  · rename_i h; rw [if_pos h]; exact runDraw_mono le hr
  · rename_i h; rw [if_neg h]; exact runOps_mono le hr

theorem runQ_mono {base : Nat} {flags : List Nat} : ∀ {l : List (Nat × IOper)} {σ r : St}, runQ e base flags l σ = some r → runQ e' base flags l σ = some r
  | [], σ, r, hr => hr
  | (i, o) :: l, σ, r, hr => by
    simp only [runQ] at hr ⊢
    cases hs : stepG e (base + i) o σ with
    | none => rw [hs] at hr; cases hr
    | some q =>
      rw [hs] at hr
      rw [stepG_mono le hs]
      simp only at hr ⊢
      split at hr
      · rename_i hw; rw [if_pos hw]; exact runQ_mono hr
      · cases hr

def LMono (e e' : EF) (m k k' : Nat) : Prop := ∀ live b σ r, evL e m k live b σ = some r → evL e' m k' live b σ = some r

theorem code_mono {m k k' : Nat} (hl : LMono e e' m k k') : ∀ (c : IC) (σ : St) r, evC e m k c σ = some r → evC e' m k' c σ = some r := by
  intro c
  induction c with
  | skip => intro σ r hr; simpa only [evC] using hr
  | exit id => intro σ r hr; simpa only [evC] using hr
  | ret => intro σ r hr; simpa only [evC] using hr
  | reg draw ops =>
    intro σ r hr
    simp only [evC] at hr ⊢
    split at hr
    · rename_i h; rw [runReg_mono le h]; exact hr
    · cases hr
  | seq a b iha ihb =>
    intro σ r hr
    simp only [evC] at hr ⊢
    cases ha : evC e m k a σ with
    | none => rw [ha] at hr; cases hr
    | some q =>
      obtain ⟨ex, σ'⟩ := q
      rw [ha] at hr
      rw [iha _ _ ha]
      cases ex with
      | normal => exact ihb _ _ hr
      | exit i => exact hr
      | ret => exact hr
  | cond x a b iha ihb =>
    intro σ r hr
    simp only [evC] at hr ⊢
    generalize (x.get σ.env).bind AV.bool? = v at hr ⊢
    cases v with
    | none => cases hr
    | some v =>
      cases v with
      | true => exact iha _ _ hr
      | false => exact ihb _ _ hr
  | blk id b ih =>
    intro σ r hr
    simp only [evC] at hr ⊢
    cases hb : evC e m k b σ with
    | none => rw [hb] at hr; cases hr
    | some q => rw [ih _ _ hb]; rw [hb] at hr; exact hr
  | loop live b ih =>
    intro σ r hr
    simp only [evC] at hr ⊢
    exact hl _ _ _ _ hr
  | bad => intro σ r hr; simp [evC] at hr
  | regq flags ops =>
    intro σ r hr
    simp only [evC] at hr ⊢
    split at hr
    · rename_i h; unfold runRegQ at h ⊢; rw [runQ_mono le h]; exact hr
    · cases hr
  | retn live => intro σ r hr; simpa only [evC] using hr
  | nrm live b ih =>
    intro σ r hr
    simp only [evC] at hr ⊢
    cases hb : evC e m k b σ with
    | none => rw [hb] at hr; cases hr
    | some q => rw [ih _ _ hb]; rw [hb] at hr; exact hr

theorem loop_mono {m : Nat} : ∀ k k', k ≤ k' → LMono e e' m k k'
  | 0, _, _ => fun live b σ r hr => by simp [evL] at hr
  | k + 1, 0, h => absurd h (by omega)
  | k + 1, k' + 1, h => fun live b σ r hr => by
    have ih := loop_mono (m := m) k k' (by omega)
    simp only [evL] at hr ⊢
    split at hr
    · cases hr
    · rename_i σ0 hn
      cases hb : evC e m k b σ0 with
      | none => rw [hb] at hr; cases hr
      | some q =>
        obtain ⟨ex, σ'⟩ := q
        rw [hb] at hr
        rw [code_mono le ih _ _ _ hb]
        cases ex with
        | normal => exact ih _ _ _ _ hr
        | exit i => exact hr
        | ret => exact hr

theorem evFn_mono {k k' : Nat} (h : k ≤ k') {fn : IFn} {args : List AV} {objs : List LObj} {r : List AV × List LObj} (hr : evFn e k fn args objs = some r) : evFn e' k' fn args objs = some r := by
  unfold evFn at hr ⊢
  cases hb : evC e objs.length k fn.body ⟨entryEnv 0 args, entryHeap 0 objs, 1⟩ with
  | none => rw [hb] at hr; cases hr
  | some q => rw [code_mono le (loop_mono le k k' h) _ _ _ hb]; rw [hb] at hr; exact hr

end

/-! ### with no bound on rounds -/

theorem EFle.refl (e : EF) : EFle e e := fun _ _ _ _ h => h

open Classical in
noncomputable def evLI (ef : EF) (m : Nat) (live : List Nat) (b : IC) (σ : St) : Option (Ex × St) :=
  if h : ∃ r k, evL ef m k live b σ = some r then some h.choose else none

section
variable {ef : EF} {m : Nat}

theorem evL_same {live : List Nat} {b : IC} {σ : St} {k k' : Nat} {r r' : Ex × St} (h : evL ef m k live b σ = some r) (h' : evL ef m k' live b σ = some r') : r = r' := by
  have h1 := loop_mono (EFle.refl ef) (m := m) k (max k k') (Nat.le_max_left _ _) _ _ _ _ h
  have h2 := loop_mono (EFle.refl ef) (m := m) k' (max k k') (Nat.le_max_right _ _) _ _ _ _ h'
  rw [h1] at h2
  exact Option.some.inj h2

theorem evLI_iff {live : List Nat} {b : IC} {σ : St} {r : Ex × St} : evLI ef m live b σ = some r ↔ ∃ k, evL ef m k live b σ = some r := by
  unfold evLI
  constructor
  · intro h
    split at h
    · rename_i hx
      simp only [Option.some.injEq] at h
      rw [← h]
      exact hx.choose_spec
    · cases h
  · rintro ⟨k, hk⟩
    have hx : ∃ r k, evL ef m k live b σ = some r := ⟨r, k, hk⟩
    rw [dif_pos hx]
    obtain ⟨k', hk'⟩ := hx.choose_spec
    rw [evL_same hk' hk]

def seqK (r : Option (Ex × St)) (K : St → Option (Ex × St)) : Option (Ex × St) :=
  match r with
  | some (.normal, σ) => K σ
  | r => r
def blkK (id : Nat) (r : Option (Ex × St)) : Option (Ex × St) :=
  match r with
  | some (.exit i, σ) => if i = id then some (.normal, σ) else some (.exit i, σ)
  | r => r
def condK (x : Option Bool) (a b : Option (Ex × St)) : Option (Ex × St) :=
  match x with
  | some x => if x = true then a else b
  | none => none
def regK (r : Option St) : Option (Ex × St) :=
  match r with
  | some σ => some (.normal, σ)
  | none => none

def nrmK (m : Nat) (live : List Nat) (r : Option (Ex × St)) : Option (Ex × St) :=
  match r with
  | some (.normal, σ') => match norm m live σ' with
    | some σ'' => some (.normal, σ'')
    | none => none
  | r => r

noncomputable def evS (ef : EF) (m : Nat) : IC → St → Option (Ex × St)
  | .skip, σ => some (.normal, σ)
  | .reg draw ops, σ => regK (runReg ef draw ops σ)
  | .seq a b, σ => seqK (evS ef m a σ) (evS ef m b)
  | .cond c a b, σ => condK ((c.get σ.env).bind AV.bool?) (evS ef m a σ) (evS ef m b σ)
  | .blk id b, σ => blkK id (evS ef m b σ)
  | .loop live b, σ => evLI ef m live b σ
  | .nrm live b, σ => nrmK m live (evS ef m b σ)
  | .retn live, σ => match norm m live σ with
    | some σ' => some (.ret, σ')
    | none => none
  | .regq flags ops, σ => regK (runRegQ ef flags ops σ)
  | .bad, _ => none
  | .exit id, σ => some (.exit id, σ)
  | .ret, σ => some (.ret, σ)

theorem evS_iff : ∀ (c : IC) (σ : St) (r : Ex × St), evS ef m c σ = some r ↔ ∃ k, evC ef m k c σ = some r := by
  have up : ∀ {k k' : Nat} {c : IC} {σ : St} {r : Ex × St}, k ≤ k' → evC ef m k c σ = some r → evC ef m k' c σ = some r :=
    fun h hr => code_mono (EFle.refl ef) (loop_mono (EFle.refl ef) _ _ h) _ _ _ hr
  intro c
  induction c with
  | skip => intro σ r; simp only [evS, evC]; exact ⟨fun h => ⟨0, h⟩, fun ⟨_, h⟩ => h⟩
  | exit id => intro σ r; simp only [evS, evC]; exact ⟨fun h => ⟨0, h⟩, fun ⟨_, h⟩ => h⟩
  | ret => intro σ r; simp only [evS, evC]; exact ⟨fun h => ⟨0, h⟩, fun ⟨_, h⟩ => h⟩
  | reg draw ops => intro σ r; simp only [evS, evC, regK]; exact ⟨fun h => ⟨0, h⟩, fun ⟨_, h⟩ => h⟩
  | seq a b iha ihb =>
    intro σ r
    simp only [evS, evC, seqK]
    constructor
    · intro h
      cases ha : evS ef m a σ with
      | none => rw [ha] at h; cases h
      | some q =>
        obtain ⟨ex, σ'⟩ := q
        rw [ha] at h
        obtain ⟨k, hk⟩ := (iha _ _).1 ha
        cases ex with
        | normal =>
          obtain ⟨k', hk'⟩ := (ihb _ _).1 h
          exact ⟨max k k', by rw [up (Nat.le_max_left _ _) hk]; exact up (Nat.le_max_right _ _) hk'⟩
        | exit i => exact ⟨k, by rw [hk]; exact h⟩
        | ret => exact ⟨k, by rw [hk]; exact h⟩
    · rintro ⟨k, h⟩
      cases ha : evC ef m k a σ with
      | none => rw [ha] at h; cases h
      | some q =>
        obtain ⟨ex, σ'⟩ := q
        rw [ha] at h
        rw [(iha _ _).2 ⟨k, ha⟩]
        cases ex with
        | normal => exact (ihb _ _).2 ⟨k, h⟩
        | exit i => exact h
        | ret => exact h
  | cond x a b iha ihb =>
    intro σ r
    simp only [evS, evC, condK]
    cases hx : (x.get σ.env).bind AV.bool? with
    | none => simp
    | some v =>
      simp only
      cases v with
      | true => simp only [if_true]; exact iha _ _
      | false => simp only [Bool.false_eq_true, if_false]; exact ihb _ _
  | blk id b ih =>
    intro σ r
    simp only [evS, evC, blkK]
    constructor
    · intro h
      cases hb : evS ef m b σ with
      | none => rw [hb] at h; cases h
      | some q =>
        obtain ⟨k, hk⟩ := (ih _ _).1 hb
        exact ⟨k, by rw [hk]; rw [hb] at h; exact h⟩
    · rintro ⟨k, h⟩
      cases hb : evC ef m k b σ with
      | none => rw [hb] at h; cases h
      | some q => rw [(ih _ _).2 ⟨k, hb⟩]; rw [hb] at h; exact h
  | loop live b ih => intro σ r; simp only [evS, evC]; exact evLI_iff
  | bad => intro σ r; simp [evS, evC]
  | regq flags ops => intro σ r; simp only [evS, evC, regK]; exact ⟨fun h => ⟨0, h⟩, fun ⟨_, h⟩ => h⟩
  | retn live => intro σ r; simp only [evS, evC]; exact ⟨fun h => ⟨0, h⟩, fun ⟨_, h⟩ => h⟩
  | nrm live b ih =>
    intro σ r
    simp only [evS, evC, nrmK]
    constructor
    · intro h
      cases hb : evS ef m b σ with
      | none => rw [hb] at h; cases h
      | some q =>
        obtain ⟨k, hk⟩ := (ih _ _).1 hb
        exact ⟨k, by rw [hk]; rw [hb] at h; exact h⟩
    · rintro ⟨k, h⟩
      cases hb : evC ef m k b σ with
      | none => rw [hb] at h; cases h
      | some q => rw [(ih _ _).2 ⟨k, hb⟩]; rw [hb] at h; exact h

/-- the rounds, from a state whose names are in order -/
noncomputable def evLN (ef : EF) (m : Nat) (live : List Nat) (b : IC) (σ0 : St) : Option (Ex × St) := seqK (evS ef m b σ0) (evLI ef m live b)

def normK (r : Option St) (K : St → Option (Ex × St)) : Option (Ex × St) :=
  match r with
  | some σ => K σ
  | none => none

theorem evLI_eq (live : List Nat) (b : IC) (σ : St) : evLI ef m live b σ = normK (norm m live σ) (evLN ef m live b) := by
  have up : ∀ {k k' : Nat} {c : IC} {σ : St} {r : Ex × St}, k ≤ k' → evC ef m k c σ = some r → evC ef m k' c σ = some r :=
    fun h hr => code_mono (EFle.refl ef) (loop_mono (EFle.refl ef) _ _ h) _ _ _ hr
  have upL : ∀ {k k' : Nat} {σ : St} {r : Ex × St}, k ≤ k' → evL ef m k live b σ = some r → evL ef m k' live b σ = some r :=
    fun h hr => loop_mono (EFle.refl ef) _ _ h _ _ _ _ hr
  refine Option.ext fun r => ?_
  change evLI ef m live b σ = some r ↔ normK (norm m live σ) (evLN ef m live b) = some r
  unfold evLN seqK normK
  constructor
  · intro h
    obtain ⟨k, hk⟩ := evLI_iff.1 h
    cases k with
    | zero => simp [evL] at hk
    | succ k =>
      simp only [evL] at hk
      cases hn : norm m live σ with
      | none => rw [hn] at hk; cases hk
      | some σ0 =>
        rw [hn] at hk
        simp only at hk ⊢
        cases hb : evC ef m k b σ0 with
        | none => rw [hb] at hk; cases hk
        | some q =>
          obtain ⟨ex, σ'⟩ := q
          rw [hb] at hk
          rw [(evS_iff _ _ _).2 ⟨k, hb⟩]
          cases ex with
          | normal => exact evLI_iff.2 ⟨k, hk⟩
          | exit i => exact hk
          | ret => exact hk
  · intro h
    cases hn : norm m live σ with
    | none => rw [hn] at h; cases h
    | some σ0 =>
      rw [hn] at h
      simp only at h
      cases hb : evS ef m b σ0 with
      | none => rw [hb] at h; cases h
      | some q =>
        obtain ⟨ex, σ'⟩ := q
        rw [hb] at h
        obtain ⟨k, hk⟩ := (evS_iff _ _ _).1 hb
        cases ex with
        | normal =>
          obtain ⟨k', hk'⟩ := evLI_iff.1 h
          refine evLI_iff.2 ⟨max k k' + 1, ?_⟩
          simp only [evL, hn]
          rw [up (Nat.le_max_left _ _) hk]
          exact upL (Nat.le_max_right _ _) hk'
        | exit i =>
          refine evLI_iff.2 ⟨k + 1, ?_⟩
          simp only [evL, hn]
          rw [hk]; exact h
        | ret =>
          refine evLI_iff.2 ⟨k + 1, ?_⟩
          simp only [evL, hn]
          rw [hk]; exact h

/-- the next round -/
noncomputable def nextK (ef : EF) (m : Nat) (live : List Nat) (b : IC) (σ : St) : Option (Ex × St) := normK (norm m live σ) (evLN ef m live b)
theorem nextK_at (live : List Nat) (b : IC) (e : Nat → Ent) (h : Nm → Option LObj) (n : Nat) : nextK ef m live b ⟨e, h, n⟩ = normK (norm m live ⟨e, h, n⟩) (evLN ef m live b) := rfl

theorem evLN_eq (live : List Nat) (b : IC) (σ0 : St) : evLN ef m live b σ0 = seqK (evS ef m b σ0) (nextK ef m live b) := by
  conv => lhs; unfold evLN
  rw [show evLI ef m live b = nextK ef m live b from funext fun σ' => evLI_eq live b σ']

theorem evS_eq {b b' : IC} (h : b = b') (ef : EF) (m : Nat) (σ : St) : evS ef m b σ = evS ef m b' σ := by rw [h]

/-- what is answered -/
def finR (rs : List IRes) (m : Nat) (σ : St) : Option (List AV × List LObj) :=
  match (HM.mapM (resOf σ.env) rs).val σ.heap with
  | none => none
  | some rs =>
    match (collect collectFuel ((List.range m).map (fun i => (0, i)) ++ rs.flatMap AV.refs) [] []).val σ.heap with
    | none => none
    | some (ns, os) => some (rs.map (AV.ren (placeOf ns)), os.map (LObj.ren (placeOf ns)))

def finK (rs : List IRes) (m : Nat) (r : Option (Ex × St)) : Option (List AV × List LObj) :=
  match r with
  | some (.exit _, _) => none
  | some (_, σ) => finR rs m σ
  | none => none

noncomputable def evF (ef : EF) (fn : IFn) (args : List AV) (objs : List LObj) : Option (List AV × List LObj) :=
  finK fn.results objs.length (evS ef objs.length fn.body ⟨entryEnv 0 args, entryHeap 0 objs, 1⟩)

theorem evF_some {fn : IFn} {args : List AV} {objs : List LObj} {r : List AV × List LObj} (h : evF ef fn args objs = some r) : ∃ k, evFn ef k fn args objs = some r := by
  unfold evF finK at h
  cases hb : evS ef objs.length fn.body ⟨entryEnv 0 args, entryHeap 0 objs, 1⟩ with
  | none => rw [hb] at h; cases h
  | some q =>
    obtain ⟨k, hk⟩ := (evS_iff _ _ _).1 hb
    refine ⟨k, ?_⟩
    unfold evFn
    rw [hk]; rw [hb] at h
    obtain ⟨ex, σ'⟩ := q
    cases ex <;> exact h

end

/-! ### with no bound on calls -/

inductive Der (tb : Tab) : FuncId → List AV → List LObj → List AV × List LObj → Prop
  | given {f : FuncId} {g : List AV → List LObj → Option (List AV × List LObj)} {args : List AV} {objs : List LObj} {r : List AV × List LObj} : tb.given f = some g → g args objs = some r → Der tb f args objs r
  | fn {f : FuncId} {fn : IFn} {args : List AV} {objs : List LObj} {r : List AV × List LObj} (e : EF) (k : Nat) : tb.given f = none → tb.fns f = some fn → (∀ f a o r, e f a o = some r → Der tb f a o r) → evFn e k fn args objs = some r → Der tb f args objs r

theorem Der.same {tb : Tab} : ∀ {f : FuncId} {args : List AV} {objs : List LObj} {r : List AV × List LObj}, Der tb f args objs r → ∀ {r'}, Der tb f args objs r' → r = r' := by
  intro f args objs r h
  induction h with
  | given hg hr =>
    intro r' h'
    cases h' with
    | given hg' hr' =>
      rw [hg] at hg'
      cases hg'
      rw [hr] at hr'
      exact Option.some.inj hr'
    | fn e k hg' => rw [hg] at hg'; cases hg'
  | fn e k hg hf he hr ih =>
    intro r' h'
    cases h' with
    | given hg' => rw [hg] at hg'; cases hg'
    | fn e' k' _ hf' he' hr' =>
      rw [hf] at hf'
      cases hf'
      let j : EF := fun f a o => match e f a o with | some r => some r | none => e' f a o
      have h1 : EFle e j := fun f a o r hx => by simp only [j, hx]
      have h2 : EFle e' j := fun f a o r hx => by
        simp only [j]
        cases hy : e f a o with
        | none => exact hx
        | some r1 => rw [ih f a o r1 hy (he' f a o r hx)]
      have a1 := evFn_mono h1 (Nat.le_max_left k k') hr
      have a2 := evFn_mono h2 (Nat.le_max_right k k') hr'
      rw [a1] at a2
      exact Option.some.inj a2

open Classical in
/-- what the program answers -/
noncomputable def Tab.E (tb : Tab) : EF := fun f args objs => if h : ∃ r, Der tb f args objs r then some h.choose else none

theorem Tab.E_iff {tb : Tab} {f : FuncId} {args : List AV} {objs : List LObj} {r : List AV × List LObj} : tb.E f args objs = some r ↔ Der tb f args objs r := by
  unfold Tab.E
  constructor
  · intro h
    split at h
    · rename_i hx
      simp only [Option.some.injEq] at h
      rw [← h]
      exact hx.choose_spec
    · cases h
  · intro h
    have hx : ∃ r, Der tb f args objs r := ⟨r, h⟩
    rw [dif_pos hx, hx.choose_spec.same h]

theorem Tab.E_of {tb : Tab} {f : FuncId} {fn : IFn} {args : List AV} {objs : List LObj} {r : List AV × List LObj} (hf : tb.fns f = some fn) (hg : tb.given f = none) (h : evF tb.E fn args objs = some r) : tb.E f args objs = some r := by
  obtain ⟨k, hk⟩ := evF_some h
  exact Tab.E_iff.2 (.fn _ k hg hf (fun f a o r hx => Tab.E_iff.1 hx) hk)

theorem Tab.E_given {tb : Tab} {f : FuncId} {g : List AV → List LObj → Option (List AV × List LObj)} {args : List AV} {objs : List LObj} {r : List AV × List LObj} (hg : tb.given f = some g) (h : g args objs = some r) : tb.E f args objs = some r :=
  Tab.E_iff.2 (.given hg h)

theorem der_good {P : Program} {tb : Tab} (ht : TabOK P tb) {f : FuncId} {args : List AV} {objs : List LObj} {r : List AV × List LObj} (h : Der tb f args objs r) : okFn P f = true ∧ CallOK P f args objs r.1 r.2 := by
  induction h with
  | given hg hr => exact ht.given _ _ hg _ _ _ _ hr
  | fn e k hg hf he hr ih => exact evFn_sound (fun f a o rs os hx => ih f a o (rs, os) hx) (ht.fns _ _ hf) hr

theorem Tab.E_good {P : Program} {tb : Tab} (ht : TabOK P tb) : GoodEF P tb.E := fun _ _ _ _ _ hx => der_good ht (Tab.E_iff.1 hx)

end Go.Pur
