/- Regions: what the evaluator says of them is what the model does, in every order. -/
import Derived.Test.YtjgegedgmkdoiaaFr
namespace Go.Pur
open Go
set_option linter.unusedSimpArgs false

structure Mem where
  w : World
  I : Nat → Prop
  β : Beta
  O : Nm → Nat → Prop

/-- what has come of the memory at the start -/
structure Since (M0 : Mem) (h0 : Nm → Option LObj) (m : Nat) (M : Mem) (h : Nm → Option LObj) : Prop where
  evo : Evo (Owned M0.O h0) M0.w M.w
  keepI : ∀ b, M0.I b → M.I b
  newI : ∀ b, M.I b → M0.I b ∨ M0.w.heap.size ≤ b ∨ Owned M0.O h0 b
  newO : ∀ b, Owned M.O h b → M0.w.heap.size ≤ b ∨ Owned M0.O h0 b
  names : ∀ i, i < m → M.β (0, i) = M0.β (0, i)

theorem Since.refl (M : Mem) (h : Nm → Option LObj) (m : Nat) : Since M h m M h :=
  ⟨.refl _ _, fun _ h => h, fun _ h => .inl h, fun _ h => .inr h, fun _ _ => rfl⟩

theorem Since.step {M0 M : Mem} {h0 h h' : Nm → Option LObj} {m slot : Nat} {w' : World} {I' : Nat → Prop} {β' : Beta} {O' : Nm → Nat → Prop} (s : Since M0 h0 m M h)
    (t : StepTo slot M.w w' M.I I' M.β β' M.O O' h h') (h00 : slot ≠ 0) : Since M0 h0 m ⟨w', I', β', O'⟩ h' := by
  refine ⟨s.evo.trans t.evo fun x hx ho => ?_, fun b hb => t.keepI b (s.keepI b hb), fun b hb => ?_, fun b hb => ?_, fun i hi => ?_⟩
  · rcases s.newO x ho with h1 | h1
    · omega
    · exact h1
  · rcases t.newI b hb with h1 | h1 | h1
    · exact s.newI b h1
    · exact .inr (.inl (Nat.le_trans s.evo.size h1))
    · exact .inr (s.newO b h1)
  · rcases t.newO b hb with h1 | h1
    · exact .inl (Nat.le_trans s.evo.size h1)
    · exact s.newO b h1
  · rw [← s.names i hi]
    cases hq : M.β (0, i) with
    | some x => exact t.names _ _ hq
    | none =>
      cases hq' : β' (0, i) with
      | none => exact hq'
      | some x =>
        rcases t.fresh _ _ hq' with h1 | h1
        · rw [hq] at h1; cases h1
        · exact absurd h1.symm h00

structure Sim (M0 : Mem) (h0 : Nm → Option LObj) (m nt : Nat) (bound : Nat → Prop) (a : Act) (σ : St) (M : Mem) : Prop where
  size : nt ≤ a.tmps.size
  defers : a.defers = []
  env : EnvRep M.w M.I M.β a σ.env
  rel : HRel M.w M.I M.β M.O σ.heap
  since : Since M0 h0 m M σ.heap
  slots : ∀ n x, M.β n = some x → bound n.1

/-! ### the check -/

def okOper (P : Program) (nt : Nat) (ops : Array Oper) (i : Nat) (x : Oper) (y : IOper) : Bool :=
  x.dst == y.dst && (match y.dst with | some d => decide (d < nt) | none => true) && okOp P x.op y.op &&
  (match x.guard, y.guard with
    | none, none => true
    | some (j, b), some (g, b') => b == b' && ((ops[j]?).bind (·.dst)) == some g && decide (g < nt)
    | _, _ => false) &&
  (y.after.all fun j => x.after.toList.any fun e => Region.binds .any e && e.on == j) &&
  (x.after.toList.all fun e => !Region.binds .any e || decide (e.on < i))

def okOpers (P : Program) (nt : Nat) (ops : Array Oper) : Nat → List Oper → List IOper → Bool
  | _, [], [] => true
  | i, x :: xs, y :: ys => okOper P nt ops i x y && okOpers P nt ops (i + 1) xs ys
  | _, _, _ => false

theorem okOpers_spec {P : Program} {nt : Nat} {ops : Array Oper} : ∀ {i : Nat} {xs : List Oper} {ys : List IOper}, okOpers P nt ops i xs ys = true →
    xs.length = ys.length ∧ ∀ p ∈ indexed i ys, ∃ x, i ≤ p.1 ∧ xs[p.1 - i]? = some x ∧ okOper P nt ops p.1 x p.2 = true
  | _, [], [], _ => ⟨rfl, fun p hp => by simp [indexed] at hp⟩
  | _, [], _ :: _, h => by simp [okOpers] at h
  | _, _ :: _, [], h => by simp [okOpers] at h
  | i, x :: xs, y :: ys, h => by
    simp only [okOpers, Bool.and_eq_true] at h
    obtain ⟨h1, h2⟩ := okOpers_spec h.2
    refine ⟨by simp [h1], fun p hp => ?_⟩
    simp only [indexed, List.mem_cons] at hp
    rcases hp with rfl | hp
    · exact ⟨x, Nat.le_refl _, by simp, h.1⟩
    · obtain ⟨z, h3, h4, h5⟩ := h2 p hp
      refine ⟨z, by omega, ?_, h5⟩
      rw [show p.1 - i = (p.1 - (i + 1)) + 1 from by omega, List.getElem?_cons_succ]
      exact h4

theorem indexed_keys : ∀ (i : Nat) (ys : List IOper), (indexed i ys).map (·.1) = List.range' i ys.length
  | _, [] => rfl
  | i, y :: ys => by simp only [indexed, List.map_cons, List.length_cons, List.range'_succ, indexed_keys (i + 1) ys]

section
variable {P : Program} {Q : Exit → Act → World → Prop} {M0 M : Mem} {h0 : Nm → Option LObj} {m nt : Nat} {bound : Nat → Prop} {a : Act} {σ σ' : St} {ops : Array Oper} {ef : EF} {base i : Nat} {y : IOper} {x : Oper} {f : Foot}

theorem put_env {w : World} {I : Nat → Prop} {β : Beta} {env : Nat → Ent} {v : Value} {e : Ent} {d : Option Nat} (he : EnvRep w I β a env) (hd : ∀ t, d = some t → t < a.tmps.size) (hv : RepE w I β v e) : EnvRep w I β (a.put d v) (putDst env d e) := by
  cases d with
  | none => exact he
  | some t =>
    have ht := hd t rfl
    intro k
    simp only [Act.put, putDst]
    by_cases hk : k = t
    · subst hk
      rw [upd_same]
      have : (a.tmps.setIfInBounds k v).getD k Go.undef = v := by simp [ht]
      rw [this]; exact hv
    · rw [upd_other _ _ _ hk]
      have : (a.tmps.setIfInBounds t v).getD k Go.undef = a.tmps.getD k Go.undef := by
        simp [Array.getElem?_setIfInBounds_ne (Ne.symm hk)]
      rw [this]; exact he k

theorem put_size {d : Option Nat} {v : Value} : (a.put d v).tmps.size = a.tmps.size := by
  cases d <;> simp [Act.put]
theorem put_defers {d : Option Nat} {v : Value} : (a.put d v).defers = a.defers := by
  cases d <;> rfl

theorem step_sound (good : GoodEF P ef) (s : Sim M0 h0 m nt bound a σ M) (hx : ops[i]? = some x) (hok : okOper P nt ops i x y = true) (hb : ¬ bound (base + i)) (h00 : base + i ≠ 0)
    (hs : stepG ef (base + i) y σ = some (σ', f)) (K : Act → World → Prop)
    (hk : ∀ a' M', Sim M0 h0 m nt (fun k => bound k ∨ k = base + i) a' σ' M' → K a' M'.w) : wpOp P ops Q i K a M.w := by
  simp only [okOper, Bool.and_eq_true, beq_iff_eq] at hok
  obtain ⟨⟨⟨⟨⟨hd, hdn⟩, hop⟩, hg⟩, _⟩, _⟩ := hok
  have hdlt : ∀ t, x.dst = some t → t < a.tmps.size := fun t ht => by
    rw [← hd, ht] at hdn
    exact Nat.lt_of_lt_of_le (by simpa using hdn) s.size
  have hfree : ∀ k, M.β (base + i, k) = none := fun k => by
    cases hq : M.β (base + i, k) with
    | none => rfl
    | some z => exact absurd (s.slots _ _ hq) hb
  have hlook : stepU ef (base + i) y σ = some (σ', f) → x.wp P a M.w K Q := by
    intro hu
    unfold stepU at hu
    split at hu
    · rename_i e wr hev
      simp only [Option.some.injEq, Prod.mk.injEq] at hu
      obtain ⟨rfl, _⟩ := hu
      refine op_sound good s.rel s.env hfree hop hev K Q fun v w' I' β' O' st re => ?_
      have := hk (a.put x.dst v) ⟨w', I', β', O'⟩ ⟨Nat.le_trans s.size (Nat.le_of_eq put_size.symm), put_defers.trans s.defers, ?_, st.rel, s.since.step st h00, fun n z hz => ?_⟩
      · exact this
      · simp only
        rw [← hd]
        exact put_env (fun t => (s.env t).moves (st.moves s.rel)) hdlt re
      · rcases st.fresh n z hz with h1 | h1
        · exact .inl (s.slots n z h1)
        · exact .inr h1
    · cases hu
  have hskip : some (stepSkip y σ) = some (σ', f) → K (a.put x.dst Go.undef) M.w := by
    intro hu
    simp only [stepSkip, Option.some.injEq, Prod.mk.injEq] at hu
    obtain ⟨rfl, _⟩ := hu
    refine hk _ M ⟨Nat.le_trans s.size (Nat.le_of_eq put_size.symm), put_defers.trans s.defers, ?_, s.rel, s.since, fun n z hz => .inl (s.slots n z hz)⟩
    simp only
    rw [← hd]
    exact put_env s.env hdlt (.tup rfl fun i v c hv => by simp at hv)
  unfold wpOp
  simp only [hx]
  rw [stepG_plain] at hs
  unfold plainG at hs
  cases hyg : y.guard with
  | none =>
    simp only [hyg] at hs hg
    have hxg : x.guard = none := by
      cases hxg : x.guard with
      | none => rfl
      | some p => simp [hxg] at hg
    simp only [Region.wanted, hxg, if_true]
    exact .inl (hlook hs)
  | some gw =>
    obtain ⟨g, want⟩ := gw
    simp only [hyg] at hs hg
    cases hxg : x.guard with
    | none => simp [hxg] at hg
    | some p =>
      obtain ⟨j, b⟩ := p
      simp only [hxg, Bool.and_eq_true, beq_iff_eq, decide_eq_true_eq] at hg
      obtain ⟨⟨rfl, hj⟩, hgl⟩ := hg
      cases hbv : (σ.env g).bool? with
      | none =>
        simp only [hbv] at hs
        split at hs
        · rename_i hun
          have hun : σ.env g = .tup [] := by
            generalize σ.env g = e at hun
            unfold Ent.isUnd at hun
            split at hun
            · rfl
            · cases hun
          have hyl : yielded ops a.tmps j = none := by
            have h1 := s.env g
            rw [hun] at h1
            have h2 : a.tmps.getD g Go.undef = .tuple #[] := by
              generalize a.tmps.getD g Go.undef = u at h1
              cases h1 with
              | tup h => rename_i vs _; simp at h; subst h; rfl
            have h3 : a.tmps[g]? = some (.tuple #[]) := by
              have hlt : g < a.tmps.size := Nat.lt_of_lt_of_le hgl s.size
              rw [Array.getElem?_eq_getElem hlt]
              simpa [hlt] using h2
            unfold yielded
            rw [hj]
            simp [h3]
          simp only [Region.wanted, hxg, hyl]
          exact hskip hs
        · cases hs
      | some z =>
        simp only [hbv] at hs
        have hyl : yielded ops a.tmps j = some z := by
          have h1 := s.env g
          rw [bool_eq hbv] at h1
          have h2 : a.tmps.getD g Go.undef = .bool z := by
            generalize a.tmps.getD g Go.undef = u at h1
            cases h1 with
            | val h => exact repA_bool h rfl
          have h3 : a.tmps[g]? = some (.bool z) := by
            have hlt : g < a.tmps.size := Nat.lt_of_lt_of_le hgl s.size
            rw [Array.getElem?_eq_getElem hlt]
            simpa [hlt] using h2
          unfold yielded
          rw [hj]
          simp [h3]
        simp only [Region.wanted, hxg, hyl]
        by_cases hz : z = b
        · subst hz
          simp only [if_true] at hs
          simp only [beq_self_eq_true, if_true]
          exact .inl (hlook hs)
        · simp only [hz, if_false] at hs
          have : (some z == some b) = false := by simpa using hz
          simp only [this, Bool.false_eq_true, if_false]
          exact hskip hs

/-- which slots are in use within a region -/
def Used (base n : Nat) (l : List Nat) (s : Nat) : Prop := s < base ∨ ∃ j, s = base + j ∧ j < n ∧ j ∉ l

theorem Used.not {n : Nat} {l : List Nat} {i : Nat} (hi : i ∈ l) : ¬ Used base n l (base + i) := by
  rintro (h | ⟨j, h1, _, h2⟩)
  · omega
  · have : j = i := by omega
    subst this; exact h2 hi

theorem Sim.weaken {b1 b2 : Nat → Prop} (s : Sim M0 h0 m nt b1 a σ M) (hb : ∀ k, b1 k → b2 k) : Sim M0 h0 m nt b2 a σ M :=
  ⟨s.size, s.defers, s.env, s.rel, s.since, fun n x hx => hb _ (s.slots n x hx)⟩

def Good (P : Program) (nt : Nat) (ops : Array Oper) (l : List (Nat × IOper)) : Prop := ∀ p ∈ l, ∃ x, ops[p.1]? = some x ∧ okOper P nt ops p.1 x p.2 = true

theorem runOps_sound (good : GoodEF P ef) (hbase : 1 ≤ base) {n : Nat} : ∀ {l : List (Nat × IOper)} {a : Act} {σ σ' : St} {M : Mem}, Good P nt ops l → (l.map (·.1)).Nodup → (∀ p ∈ l, p.1 < n) → Sim M0 h0 m nt (Used base n (l.map (·.1))) a σ M → runOps ef base l σ = some σ' →
    (∀ a' M', Sim M0 h0 m nt (fun k => k < base + n) a' σ' M' → Q .normal a' M'.w) → wpOps P ops Q (l.map (·.1)) a M.w
  | [], a, σ, σ', M, _, _, _, s, hr, hq => by
    simp only [runOps, Option.some.injEq] at hr
    subst hr
    simp only [List.map_nil, wpOps]
    exact hq a M (s.weaken fun k hk => by
      rcases hk with h | ⟨j, h1, h2, _⟩ <;> omega)
  | (i, y) :: l, a, σ, σ', M, hg, hnd, hn, s, hr, hq => by
    simp only [runOps] at hr
    cases hs : stepG ef (base + i) y σ with
    | none => simp [hs] at hr
    | some p =>
      obtain ⟨σ1, f⟩ := p
      simp only [hs] at hr
      obtain ⟨x, hx, hok⟩ := hg (i, y) (by simp)
      simp only [List.map_cons, List.nodup_cons] at hnd
      simp only [List.map_cons]
      rw [wpOps_cons]
      refine step_sound good s hx hok (Used.not (by simp)) (by omega) hs _ fun a' M' s' => ?_
      refine runOps_sound good hbase (fun p hp => hg p (by simp [hp])) hnd.2 (fun p hp => hn p (by simp [hp])) (s'.weaken fun k hk => ?_) hr hq
      rcases hk with (h | ⟨j, h1, h2, h3⟩) | h
      · exact .inl h
      · exact .inr ⟨j, h1, h2, fun hm => h3 (by simp only [List.map_cons, List.mem_cons]; exact .inr hm)⟩
      · exact .inr ⟨i, h, hn (i, y) (by simp), hnd.1⟩

theorem runDraw_sound (good : GoodEF P ef) (hbase : 1 ≤ base) {σ' : St} (hq : ∀ a' M', Sim M0 h0 m nt (fun k => k < base + ops.size) a' σ' M' → Q .normal a' M'.w) :
    ∀ (fuel : Nat) (listed : Array Bool) (fs : List (Nat × IOper × Foot)) (a : Act) (σ : St) (M : Mem), Good P nt ops (fs.map fun x => (x.1, x.2.1)) → (fs.map (·.1)).Pairwise (· < ·) → fs.length = fuel →
      (∀ j, j < ops.size → listed.getD j true = true ∨ j ∈ fs.map (·.1)) → (∀ j, j ∈ fs.map (·.1) → j < ops.size ∧ listed.getD j true = false) → listed.size = ops.size →
      Sim M0 h0 m nt (Used base ops.size (fs.map (·.1))) a σ M → runF ef base (fs.map fun x => (x.1, x.2.1)) σ = some (σ', fs) → orderB fs = true →
      wpAny P .any ops Q fuel listed a M.w := by
  have toF : ∀ {listed : Array Bool} {j : Nat}, listed.size = ops.size → j < ops.size → listed.getD j true = true → listed.getD j false = true := fun h1 h2 h3 => by
    simp [h1, h2] at h3 ⊢; exact h3
  have toT : ∀ {listed : Array Bool} {j : Nat}, listed.getD j false = true → listed.getD j true = true := fun {listed j} h3 => by
    by_cases hl : j < listed.size
    · simp [hl] at h3 ⊢; exact h3
    · simp [hl] at h3
  intro fuel
  induction fuel with
  | zero =>
    intro listed fs a σ M hg hp hl hall hin hsz s hr ho
    have : fs = [] := List.length_eq_zero_iff.1 hl
    subst this
    simp only [List.map_nil, runF, Option.some.injEq, Prod.mk.injEq, and_true] at hr
    subst hr
    refine ⟨?_, hq a M (s.weaken fun k hk => by rcases hk with h | ⟨j, h1, h2, _⟩ <;> omega)⟩
    cases hrd : Region.ready .any ops listed with
    | nil => rfl
    | cons j js =>
      have hj : j ∈ Region.ready .any ops listed := by rw [hrd]; simp
      obtain ⟨h1, o, h2, _⟩ := mem_ready.1 hj
      rcases hall j (Array.getElem?_eq_some_iff.1 h2).1 with h3 | h3
      · rw [h1] at h3; cases h3
      · simp at h3
  | succ fuel ih =>
    intro listed fs a σ M hg hp hl hall hin hsz s hr ho
    refine ⟨fun hnil => ?_, fun i hi => ?_⟩
    · exfalso
      cases fs with
      | nil => simp at hl
      | cons p fs =>
        obtain ⟨i, y, f⟩ := p
        obtain ⟨x, hx, hok⟩ := hg (i, y) (by simp)
        have hmem : i ∈ Region.ready .any ops listed := by
          refine mem_ready.2 ⟨(hin i (by simp)).2, x, hx, fun e he hb => ?_⟩
          simp only [okOper, Bool.and_eq_true, List.all_eq_true, Bool.or_eq_true, Bool.not_eq_true', decide_eq_true_eq] at hok
          have hlt : e.on < i := by
            rcases hok.2 e (by simpa using he) with h1 | h1
            · rw [hb] at h1; cases h1
            · exact h1
          have hin' := (hin i (by simp)).1
          rcases hall e.on (by omega) with h1 | h1
          · exact toF hsz (by omega) h1
          · simp only [List.map_cons, List.mem_cons] at h1
            rcases h1 with h1 | h1
            · omega
            · simp only [List.map_cons, List.pairwise_cons] at hp
              have := hp.1 _ h1; omega
        rw [hnil] at hmem
        cases hmem
    · obtain ⟨h1, x, hx, hafter⟩ := mem_ready.1 hi
      have hilt := (Array.getElem?_eq_some_iff.1 hx).1
      have him : i ∈ fs.map (·.1) := by
        rcases hall i hilt with h2 | h2
        · rw [h1] at h2; cases h2
        · exact h2
      obtain ⟨⟨i', y, f⟩, hpm, hpi⟩ := List.mem_map.1 him
      simp only at hpi; subst hpi
      obtain ⟨l1, l2, rfl⟩ := List.append_of_mem hpm
      obtain ⟨x', hx', hok⟩ := hg (i', y) (by simp)
      rw [hx] at hx'; cases hx'
      have hwait : ∀ z ∈ l1, z.1 ∉ y.after := by
        intro z hz hza
        have hok2 := hok
        simp only [okOper, Bool.and_eq_true, List.all_eq_true, List.any_eq_true, beq_iff_eq] at hok2
        obtain ⟨e, he, hb, hon⟩ := hok2.1.2 _ hza
        have h3 := hafter e (by simpa using he) hb
        have h4 := (hin z.1 (by simp only [List.map_append, List.mem_append, List.mem_map]; exact .inl ⟨z, hz, rfl⟩)).2
        rw [hon] at h3
        rw [toT h3] at h4; cases h4
      obtain ⟨σ1, hs1, hr1, ho1⟩ := runF_front hr ho hwait
      have hnd : ((l1 ++ (i', y, f) :: l2).map (·.1)).Nodup := hp.imp (fun h => Nat.ne_of_lt h)
      have hni : i' ∉ (l1 ++ l2).map (·.1) := by
        simp only [List.map_append, List.map_cons, List.nodup_append, List.nodup_cons, List.mem_cons, List.mem_append, not_or] at hnd ⊢
        exact ⟨fun hm => hnd.2.2 _ hm _ (.inl rfl) rfl, hnd.2.1.1⟩
      refine step_sound good s hx hok (Used.not (by simp)) (by omega) hs1 _ fun a' M' s' => ?_
      refine ih _ (l1 ++ l2) a' σ1 M' (fun p hp' => hg p ?_) ?_ ?_ (fun j hj => ?_) (fun j hj => ?_) (by simpa using hsz) (s'.weaken fun k hk => ?_) hr1 ho1
      · simp only [List.map_append, List.map_cons, List.mem_append, List.mem_cons] at hp' ⊢
        rcases hp' with h | h
        · exact .inl h
        · exact .inr (.inr h)
      · refine hp.sublist ?_
        simp only [List.map_append, List.map_cons]
        exact List.Sublist.append (List.Sublist.refl _) (List.sublist_cons_self _ _)
      · simp only [List.length_append, List.length_cons] at hl ⊢; omega
      · by_cases hji : i' = j
        · subst hji
          left
          simp [hsz, hilt]
        · rw [getD_set_ne true hji]
          rcases hall j hj with h2 | h2
          · exact .inl h2
          · right
            simp only [List.map_append, List.map_cons, List.mem_append, List.mem_cons] at h2 ⊢
            rcases h2 with h2 | h2 | h2
            · exact .inl h2
            · exact absurd h2.symm hji
            · exact .inr h2
      · have hji : i' ≠ j := fun he => hni (he ▸ hj)
        rw [getD_set_ne true hji]
        refine hin j ?_
        simp only [List.map_append, List.map_cons, List.mem_append, List.mem_cons] at hj ⊢
        rcases hj with h | h
        · exact .inl h
        · exact .inr (.inr h)
      · rcases hk with (h | ⟨j, h1, h2, h3⟩) | h
        · exact .inl h
        · refine .inr ⟨j, h1, h2, fun hm => h3 ?_⟩
          simp only [List.map_append, List.map_cons, List.mem_append, List.mem_cons] at hm ⊢
          rcases hm with h | h
          · exact .inl h
          · exact .inr (.inr h)
        · exact .inr ⟨i', h, hilt, hni⟩

end
end Go.Pur
