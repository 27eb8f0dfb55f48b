/- Code: what the evaluator says of it is what the model does. -/
import Derived.Test.YtjgegedgmkdoiaaFs
namespace Go.Pur
open Go
set_option linter.unusedSimpArgs false

def okC (P : Program) (nt : Nat) : Code → IC → Bool
  | c, .nrm _ b => okC P nt c b
  | _, .bad => true
  | .skip, .skip => true
  | .label _, .skip => true
  | .region _ ops d, .reg d' iops => d == d' && (!d || P.follows .mixedOrders) && okOpers P nt ops 0 ops.toList iops
  | .region _ ops d, .regq flags iops => d && P.follows .mixedOrders && ordS flags (indexed 0 iops) && okOpers P nt ops 0 ops.toList iops
  | .seq a b, .seq a' b' => okC P nt a a' && okC P nt b b'
  | .cond c a b, .cond c' a' b' => okOpd c c' && okC P nt a a' && okC P nt b b'
  | .block id a, .blk id' a' => id == id' && okC P nt a a'
  | .loop a, .loop _ a' => okC P nt a a'
  | .exit id, .exit id' => id == id'
  | .ret, .ret => true
  | .ret, .retn _ => true
  | _, _ => false

def Ex.out : Ex → Exit
  | .normal => .normal
  | .exit id => .exit id
  | .ret => .ret

section
variable {P : Program} {Q : Exit → Act → World → Prop} {M0 M : Mem} {h0 : Nm → Option LObj} {m nt : Nat} {bound : Nat → Prop} {a : Act} {σ σ' : St} {ops : Array Oper} {ef : EF} {base i : Nat}

theorem stepG_next {slot : Nat} {y : IOper} {f : Foot} (hs : stepG ef slot y σ = some (σ', f)) : σ'.next = σ.next := by
  rw [step_eff] at hs
  obtain ⟨e, _, he⟩ := Option.map_eq_some_iff.1 hs
  simp only [Prod.mk.injEq] at he
  rw [← he.1]

theorem runOps_next : ∀ {l : List (Nat × IOper)} {σ σ' : St}, runOps ef base l σ = some σ' → σ'.next = σ.next
  | [], σ, σ', hr => by simp only [runOps, Option.some.injEq] at hr; rw [hr]
  | (i, y) :: l, σ, σ', hr => by
    simp only [runOps] at hr
    cases hs : stepG ef (base + i) y σ with
    | none => simp [hs] at hr
    | some p =>
      obtain ⟨σ1, f⟩ := p
      simp only [hs] at hr
      rw [runOps_next hr, stepG_next hs]

theorem runF_next : ∀ {l : List (Nat × IOper)} {σ σ' : St} {fs : List (Nat × IOper × Foot)}, runF ef base l σ = some (σ', fs) → σ'.next = σ.next
  | [], σ, σ', fs, hr => by simp only [runF, Option.some.injEq, Prod.mk.injEq] at hr; rw [hr.1]
  | (i, y) :: l, σ, σ', fs, hr => by
    simp only [runF] at hr
    cases hs : stepG ef (base + i) y σ with
    | none => simp [hs] at hr
    | some p =>
      obtain ⟨σ1, f⟩ := p
      simp only [hs] at hr
      obtain ⟨⟨σ2, fs'⟩, h1, h2⟩ := Option.map_eq_some_iff.1 hr
      simp only [Prod.mk.injEq] at h2
      rw [← h2.1, runF_next h1, stepG_next hs]

def SimC (M0 : Mem) (h0 : Nm → Option LObj) (m nt : Nat) (a : Act) (σ : St) (M : Mem) : Prop := Sim M0 h0 m nt (fun k => k < σ.next) a σ M ∧ 1 ≤ σ.next

theorem Moves.drew (w : World) (I : Nat → Prop) (β : Beta) : Moves w { w with drawn := w.drawn + 1 } I I β β := ⟨fun _ _ => rfl, fun _ h => h, fun _ _ h => h, fun _ arr _ _ h => ⟨arr, h, rfl⟩⟩

theorem Sim.drew (s : Sim M0 h0 m nt bound a σ M) : Sim M0 h0 m nt bound a σ ⟨{ M.w with drawn := M.w.drawn + 1 }, M.I, M.β, M.O⟩ :=
  ⟨s.size, s.defers, fun t => (s.env t).moves (.drew _ _ _), ⟨fun n ob hn => (s.rel.obj n ob hn).moves (.drew _ _ _) (fun _ _ => rfl) (fun _ h => h), s.rel.dis, s.rel.imm, s.rel.lt, s.rel.ilt⟩,
    ⟨s.since.evo.trans (.drew (Owned M.O σ.heap) _) fun x hx ho => by
      rcases s.since.newO x ho with h1 | h1
      · omega
      · exact h1, s.since.keepI, s.since.newI, s.since.newO, s.since.names⟩, s.slots⟩

theorem region_sound (good : GoodEF P ef) {id : Nat} {draw : Bool} {iops : List IOper} (hok : okOpers P nt ops 0 ops.toList iops = true) (hd : draw = true → P.follows .mixedOrders = true)
    (s : SimC M0 h0 m nt a σ M) (hr : runReg ef draw iops σ = some σ') (hq : ∀ a' M', SimC M0 h0 m nt a' σ' M' → Q .normal a' M'.w) : (Code.region id ops draw).wp P Q a M.w := by
  obtain ⟨hlen, hspec⟩ := okOpers_spec hok
  have hsize : ops.size = iops.length := by rw [← hlen]; simp
  have hkeys : (indexed 0 iops).map (·.1) = List.range ops.size := by rw [indexed_keys, hsize, List.range_eq_range']
  have hgood : Good P nt ops (indexed 0 iops) := fun p hp => by
    obtain ⟨x, _, h1, h2⟩ := hspec p hp
    exact ⟨x, by simpa using h1, h2⟩
  have start : ∀ {M : Mem}, Sim M0 h0 m nt (fun k => k < σ.next) a σ M → Sim M0 h0 m nt (Used σ.next ops.size ((indexed 0 iops).map (·.1))) a { σ with next := σ.next + iops.length } M :=
    fun s => ⟨s.size, s.defers, s.env, s.rel, s.since, fun n x hx => .inl (s.slots n x hx)⟩
  unfold runReg at hr
  simp only at hr
  cases draw with
  | false =>
    simp only [Bool.false_eq_true, if_false] at hr
    refine wp_region ?_
    rw [← hkeys]
    refine runOps_sound good s.2 (n := ops.size) hgood (by rw [hkeys]; exact List.nodup_range) (fun p hp => ?_) (start s.1) hr fun a' M' s' => hq a' M' ⟨s'.weaken fun k hk => ?_, ?_⟩
    · have : p.1 ∈ (indexed 0 iops).map (·.1) := List.mem_map.2 ⟨p, hp, rfl⟩
      rw [hkeys] at this
      simpa using this
    · rw [runOps_next hr, ← hsize]; exact hk
    · rw [runOps_next hr]; simp only; have := s.2; omega
  | true =>
    simp only [if_true] at hr
    obtain ⟨fs, hf, ho⟩ := runDraw_runF hr
    simp only [List.nil_append] at ho
    have hk := runF_keys hf
    have hk1 : fs.map (·.1) = List.range ops.size := by rw [← hkeys, ← hk, List.map_map]; rfl
    refine wp_region_any (hd rfl) ?_
    refine runDraw_sound (M := ⟨{ M.w with drawn := M.w.drawn + 1 }, M.I, M.β, M.O⟩) good s.2 (σ' := σ') (fun a' M' s' => hq a' M' ⟨s'.weaken fun k hk => ?_, ?_⟩) ops.size _ fs a _ (by rw [hk]; exact hgood) ?_ ?_ (fun j hj => ?_) (fun j hj => ?_) (by simp) ?_ (by rw [hk]; exact hf) ho
    · rw [runF_next hf, ← hsize]; exact hk
    · rw [runF_next hf]; simp only; have := s.2; omega
    · rw [hk1, List.range_eq_range']
      exact List.pairwise_lt_range'
    · have := congrArg List.length hk1
      simpa using this
    · right; rw [hk1]; simpa using hj
    · rw [hk1] at hj
      have : j < ops.size := by simpa using hj
      exact ⟨this, by simp [this]⟩
    · rw [hk1, ← hkeys]
      exact start s.1.drew

/-! ### names anew -/

theorem collect_roots {h : Nm → Option LObj} : ∀ (k : Nat) (q r ns : List Nm) (os : List LObj) (ns' : List Nm) (os' : List LObj), (ns ++ q).Nodup → (collect k (q ++ r) ns os).val h = some (ns', os') → ns ++ q <+: ns'
  | 0, _, _, _, _, _, _, _, hv => by simp [collect, HM.val] at hv
  | k + 1, [], r, ns, os, ns', os', _, hv => by
    rw [List.append_nil]
    rw [List.nil_append] at hv
    cases r with
    | nil =>
      simp only [collect, HM.val, Option.some.injEq, Prod.mk.injEq] at hv
      rw [hv.1]; exact List.prefix_refl _
    | cons n r =>
      have key : ∀ (j : Nat) (q ns : List Nm) (os : List LObj), (collect j q ns os).val h = some (ns', os') → ns <+: ns' := by
        intro j
        induction j with
        | zero => intro q ns os hv; simp [collect, HM.val] at hv
        | succ j ih =>
          intro q ns os hv
          cases q with
          | nil =>
            simp only [collect, HM.val, Option.some.injEq, Prod.mk.injEq] at hv
            rw [hv.1]; exact List.prefix_refl _
          | cons n q =>
            simp only [collect] at hv
            split at hv
            · exact ih _ _ _ hv
            · simp only [HM.val] at hv
              split at hv
              · exact (List.prefix_append _ _).trans (ih _ _ _ hv)
              · exact (List.prefix_append _ _).trans (ih _ _ _ hv)
      exact key _ _ _ _ hv
  | k + 1, n :: q, r, ns, os, ns', os', hnd, hv => by
    simp only [List.cons_append, collect] at hv
    have hni : n ∉ ns := by
      simp only [List.nodup_append, List.mem_cons] at hnd
      exact fun hm => hnd.2.2 n hm n (.inl rfl) rfl
    rw [if_neg (by simpa using hni)] at hv
    simp only [HM.val] at hv
    have hnd' : (ns ++ [n] ++ q).Nodup := by simpa using hnd
    rw [show ns ++ n :: q = ns ++ [n] ++ q from by simp]
    split at hv
    · rw [List.append_assoc] at hv
      exact collect_roots k q _ _ _ _ _ hnd' hv
    · exact collect_roots k q _ _ _ _ _ hnd' hv

theorem heapOf_eq (ρ : Nm → Option Nm) : ∀ (os : List LObj) (i : Nat), heapOf ρ i os = entryHeap i (os.map (LObj.ren ρ))
  | [], i => rfl
  | o :: os, i => by
    have ih := heapOf_eq ρ os (i + 1)
    cases o <;> simp only [heapOf, List.map_cons, LObj.ren, entryHeap, ih]

theorem roots_get {m : Nat} {ns : List Nm} (hp : (List.range m).map (fun i => ((0, i) : Nm)) <+: ns) {i : Nat} (hi : i < m) : ns[i]? = some (0, i) := by
  obtain ⟨t, rfl⟩ := hp
  rw [List.getElem?_append_left (by simpa using hi)]
  simp [hi]

theorem roots_nodup (m : Nat) : ((List.range m).map (fun i => ((0, i) : Nm))).Nodup := by
  refine List.Pairwise.map _ (fun x y hxy he => hxy ?_) (List.nodup_range (n := m))
  simpa using he

theorem owned_entry {h : Nm → Option LObj} {O : Nm → Nat → Prop} {ns : List Nm} {os : List LObj} (c : Coll h ns os) {b : Nat} (hb : Owned (calleeO ns O) (entryHeap 0 (os.map (LObj.ren (placeOf ns)))) b) : Owned O h b := by
  obtain ⟨n, hn, hb⟩ := hb
  rw [entryHeap_eq] at hn
  split at hn
  · rename_i h0
    rw [Nat.sub_zero, List.getElem?_map] at hn
    cases hq : os[n.2]? with
    | none => simp [hq] at hn
    | some ob =>
      have hlt : n.2 < ns.length := by rw [← c.len]; exact (List.getElem?_eq_some_iff.1 hq).1
      have hm : ns[n.2]? = some ns[n.2] := List.getElem?_eq_getElem hlt
      have hob := c.obj _ _ _ hm hq
      simp only [calleeO, h0.1, if_true, hm] at hb
      refine ⟨_, fun hnone => ?_, hb⟩
      rw [hnone] at hob
      simp at hob
      subst hob
      simp [hq, LObj.ren] at hn
  · exact absurd rfl hn

theorem norm_sound {live : List Nat} {σ0 : St} (s : SimC M0 h0 m nt a σ M) (hn : norm m live σ = some σ0) : ∃ M', M'.w = M.w ∧ SimC M0 h0 m nt a σ0 M' := by
  unfold norm at hn
  split at hn
  · cases hn
  · rename_i ns os hcol
    simp only [Option.some.injEq] at hn
    subst hn
    obtain ⟨coll, _⟩ := collect_spec _ _ _ _ _ _ (coll_nil (h := σ.heap)) hcol
    have hroot := collect_roots _ _ _ [] _ _ _ (by simpa using roots_nodup m) hcol
    refine ⟨⟨M.w, M.I, calleeB ns M.β, calleeO ns M.O⟩, rfl, ⟨s.1.size, s.1.defers, fun t => ?_, ?_, ⟨s.1.since.evo, s.1.since.keepI, s.1.since.newI, fun b hb => ?_, fun i hi => ?_⟩, fun n x hx => ?_⟩, Nat.le_refl _⟩
    · have key : ∀ l : List Nat, RepE M.w M.I (calleeB ns M.β) (a.tmps.getD t Go.undef) (envOf (placeOf ns) σ.env l t) := by
        intro l
        induction l with
        | nil => exact .nil
        | cons k l ih =>
          simp only [envOf, upd]
          split
          · rename_i hk
            subst hk
            exact (s.1.env t).ren (over_place ns M.β)
          · exact ih
      exact key live
    · simp only [heapOf_eq]
      exact entry_rel s.1.rel coll
    · simp only [heapOf_eq] at hb
      exact s.1.since.newO b (owned_entry coll hb)
    · rw [← s.1.since.names i hi]
      simp [calleeB, roots_get hroot hi]
    · simp only [calleeB] at hx
      split at hx
      · rename_i h1; simp only; omega
      · cases hx

/-! ### loops -/

def LoopAt (P : Program) (c : Code) (Q : Exit → Act → World → Prop) (a : Act) (w : World) : Prop :=
  ∀ (b : Frame) (k : List Item) (cs : List Frame), ∃ e a' w', Q e a' w' ∧ Arrives P (lone (b.at a (.code c :: .inLoop c :: k)) cs w) b k cs e a' w'

theorem LoopAt.loop {c : Code} {w : World} (hl : LoopAt P c Q a w) : (Code.loop c).wp P Q a w := fun b k cs =>
  let ⟨e, a', w', hq, harr⟩ := hl b k cs
  ⟨e, a', w', hq, .of_steps (.one step_loop) harr⟩

theorem LoopAt.round {c : Code} {w : World} (hr : c.wp P (Exit.then (LoopAt P c Q) Q) a w) : LoopAt P c Q a w := by
  intro b k cs
  obtain ⟨e, a₁, w₁, hq, harr⟩ := hr b (.inLoop c :: k) cs
  cases e with
  | normal =>
    obtain ⟨e₂, a₂, w₂, hq₂, harr₂⟩ := hq b k cs
    exact ⟨e₂, a₂, w₂, hq₂, .of_steps (Steps.trans harr (.one step_inLoop)) harr₂⟩
  | exit id => exact ⟨_, a₁, w₁, hq, .pass (x := .inLoop c) rfl (fun _ _ => .inl (by simp)) harr⟩
  | goto l => exact ⟨_, a₁, w₁, hq, .pass (x := .inLoop c) rfl (fun _ _ => .inl (by simp)) harr⟩
  | ret => exact ⟨_, a₁, w₁, hq, .pass (x := .inLoop c) rfl (fun _ _ => .inl (by simp)) harr⟩
  | panic ch => exact ⟨_, a₁, w₁, hq, .pass (x := .inLoop c) rfl (fun _ _ => .inl (by simp)) harr⟩
  | outgrown => exact ⟨_, a₁, w₁, hq, .pass (x := .inLoop c) rfl (fun _ _ => .inl (by simp)) harr⟩

def LoopS (P : Program) (ef : EF) (M0 : Mem) (h0 : Nm → Option LObj) (m nt k : Nat) : Prop :=
  ∀ (live : List Nat) (ic : IC) (c : Code) (a : Act) (σ σ' : St) (M : Mem) (ex : Ex) (Q : Exit → Act → World → Prop), okC P nt c ic = true → SimC M0 h0 m nt a σ M → evL ef m k live ic σ = some (ex, σ') →
    (∀ a' M', SimC M0 h0 m nt a' σ' M' → Q ex.out a' M'.w) → LoopAt P c Q a M.w

theorem code_sound (good : GoodEF P ef) {k : Nat} (hl : LoopS P ef M0 h0 m nt k) : ∀ (ic : IC) (c : Code) (a : Act) (σ σ' : St) (M : Mem) (ex : Ex) (Q : Exit → Act → World → Prop), okC P nt c ic = true → SimC M0 h0 m nt a σ M →
    evC ef m k ic σ = some (ex, σ') → (∀ a' M', SimC M0 h0 m nt a' σ' M' → Q ex.out a' M'.w) → c.wp P Q a M.w := by
  intro ic
  induction ic with
  | skip =>
    intro c a σ σ' M ex Q hok s hev hq
    simp only [evC, Option.some.injEq, Prod.mk.injEq] at hev
    obtain ⟨rfl, rfl⟩ := hev
    cases c <;> simp [okC] at hok
    · exact wp_skip (hq a M s)
    · exact wp_label (hq a M s)
  | reg draw iops =>
    intro c a σ σ' M ex Q hok s hev hq
    simp only [evC] at hev
    split at hev
    · rename_i σ1 hr
      simp only [Option.some.injEq, Prod.mk.injEq] at hev
      obtain ⟨rfl, rfl⟩ := hev
      cases c <;> simp [okC] at hok
      obtain ⟨⟨rfl, h2⟩, h3⟩ := hok
      refine region_sound good h3 (fun hd => ?_) s hr hq
      rcases h2 with h2 | h2
      · rw [hd] at h2; cases h2
      · exact h2
    · cases hev
  | seq x y ih1 ih2 =>
    intro c a σ σ' M ex Q hok s hev hq
    cases c <;> simp [okC] at hok
    rename_i c1 c2
    simp only [evC] at hev
    refine wp_seq ?_
    split at hev
    · rename_i σ1 h1
      refine ih1 c1 a σ σ1 M .normal _ hok.1 s h1 fun a1 M1 s1 => ?_
      exact ih2 c2 a1 σ1 σ' M1 ex Q hok.2 s1 hev hq
    · rename_i r hne
      refine ih1 c1 a σ σ' M ex _ hok.1 s hev fun a1 M1 s1 => ?_
      cases ex with
      | normal => exact absurd hev (hne σ')
      | exit => exact hq a1 M1 s1
      | ret => exact hq a1 M1 s1
  | cond o x y ih1 ih2 =>
    intro c a σ σ' M ex Q hok s hev hq
    cases c <;> simp [okC] at hok
    rename_i c0 c1 c2
    simp only [evC] at hev
    split at hev
    · rename_i b hb
      have hc := opd_bool s.1.env hok.1.1 hb
      refine wp_cond hc ?_
      cases b with
      | true =>
        simp only [if_true] at hev ⊢
        exact ih1 c1 a σ σ' M ex Q hok.1.2 s hev hq
      | false =>
        simp only [Bool.false_eq_true, if_false] at hev ⊢
        exact ih2 c2 a σ σ' M ex Q hok.2 s hev hq
    · cases hev
  | blk id x ih =>
    intro c a σ σ' M ex Q hok s hev hq
    cases c <;> simp [okC] at hok
    rename_i id' c1
    obtain ⟨rfl, hok⟩ := hok
    simp only [evC] at hev
    refine wp_block ?_
    split at hev
    · rename_i j σ1 h1
      refine ih c1 a σ σ1 M (.exit j) _ hok s h1 fun a1 M1 s1 => ?_
      simp only [Ex.out, Exit.inBlock]
      split at hev
      · rename_i hj
        simp only [Option.some.injEq, Prod.mk.injEq] at hev
        obtain ⟨rfl, rfl⟩ := hev
        rw [if_pos hj]
        exact hq a1 M1 s1
      · rename_i hj
        simp only [Option.some.injEq, Prod.mk.injEq] at hev
        obtain ⟨rfl, rfl⟩ := hev
        rw [if_neg hj]
        exact hq a1 M1 s1
    · rename_i r hne
      refine ih c1 a σ σ' M ex _ hok s hev fun a1 M1 s1 => ?_
      cases ex with
      | normal => exact hq a1 M1 s1
      | exit j => exact absurd hev (hne j σ')
      | ret => exact hq a1 M1 s1
  | loop live x ih =>
    intro c a σ σ' M ex Q hok s hev hq
    cases c <;> simp [okC] at hok
    simp only [evC] at hev
    exact (hl live x _ a σ σ' M ex Q hok s hev hq).loop
  | retn live =>
    intro c a σ σ' M ex Q hok s hev hq
    simp only [evC] at hev
    split at hev
    · rename_i σ2 h2
      simp only [Option.some.injEq, Prod.mk.injEq] at hev
      obtain ⟨rfl, rfl⟩ := hev
      cases c <;> simp [okC] at hok
      obtain ⟨M2, hw, s2⟩ := norm_sound s h2
      rw [← hw]
      exact wp_ret (hq a M2 s2)
    · cases hev
  | regq flags iops =>
    intro c a σ σ' M ex Q hok s hev hq
    simp only [evC] at hev
    split at hev
    · rename_i σ1 hr
      simp only [Option.some.injEq, Prod.mk.injEq] at hev
      obtain ⟨rfl, rfl⟩ := hev
      cases c <;> simp [okC] at hok
      obtain ⟨⟨⟨rfl, h2⟩, h3⟩, h4⟩ := hok
      exact region_sound good h4 (fun _ => h2) s (runRegQ_reg h3 hr) hq
    · cases hev
  | bad =>
    intro c a σ σ' M ex Q hok s hev hq
    simp [evC] at hev
  | nrm live x ih =>
    intro c a σ σ' M ex Q hok s hev hq
    simp only [okC] at hok
    simp only [evC] at hev
    split at hev
    · rename_i σ1 h1
      split at hev
      · rename_i σ2 h2
        simp only [Option.some.injEq, Prod.mk.injEq] at hev
        obtain ⟨rfl, rfl⟩ := hev
        refine ih c a σ σ1 M .normal _ hok s h1 fun a1 M1 s1 => ?_
        obtain ⟨M2, hw, s2⟩ := norm_sound s1 h2
        rw [← hw]
        exact hq a1 M2 s2
      · cases hev
    · rename_i r hne
      refine ih c a σ σ' M ex _ hok s hev fun a1 M1 s1 => ?_
      cases ex with
      | normal => exact absurd hev (hne σ')
      | exit => exact hq a1 M1 s1
      | ret => exact hq a1 M1 s1
  | exit id =>
    intro c a σ σ' M ex Q hok s hev hq
    simp only [evC, Option.some.injEq, Prod.mk.injEq] at hev
    obtain ⟨rfl, rfl⟩ := hev
    cases c <;> simp [okC] at hok
    subst hok
    exact wp_exit (hq a M s)
  | ret =>
    intro c a σ σ' M ex Q hok s hev hq
    simp only [evC, Option.some.injEq, Prod.mk.injEq] at hev
    obtain ⟨rfl, rfl⟩ := hev
    cases c <;> simp [okC] at hok
    exact wp_ret (hq a M s)

theorem loop_sound (good : GoodEF P ef) : ∀ k, LoopS P ef M0 h0 m nt k := by
  intro k
  induction k with
  | zero =>
    intro live ic c a σ σ' M ex Q hok s hev hq
    simp [evL] at hev
  | succ k ih =>
    intro live ic c a σ σ' M ex Q hok s hev hq
    simp only [evL] at hev
    split at hev
    · cases hev
    · rename_i σ0 hn
      obtain ⟨M1, hw, s1⟩ := norm_sound s hn
      rw [← hw]
      refine LoopAt.round ?_
      split at hev
      · rename_i σ1 h1
        exact code_sound good ih ic c a σ0 σ1 M1 .normal _ hok s1 h1 fun a2 M2 s2 => ih live ic c a2 σ1 σ' M2 ex Q hok s2 hev hq
      · rename_i r hne
        refine code_sound good ih ic c a σ0 σ' M1 ex _ hok s1 hev fun a2 M2 s2 => ?_
        cases ex with
        | normal => exact absurd hev (hne σ')
        | exit => exact hq a2 M2 s2
        | ret => exact hq a2 M2 s2

end
end Go.Pur
