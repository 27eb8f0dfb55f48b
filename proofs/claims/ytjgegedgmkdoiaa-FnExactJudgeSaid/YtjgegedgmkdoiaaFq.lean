/- Calls as operations; every operation. -/
import Derived.Test.YtjgegedgmkdoiaaFp
namespace Go.Pur
open Go
set_option linter.unusedSimpArgs false

section
variable {P : Program} {o : Oper} {a : Act} {w w1 w' : World} {slot : Nat} {I I' : Nat → Prop} {β β' : Beta} {O O' : Nm → Nat → Prop} {h h' : Nm → Option LObj} {e : Ent} {wr : Wr}

theorem opW_enter {f : FuncId} {vs : Array Value} (hr : (execOp a.eval o).run P w = .ok (.enter f vs) w)
    (hc : Calls P f vs w fun en w' => ∃ v I' β' O', en = .returned v ∧ StepTo slot w w' I I' β β' O O' h (putWr h wr) ∧ RepE w' I' β' v e) : OpW P o a w slot I β O h e wr := by
  intro K Q hk
  unfold Oper.wp
  rw [hr, Oper.upon_enter]
  refine hc.mono fun en w' hp => ?_
  obtain ⟨v, I', β', O', rfl, s, re⟩ := hp
  exact hk v w' I' β' O' s re

theorem run_enter {f : FuncId} {vs : Array Value} (hf : okFn P f = true) : (callFunc f vs).run P w = .ok (.enter f vs) w := by
  unfold okFn at hf
  split at hf
  · rename_i fn hfn
    simp only [Bool.and_eq_true, bne_iff_ne, ne_eq] at hf
    have hb : fn.body ≠ none := by
      intro hx; rw [hx] at hf; simp at hf
    unfold callFunc
    simp [hfn, hf.2]
    intro hx; exact absurd hx hb
  · cases hf

theorem args_sound {env : Nat → Ent} (he : EnvRep w I β a env) : ∀ {xs : List Operand} {as : List (Bool × Opd)} {ps : List (Bool × AV)}, okArgs xs as = true →
    as.mapM (fun p => (p.2.get env).map fun a => (p.1, a)) = some ps → xs.length = ps.length ∧ ∀ (i : Nat) v p, (xs.map a.eval)[i]? = some v → ps[i]? = some p → RepA w I β v p.2
  | [], [], ps, _, hm => by
    simp at hm; subst hm
    exact ⟨rfl, fun i v p hv => by simp at hv⟩
  | [], _ :: _, _, hok, _ => by simp [okArgs] at hok
  | _ :: _, [], _, hok, _ => by simp [okArgs] at hok
  | x :: xs, (m, y) :: as, ps, hok, hm => by
    simp only [okArgs, Bool.and_eq_true] at hok
    simp only [List.mapM_cons, Option.bind_eq_bind, Option.pure_def, Option.bind_eq_some_iff, Option.map_eq_some_iff, Option.some.injEq] at hm
    obtain ⟨p, ⟨av, hg, rfl⟩, ps', hm', rfl⟩ := hm
    obtain ⟨h1, h2⟩ := args_sound he hok.2 hm'
    refine ⟨by simp [h1], fun i v p hv hp => ?_⟩
    cases i with
    | zero =>
      simp at hv hp; subst hv hp
      exact opd_rep he hok.1 hg
    | succ i => simp at hv hp; exact h2 i v p (by simpa using hv) hp

theorem okOp_call {x : Op} {f : FuncId} {as : List (Bool × Opd)} (hok : okOp P x (.call f as) = true) : ∃ args ts, x = .call { callee := .value (.func f), args, argTypes := ts } ∧ okArgs args.toList as = true := by
  cases x <;> try (simp [okOp] at hok; done)
  rename_i c
  obtain ⟨callee, args, ts⟩ := c
  cases callee <;> try (simp [okOp] at hok; done)
  rename_i v
  cases v <;> try (simp [okOp] at hok; done)
  simp only [okOp, Bool.and_eq_true, beq_iff_eq] at hok
  obtain ⟨rfl, hok⟩ := hok
  exact ⟨_, _, rfl, hok⟩

theorem sound_call {ef : EF} (good : GoodEF P ef) {env : Nat → Ent} {f : FuncId} {as : List (Bool × Opd)} (r : HRel w I β O h) (he : EnvRep w I β a env) (hs : ∀ k, β (slot, k) = none)
    (hok : okOp P o.op (.call f as) = true) (hev : (evOp ef slot env (.call f as)).val h = some (e, wr)) : OpW P o a w slot I β O h e wr := by
  obtain ⟨args, ts, hx, hoa⟩ := okOp_call hok
  simp only [evOp] at hev
  split at hev
  · rename_i ps hps
    obtain ⟨h1, h2⟩ := args_sound he hoa hps
    obtain ⟨hf, hc⟩ := doCall_sound good r hs (vs := args.map a.eval) (by simpa using h1) (fun i v p hv hp => h2 i v p (by simpa using hv) hp) hev
    refine opW_enter ?_ hc
    unfold execOp
    rw [hx]
    simp [resolve, invoke, Act.eval, Deferred.ofValue, run_enter hf]
  · simp [HM.val] at hev

theorem okOp_callv {x : Op} {y : Opd} {as : List (Bool × Opd)} (hok : okOp P x (.callv y as) = true) : ∃ z args ts, x = .call { callee := .value z, args, argTypes := ts } ∧ okOpd z y = true ∧ okArgs args.toList as = true := by
  cases x <;> try (simp [okOp] at hok; done)
  rename_i c
  obtain ⟨callee, args, ts⟩ := c
  cases callee <;> try (simp [okOp] at hok; done)
  rename_i v
  cases v <;> simp [okOp] at hok
  exact ⟨_, _, _, rfl, hok.1, hok.2⟩

theorem clo_args {first caps : Array Value} {xs ys : List AV} {ps : List (Bool × AV)} {vs : List Value} (h1 : first.size = xs.length) (h2 : caps.size = ys.length) (h3 : vs.length = ps.length)
    (r1 : ∀ (i : Nat) v c, first[i]? = some v → xs[i]? = some c → RepA w I β v c) (r2 : ∀ (i : Nat) v c, caps[i]? = some v → ys[i]? = some c → RepA w I β v c)
    (r3 : ∀ (i : Nat) v p, vs[i]? = some v → ps[i]? = some p → RepA w I β v p.2) :
    (first ++ vs.toArray ++ caps).size = (xs.map (fun c => (true, c)) ++ ps ++ ys.map fun c => (true, c)).length ∧
    ∀ (i : Nat) v p, (first ++ vs.toArray ++ caps)[i]? = some v → (xs.map (fun c => (true, c)) ++ ps ++ ys.map fun c => (true, c))[i]? = some p → RepA w I β v p.2 := by
  refine ⟨by simp [h1, h2, h3], fun i v p hv hp => ?_⟩
  rw [List.append_assoc, List.getElem?_append] at hp
  rw [Array.append_assoc, Array.getElem?_append] at hv
  simp only [List.length_map, ← h1] at hp
  split at hp
  · rename_i hlt
    rw [if_pos hlt] at hv
    rw [List.getElem?_map] at hp
    obtain ⟨c, hc, rfl⟩ := Option.map_eq_some_iff.1 hp
    exact r1 i v c hv hc
  · rename_i hge
    rw [if_neg hge] at hv
    rw [List.getElem?_append] at hp
    rw [Array.getElem?_append] at hv
    simp only [← h3] at hp
    simp only [List.size_toArray] at hv
    split at hp
    · rename_i hlt
      rw [if_pos hlt] at hv
      exact r3 _ v p (by simpa using hv) hp
    · rename_i hge2
      rw [if_neg hge2] at hv
      rw [List.getElem?_map] at hp
      obtain ⟨c, hc, rfl⟩ := Option.map_eq_some_iff.1 hp
      exact r2 _ v c hv hc

theorem sound_callv {ef : EF} (good : GoodEF P ef) {env : Nat → Ent} {y : Opd} {as : List (Bool × Opd)} (r : HRel w I β O h) (he : EnvRep w I β a env) (hs : ∀ k, β (slot, k) = none)
    (hok : okOp P o.op (.callv y as) = true) (hev : (evOp ef slot env (.callv y as)).val h = some (e, wr)) : OpW P o a w slot I β O h e wr := by
  obtain ⟨z, args, ts, hx, hz, hoa⟩ := okOp_callv hok
  have key : ∀ {f : FuncId} {first caps : Array Value} {xs ys : List AV} {ps : List (Bool × AV)}, a.eval z = .func (.func f) first caps → first.size = xs.length → caps.size = ys.length →
      (∀ (i : Nat) v c, first[i]? = some v → xs[i]? = some c → RepA w I β v c) → (∀ (i : Nat) v c, caps[i]? = some v → ys[i]? = some c → RepA w I β v c) →
      as.mapM (fun p => (p.2.get env).map fun a => (p.1, a)) = some ps →
      (doCall ef slot f (xs.map (fun c => (true, c)) ++ ps ++ ys.map fun c => (true, c))).val h = some (e, wr) → OpW P o a w slot I β O h e wr := by
    intro f first caps xs ys ps hzv h1 h2 r1 r2 hps hev
    obtain ⟨h3, r3⟩ := args_sound he hoa hps
    obtain ⟨l, rr⟩ := clo_args h1 h2 (vs := args.toList.map a.eval) (by simpa using h3) r1 r2 r3
    obtain ⟨hf, hc⟩ := doCall_sound good r hs l rr hev
    refine opW_enter ?_ hc
    unfold execOp
    rw [hx]
    have hm : args.map a.eval = (args.toList.map a.eval).toArray := by apply Array.ext'; rw [Array.toList_map]
    simp [resolve, invoke, hzv, Deferred.ofValue, run_enter hf, hm]
  simp only [evOp] at hev
  split at hev
  · rename_i f first caps ps hg hps
    have hc := opd_cell he hz hg
    generalize hzv : a.eval z = u at hc
    cases hc with
    | clo h1 h2 r1 r2 =>
      refine key hzv (xs := first.map AV.one) (ys := caps.map AV.one) (by simpa using h1) (by simpa using h2) (fun i v c hv hc => ?_) (fun i v c hv hc => ?_) hps (by simpa [List.map_map, Function.comp_def] using hev)
      · rw [List.getElem?_map] at hc
        obtain ⟨c', hc', rfl⟩ := Option.map_eq_some_iff.1 hc
        exact .one (r1 i v c' hv hc')
      · rw [List.getElem?_map] at hc
        obtain ⟨c', hc', rfl⟩ := Option.map_eq_some_iff.1 hc
        exact .one (r2 i v c' hv hc')
  · rename_i f first caps ps hg hps
    have hc := opd_cell he hz hg
    generalize hzv : a.eval z = u at hc
    cases hc with
    | t ht => cases ht with
      | fn h1 h2 r1 r2 =>
        refine key hzv (xs := first.map fun c => AV.one (.t c)) (ys := caps.map fun c => AV.one (.t c)) (by simpa using h1) (by simpa using h2) (fun i v c hv hc => ?_) (fun i v c hv hc => ?_) hps (by simpa [List.map_map, Function.comp_def] using hev)
        · rw [List.getElem?_map] at hc
          obtain ⟨c', hc', rfl⟩ := Option.map_eq_some_iff.1 hc
          exact .one (.t (r1 i v c' hv hc'))
        · rw [List.getElem?_map] at hc
          obtain ⟨c', hc', rfl⟩ := Option.map_eq_some_iff.1 hc
          exact .one (.t (r2 i v c' hv hc'))
  · simp [HM.val] at hev

theorem op_sound {ef : EF} (good : GoodEF P ef) {env : Nat → Ent} {y : IOp} (r : HRel w I β O h) (he : EnvRep w I β a env) (hs : ∀ k, β (slot, k) = none)
    (hok : okOp P o.op y = true) (hev : (evOp ef slot env y).val h = some (e, wr)) : OpW P o a w slot I β O h e wr := by
  cases y with
  | mov => exact sound_mov r he hok hev
  | pick => exact sound_pick r he hok hev
  | alc => exact sound_alc r hs hok hev
  | alcA => exact sound_alcA r hs hok hev
  | box => exact sound_box r he hs hok hev
  | boxA => exact sound_boxA r he hs hok hev
  | bld => exact sound_bld r he hok hev
  | bsl => exact sound_bsl r he hs hok hev
  | ld => exact sound_ld r he hok hev
  | st => exact sound_st r he hok hev
  | nilc => exact sound_nilc r he hok hev
  | bin => exact sound_bin r he hok hev
  | eqb => exact sound_eqb r he hok hev
  | isnil => exact sound_isnil r he hok hev
  | un => exact sound_un r he hok hev
  | cvi => exact sound_cvi r he hok hev
  | fa => exact sound_fa r he hok hev
  | fd => exact sound_fd r he hok hev
  | ia al => cases al with
    | none => exact sound_iaS r he hok hev
    | some => exact sound_iaA r he hok hev
  | ixs => exact sound_ixs r he hok hev
  | ixa => exact sound_ixa r he hok hev
  | ms => exact sound_ms r he hs hok hev
  | sls => exact sound_sls r he hok hev
  | slc => exact sound_slc r he hok hev
  | sla => exact sound_sla r he hok hev
  | app => exact sound_app r he hs hok hev
  | len => exact sound_len r he hok hev
  | lens => exact sound_lens r he hok hev
  | lena => exact sound_lena r hok hev
  | cpy => exact sound_cpy r he hok hev
  | mkf => exact sound_mkf r he hok hev
  | call => exact sound_call good r he hs hok hev
  | callv => exact sound_callv good r he hs hok hev
  | ext => exact sound_ext r he hok hev
  | mnx => exact sound_mnx r he hok hev
  | bad => simp [evOp, HM.val] at hev

end
end Go.Pur
