/- Loads and stores. -/
import Derived.Test.YtjgegedgmkdoiaaFf
namespace Go.Pur
open Go

section
variable {P : Program} {o : Oper} {a : Act} {w w1 : World} {slot : Nat} {I : Nat → Prop} {β : Beta} {O : Nm → Nat → Prop} {h : Nm → Option LObj} {e : Ent} {wr : Wr} {arr : Array Value} {ty : TypeId}

theorem varT_parts {t : TypeId} {agg : Bool} {n : Nat} (h : varT P t agg n = true) : isAggT P t = some agg ∧ sizeT P t = some n ∧ (agg = false → n = 1) := by
  unfold varT at h
  simp only [Bool.and_eq_true, beq_iff_eq, Bool.or_eq_true] at h
  exact ⟨h.1.1, h.1.2, fun e => by subst e; simpa using h.2⟩

theorem isAggT_run {t : TypeId} {agg : Bool} (h : isAggT P t = some agg) (w : World) : (isAgg t).run P w = .ok agg w := by
  unfold isAggT at h
  cases hu : P.underlying t with
  | none => simp [hu] at h
  | some d => cases d <;> simp [hu] at h <;> subst h <;> simp [isAgg, run_underlying hu]

theorem load_var {t : TypeId} {agg : Bool} {n : Nat} (hv : varT P t agg n = true) {b off : Nat} {cs : List Cell} (hl : cs.length = n) (f : Nat → Value)
    (hc : ∀ (i : Nat) c, cs[i]? = some c → w.cell? ⟨b, off + i, none⟩ = some (f i)) :
    (loadVar t ⟨b, off, none⟩).run P w = .ok (if agg then .agg ((List.range n).map f).toArray else f 0) w := by
  obtain ⟨h1, h2, h3⟩ := varT_parts hv
  have hcell : ∀ j, j < n → w.cell? ((⟨b, off, none⟩ : Addr).add j) = some (f j) := fun j hj => by
    rw [add_none]
    exact hc j cs[j] (List.getElem?_eq_getElem (by omega))
  have hr := isAggT_run h1 w
  have hs := sizeT_some h2 w
  cases agg with
  | true =>
    have hld := run_loadCells (P := P) w ⟨b, off, none⟩ n f hcell
    simp only [loadVar, Sem.run_bind, hr, Result.andThen_ok, if_true, hs, hld, Sem.run_pure]
  | false =>
    have hn := h3 rfl
    subst hn
    have h0 := hcell 0 (by omega)
    rw [add_none] at h0
    simp only [loadVar, Sem.run_bind, hr, Result.andThen_ok, Bool.false_eq_true, if_false, Nat.add_zero] at h0 ⊢
    simp [h0]

theorem load_rep {I : Nat → Prop} {β : Beta} {w : World} {agg : Bool} {n : Nat} {cs : List Cell} (hl : cs.length = n) (h1 : agg = false → n = 1) (f : Nat → Value)
    (hc : ∀ (i : Nat) c, cs[i]? = some c → RepC w I β (f i) c) : RepA w I β (if agg then .agg ((List.range n).map f).toArray else f 0) ⟨agg, cs⟩ := by
  cases agg with
  | true =>
    simp only [if_true]
    refine .agg ⟨by simp [hl], fun i v c hv hi => ?_⟩
    simp only [List.getElem?_map, Option.map_eq_some_iff] at hv
    obtain ⟨j, hj, rfl⟩ := hv
    obtain ⟨_, hj2⟩ := List.getElem?_eq_some_iff.1 hj
    simp at hj2
    subst hj2
    exact hc _ _ hi
  | false =>
    have hn := h1 rfl
    subst hn
    match cs, hl with
    | [c], _ =>
      simp only [Bool.false_eq_true, if_false]
      exact .one (hc 0 c rfl)

/-- an own row is shared from now on -/
theorem downgrade (r : HRel w I β O h) {n : Nm} {own : Bool} {sz : Nat} {es : List (List T)} (hn : h n = some (.arr own sz es)) (hown : own = true) :
    ∃ I' O', StepTo slot w w I I' β β O O' h (putWr h [(n, some (.arr false sz es))]) ∧ ObjRep w I' β (O' n) n (.arr false sz es) := by
  subst hown
  have hput : ∀ k, putWr h [(n, some (.arr false sz es))] k = if k = n then some (.arr false sz es) else h k := fun k => by simp [putWr, upd]
  have hob := r.obj n _ hn
  cases hob with
  | arr0 hβ h0 =>
    have mv : Moves w w I I β β := ⟨fun _ _ => rfl, fun _ hb => hb, fun _ _ hh => hh, fun _ arr _ _ hb => ⟨arr, hb, rfl⟩⟩
    have hnew : ObjRep w I β (O n) n (.arr false sz []) := .arr0 hβ h0
    refine ⟨I, O, step1 (t := n) (ob := .arr false sz []) r mv (fun _ _ h => .inl h) (.refl _ _) (fun k hk => .inl (by rw [hput, if_neg hk])) (by rw [hput, if_pos rfl]) hnew (fun k hk => rfl)
      (fun _ _ _ _ _ => rfl) (fun x hx => .inr ⟨n, by simp [hn], hx, .inl rfl⟩) (fun x hx => r.lt n x (by simp [hn]) hx) (fun x hx => .inl hx) (fun x hx hi => r.imm n x (by simp [hn]) hx hi), hnew⟩
  | arr vals Ss hβ hb hO hsz h0 hoff hc hx ht hsub hdis =>
    rename_i b off arr ty
    let I' : Nat → Prop := fun x => I x ∨ (O n x ∧ x ≠ b)
    have mv : Moves w w I I' β β := ⟨fun _ _ => rfl, fun _ hb => .inl hb, fun _ _ hh => hh, fun _ arr _ _ hb => ⟨arr, hb, rfl⟩⟩
    have hnew : ObjRep w I' β (upd O n (fun x => x = b) n) n (.arr false sz es) := by
      refine .arr vals (fun _ _ => False) hβ hb (by rw [upd_same]) hsz h0 hoff hc (fun hx => by cases hx) (fun _ i c hi => (hx rfl i c hi).toT fun x hx => .inr (hsub i x hx)) (fun i x hx => hx.elim) (fun i j x hx => hx.elim)
    refine ⟨I', upd O n (fun x => x = b), step1 (t := n) (ob := .arr false sz es) r mv (fun _ _ h => .inl h) (.refl _ _) (fun k hk => .inl (by rw [hput, if_neg hk])) (by rw [hput, if_pos rfl]) hnew (fun k hk => upd_other _ _ _ hk)
      (fun _ _ _ _ _ => rfl) (fun x hx => ?_) (fun x hx => ?_) (fun x hx => ?_) (fun x hx hi => ?_), hnew⟩
    · rw [upd_same] at hx; subst hx; exact .inr ⟨n, by simp [hn], hO, .inl rfl⟩
    · rw [upd_same] at hx; subst hx; exact r.lt n x (by simp [hn]) hO
    · rcases hx with hx | ⟨hx, _⟩
      · exact .inl hx
      · exact .inr ⟨n, by simp [hn], hx, .inl rfl⟩
    · rw [upd_same] at hx; subst hx
      rcases hi with hi | ⟨_, hi⟩
      · exact r.imm n x (by simp [hn]) hO hi
      · exact hi rfl

theorem okOp_ld {x : Op} {agg : Bool} {n : Nat} {y : Opd} (h : okOp P x (.ld agg n y) = true) : ∃ t z, x = .load t z ∧ varT P t agg n = true ∧ okOpd z y = true := by
  cases x <;> simp [okOp] at h
  exact ⟨_, _, rfl, h.1, h.2⟩

theorem run_load {t : TypeId} {z : Operand} {b off : Nat} {v : Value} (hz : o.op = .load t z) (hv : a.eval z = .pointer (some ⟨b, off, none⟩)) (hr : (loadVar t ⟨b, off, none⟩).run P w = .ok v w) : (execOp a.eval o).run P w = .ok (.value v) w := by
  unfold execOp
  rw [hz]
  simp [hv, Instr.loadAt, Instr.sureAddr, hr]

/-- what lies in a row of elements from a place on -/
theorem elem_cells {α : Type} {sz i j n : Nat} {es : List (List α)} {e : List α} {k : Nat} {c : α} (hsz : ∀ e ∈ es, e.length = sz) (he : es[i]? = some e) (hk : ((e.drop j).take n)[k]? = some c) : es.flatten[i * sz + j + k]? = some c := by
  rw [List.getElem?_take] at hk
  split at hk
  · rw [List.getElem?_drop] at hk
    rw [Nat.add_assoc]
    exact flatten_elem hsz he hk
  · cases hk

theorem sound_ld {ef : EF} {env : Nat → Ent} {agg : Bool} {n : Nat} {y : Opd} (r : HRel w I β O h) (he : EnvRep w I β a env) (hok : okOp P o.op (.ld agg n y) = true) (hev : (evOp ef slot env (.ld agg n y)).val h = some (e, wr)) :
    OpW P o a w slot I β O h e wr := by
  obtain ⟨t, z, hz, hvt, h1⟩ := okOp_ld hok
  obtain ⟨_, _, hagg⟩ := varT_parts hvt
  -- a row of elements, own or not: the cells that are loaded, by the new reading of the object
  have arrCase : ∀ (m : Nm) (i j b off sz : Nat) (own : Bool) (es : List (List T)) (cs : List T), h m = some (.arr own sz es) → β m = some (b, off, sz) → 0 < sz → a.eval z = .pointer (some ⟨b, off + i * sz + j, none⟩) →
      cs.length = n → (∀ (k : Nat) c, cs[k]? = some c → es.flatten[i * sz + j + k]? = some c) →
      (own = true → cs.all T.isV = true → OpW P o a w slot I β O h (.val ⟨agg, cs.map .t⟩) []) ∧
      (own = true → OpW P o a w slot I β O h (.val ⟨agg, cs.map .t⟩) [(m, some (.arr false sz es))]) ∧
      (own = false → OpW P o a w slot I β O h (.val ⟨agg, cs.map .t⟩) []) := by
    intro m i j b off sz own es cs hm hβ hzp hv hl hin
    have hob := r.obj m _ hm
    have hlt : (cs.map Cell.t).length = n := by simp [hl]
    cases hob with
    | arr0 hβ' => rw [hβ] at hβ'; simp at hβ'; omega
    | arr vals Ss hβ' hb hO hsz h0 hoff hc hx ht hsub hdis =>
      rw [hβ] at hβ'
      simp only [Option.some.injEq, Prod.mk.injEq] at hβ'
      obtain ⟨rfl, rfl, _⟩ := hβ'
      have hcell : ∀ (k : Nat) c, (cs.map Cell.t)[k]? = some c → w.cell? ⟨b, off + i * sz + j + k, none⟩ = some (vals (i * sz + j + k)) := fun k c hk => by
        simp only [List.getElem?_map, Option.map_eq_some_iff] at hk
        obtain ⟨c', hk, rfl⟩ := hk
        rw [cell_heap hb, show off + i * sz + j + k = off + (i * sz + j + k) from by omega]
        exact hc _ _ (hin k c' hk)
      have hrun := load_var (w := w) hvt hlt (fun k => vals (i * sz + j + k)) hcell
      have hld := run_load hz hv hrun
      refine ⟨fun hown hall => ?_, fun hown => ?_, fun hown => ?_⟩
      · refine opW_pure r hld (.val (load_rep hlt hagg _ fun k c hk => ?_)) rfl
        simp only [List.getElem?_map, Option.map_eq_some_iff] at hk
        obtain ⟨c', hk, rfl⟩ := hk
        rw [List.all_eq_true] at hall
        exact .t (RepT.flat ((hx hown _ _ (hin k c' hk)).toT (I := O m) fun b hb => (hsub _ b hb).1) (hall c' (List.mem_of_getElem? hk)))
      · obtain ⟨I', O', s, ob'⟩ := downgrade (slot := slot) r hm hown
        cases ob' with
        | arr0 hβ' => rw [hβ] at hβ'; simp at hβ'; omega
        | arr vals' Ss' hβ' hb' hO' hsz' h0' hoff' hc' hx' ht' hsub' hdis' =>
          rw [hβ] at hβ'
          simp only [Option.some.injEq, Prod.mk.injEq] at hβ'
          obtain ⟨rfl, rfl, _⟩ := hβ'
          rw [hb] at hb'
          simp only [Option.some.injEq, Obj.cells.injEq] at hb'
          obtain ⟨rfl, rfl, _⟩ := hb'
          refine opW_value hld s (.val (load_rep hlt hagg _ fun k c hk => ?_))
          simp only [List.getElem?_map, Option.map_eq_some_iff] at hk
          obtain ⟨c', hk, rfl⟩ := hk
          have e1 := hc _ _ (hin k c' hk)
          have e2 := hc' _ _ (hin k c' hk)
          rw [e1] at e2
          have := ht' rfl _ _ (hin k c' hk)
          rw [← Option.some.inj e2] at this
          exact .t this
      · refine opW_pure r hld (.val (load_rep hlt hagg _ fun k c hk => ?_)) rfl
        simp only [List.getElem?_map, Option.map_eq_some_iff] at hk
        obtain ⟨c', hk, rfl⟩ := hk
        exact .t (ht hown _ _ (hin k c' hk))
  simp only [evOp] at hev
  split at hev
  · rename_i cs hg
    have hc := opd_cell he h1 hg
    split at hev
    · rename_i hle
      simp only [outA, HM.val, Option.some.injEq, Prod.mk.injEq] at hev
      obtain ⟨rfl, rfl⟩ := hev
      generalize hv : a.eval z = v at hc
      cases hc with
      | t ht => cases ht with
        | pt vals hcc hr =>
          have hlt : ((cs.take n).map Cell.t).length = n := by simp; omega
          refine opW_pure r (run_load hz hv (load_var hvt hlt vals fun k c hk => ?_)) (.val (load_rep hlt hagg vals fun k c hk => ?_)) rfl
          · simp only [List.getElem?_map, Option.map_eq_some_iff] at hk
            obtain ⟨c', hk, rfl⟩ := hk
            rw [List.getElem?_take] at hk
            split at hk
            · exact (hcc _ _ hk).2
            · cases hk
          · simp only [List.getElem?_map, Option.map_eq_some_iff] at hk
            obtain ⟨c', hk, rfl⟩ := hk
            rw [List.getElem?_take] at hk
            split at hk
            · exact .t (hr _ _ hk)
            · cases hk
    · simp [HM.val] at hev
  · rename_i m i hg
    have hc := opd_cell he h1 hg
    simp only [HM.val] at hev
    cases hm : h m with
    | none => simp [hm, HM.val] at hev
    | some ob =>
      cases ob with
      | row cs =>
        simp only [hm] at hev
        split at hev
        · rename_i hle
          simp only [outA, HM.val, Option.some.injEq, Prod.mk.injEq] at hev
          obtain ⟨rfl, rfl⟩ := hev
          generalize hv : a.eval z = v at hc
          cases hc with
          | ptr hβ =>
            cases r.obj m _ hm with
            | row hβ' hb hO hcc =>
              rename_i b off sz b' off' sz' arr ty
              rw [hβ] at hβ'
              simp only [Option.some.injEq, Prod.mk.injEq] at hβ'
              obtain ⟨rfl, rfl, _⟩ := hβ'
              have hlt : ((cs.drop i).take n).length = n := by simp; omega
              have hcell : ∀ (k : Nat) c, ((cs.drop i).take n)[k]? = some c → ∃ v, arr[off + i + k]? = some v ∧ RepC w I β v c := fun k c hk => by
                rw [List.getElem?_take] at hk
                split at hk
                · rw [List.getElem?_drop] at hk
                  rw [Nat.add_assoc]
                  exact hcc _ _ hk
                · cases hk
              refine opW_pure r (run_load hz hv (load_var hvt hlt (fun k => arr.getD (off + i + k) Go.undef) fun k c hk => ?_)) (.val (load_rep hlt hagg _ fun k c hk => ?_)) rfl
              · obtain ⟨v, h2, _⟩ := hcell k c hk
                rw [cell_heap hb, Array.getD_eq_getD_getElem?, h2]; rfl
              · obtain ⟨v, h2, h3⟩ := hcell k c hk
                rw [Array.getD_eq_getD_getElem?, h2]; exact h3
        · simp [HM.val] at hev
      | arr own sz es => simp [hm, HM.val] at hev
      | gone => simp [hm, HM.val] at hev
  · rename_i m i j hg
    have hc := opd_cell he h1 hg
    simp only [HM.val] at hev
    cases hm : h m with
    | none => simp [hm, HM.val] at hev
    | some ob =>
      cases ob with
      | row cs => simp [hm, HM.val] at hev
      | gone => simp [hm, HM.val] at hev
      | arr own sz es =>
        simp only [hm] at hev
        generalize hv : a.eval z = v at hc
        cases hc with
        | pel hβ hzp =>
          rename_i b off sz'
          have hsz : (∀ e ∈ es, e.length = sz) ∧ sz' = sz := by
            cases r.obj m _ hm with
            | arr0 hβ' => rw [hβ] at hβ'; simp at hβ'; omega
            | arr vals Ss hβ' hb hO hsz h0 =>
              rw [hβ] at hβ'
              simp only [Option.some.injEq, Prod.mk.injEq] at hβ'
              exact ⟨hsz, hβ'.2.2⟩
          obtain ⟨hsz, rfl⟩ := hsz
          split at hev
          · rename_i hfit
            split at hev
            · rename_i el hel
              have hlel : el.length = sz' := hsz _ (List.mem_of_getElem? hel)
              have hl : ((el.drop j).take n).length = n := by simp; omega
              obtain ⟨c1, c2, c3⟩ := arrCase m i j b off sz' own es ((el.drop j).take n) hm hβ hzp hv hl (fun k c hk => elem_cells hsz hel hk)
              split at hev
              · rename_i hcond
                simp only [HM.val, Option.some.injEq, Prod.mk.injEq] at hev
                obtain ⟨rfl, rfl⟩ := hev
                simp at hcond
                exact c2 hcond.1
              · rename_i hcond
                simp only [outA, HM.val, Option.some.injEq, Prod.mk.injEq] at hev
                obtain ⟨rfl, rfl⟩ := hev
                cases own with
                | true => exact c1 rfl (by simpa using hcond)
                | false => exact c3 rfl
            · simp [HM.val] at hev
          · split at hev
            · rename_i hwhole
              obtain ⟨rfl, rfl, rfl⟩ := hwhole
              obtain ⟨c1, c2, c3⟩ := arrCase m 0 0 b off sz' own es es.flatten hm hβ hzp hv (flatten_length es hsz) (fun k c hk => by simpa using hk)
              split at hev
              · rename_i hcond
                simp only [HM.val, Option.some.injEq, Prod.mk.injEq] at hev
                obtain ⟨rfl, rfl⟩ := hev
                simp only [Bool.and_eq_true] at hcond
                exact c2 hcond.1
              · rename_i hcond
                simp only [outA, HM.val, Option.some.injEq, Prod.mk.injEq] at hev
                obtain ⟨rfl, rfl⟩ := hev
                cases own with
                | true => exact c1 rfl (by simpa using hcond)
                | false => exact c3 rfl
            · simp [HM.val] at hev
  · simp [HM.val] at hev

end
end Go.Pur
