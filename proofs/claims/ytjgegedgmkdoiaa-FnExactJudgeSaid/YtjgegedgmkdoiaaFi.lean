/- Places and parts: field, index, slice. -/
import Derived.Test.YtjgegedgmkdoiaaFh
namespace Go.Pur
open Go
set_option linter.unusedSimpArgs false

section
variable {P : Program} {o : Oper} {a : Act} {w w1 : World} {slot : Nat} {I : Nat → Prop} {β : Beta} {O : Nm → Nat → Prop} {h : Nm → Option LObj} {e : Ent} {wr : Wr} {arr : Array Value} {ty : TypeId}

/-- a part of an aggregate -/
theorem part_rep {t : TypeId} {agg : Bool} {n off : Nat} {vs : Array Value} {cs : List Cell} (hv : varT P t agg n = true) (hr : RepL w I β vs.toList cs) (hl : off + n ≤ cs.length) :
    ∃ v, (part t vs off).run P w = .ok v w ∧ RepA w I β v ⟨agg, (cs.drop off).take n⟩ := by
  obtain ⟨h1, h2, h3⟩ := varT_parts hv
  have hsz : vs.size = cs.length := by simpa using hr.1
  have hi := isAggT_run h1 w
  have hs := sizeT_some h2 w
  cases agg with
  | true =>
    refine ⟨.agg (vs.extract off (off + n)), ?_, .agg ⟨by simp; omega, fun i v c hv hc => ?_⟩⟩
    · simp only [part, Sem.run_bind, hi, Result.andThen_ok, if_true, hs, Sem.run_pure]
    · rw [List.getElem?_take] at hc
      split at hc
      · rename_i hin
        rw [List.getElem?_drop] at hc
        refine hr.2 (off + i) v c ?_ hc
        have hv' : (List.take n (List.drop off vs.toList))[i]? = some v := by simpa using hv
        rw [List.getElem?_take, if_pos hin, List.getElem?_drop] at hv'
        exact hv'
      · cases hc
  | false =>
    have hn := h3 rfl
    subst hn
    have hlt : off < vs.size := by omega
    refine ⟨vs[off], ?_, ?_⟩
    · have : vs[off]? = some vs[off] := by simp [hlt]
      simp only [part, Sem.run_bind, hi, Result.andThen_ok, Bool.false_eq_true, if_false, this, Sem.run_pure]
    · have e1 : (cs.drop off).take 1 = [cs[off]'(by omega)] := by
        rw [List.drop_eq_getElem_cons (by omega)]; rfl
      rw [e1]
      exact .one (hr.2 off _ _ (by simp [hlt]) (List.getElem?_eq_getElem (by omega)))

theorem okOp_fd {x : Op} {agg : Bool} {off n : Nat} {y : Opd} (h : okOp P x (.fd agg off n y) = true) : ∃ t z i fs f, x = .field t z i ∧ okOpd z y = true ∧ P.underlying t = some (.struct fs) ∧ fs[i]? = some f ∧ f.offset = off ∧ varT P f.type agg n = true := by
  cases x <;> simp [okOp, Option.any_eq_true] at h
  obtain ⟨⟨f, h1, h2, h3⟩, h5⟩ := h
  obtain ⟨fs, hu, hf⟩ := fieldT_some h1
  exact ⟨_, _, _, fs, f, rfl, h5, hu, hf, h2, h3⟩

theorem sound_fd {ef : EF} {env : Nat → Ent} {agg : Bool} {off n : Nat} {y : Opd} (r : HRel w I β O h) (he : EnvRep w I β a env) (hok : okOp P o.op (.fd agg off n y) = true) (hev : (evOp ef slot env (.fd agg off n y)).val h = some (e, wr)) :
    OpW P o a w slot I β O h e wr := by
  obtain ⟨t, z, i, fs, f, hz, h1, hu, hf, rfl, hvt⟩ := okOp_fd hok
  simp only [evOp] at hev
  split at hev
  · rename_i cs hg
    split at hev
    · rename_i hle
      simp only [outA, HM.val, Option.some.injEq, Prod.mk.injEq] at hev
      obtain ⟨rfl, rfl⟩ := hev
      have hr := opd_rep he h1 hg
      generalize hv : a.eval z = v at hr
      cases hr with
      | agg hr =>
        obtain ⟨v, h2, h3⟩ := part_rep hvt hr hle
        refine opW_pure r (v := v) ?_ (.val h3) rfl
        unfold execOp
        rw [hz]
        simp [hv, Instr.field, run_underlying hu, hf, asAgg, h2]
    · simp [HM.val] at hev
  · simp [HM.val] at hev

theorem okOp_iaS {x : Op} {sz : Nat} {y i : Opd} (h : okOp P x (.ia none sz y i) = true) : ∃ t el y' i', x = .indexAddr t y' i' ∧ P.underlying t = some (.slice el) ∧ sizeT P el = some sz ∧ okOpd y' y = true ∧ okOpd i' i = true ∧ 0 < sz := by
  cases x <;> simp [okOp, Option.any_eq_true] at h
  obtain ⟨⟨⟨⟨el, h1, h2⟩, h3⟩, h4⟩, h5⟩ := h
  exact ⟨_, el, _, _, rfl, elemT_some h1, h2, h3, h4, h5⟩

theorem sound_iaS {ef : EF} {env : Nat → Ent} {sz : Nat} {y i : Opd} (r : HRel w I β O h) (he : EnvRep w I β a env) (hok : okOp P o.op (.ia none sz y i) = true) (hev : (evOp ef slot env (.ia none sz y i)).val h = some (e, wr)) :
    OpW P o a w slot I β O h e wr := by
  obtain ⟨t, el, y', i', hz, hu, hs, h1, h2, h0⟩ := okOp_iaS hok
  have hsz := sizeT_some hs
  simp only [evOp] at hev
  have key : ∀ b off len cap kk (k : Int), a.eval y' = .slice (some ⟨b, off, none⟩) len cap → a.eval i' = .int kk k → 0 ≤ k → k < len →
      (execOp a.eval o).run P w = .ok (.value (.pointer (some ⟨b, off + k.toNat * sz, none⟩))) w := fun b off len cap kk k hv hi hk0 hk1 => by
    unfold execOp
    rw [hz]
    simp [hv, hi, Instr.indexAt, asIntOf, run_underlying hu, hk0, hk1, hsz w, add_none]
  split at hev
  · rename_i m lo len k hg hi
    have hc := opd_cell he h1 hg
    obtain ⟨kk, hi⟩ := opd_int he h2 hi
    split at hev
    · rename_i hk
      simp only [HM.val] at hev
      cases hm : h m with
      | none => simp [hm, HM.val] at hev
      | some ob =>
        cases ob with
        | row cs => simp [hm, HM.val] at hev
        | gone => simp [hm, HM.val] at hev
        | arr own s es =>
          simp only [hm] at hev
          split at hev
          · rename_i hss
            subst hss
            simp only [out1, HM.val, Option.some.injEq, Prod.mk.injEq] at hev
            obtain ⟨rfl, rfl⟩ := hev
            generalize hv : a.eval y' = v at hc
            cases hc with
            | ref hβ hb hcap hl hm' hzp =>
              obtain ⟨_, _, _, rfl, _⟩ := arr_fit (r.obj m _ hm) hβ hzp
              refine opW_pure r (key _ _ _ _ _ _ hv hi hk.1 hk.2) (.val (.one ?_)) rfl
              have := RepC.pel (w := w) (I := I) (i := lo + k.toNat) (j := 0) hβ hzp
              rw [Nat.add_mul] at this
              simpa [Nat.add_assoc] using this
            | ref0 => simp at hk; omega
          · simp [HM.val] at hev
    · simp [HM.val] at hev
  · rename_i s es k hg hi
    have hc := opd_cell he h1 hg
    obtain ⟨kk, hi⟩ := opd_int he h2 hi
    split at hev
    · rename_i hk
      obtain ⟨hk0, rfl⟩ := hk
      split at hev
      · rename_i el' hel
        simp only [out1, HM.val, Option.some.injEq, Prod.mk.injEq] at hev
        obtain ⟨rfl, rfl⟩ := hev
        have hlt : k.toNat < es.length := (List.getElem?_eq_some_iff.1 hel).1
        generalize hv : a.eval y' = v at hc
        cases hc with
        | t ht => cases ht with
          | sl vals hcapx hszs hcc hr =>
            have hlel : el'.length = s := hszs _ (List.mem_of_getElem? hel)
            have hfirst := flatten_elem hszs hel (List.getElem?_eq_getElem (show 0 < el'.length by omega))
            obtain ⟨b, off, rfl, _, _⟩ := hcc _ _ hfirst
            refine opW_pure r (key _ _ _ _ _ _ hv hi hk0 (by omega)) (.val (.one (.t (.pt (fun j => vals (k.toNat * s + j)) (fun j c hj => ?_) (fun j c hj => ?_))))) rfl
            · obtain ⟨b', off', he', hI, hcell⟩ := hcc _ _ (flatten_elem hszs hel hj)
              simp only [Option.some.injEq, Addr.mk.injEq] at he'
              obtain ⟨rfl, rfl, _⟩ := he'
              exact ⟨hI, by rw [Nat.add_assoc]; exact hcell⟩
            · exact hr _ _ (flatten_elem hszs hel hj)
      · simp [HM.val] at hev
    · simp [HM.val] at hev
  · simp [HM.val] at hev

theorem okOp_iaA {x : Op} {n sz : Nat} {y i : Opd} (h : okOp P x (.ia (some n) sz y i) = true) : ∃ t el y' i', x = .indexAddr t y' i' ∧ P.underlying t = some (.array n el) ∧ sizeT P el = some sz ∧ okOpd y' y = true ∧ okOpd i' i = true ∧ 0 < sz := by
  cases x <;> simp [okOp, Option.any_eq_true] at h
  obtain ⟨⟨⟨⟨k, el, h1, rfl, h2⟩, h3⟩, h4⟩, h5⟩ := h
  exact ⟨_, el, _, _, rfl, arrT_some h1, h2, h3, h4, h5⟩

theorem sound_iaA {ef : EF} {env : Nat → Ent} {n sz : Nat} {y i : Opd} (r : HRel w I β O h) (he : EnvRep w I β a env) (hok : okOp P o.op (.ia (some n) sz y i) = true) (hev : (evOp ef slot env (.ia (some n) sz y i)).val h = some (e, wr)) :
    OpW P o a w slot I β O h e wr := by
  obtain ⟨t, el, y', i', hz, hu, hs, h1, h2, h0⟩ := okOp_iaA hok
  have hsz := sizeT_some hs
  simp only [evOp] at hev
  have key : ∀ b off kk (k : Int), a.eval y' = .pointer (some ⟨b, off, none⟩) → a.eval i' = .int kk k → 0 ≤ k → k < n →
      (execOp a.eval o).run P w = .ok (.value (.pointer (some ⟨b, off + k.toNat * sz, none⟩))) w := fun b off kk k hv hi hk0 hk1 => by
    unfold execOp
    rw [hz]
    simp [hv, hi, Instr.indexAt, asIntOf, run_underlying hu, hk0, hk1, hsz w, add_none, Instr.sureAddr]
  split at hev
  · rename_i m j k hg hi
    have hc := opd_cell he h1 hg
    obtain ⟨kk, hi⟩ := opd_int he h2 hi
    split at hev
    · rename_i hk
      simp only [out1, HM.val, Option.some.injEq, Prod.mk.injEq] at hev
      obtain ⟨rfl, rfl⟩ := hev
      generalize hv : a.eval y' = v at hc
      cases hc with
      | ptr hβ => exact opW_pure r (key _ _ _ _ hv hi hk.1 hk.2) (.val (.one (by rw [Nat.add_assoc]; exact .ptr hβ))) rfl
    · simp [HM.val] at hev
  · rename_i m p q k hg hi
    have hc := opd_cell he h1 hg
    obtain ⟨kk, hi⟩ := opd_int he h2 hi
    split at hev
    · rename_i hk
      simp only [HM.val] at hev
      cases hm : h m with
      | none => simp [hm, HM.val] at hev
      | some ob =>
        cases ob with
        | row cs => simp [hm, HM.val] at hev
        | gone => simp [hm, HM.val] at hev
        | arr own s es =>
          simp only [hm] at hev
          generalize hv : a.eval y' = v at hc
          cases hc with
          | pel hβ hzp =>
            obtain ⟨_, _, _, rfl, _⟩ := arr_fit (r.obj m _ hm) hβ hzp
            split at hev
            · rename_i hss
              obtain ⟨rfl, rfl⟩ := hss
              simp only [out1, HM.val, Option.some.injEq, Prod.mk.injEq] at hev
              obtain ⟨rfl, rfl⟩ := hev
              refine opW_pure r (key _ _ _ _ hv hi hk.1 hk.2) (.val (.one ?_)) rfl
              have := RepC.pel (w := w) (I := I) (i := p + k.toNat) (j := 0) hβ hzp
              rw [Nat.add_mul] at this
              simpa [Nat.add_assoc] using this
            · simp only [out1, HM.val, Option.some.injEq, Prod.mk.injEq] at hev
              obtain ⟨rfl, rfl⟩ := hev
              exact opW_pure r (key _ _ _ _ hv hi hk.1 hk.2) (.val (.one (by rw [Nat.add_assoc]; exact .pel hβ hzp))) rfl
    · simp [HM.val] at hev
  · rename_i cs k hg hi
    have hc := opd_cell he h1 hg
    obtain ⟨kk, hi⟩ := opd_int he h2 hi
    split at hev
    · rename_i hk
      simp only [out1, HM.val, Option.some.injEq, Prod.mk.injEq] at hev
      obtain ⟨rfl, rfl⟩ := hev
      generalize hv : a.eval y' = v at hc
      cases hc with
      | t ht => cases ht with
        | pt vals hcc hr =>
          refine opW_pure r (key _ _ _ _ hv hi hk.1 hk.2) (.val (.one (.t (.pt (fun j => vals (k.toNat * sz + j)) (fun j c hj => ?_) (fun j c hj => ?_))))) rfl
          · rw [List.getElem?_drop] at hj
            have := hcc _ _ hj
            rwa [Nat.add_assoc]
          · rw [List.getElem?_drop] at hj
            exact hr _ _ hj
    · simp [HM.val] at hev
  · simp [HM.val] at hev

theorem okOp_ixs {x : Op} {y i : Opd} (h : okOp P x (.ixs y i) = true) : ∃ t y' i', x = .index t y' i' ∧ P.underlying t = some .string ∧ okOpd y' y = true ∧ okOpd i' i = true := by
  cases x <;> simp [okOp] at h
  exact ⟨_, _, _, rfl, isStrT_eq h.1.1, h.1.2, h.2⟩

theorem sound_ixs {ef : EF} {env : Nat → Ent} {y i : Opd} (r : HRel w I β O h) (he : EnvRep w I β a env) (hok : okOp P o.op (.ixs y i) = true) (hev : (evOp ef slot env (.ixs y i)).val h = some (e, wr)) :
    OpW P o a w slot I β O h e wr := by
  obtain ⟨t, y', i', hz, hu, h1, h2⟩ := okOp_ixs hok
  simp only [evOp] at hev
  split at hev
  · rename_i s k hg hi
    obtain ⟨hv, _⟩ := opd_flat he h1 hg
    obtain ⟨kk, hi⟩ := opd_int he h2 hi
    split at hev
    · rename_i hk
      split at hev
      · rename_i b hb
        simp only [out1, HM.val, Option.some.injEq, Prod.mk.injEq] at hev
        obtain ⟨rfl, rfl⟩ := hev
        refine opW_pure r ?_ (repV (x := .int .u8 b.toNat) rfl) rfl
        have hb' : s[k.toNat]? = some b := by
          obtain ⟨hlt, hb2⟩ := List.getElem?_eq_some_iff.1 hb
          have hlt' : k.toNat < s.size := by simpa using hlt
          rw [getElem?_pos s k.toNat hlt']
          simp only [Array.getElem_toList] at hb2
          exact congrArg some hb2
        unfold execOp
        rw [hz]
        simp [hv, hi, Instr.index, asIntOf, run_underlying hu, hk, hb']
      · simp [HM.val] at hev
    · simp [HM.val] at hev
  · simp [HM.val] at hev

theorem okOp_ixa {x : Op} {agg : Bool} {n sz : Nat} {y i : Opd} (h : okOp P x (.ixa agg n sz y i) = true) : ∃ t el y' i', x = .index t y' i' ∧ P.underlying t = some (.array n el) ∧ varT P el agg sz = true ∧ okOpd y' y = true ∧ okOpd i' i = true := by
  cases x <;> simp [okOp, Option.any_eq_true] at h
  obtain ⟨⟨⟨k, el, h1, rfl, h2⟩, h3⟩, h4⟩ := h
  exact ⟨_, el, _, _, rfl, arrT_some h1, h2, h3, h4⟩

theorem sound_ixa {ef : EF} {env : Nat → Ent} {agg : Bool} {n sz : Nat} {y i : Opd} (r : HRel w I β O h) (he : EnvRep w I β a env) (hok : okOp P o.op (.ixa agg n sz y i) = true) (hev : (evOp ef slot env (.ixa agg n sz y i)).val h = some (e, wr)) :
    OpW P o a w slot I β O h e wr := by
  obtain ⟨t, el, y', i', hz, hu, hvt, h1, h2⟩ := okOp_ixa hok
  simp only [evOp] at hev
  split at hev
  · rename_i cs k hg hi
    have hr := opd_rep he h1 hg
    obtain ⟨kk, hi⟩ := opd_int he h2 hi
    split at hev
    · rename_i hk
      split at hev
      · rename_i hle
        simp only [outA, HM.val, Option.some.injEq, Prod.mk.injEq] at hev
        obtain ⟨rfl, rfl⟩ := hev
        generalize hv : a.eval y' = v at hr
        cases hr with
        | agg hr =>
          obtain ⟨v, h4, h5⟩ := part_rep hvt hr hle
          refine opW_pure r (v := v) ?_ (.val h5) rfl
          have hs := sizeT_some (varT_parts hvt).2.1 w
          unfold execOp
          rw [hz]
          simp [hv, hi, Instr.index, asIntOf, run_underlying hu, hk, hs, h4]
      · simp [HM.val] at hev
    · simp [HM.val] at hev
  · simp [HM.val] at hev

/-! ### slicing -/

def BoundV (x : Option Value) (d n : Nat) : Prop := (x = none ∧ n = d) ∨ ∃ k, x = some (.int k n)

theorem run_bounds {isSlice : Bool} {len cap l hh : Nat} {lo hi : Option Value} (hlo : BoundV lo 0 l) (hhi : BoundV hi len hh) (h1 : l ≤ hh) (h2 : hh ≤ cap) (w : World) :
    (Instr.sliceBounds isSlice len cap lo hi none).run P w = .ok (l, hh, cap) w := by
  have b1 : ((hh : Int) ≤ cap) := by omega
  have b2 : ((l : Int) ≤ hh) := by omega
  rcases hlo with ⟨rfl, rfl⟩ | ⟨k, rfl⟩ <;> rcases hhi with ⟨rfl, rfl⟩ | ⟨k', rfl⟩ <;> simp [Instr.sliceBounds, Instr.sliceBound, asIntOf, b1, b2, h1, h2]

theorem opt_bound {env : Nat → Ent} {d : Nat} {x : Option Operand} {y : Option Opd} {n : Int} (he : EnvRep w I β a env) (hok : okOpt x y = true) (hg : optInt env d y = some n) (h0 : 0 ≤ n) : BoundV (x.map a.eval) d n.toNat := by
  unfold okOpt at hok
  split at hok
  · simp only [optInt, Option.some.injEq] at hg
    subst hg
    exact .inl ⟨rfl, by simp⟩
  · rename_i x y
    simp only [optInt] at hg
    obtain ⟨k, hk⟩ := opd_int he hok hg
    exact .inr ⟨k, by rw [Option.map_some, hk, Int.toNat_of_nonneg h0]⟩
  · cases hok

theorem okOp_sls {x : Op} {y : Opd} {lo hi : Option Opd} (h : okOp P x (.sls y lo hi) = true) : ∃ t y' lo' hi', x = .slice t y' lo' hi' none ∧ P.underlying t = some .string ∧ okOpd y' y = true ∧ okOpt lo' lo = true ∧ okOpt hi' hi = true := by
  cases x <;> try (simp [okOp] at h; done)
  rename_i t y' lo' hi' mx
  cases mx <;> simp [okOp] at h
  exact ⟨_, _, _, _, rfl, isStrT_eq h.1.1.1, h.1.1.2, h.1.2, h.2⟩

theorem sound_sls {ef : EF} {env : Nat → Ent} {y : Opd} {lo hi : Option Opd} (r : HRel w I β O h) (he : EnvRep w I β a env) (hok : okOp P o.op (.sls y lo hi) = true) (hev : (evOp ef slot env (.sls y lo hi)).val h = some (e, wr)) :
    OpW P o a w slot I β O h e wr := by
  obtain ⟨t, y', lo', hi', hz, hu, h1, h2, h3⟩ := okOp_sls hok
  simp only [evOp] at hev
  split at hev
  · rename_i s hg
    obtain ⟨hv, _⟩ := opd_flat he h1 hg
    split at hev
    · rename_i l hh gl gh
      split at hev
      · rename_i hb
        simp only [out1, HM.val, Option.some.injEq, Prod.mk.injEq] at hev
        obtain ⟨rfl, rfl⟩ := hev
        have bl := opt_bound (d := 0) he h2 gl hb.1
        have bh := opt_bound (d := s.size) he h3 gh (by omega)
        have hr := run_bounds (P := P) (isSlice := false) (cap := s.size) bl bh (by omega) (by omega) w
        refine opW_pure r ?_ (repV (x := .string (s.extract l.toNat hh.toNat)) rfl) rfl
        unfold execOp
        rw [hz]
        simp [hv, Instr.sliceAt, Instr.slice, run_underlying hu, hr]
      · simp [HM.val] at hev
    · simp [HM.val] at hev
  · simp [HM.val] at hev

theorem okOp_slc {x : Op} {sz : Nat} {y : Opd} {lo hi : Option Opd} (h : okOp P x (.slc sz y lo hi) = true) : ∃ t el y' lo' hi', x = .slice t y' lo' hi' none ∧ P.underlying t = some (.slice el) ∧ sizeT P el = some sz ∧ 0 < sz ∧ okOpd y' y = true ∧ okOpt lo' lo = true ∧ okOpt hi' hi = true := by
  cases x <;> try (simp [okOp] at h; done)
  rename_i t y' lo' hi' mx
  cases mx <;> simp [okOp, Option.any_eq_true] at h
  obtain ⟨⟨⟨⟨⟨el, h1, h2⟩, h3⟩, h4⟩, h5⟩, h6⟩ := h
  exact ⟨_, el, _, _, _, rfl, elemT_some h1, h2, h3, h4, h5, h6⟩

theorem sound_slc {ef : EF} {env : Nat → Ent} {sz : Nat} {y : Opd} {lo hi : Option Opd} (r : HRel w I β O h) (he : EnvRep w I β a env) (hok : okOp P o.op (.slc sz y lo hi) = true) (hev : (evOp ef slot env (.slc sz y lo hi)).val h = some (e, wr)) :
    OpW P o a w slot I β O h e wr := by
  obtain ⟨t, el, y', lo', hi', hz, hu, hs, h0, h1, h2, h3⟩ := okOp_slc hok
  have hsz := sizeT_some hs w
  simp only [evOp] at hev
  have key : ∀ (ad : Option Addr) len cap l hh, a.eval y' = .slice ad len cap → BoundV (lo'.map a.eval) 0 l → BoundV (hi'.map a.eval) len hh → l ≤ hh → hh ≤ cap →
      (execOp a.eval o).run P w = .ok (.value (.slice (if cap = l then ad else ad.map (·.add (l * sz))) (hh - l) (cap - l))) w := fun ad len cap l hh hv bl bh h5 h6 => by
    have hr := run_bounds (P := P) (isSlice := true) bl bh h5 h6 w
    unfold execOp
    rw [hz]
    simp [hv, Instr.sliceAt, Instr.slice, run_underlying hu, hr, hsz]
  split at hev
  · rename_i m q len hg
    have hc := opd_cell he h1 hg
    split at hev
    · rename_i l hh gl gh
      split at hev
      · rename_i hb
        have bl := opt_bound (d := 0) he h2 gl hb.1
        have bh := opt_bound (d := len) he h3 gh (by omega)
        simp only [HM.val] at hev
        cases hm : h m with
        | none => simp [hm, HM.val] at hev
        | some ob =>
          cases ob with
          | row cs => simp [hm, HM.val] at hev
          | gone => simp [hm, HM.val] at hev
          | arr own s es =>
            simp only [hm] at hev
            split at hev
            · rename_i hss
              subst hss
              simp only [out1, HM.val, Option.some.injEq, Prod.mk.injEq] at hev
              obtain ⟨rfl, rfl⟩ := hev
              generalize hv : a.eval y' = v at hc
              cases hc with
              | ref hβ hbk hcap hl hmx hzp =>
                rename_i cap b off sz' arr ty
                obtain ⟨_, _, _, rfl, _⟩ := arr_fit (r.obj m _ hm) hβ hzp
                refine opW_pure r (key _ _ _ _ _ hv bl bh (by omega) (by omega)) (.val (.one ?_)) rfl
                by_cases hcl : cap = l.toNat
                · have e1 : hh.toNat - l.toNat = 0 := by omega
                  rw [if_pos hcl, e1, show cap - l.toNat = 0 from by omega]
                  exact .ref0 hβ
                · rw [if_neg hcl]
                  have hmul : (q + l.toNat) * sz' + (cap - l.toNat) * sz' = q * sz' + cap * sz' := by
                    rw [← Nat.add_mul, ← Nat.add_mul]; congr 1; omega
                  have := RepC.ref (w := w) (I := I) (lo := q + l.toNat) (len := hh.toNat - l.toNat) (cap := cap - l.toNat) hβ hbk (by omega) (by omega) (by omega) hzp
                  simp only [Option.map_some, add_none]
                  rwa [Nat.add_mul, ← Nat.add_assoc] at this
              | ref0 hβ =>
                refine opW_pure r (key _ _ _ _ _ hv bl bh (by omega) (by omega)) (.val (.one ?_)) rfl
                have e1 : l.toNat = 0 := by omega
                have e2 : hh.toNat - l.toNat = 0 := by omega
                rw [e2, e1]
                simp only [Nat.sub_zero, if_true]
                exact .ref0 hβ
            · simp [HM.val] at hev
      · simp [HM.val] at hev
    · simp [HM.val] at hev
  · rename_i s es hg
    have hc := opd_cell he h1 hg
    split at hev
    · rename_i l hh gl gh
      split at hev
      · rename_i hb
        obtain ⟨hb1, hb2, hb3, hss⟩ := hb
        subst hss
        simp only [out1, HM.val, Option.some.injEq, Prod.mk.injEq] at hev
        obtain ⟨rfl, rfl⟩ := hev
        have bl := opt_bound (d := 0) he h2 gl hb1
        have bh := opt_bound (d := es.length) he h3 gh (by omega)
        generalize hv : a.eval y' = v at hc
        cases hc with
        | t ht => cases ht with
          | sl vals hcapx hszs hcc hr =>
            rename_i ad cap
            have hlen : ((es.take hh.toNat).drop l.toNat).length = hh.toNat - l.toNat := by simp; omega
            have hget : ∀ (i : Nat) c, ((es.take hh.toNat).drop l.toNat).flatten[i]? = some c → es.flatten[l.toNat * s + i]? = some c := fun i c hi => by
              rw [flatten_drop _ _ (fun e he => hszs e (List.mem_of_mem_take he)), flatten_take _ _ hszs, List.getElem?_drop, List.getElem?_take] at hi
              split at hi
              · exact hi
              · cases hi
            refine opW_pure r (key _ _ _ _ _ hv bl bh (by omega) (by omega)) (.val (.one (.t ?_))) rfl
            have := RepT.sl (w := w) (I := I) (a := if cap = l.toNat then ad else ad.map (·.add (l.toNat * s))) (cap := cap - l.toNat) (es := (es.take hh.toNat).drop l.toNat) (fun i => vals (l.toNat * s + i)) (by omega)
              (fun e he => hszs e (List.mem_of_mem_take (List.mem_of_mem_drop he))) (fun i c hi => by
                have hi' := hget i c hi
                obtain ⟨b, off, rfl, hI, hcell⟩ := hcc _ _ hi'
                have hne : ¬ cap = l.toNat := fun e => by
                  have : ((es.take hh.toNat).drop l.toNat).length = 0 := by omega
                  rw [List.eq_nil_of_length_eq_zero this] at hi
                  simp at hi
                rw [if_neg hne]
                exact ⟨b, off + l.toNat * s, by simp [add_none], hI, by rw [Nat.add_assoc]; exact hcell⟩) (fun i c hi => hr _ _ (hget i c hi))
            rwa [hlen] at this
      · simp [HM.val] at hev
    · simp [HM.val] at hev
  · rename_i s hg
    have hc := opd_cell he h1 hg
    split at hev
    · rename_i l hh gl gh
      split at hev
      · rename_i hb
        obtain ⟨rfl, rfl⟩ := hb
        simp only [out1, HM.val, Option.some.injEq, Prod.mk.injEq] at hev
        obtain ⟨rfl, rfl⟩ := hev
        have bl := opt_bound (d := 0) he h2 gl (by omega)
        have bh := opt_bound (d := 0) he h3 gh (by omega)
        generalize hv : a.eval y' = v at hc
        cases hc with
        | nils =>
          refine opW_pure r (key _ _ _ _ _ hv bl bh (by omega) (by simp)) (.val (.one ?_)) rfl
          exact .nils
      · simp [HM.val] at hev
    · simp [HM.val] at hev
  · simp [HM.val] at hev

end
end Go.Pur
