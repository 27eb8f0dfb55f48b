/- copy; names given anew; what is read off own memory. -/
import Derived.Test.YtjgegedgmkdoiaaFm
namespace Go.Pur
open Go
set_option linter.unusedSimpArgs false

section
variable {P : Program} {o : Oper} {a : Act} {w w1 : World} {slot : Nat} {I I' : Nat → Prop} {β β' : Beta} {O O' : Nm → Nat → Prop} {h h' : Nm → Option LObj} {e : Ent} {wr : Wr} {arr : Array Value} {ty : TypeId}

theorem okOp_cpy {x : Op} {sz : Nat} {y z : Opd} (h : okOp P x (.cpy sz y z) = true) :
    ∃ t t' el y' z', x = .call { callee := .builtin .copy, args := #[y', z'], argTypes := #[t, t'] } ∧ okOpd y' y = true ∧ okOpd z' z = true ∧ 0 < sz ∧ P.underlying t = some (.slice el) ∧ sizeT P el = some sz := by
  cases x <;> try (simp [okOp] at h; done)
  rename_i c
  obtain ⟨callee, args, ts⟩ := c
  cases callee <;> try (simp [okOp] at h; done)
  rename_i b
  cases b <;> try (simp [okOp] at h; done)
  simp only [okOp] at h
  split at h
  · rename_i y' z' t t' ha ht
    simp only [Bool.and_eq_true, Option.any_eq_true, beq_iff_eq, decide_eq_true_eq, Bool.or_eq_true] at h
    obtain ⟨⟨⟨⟨h1, h2⟩, h0⟩, el, h3, h4⟩, h9⟩ := h
    exact ⟨t, t', el, y', z', by rw [toList_two ha, toList_two ht], h1, h2, h0, elemT_some h3, h4⟩
  · cases h

theorem Given.take {vs : List Value} {ts : List T} {ns : List Nm} {u : Bool} {S : Nat → Nat → Prop} (g : Given w I O h vs ts ns u S) (k : Nat) : Given w I O h (vs.take k) (ts.take k) ns u S := by
  refine ⟨by simp [g.len], g.live, g.sub, g.dis, fun i v t hv ht => ?_, fun hu i v t hv ht => ?_⟩
  · rw [List.getElem?_take] at hv ht
    split at hv
    · rename_i hi; rw [if_pos hi] at ht; exact g.data i v t hv ht
    · cases hv
  · rw [List.getElem?_take] at hv ht
    split at hv
    · rename_i hi; rw [if_pos hi] at ht; exact g.alone hu i v t hv ht
    · cases hv

theorem sound_cpy {ef : EF} {env : Nat → Ent} {sz : Nat} {y z : Opd} (r : HRel w I β O h) (he : EnvRep w I β a env) (hok : okOp P o.op (.cpy sz y z) = true) (hev : (evOp ef slot env (.cpy sz y z)).val h = some (e, wr)) :
    OpW P o a w slot I β O h e wr := by
  obtain ⟨t, t', el, y', z', hz, h1, h2, h0, hu, hs⟩ := okOp_cpy hok
  have hsz := sizeT_some hs w
  simp only [evOp] at hev
  split at hev
  · rename_i n lo len cy gx gy
    have hcx := opd_cell he h1 gx
    have hcy := opd_cell he h2 gy
    rw [val_bind] at hev
    obtain ⟨⟨es2, n2, u2⟩, hsrc, hev2⟩ := Option.bind_eq_some_iff.1 hev
    clear hev
    obtain ⟨vs, S2, src⟩ := src_of (P := P) r hcy h0 hsrc
    simp only at hev2
    split at hev2
    · rename_i hcond
      obtain ⟨hn2, hu2⟩ := hcond
      have hn2 : n2 = [] := List.eq_nil_of_length_eq_zero hn2
      subst hn2 hu2
      simp only [HM.val] at hev2
      cases hn : h n with
      | none => simp [hn, HM.val] at hev2
      | some ob =>
        cases ob with
        | row cs => simp [hn, HM.val] at hev2
        | gone => simp [hn, HM.val] at hev2
        | arr own s es =>
          simp only [hn] at hev2
          split at hev2
          · rename_i hcond
            obtain ⟨hss, hle⟩ := hcond
            subst hss
            simp only [HM.val, Option.some.injEq, Prod.mk.injEq] at hev2
            obtain ⟨rfl, rfl⟩ := hev2
            let k := min es2.length len
            have hk1 : k ≤ es2.length := Nat.min_le_left _ _
            have hk2 : k ≤ len := Nat.min_le_right _ _
            have hvl : vs.length = es2.length * s := by rw [src.given.len, flatten_length es2 src.size]
            have hks : k * s ≤ es2.length * s := Nat.mul_le_mul_right _ hk1
            have hg := src.given.take (k * s)
            rw [← flatten_take _ _ src.size] at hg
            have hfl2 : (es2.take k).flatten.length = k * s := by rw [flatten_length _ (fun e he => src.size e (List.mem_of_mem_take he)), List.length_take, Nat.min_eq_left hk1]
            have hf := src.cells w k rfl hk1
            have hl := src.len w
            have hcopy : ∀ ad cap w', a.eval y' = .slice ad len cap → ((if let some a := ad then storeCells a (vs.take (k * s)) else pure ()) : Sem Unit).run P w = .ok () w' →
                (execOp a.eval o).run P w = .ok (.value (.int .i64 k)) w' := fun ad cap w' hy hst => by
              unfold execOp
              rw [hz]
              simp only [resolve, invoke, builtin, Sem.run_bind, Sem.run_pure, Result.andThen_ok, List.map_toArray, List.map_cons, List.map_nil, hy, Builtin.copy_, List.getElem?_toArray, List.getElem?_cons_zero, List.getElem?_cons_succ, run_underlying hu, hl, hsz,
                show Nat.min es2.length len = k from rfl, hf, List.toList_toArray]
              cases ad with
              | none => simp at hst; simp [hst, goInt]
              | some ad => simp only at hst; simp [hst, goInt]
            have hob := r.obj n _ hn
            generalize hv : a.eval y' = v1 at hcx
            have key : ∀ b off (ad : Option Addr) cap, v1 = .slice ad len cap → β n = some (b, off, s) → 0 < s → (k = 0 ∨ ad = some ⟨b, off + lo * s, none⟩) →
                OpW P o a w slot I β O h (.val (.int .i64 (k : Nat))) [(n, some (.arr own s (es.take lo ++ es2.take k ++ es.drop (lo + k))))] := by
              intro b off ad cap hv1 hβ hzp hpl
              obtain ⟨arr, ty, hbk, _, hsz2, _, hfit⟩ := arr_fit hob hβ hzp
              have hmul1 : lo * s + k * s ≤ es.length * s := by rw [← Nat.add_mul]; exact Nat.mul_le_mul_right _ (by omega)
              have hvk : (vs.take (k * s)).length = k * s := by simp; omega
              have hes : ∀ e ∈ es.take lo ++ es2.take k ++ es.drop (lo + k), e.length = s := fun e he => by
                rcases List.mem_append.1 he with he | he
                · rcases List.mem_append.1 he with he | he
                  · exact hsz2 e (List.mem_of_mem_take he)
                  · exact src.size e (List.mem_of_mem_take he)
                · exact hsz2 e (List.mem_of_mem_drop he)
              obtain ⟨I', O', st⟩ := store_arr (slot := slot) (p := lo * s) (es' := es.take lo ++ es2.take k ++ es.drop (lo + k)) r hn hβ hg (by simp) hbk hes (by
                rw [List.length_append, List.length_append, List.length_take, List.length_take, List.length_drop]
                have : min lo es.length + min k es2.length + (es.length - (lo + k)) = es.length := by omega
                rw [this]; exact hfit) (by omega) (fun q c hq => by
                have l1 : (es.take lo).flatten.length = lo * s := by rw [flatten_length _ (fun e he => hsz2 e (List.mem_of_mem_take he)), List.length_take, Nat.min_eq_left (by omega)]
                rw [List.flatten_append, List.flatten_append] at hq
                rw [hfl2]
                by_cases c1 : q < lo * s
                · left
                  rw [List.append_assoc, List.getElem?_append_left (by omega), flatten_take _ _ hsz2, List.getElem?_take_of_lt c1] at hq
                  exact ⟨hq, by omega⟩
                · by_cases c2 : q < lo * s + k * s
                  · right
                    rw [List.append_assoc, List.getElem?_append_right (by omega), List.getElem?_append_left (by omega), l1] at hq
                    exact ⟨by omega, by omega, hq⟩
                  · left
                    rw [List.getElem?_append_right (by rw [List.length_append]; omega), List.length_append, l1, hfl2, flatten_drop _ _ hsz2, List.getElem?_drop] at hq
                    rw [show (lo + k) * s + (q - (lo * s + k * s)) = q from by rw [Nat.add_mul]; omega] at hq
                    exact ⟨hq, by omega⟩)
              rw [Bool.and_true] at st
              refine opW_value (hcopy ad cap _ (by rw [hv, hv1]) ?_) (by simpa [dead] using st) (repV (x := .int .i64 k) rfl)
              rcases hpl with hk0 | rfl
              · have hnil : vs.take (k * s) = [] := by rw [hk0]; simp
                have hself : spliceA arr (off + lo * s) [] = arr := by simp [spliceA]
                rw [hnil, hself, setRow_self w b arr ty (0, 0) hbk]
                cases ad <;> simp [storeCells]
              · have := run_storeCells_at P b (off + lo * s) ty (vs.take (k * s)) 0 arr w hbk (by omega) (fun v hv => src.one v (List.mem_of_mem_take hv))
                simpa [spliceA] using this
            cases hcx with
            | ref hβ hbk hcap hlc hmx hzp =>
              obtain ⟨_, _, _, rfl, _⟩ := arr_fit hob hβ hzp
              exact key _ _ _ _ rfl hβ hzp (.inr rfl)
            | ref0 hβ =>
              rename_i ad x
              obtain ⟨b, off, szn⟩ := x
              by_cases hph : szn = 0
              · subst hph
                have hes0 : es = [] ∧ 0 < s := by
                  cases hob with
                  | arr vals Ss hβ' hb' hO hsz h03 => rw [hβ] at hβ'; simp at hβ'; omega
                  | arr0 _ h00 => exact ⟨rfl, h00⟩
                obtain ⟨rfl, h00⟩ := hes0
                have hk0 : k = 0 := by omega
                have hput : ∀ j, putWr h [(n, some (.arr own s []))] j = if j = n then some (.arr own s []) else h j := fun j => by simp [putWr, upd]
                have mv : Moves w w I I β β := ⟨fun _ _ => rfl, fun _ hb => hb, fun _ _ hh => hh, fun _ arr _ _ hb => ⟨arr, hb, rfl⟩⟩
                have st : StepTo slot w w I I β β O O h (putWr h [(n, some (.arr own s []))]) := step1 (t := n) (ob := .arr own s []) r mv (fun _ _ h => .inl h) (.refl _ _) (fun j hj => .inl (by rw [hput, if_neg hj])) (by rw [hput, if_pos rfl]) (.arr0 hβ h00) (fun j hj => rfl)
                  (fun _ _ _ _ _ => rfl) (fun x hx => .inr ⟨n, by simp [hn], hx, .inl rfl⟩) (fun x hx => r.lt n x (by simp [hn]) hx) (fun x hx => .inl hx) (fun x hx hi => r.imm n x (by simp [hn]) hx hi)
                refine opW_value (hcopy ad 0 w (by rw [hv]) ?_) (by simpa [hk0] using st) (repV (x := .int .i64 k) rfl)
                rw [hk0]
                cases ad <;> simp [storeCells]
              obtain ⟨_, _, _, rfl, _⟩ := arr_fit hob hβ (by omega)
              exact key _ _ _ _ rfl hβ (by omega) (.inl (by omega))
          · simp [HM.val] at hev2
    · simp [HM.val] at hev2
  · simp [HM.val] at hev

/-! ### names given anew -/

/-- names go over as the places do -/
def Over (ρ : Nm → Option Nm) (β β' : Beta) : Prop := ∀ n m x, ρ n = some m → β n = some x → β' m = some x

theorem renL_get {ρ : Nm → Option Nm} {cs : List Cell} (i : Nat) : (Cell.renL ρ cs)[i]? = (cs[i]?).map (Cell.ren ρ) := by
  induction cs generalizing i with
  | nil => simp [Cell.renL]
  | cons c cs ih => cases i <;> simp [Cell.renL, ih]
theorem renL_length {ρ : Nm → Option Nm} {cs : List Cell} : (Cell.renL ρ cs).length = cs.length := by
  induction cs with
  | nil => rfl
  | cons c cs ih => simp [Cell.renL, ih]

theorem RepC.ren {ρ : Nm → Option Nm} (ho : Over ρ β β') {v : Value} {c : Cell} (hc : RepC w I β v c) : RepC w I β' v (c.ren ρ) := by
  induction hc with
  | t h => simp only [Cell.ren]; exact .t h
  | nils => simp only [Cell.ren]; exact .nils
  | ptr h =>
    simp only [Cell.ren]
    split
    · rename_i m hm; exact .ptr (ho _ _ _ hm h)
    · exact .undef
  | ref h hb hcap hl hm hz =>
    simp only [Cell.ren]
    split
    · rename_i m hm'; exact .ref (ho _ _ _ hm' h) hb hcap hl hm hz
    · exact .undef
  | ref0 h =>
    simp only [Cell.ren]
    split
    · rename_i m hm'; exact .ref0 (ho _ _ _ hm' h)
    · exact .undef
  | pel h hz =>
    simp only [Cell.ren]
    split
    · rename_i m hm; exact .pel (ho _ _ _ hm h) hz
    · exact .undef
  | clo h1 h2 _ _ ih1 ih2 =>
    simp only [Cell.ren]
    refine .clo (by rw [renL_length]; exact h1) (by rw [renL_length]; exact h2) (fun i v c hv hc => ?_) (fun i v c hv hc => ?_)
    · rw [renL_get] at hc
      obtain ⟨c', hc', rfl⟩ := Option.map_eq_some_iff.1 hc
      exact ih1 i v c' hv hc'
    · rw [renL_get] at hc
      obtain ⟨c', hc', rfl⟩ := Option.map_eq_some_iff.1 hc
      exact ih2 i v c' hv hc'
  | undef => simp only [Cell.ren]; exact .undef

theorem RepL.ren {ρ : Nm → Option Nm} (ho : Over ρ β β') {vs : List Value} {cs : List Cell} (hr : RepL w I β vs cs) : RepL w I β' vs (Cell.renL ρ cs) :=
  ⟨by rw [renL_length]; exact hr.1, fun i v c hv hc => by
    rw [renL_get] at hc
    obtain ⟨c', hc', rfl⟩ := Option.map_eq_some_iff.1 hc
    exact (hr.2 i v c' hv hc').ren ho⟩

theorem RepA.ren {ρ : Nm → Option Nm} (ho : Over ρ β β') {v : Value} {x : AV} (hr : RepA w I β v x) : RepA w I β' v (x.ren ρ) := by
  cases hr with
  | one h => exact .one (h.ren ho)
  | agg h => exact .agg (h.ren ho)

theorem RepE.ren {ρ : Nm → Option Nm} (ho : Over ρ β β') {v : Value} {x : Ent} (hr : RepE w I β v x) : RepE w I β' v (x.ren ρ) := by
  cases hr with
  | nil => exact .nil
  | val h => exact .val (h.ren ho)
  | tup hl hr =>
    refine .tup (by simpa using hl) fun i v c hv hc => ?_
    rw [List.getElem?_map] at hc
    obtain ⟨c', hc', rfl⟩ := Option.map_eq_some_iff.1 hc
    exact (hr i v c' hv hc').ren ho

theorem ObjRep.ren {ρ : Nm → Option Nm} (ho : Over ρ β β') {S : Nat → Prop} {n m : Nm} {ob : LObj} (hβ : β' m = β n) (hob : ObjRep w I β S n ob) : ObjRep w I β' S m (ob.ren ρ) := by
  cases hob with
  | row h1 hb hO hc =>
    refine .row (hβ.trans h1) hb hO fun i c hi => ?_
    rw [renL_get] at hi
    obtain ⟨c', hc', rfl⟩ := Option.map_eq_some_iff.1 hi
    obtain ⟨v, h2, h3⟩ := hc i c' hc'
    exact ⟨v, h2, h3.ren ho⟩
  | arr0 h1 h0 => exact .arr0 (hβ.trans h1) h0
  | arr vals Ss h1 hb hO hsz h0 hoff hc hx ht hsub hdis => exact .arr vals Ss (hβ.trans h1) hb hO hsz h0 hoff hc hx ht hsub hdis

theorem HRel.ren {ρ : Nm → Option Nm} (r : HRel w I β O h) (ho : Over ρ β β') (src : Nm → Nm)
    (hs : ∀ n ob', h' n = some ob' → ∃ ob, h (src n) = some ob ∧ ob' = ob.ren ρ ∧ β' n = β (src n) ∧ O' n = O (src n)) (inj : ∀ n k, h' n ≠ none → h' k ≠ none → src n = src k → n = k) : HRel w I β' O' h' := by
  have live : ∀ n, h' n ≠ none → h (src n) ≠ none ∧ O' n = O (src n) := fun n hn => by
    cases hq : h' n with
    | none => exact absurd hq hn
    | some ob' =>
      obtain ⟨ob, h1, _, _, h4⟩ := hs n ob' hq
      exact ⟨by rw [h1]; simp, h4⟩
  refine ⟨fun n ob' hn => ?_, fun n m b h1 h2 o1 o2 => ?_, fun n b h1 o1 => ?_, fun n b h1 o1 => ?_, r.ilt⟩
  · obtain ⟨ob, h1, rfl, h3, h4⟩ := hs n ob' hn
    rw [h4]
    exact (r.obj _ ob h1).ren ho h3
  · obtain ⟨a1, e1⟩ := live n h1
    obtain ⟨a2, e2⟩ := live m h2
    rw [e1] at o1; rw [e2] at o2
    exact inj n m h1 h2 (r.dis _ _ b a1 a2 o1 o2)
  · obtain ⟨a1, e1⟩ := live n h1
    rw [e1] at o1
    exact r.imm _ b a1 o1
  · obtain ⟨a1, e1⟩ := live n h1
    rw [e1] at o1
    exact r.lt _ b a1 o1

/-! ### the objects that are reached -/

structure Coll (h : Nm → Option LObj) (ns : List Nm) (os : List LObj) : Prop where
  len : os.length = ns.length
  nd : ns.Nodup
  obj : ∀ (i : Nat) n ob, ns[i]? = some n → os[i]? = some ob → ob = (h n).getD .gone

theorem collect_spec : ∀ (k : Nat) (q ns : List Nm) (os : List LObj) (ns' : List Nm) (os' : List LObj), Coll h ns os → (collect k q ns os).val h = some (ns', os') → Coll h ns' os' ∧ ns <+: ns'
  | 0, q, ns, os, ns', os', _, hv => by simp [collect, HM.val] at hv
  | k + 1, [], ns, os, ns', os', hc, hv => by
    simp only [collect, HM.val, Option.some.injEq, Prod.mk.injEq] at hv
    obtain ⟨rfl, rfl⟩ := hv
    exact ⟨hc, List.prefix_refl _⟩
  | k + 1, n :: q, ns, os, ns', os', hc, hv => by
    simp only [collect] at hv
    split at hv
    · exact collect_spec k q ns os ns' os' hc hv
    · rename_i hn
      have hn : n ∉ ns := by simpa using hn
      simp only [HM.val] at hv
      have grow : ∀ ob, ob = (h n).getD .gone → Coll h (ns ++ [n]) (os ++ [ob]) := fun ob hob => by
        refine ⟨by simp [hc.len], ?_, fun i m ob' hm ho => ?_⟩
        · rw [List.nodup_append]
          exact ⟨hc.nd, by simp, fun x hx y hy => by simp at hy; subst hy; exact fun e => hn (e ▸ hx)⟩
        · by_cases hi : i < ns.length
          · rw [List.getElem?_append_left hi] at hm
            rw [List.getElem?_append_left (by rw [hc.len]; exact hi)] at ho
            exact hc.obj i m ob' hm ho
          · rw [List.getElem?_append_right (by omega)] at hm
            rw [List.getElem?_append_right (by rw [hc.len]; omega), hc.len] at ho
            cases hj : i - ns.length with
            | zero => simp [hj] at hm ho; subst hm ho; exact hob
            | succ j => simp [hj] at hm
      cases hq : h n with
      | none =>
        simp only [hq] at hv
        obtain ⟨h1, h2⟩ := collect_spec k q _ _ ns' os' (grow .gone (by rw [hq]; rfl)) hv
        exact ⟨h1, (List.prefix_append _ _).trans h2⟩
      | some ob =>
        simp only [hq] at hv
        obtain ⟨h1, h2⟩ := collect_spec k _ _ _ ns' os' (grow ob (by rw [hq]; rfl)) hv
        exact ⟨h1, (List.prefix_append _ _).trans h2⟩

theorem coll_nil : Coll h [] [] := ⟨rfl, List.nodup_nil, fun i n ob hn => by simp at hn⟩

end
end Go.Pur
