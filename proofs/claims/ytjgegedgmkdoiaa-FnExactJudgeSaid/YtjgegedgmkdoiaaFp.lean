/- Calls: the whole step. -/
import Derived.Test.YtjgegedgmkdoiaaFo
namespace Go.Pur
open Go
set_option linter.unusedSimpArgs false

def okFn (P : Program) (f : FuncId) : Bool :=
  match P.funcs[f]? with
  | some fn => fn.body.isSome && fn.name != "runtime.NumGoroutine"
  | none => false

/-- what a call comes to, over whatever memory -/
def CallOK (P : Program) (f : FuncId) (args : List AV) (objs : List LObj) (rs : List AV) (os : List LObj) : Prop :=
  objs.length ≤ os.length ∧
  ∀ (w : World) (I : Nat → Prop) (β : Beta) (O : Nm → Nat → Prop) (vs : Array Value), HRel w I β O (entryHeap 0 objs) → (∀ n x, β n = some x → n.1 = 0) → vs.size = args.length →
    (∀ (i : Nat) v x, vs[i]? = some v → args[i]? = some x → RepA w I β v x) →
    Calls P f vs w fun en w' => ∃ v I' β' O', en = .returned v ∧ HRel w' I' β' O' (entryHeap 0 os) ∧ RepE w' I' β' v (Ent.ofRes rs) ∧ (∀ i, i < objs.length → β' (0, i) = β (0, i)) ∧
      Evo (Owned O (entryHeap 0 objs)) w w' ∧ (∀ b, I b → I' b) ∧ (∀ b, I' b → I b ∨ w.heap.size ≤ b ∨ Owned O (entryHeap 0 objs) b) ∧ (∀ b, Owned O' (entryHeap 0 os) b → w.heap.size ≤ b ∨ Owned O (entryHeap 0 objs) b)

def GoodEF (P : Program) (ef : EF) : Prop := ∀ f args objs rs os, ef f args objs = some (rs, os) → okFn P f = true ∧ CallOK P f args objs rs os

section
variable {P : Program} {o : Oper} {a : Act} {w w1 w' : World} {slot : Nat} {I I' : Nat → Prop} {β β' : Beta} {O O' : Nm → Nat → Prop} {h h' : Nm → Option LObj} {e : Ent} {wr : Wr}

/-- cells and rows that come alone read the same whatever else is immutable -/
theorem RepC.fresh {v : Value} {c : Cell} (hc : RepC w I β v c) (hf : c.freshC = true) : RepC w I' β v c := by
  cases hc with
  | t ht => exact .t (ht.flat (by
      cases ht <;> first | rfl | simp [Cell.freshC] at hf))
  | nils => exact .nils
  | ptr h => exact .ptr h
  | ref h hb hcap hl hm hz => exact .ref h hb hcap hl hm hz
  | ref0 h => exact .ref0 h
  | pel h hz => exact .pel h hz
  | clo => simp [Cell.freshC] at hf
  | undef => exact .undef

theorem RepA.fresh {v : Value} {x : AV} (hr : RepA w I β v x) (hf : x.cells.all Cell.freshC = true) : RepA w I' β v x := by
  cases hr with
  | one hc => exact .one (hc.fresh (by simpa using hf))
  | agg hc => exact .agg ⟨hc.1, fun i v c hv hi => (hc.2 i v c hv hi).fresh (by rw [List.all_eq_true] at hf; exact hf c (List.mem_of_getElem? hi))⟩

theorem ObjRep.fresh {S : Nat → Prop} {n : Nm} {ob : LObj} (hob : ObjRep w I β S n ob) (hf : ob.freshO = true) : ObjRep w I' β S n ob := by
  cases hob with
  | row h1 hb hO hc =>
    refine .row h1 hb hO fun i c hi => ?_
    obtain ⟨v, h2, h3⟩ := hc i c hi
    exact ⟨v, h2, h3.fresh (by simp only [LObj.freshO, List.all_eq_true] at hf; exact hf c (List.mem_of_getElem? hi))⟩
  | arr0 h1 h0 => exact .arr0 h1 h0
  | arr vals Ss h1 hb hO hsz h0 hoff hc hx ht hsub hdis =>
    simp only [LObj.freshO] at hf
    exact .arr vals Ss h1 hb hO hsz h0 hoff hc hx (fun hown => by rw [hf] at hown; cases hown) hsub hdis

theorem Moves.moreI (hi : ∀ b, I b → I' b) : Moves w w I I' β β := ⟨fun _ _ => rfl, hi, fun _ _ hh => hh, fun _ arr _ _ hb => ⟨arr, hb, rfl⟩⟩

theorem RepE.ofRes {v : Value} {rs : List AV} {f : AV → AV} (hr : RepE w I β v (Ent.ofRes rs)) (hf : ∀ v x, x ∈ rs → RepA w I β v x → RepA w' I' β' v (f x)) : RepE w' I' β' v (Ent.ofRes (rs.map f)) := by
  match rs, hr with
  | [], hr => cases hr with
    | tup hl hr => exact .tup (by simpa using hl) fun i v c hv hc => by simp at hc
  | [x], hr => cases hr with
    | val hr => exact .val (hf _ _ (by simp) hr)
  | x :: y :: rs, hr => cases hr with
    | tup hl hr =>
      refine .tup (by simpa using hl) fun i v c hv hc => ?_
      have hc' : ((x :: y :: rs).map f)[i]? = some c := hc
      rw [List.getElem?_map] at hc'
      obtain ⟨c', hc2, rfl⟩ := Option.map_eq_some_iff.1 hc'
      exact hf _ _ (List.mem_of_getElem? hc2) (hr i v c' hv hc2)

/-- the objects behind a call, by their names -/
theorem putNews (slot : Nat) (ns : List Nm) (hnd : ns.Nodup) (hsl : ∀ n ∈ ns, n.1 ≠ slot) : ∀ (os : List LObj) (j : Nat) (h : Nm → Option LObj) (n : Nm),
    putWr h (newsOf slot ns j os) n =
      if n ∈ ns ∧ j ≤ ns.idxOf n ∧ ns.idxOf n < j + os.length then (os[ns.idxOf n - j]?).bind (objOut slot ns)
      else if n.1 = slot ∧ j ≤ ns.length + n.2 ∧ ns.length + n.2 < j + os.length then (os[ns.length + n.2 - j]?).bind (objOut slot ns)
      else h n
  | [], j, h, n => by
    simp only [newsOf, putWr, List.length_nil, Nat.add_zero]
    rw [if_neg (by omega), if_neg (by omega)]
  | ob :: os, j, h, n => by
    have ih := putNews slot ns hnd hsl os (j + 1) (upd h (nameOut slot ns j) (objOut slot ns ob)) n
    simp only [newsOf, putWr]
    rw [ih]
    simp only [List.length_cons]
    by_cases hn : n ∈ ns
    · have hns : n.1 ≠ slot := hsl n hn
      have hidx : ns.idxOf n < ns.length := List.idxOf_lt_length_of_mem hn
      have hget : ns[ns.idxOf n]? = some n := by rw [List.getElem?_eq_getElem hidx]; simp
      by_cases c1 : j + 1 ≤ ns.idxOf n ∧ ns.idxOf n < j + 1 + os.length
      · rw [if_pos ⟨hn, c1⟩, if_pos ⟨hn, by omega, by omega⟩, show ns.idxOf n - j = (ns.idxOf n - (j + 1)) + 1 from by omega, List.getElem?_cons_succ]
      · rw [if_neg (fun hc => c1 hc.2), if_neg (fun hc => hns hc.1)]
        by_cases c2 : ns.idxOf n = j
        · rw [if_pos ⟨hn, by omega, by omega⟩, c2, Nat.sub_self]
          rw [c2] at hget
          have hno : nameOut slot ns j = n := by simp [nameOut, hget]
          rw [hno, upd_same, List.getElem?_cons_zero]; rfl
        · rw [if_neg (fun hc => by omega), if_neg (fun hc => hns hc.1)]
          apply upd_other
          unfold nameOut
          cases hj : ns[j]? with
          | none => simp only; intro e; rw [e] at hns; exact hns rfl
          | some m =>
            simp only
            intro e
            subst e
            have hlt := (List.getElem?_eq_some_iff.1 hj)
            obtain ⟨hlt, he⟩ := hlt
            exact c2 (by rw [← he, hnd.idxOf_getElem])
    · rw [if_neg (fun hc => hn hc.1), if_neg (fun hc : n ∈ ns ∧ _ => hn hc.1)]
      by_cases hs : n.1 = slot
      · by_cases c1 : j + 1 ≤ ns.length + n.2 ∧ ns.length + n.2 < j + 1 + os.length
        · rw [if_pos ⟨hs, c1⟩, if_pos ⟨hs, by omega, by omega⟩, show ns.length + n.2 - j = (ns.length + n.2 - (j + 1)) + 1 from by omega, List.getElem?_cons_succ]
        · rw [if_neg (fun hc => c1 hc.2)]
          by_cases c2 : ns.length + n.2 = j
          · rw [if_pos ⟨hs, by omega, by omega⟩, c2, Nat.sub_self]
            have hj : ns[j]? = none := List.getElem?_eq_none (by omega)
            have hnm : n = (slot, j - ns.length) := by obtain ⟨x, y⟩ := n; simp at hs c2 ⊢; omega
            have hno : nameOut slot ns j = n := by rw [hnm]; simp [nameOut, hj]
            rw [hno, upd_same, List.getElem?_cons_zero]; rfl
          · rw [if_neg (fun hc => by omega)]
            apply upd_other
            unfold nameOut
            cases hj : ns[j]? with
            | none =>
              simp only
              intro e
              have := List.getElem?_eq_none_iff.1 hj
              rw [e] at c2; simp at c2; omega
            | some m =>
              simp only
              intro e; subst e
              exact hn (List.mem_of_getElem? hj)
      · rw [if_neg (fun hc => hs hc.1), if_neg (fun hc => hs hc.1)]
        apply upd_other
        unfold nameOut
        cases hj : ns[j]? with
        | none => simp only; intro e; rw [e] at hs; exact hs rfl
        | some m =>
          simp only
          intro e; subst e
          exact hn (List.mem_of_getElem? hj)

theorem placeOf_some {ns : List Nm} {n m : Nm} (hp : placeOf ns n = some m) : m = (0, ns.idxOf n) ∧ ns[ns.idxOf n]? = some n := by
  unfold placeOf at hp
  split at hp
  · rename_i hn
    have hn : n ∈ ns := by simpa using hn
    simp at hp
    refine ⟨hp.symm, ?_⟩
    rw [List.getElem?_eq_getElem (List.idxOf_lt_length_of_mem hn)]; simp
  · cases hp

/-- the callee's view of names -/
def calleeB (ns : List Nm) (β : Beta) : Beta := fun n => if n.1 = 0 then (match ns[n.2]? with | some m => β m | none => none) else none
def calleeO (ns : List Nm) (O : Nm → Nat → Prop) : Nm → Nat → Prop := fun n => if n.1 = 0 then (match ns[n.2]? with | some m => O m | none => fun _ => False) else fun _ => False

theorem over_place (ns : List Nm) (β : Beta) : Over (placeOf ns) β (calleeB ns β) := by
  intro n m x hp hx
  obtain ⟨rfl, h2⟩ := placeOf_some hp
  simp [calleeB, h2, hx]

theorem entry_rel (r : HRel w I β O h) {ns : List Nm} {os : List LObj} (c : Coll h ns os) : HRel w I (calleeB ns β) (calleeO ns O) (entryHeap 0 (os.map (LObj.ren (placeOf ns)))) := by
  have key : ∀ n ob', entryHeap 0 (os.map (LObj.ren (placeOf ns))) n = some ob' → ∃ m ob, n.1 = 0 ∧ ns[n.2]? = some m ∧ h m = some ob ∧ ob' = ob.ren (placeOf ns) := by
    intro n ob' hn
    rw [entryHeap_eq] at hn
    split at hn
    · rename_i h0
      rw [Nat.sub_zero, List.getElem?_map] at hn
      cases hq : os[n.2]? with
      | none => simp [hq] at hn
      | some ob =>
        have hlt : n.2 < ns.length := by rw [← c.len]; exact (List.getElem?_eq_some_iff.1 hq).1
        have hm : ns[n.2]? = some ns[n.2] := List.getElem?_eq_getElem hlt
        have hob := c.obj _ _ _ hm hq
        cases hh : h ns[n.2] with
        | none =>
          rw [hh] at hob
          simp at hob
          subst hob
          simp [hq, LObj.ren] at hn
        | some ob2 =>
          rw [hh] at hob
          simp at hob
          subst hob
          refine ⟨ns[n.2], ob, h0.1, hm, hh, ?_⟩
          cases ob with
          | gone => cases r.obj _ _ hh
          | row cs => simpa [hq, LObj.ren] using hn.symm
          | arr x y z => simpa [hq, LObj.ren] using hn.symm
    · cases hn
  refine r.ren (over_place ns β) (fun n => (ns[n.2]?).getD (0, 0)) (fun n ob' hn => ?_) (fun n k h1 h2 he => ?_)
  · obtain ⟨m, ob, h0, hm, hh, he⟩ := key n ob' hn
    refine ⟨ob, by simp [hm, hh], he, ?_, ?_⟩
    · simp [calleeB, h0, hm]
    · simp [calleeO, h0, hm]
  · cases hq1 : entryHeap 0 (os.map (LObj.ren (placeOf ns))) n with
    | none => exact absurd hq1 h1
    | some o1 =>
      cases hq2 : entryHeap 0 (os.map (LObj.ren (placeOf ns))) k with
      | none => exact absurd hq2 h2
      | some o2 =>
        obtain ⟨m1, _, a1, b1, _, _⟩ := key n o1 hq1
        obtain ⟨m2, _, a2, b2, _, _⟩ := key k o2 hq2
        simp only [b1, b2, Option.getD_some] at he
        subst he
        have h22 : n.2 = k.2 := (List.getElem?_inj (List.getElem?_eq_some_iff.1 b1).1 c.nd).1 (b1.trans b2.symm)
        obtain ⟨x, y⟩ := n
        obtain ⟨x', y'⟩ := k
        simp at a1 a2 h22
        rw [a1, a2, h22]

theorem HRel.moreI (r : HRel w I β O h) (hi : ∀ b, I b → I' b) (hn : ∀ n b, h n ≠ none → O n b → ¬ I' b) (hl : ∀ b, I' b → b < w.heap.size) : HRel w I' β O h :=
  ⟨fun n ob h1 => (r.obj n ob h1).moves (Moves.moreI hi) (fun _ _ => rfl) (fun _ h => h), r.dis, hn, r.lt, hl⟩

/-- after a call: names of the caller -/
def backB (slot : Nat) (ns : List Nm) (β β' : Beta) : Beta := fun n => match β n with
  | some x => some x
  | none => if n.1 = slot then β' (0, ns.length + n.2) else none
def backO (slot : Nat) (ns : List Nm) (O O' : Nm → Nat → Prop) : Nm → Nat → Prop := fun n =>
  if n ∈ ns then O' (0, ns.idxOf n) else if n.1 = slot then O' (0, ns.length + n.2) else O n

theorem doCall_sound {ef : EF} (good : GoodEF P ef) (r : HRel w I β O h) (hs : ∀ k, β (slot, k) = none) {f : FuncId} {args : List (Bool × AV)} {vs : Array Value} (hl : vs.size = args.length)
    (hr : ∀ (i : Nat) v p, vs[i]? = some v → args[i]? = some p → RepA w I β v p.2) (hev : (doCall ef slot f args).val h = some (e, wr)) :
    okFn P f = true ∧ Calls P f vs w fun en w' => ∃ v I' β' O', en = .returned v ∧ StepTo slot w w' I I' β β' O O' h (putWr h wr) ∧ RepE w' I' β' v e := by
  unfold doCall at hev
  rw [val_bind] at hev
  obtain ⟨as, has, hev⟩ := Option.bind_eq_some_iff.1 hev
  rw [val_bind] at hev
  obtain ⟨⟨ns, os⟩, hcol, hev⟩ := Option.bind_eq_some_iff.1 hev
  simp only at hev
  cases hef : ef f (as.map fun x => x.1.ren (placeOf ns)) (os.map (LObj.ren (placeOf ns))) with
  | none => simp [hef, HM.val] at hev
  | some ro =>
    obtain ⟨rs, os'⟩ := ro
    simp only [hef] at hev
    split at hev
    · rename_i hchk
      simp only [HM.val, Option.some.injEq, Prod.mk.injEq] at hev
      obtain ⟨rfl, rfl⟩ := hev
      simp only [Bool.and_eq_true, List.all_eq_true, Bool.or_eq_true] at hchk
      obtain ⟨⟨hslot0, hdisj⟩, hfresh⟩ := hchk
      let lent : List Nm := as.flatMap (·.2)
      have hdisj' : ∀ n ∈ lent, n ∉ ns := fun n hn hm => by
        have := hdisj n hn
        simp at this
        exact this hm
      obtain ⟨a1, a2⟩ := mapM_val has
      obtain ⟨coll, _⟩ := collect_spec _ _ _ _ _ _ (coll_nil (h := h)) hcol
      let Il : Nat → Prop := fun b => I b ∨ Lent O h lent b
      -- the arguments as the callee has them
      have hargs : ∀ (i : Nat) v x, vs[i]? = some v → (as.map fun x => x.1.ren (placeOf ns))[i]? = some x → RepA w Il (calleeB ns β) v x := by
        intro i v x hv hx
        rw [List.getElem?_map] at hx
        obtain ⟨p, hp, rfl⟩ := Option.map_eq_some_iff.1 hx
        have hlt : i < args.length := by rw [← a1]; exact (List.getElem?_eq_some_iff.1 hp).1
        have hpa : args[i]? = some args[i] := List.getElem?_eq_getElem hlt
        have h1 := arg_sound r (hr i v _ hv hpa) (a2 i _ _ hpa hp)
        have h2 : RepA w Il β v p.1 := h1.moves (Moves.moreI fun b hb => hb.imp id fun ⟨n, hn, x1, x2⟩ => ⟨n, List.mem_flatMap.2 ⟨p, List.mem_of_getElem? hp, hn⟩, x1, x2⟩)
        exact h2.ren (over_place ns β)
      have hrel0 := entry_rel r coll
      have hIl : ∀ b, Il b → b < w.heap.size := fun b hb => by
        rcases hb with hb | ⟨n, _, h1, h2⟩
        · exact r.ilt b hb
        · exact r.lt n b h1 h2
      -- who owns what, in the callee's names
      have entryLive : ∀ n, entryHeap 0 (os.map (LObj.ren (placeOf ns))) n ≠ none → ∃ m, n.1 = 0 ∧ ns[n.2]? = some m ∧ h m ≠ none := by
        intro n hn
        cases hq : entryHeap 0 (os.map (LObj.ren (placeOf ns))) n with
        | none => exact absurd hq hn
        | some ob' =>
          rw [entryHeap_eq] at hq
          split at hq
          · rename_i h0
            rw [Nat.sub_zero, List.getElem?_map] at hq
            cases hq2 : os[n.2]? with
            | none => simp [hq2] at hq
            | some ob =>
              have hlt : n.2 < ns.length := by rw [← coll.len]; exact (List.getElem?_eq_some_iff.1 hq2).1
              have hm : ns[n.2]? = some ns[n.2] := List.getElem?_eq_getElem hlt
              have hob := coll.obj _ _ _ hm hq2
              refine ⟨ns[n.2], h0.1, hm, fun hnone => ?_⟩
              rw [hnone] at hob
              simp at hob
              subst hob
              simp [hq2, LObj.ren] at hq
          · cases hq
      have ownedIn : ∀ b, Owned (calleeO ns O) (entryHeap 0 (os.map (LObj.ren (placeOf ns)))) b → ∃ m ∈ ns, h m ≠ none ∧ O m b := by
        rintro b ⟨n, hn, hb⟩
        obtain ⟨m, h0, hm, hh⟩ := entryLive n hn
        simp only [calleeO, h0, if_true, hm] at hb
        exact ⟨m, List.mem_of_getElem? hm, hh, hb⟩
      have hrel : HRel w Il (calleeB ns β) (calleeO ns O) (entryHeap 0 (os.map (LObj.ren (placeOf ns)))) := by
        refine hrel0.moreI (fun b hb => .inl hb) (fun n b hn hb hi => ?_) hIl
        obtain ⟨m, hm, hh, hmb⟩ := ownedIn b ⟨n, hn, hb⟩
        rcases hi with hi | ⟨k, hk, hk1, hk2⟩
        · exact r.imm m b hh hmb hi
        · have := r.dis k m b hk1 hh hk2 hmb
          subst this
          exact hdisj' k hk hm
      obtain ⟨hok, hlen, hcall⟩ := good f _ _ _ _ hef
      refine ⟨hok, (hcall w Il (calleeB ns β) (calleeO ns O) vs hrel (fun n x hx => by
        unfold calleeB at hx
        split at hx
        · assumption
        · cases hx) (by rw [hl]; simp [a1]) hargs).mono fun en w' hpost => ?_⟩
      obtain ⟨v, I', β', O', rfl, hrel', hres, hnames, hevo, hkeep, hnewI, hnewO⟩ := hpost
      have hlen' : ns.length ≤ os'.length := by rw [List.length_map, coll.len] at hlen; exact hlen
      have hbetaIn : ∀ i m, ns[i]? = some m → β' (0, i) = β m := fun i m hm => by
        have hi : i < ns.length := (List.getElem?_eq_some_iff.1 hm).1
        rw [hnames i (by rw [List.length_map, coll.len]; exact hi)]
        simp [calleeB, hm]
      have hslot : ∀ n ∈ ns, n.1 ≠ slot := fun n hn => by simpa using hslot0 n hn
      have hnosl : ∀ n : Nm, n.1 = slot → h n = none := fun n hn => by
        cases hq : h n with
        | none => rfl
        | some ob =>
          obtain ⟨x, hx⟩ := live_beta r (n := n) (by simp [hq])
          obtain ⟨p, q⟩ := n
          simp at hn; subst hn
          rw [hs q] at hx; cases hx
      let I2 : Nat → Prop := fun b => I' b ∧ ¬ Lent O h lent b
      have hover : Over (backOf slot ns) β' (backB slot ns β β') := by
        intro n0 m0 x hb hx
        unfold backOf at hb
        split at hb
        · rename_i h0
          obtain ⟨p, q⟩ := n0
          simp at h0; subst h0
          split at hb
          · have := hbetaIn q m0 hb
            rw [this] at hx
            simp [backB, hx]
          · rename_i hq
            simp only [Option.some.injEq] at hb
            subst hb
            simp only [backB, hs, if_true]
            rwa [show ns.length + (q - ns.length) = q from by simp at hq; omega]
        · cases hb
      -- what is there behind the call
      have classify : ∀ n ob2, putWr h (newsOf slot ns 0 os') n = some ob2 →
          (∃ i ob, entryHeap 0 os' (0, i) = some ob ∧ ob ∈ os' ∧ ob2 = ob.ren (backOf slot ns) ∧ backO slot ns O O' n = O' (0, i) ∧ ((n ∈ ns ∧ i = ns.idxOf n ∧ i < ns.length) ∨ (n ∉ ns ∧ n.1 = slot ∧ i = ns.length + n.2))) ∨
          (n ∉ ns ∧ n.1 ≠ slot ∧ h n = some ob2 ∧ backO slot ns O O' n = O n) := by
        intro n ob2 hn
        have hout : ∀ i, (os'[i]?).bind (objOut slot ns) = some ob2 → ∃ ob, entryHeap 0 os' (0, i) = some ob ∧ ob ∈ os' ∧ ob2 = ob.ren (backOf slot ns) := by
          intro i hb
          obtain ⟨ob, h1, h2⟩ := Option.bind_eq_some_iff.1 hb
          cases ob with
          | gone => simp [objOut] at h2
          | row cs =>
            simp only [objOut, Option.some.injEq] at h2
            exact ⟨_, by rw [entryHeap_eq, if_pos ⟨rfl, Nat.zero_le _⟩, Nat.sub_zero, h1], List.mem_of_getElem? h1, h2.symm⟩
          | arr x y z =>
            simp only [objOut, Option.some.injEq] at h2
            exact ⟨_, by rw [entryHeap_eq, if_pos ⟨rfl, Nat.zero_le _⟩, Nat.sub_zero, h1], List.mem_of_getElem? h1, h2.symm⟩
        rw [putNews slot ns coll.nd hslot] at hn
        split at hn
        · rename_i hc
          rw [Nat.sub_zero] at hn
          obtain ⟨ob, h1, h2, h3⟩ := hout _ hn
          exact .inl ⟨_, ob, h1, h2, h3, by simp [backO, hc.1], .inl ⟨hc.1, rfl, List.idxOf_lt_length_of_mem hc.1⟩⟩
        · rename_i hc
          have hnn : n ∉ ns := fun hm => hc ⟨hm, Nat.zero_le _, by have := List.idxOf_lt_length_of_mem hm; omega⟩
          split at hn
          · rename_i hc2
            rw [Nat.sub_zero] at hn
            obtain ⟨ob, h1, h2, h3⟩ := hout _ hn
            exact .inl ⟨_, ob, h1, h2, h3, by simp [backO, hnn, hc2.1], .inr ⟨hnn, hc2.1, rfl⟩⟩
          · have hns : n.1 ≠ slot := fun e => by rw [hnosl n e] at hn; cases hn
            exact .inr ⟨hnn, hns, hn, by simp [backO, hnn, hns]⟩
      have classifyL : ∀ n, putWr h (newsOf slot ns 0 os') n ≠ none →
          (∃ i, entryHeap 0 os' (0, i) ≠ none ∧ backO slot ns O O' n = O' (0, i) ∧ ((n ∈ ns ∧ i = ns.idxOf n ∧ i < ns.length) ∨ (n ∉ ns ∧ n.1 = slot ∧ i = ns.length + n.2))) ∨
          (n ∉ ns ∧ h n ≠ none ∧ backO slot ns O O' n = O n) := by
        intro n hn
        cases hq : putWr h (newsOf slot ns 0 os') n with
        | none => exact absurd hq hn
        | some ob2 =>
          rcases classify n ob2 hq with ⟨i, ob, h1, _, _, h4, h5⟩ | ⟨h1, _, h3, h4⟩
          · exact .inl ⟨i, by simp [h1], h4, h5⟩
          · exact .inr ⟨h1, by simp [h3], h4⟩
      have notIn : ∀ n b, n ∉ ns → h n ≠ none → O n b → ¬ Owned (calleeO ns O) (entryHeap 0 (os.map (LObj.ren (placeOf ns)))) b := fun n b hn hh ho hown => by
        obtain ⟨m, hm, hmh, hmb⟩ := ownedIn b hown
        have := r.dis n m b hh hmh ho hmb
        subst this
        exact hn hm
      have notI : ∀ b, I b → ¬ Owned (calleeO ns O) (entryHeap 0 (os.map (LObj.ren (placeOf ns)))) b := fun b hi hown => by
        obtain ⟨m, hm, hmh, hmb⟩ := ownedIn b hown
        exact r.imm m b hmh hmb hi
      have notL : ∀ b, I b → ¬ Lent O h lent b := fun b hi ⟨n, _, hn, ho⟩ => r.imm n b hn ho hi
      have mv : Moves w w' I I2 β (backB slot ns β β') := ⟨fun b hb => hevo.same b (r.ilt b hb) (notI b hb), fun b hb => ⟨hkeep b (.inl hb), notL b hb⟩, fun n x hx => by simp [backB, hx], hevo.rows⟩
      have reI : ∀ {S : Nat → Prop} {n : Nm} {ob : LObj}, ob ∈ os' → ObjRep w' I' β' S n ob → ObjRep w' I2 β' S n ob := fun hm hob => by
        rcases hfresh with he | ⟨_, hfo⟩
        · have he : lent = [] := List.isEmpty_iff.1 he
          refine hob.moves (Moves.moreI fun b hb => ⟨hb, fun ⟨n, hn, _⟩ => ?_⟩) (fun _ _ => rfl) (fun _ h => h)
          rw [he] at hn; simp at hn
        · exact hob.fresh (hfo _ hm)
      refine ⟨v, I2, backB slot ns β β', backO slot ns O O', rfl, ⟨⟨fun n ob2 hn => ?_, fun n k b h1 h2 o1 o2 => ?_, fun n b h1 o1 hi => ?_, fun n b h1 o1 => ?_, fun b hb => hrel'.ilt b hb.1⟩,
        mv.names, fun n x hx => ?_, hevo.mono fun b hb => ?_, mv.more, fun b hb => ?_, fun b hb => ?_⟩, ?_⟩
      · rcases classify n ob2 hn with ⟨i, ob, h1, h2, rfl, h4, h5⟩ | ⟨h1, h2, h3, h4⟩
        · rw [h4]
          have hob := reI h2 (hrel'.obj _ _ h1)
          have hsome : ∃ x, β' (0, i) = some x := by
            cases hob with
            | row hb => exact ⟨_, hb⟩
            | arr _ _ hb => exact ⟨_, hb⟩
            | arr0 hb => exact ⟨_, hb⟩
          obtain ⟨x, hx⟩ := hsome
          refine hob.ren hover ?_
          rcases h5 with ⟨hm, rfl, hlt⟩ | ⟨hm, hsl, rfl⟩
          · have hg : ns[ns.idxOf n]? = some n := by rw [List.getElem?_eq_getElem hlt]; simp
            have := hbetaIn _ n hg
            rw [hx] at this ⊢
            simp [backB, ← this]
          · obtain ⟨p, q⟩ := n
            simp at hsl; subst hsl
            simp [backB, hs]
        · rw [h4]
          exact (r.obj n ob2 h3).moves mv (fun b hb => hevo.same b (r.lt n b (by simp [h3]) hb) (notIn n b h1 (by simp [h3]) hb)) (fun _ h => h)
      · rcases classifyL n h1 with ⟨i, a1, a2, a3⟩ | ⟨a1, a2, a3⟩ <;> rcases classifyL k h2 with ⟨j, b1, b2, b3⟩ | ⟨b1, b2, b3⟩
        · rw [a2] at o1; rw [b2] at o2
          have hij := hrel'.dis _ _ b a1 b1 o1 o2
          simp at hij
          subst hij
          rcases a3 with ⟨c1, c2, c3⟩ | ⟨c1, c2, c3⟩ <;> rcases b3 with ⟨d1, d2, d3⟩ | ⟨d1, d2, d3⟩
          · have e1 : ns[i]? = some n := by rw [c2, List.getElem?_eq_getElem (by omega)]; simp
            have e2 : ns[i]? = some k := by rw [d2, List.getElem?_eq_getElem (by omega)]; simp
            rw [e1] at e2; exact Option.some.inj e2
          · omega
          · omega
          · obtain ⟨p, q⟩ := n; obtain ⟨p', q'⟩ := k
            simp at c2 d2 c3 d3; simp; omega
        · rw [a2] at o1; rw [b3] at o2
          rcases hnewO b ⟨_, a1, o1⟩ with hge | hown
          · have := r.lt k b b2 o2; omega
          · exact absurd hown (notIn k b b1 b2 o2)
        · rw [a3] at o1; rw [b2] at o2
          rcases hnewO b ⟨_, b1, o2⟩ with hge | hown
          · have := r.lt n b a2 o1; omega
          · exact absurd hown (notIn n b a1 a2 o1)
        · rw [a3] at o1; rw [b3] at o2
          exact r.dis n k b a2 b2 o1 o2
      · rcases classifyL n h1 with ⟨i, a1, a2, a3⟩ | ⟨a1, a2, a3⟩
        · rw [a2] at o1
          exact hrel'.imm _ b a1 o1 hi.1
        · rw [a3] at o1
          rcases hnewI b hi.1 with (hi2 | hi2) | hge | hown
          · exact r.imm n b a2 o1 hi2
          · exact hi.2 hi2
          · have := r.lt n b a2 o1; omega
          · exact notIn n b a1 a2 o1 hown
      · rcases classifyL n h1 with ⟨i, a1, a2, a3⟩ | ⟨a1, a2, a3⟩
        · rw [a2] at o1; exact hrel'.lt _ b a1 o1
        · rw [a3] at o1; exact Nat.lt_of_lt_of_le (r.lt n b a2 o1) hevo.size
      · unfold backB at hx
        split at hx
        · rename_i y hy; left; rw [hy]; exact hx
        · split at hx
          · rename_i hsl; exact .inr hsl
          · cases hx
      · obtain ⟨m, _, hmh, hmb⟩ := ownedIn b hb
        exact ⟨m, hmh, hmb⟩
      · rcases hnewI b hb.1 with (hi2 | hi2) | hge | hown
        · exact .inl hi2
        · exact absurd hi2 hb.2
        · exact .inr (.inl hge)
        · obtain ⟨m, _, hmh, hmb⟩ := ownedIn b hown
          exact .inr (.inr ⟨m, hmh, hmb⟩)
      · obtain ⟨n, hn, hb⟩ := hb
        rcases classifyL n hn with ⟨i, a1, a2, a3⟩ | ⟨a1, a2, a3⟩
        · rw [a2] at hb
          rcases hnewO b ⟨_, a1, hb⟩ with hge | hown
          · exact .inl hge
          · obtain ⟨m, _, hmh, hmb⟩ := ownedIn b hown
            exact .inr ⟨m, hmh, hmb⟩
        · rw [a3] at hb
          exact .inr ⟨n, a2, hb⟩
      · refine hres.ofRes fun v x hx hra => ?_
        have h2 : RepA w' I2 β' v x := by
          rcases hfresh with he | ⟨hfr, _⟩
          · have he : lent = [] := List.isEmpty_iff.1 he
            refine hra.moves (Moves.moreI fun b hb => ⟨hb, fun ⟨n, hn, _⟩ => ?_⟩)
            rw [he] at hn; simp at hn
          · exact hra.fresh (by rw [List.all_eq_true]; exact fun c hc => hfr x hx c hc)
        exact h2.ren hover
    · simp [HM.val] at hev

end
end Go.Pur
