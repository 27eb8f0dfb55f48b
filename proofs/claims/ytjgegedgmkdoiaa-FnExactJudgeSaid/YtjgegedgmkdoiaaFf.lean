/- New memory: rows of cells, rows of elements; the operations that make them. -/
import Derived.Test.YtjgegedgmkdoiaaFe
namespace Go.Pur
open Go

/-- a new block of cells at the heap's end (draws may have gone ahead) -/
structure Made (w w1 : World) (arr : Array Value) (ty : TypeId) : Prop where
  os : w1.os = w.os
  tape : w1.tape = w.tape
  output : w1.output = w.output
  heap : w1.heap = w.heap.push (.cells arr ty)

theorem Made.alloc (w : World) (arr : Array Value) (ty : TypeId) : Made w (w.alloc (.cells arr ty)) arr ty := ⟨rfl, rfl, rfl, rfl⟩
theorem Made.alloc_drew (w : World) (arr : Array Value) (ty : TypeId) : Made w (w.drew.alloc (.cells arr ty)) arr ty := ⟨rfl, rfl, rfl, rfl⟩

section
variable {P : Program} {o : Oper} {a : Act} {w w1 : World} {slot : Nat} {I : Nat → Prop} {β : Beta} {O : Nm → Nat → Prop} {h : Nm → Option LObj} {e : Ent} {wr : Wr} {arr : Array Value} {ty : TypeId}

theorem Made.new (m : Made w w1 arr ty) : w1.heap[w.heap.size]? = some (.cells arr ty (0, 0)) := by rw [m.heap]; simp
theorem Made.old (m : Made w w1 arr ty) {b : Nat} (hb : b < w.heap.size) : w1.heap[b]? = w.heap[b]? := by
  rw [m.heap, Array.getElem?_push_lt hb, Array.getElem?_eq_getElem hb]
theorem Made.size (m : Made w w1 arr ty) : w1.heap.size = w.heap.size + 1 := by rw [m.heap]; simp
theorem Made.evo (m : Made w w1 arr ty) (W : Nat → Prop) : Evo W w w1 :=
  ⟨m.os, m.tape, m.output, by rw [m.size]; omega, fun b hb _ => m.old hb, fun b arr ty fz hb => ⟨arr, by rw [m.old (Array.getElem?_eq_some_iff.1 hb).1]; exact hb, rfl⟩⟩

theorem live_beta (r : HRel w I β O h) {n : Nm} (hn : h n ≠ none) : ∃ x, β n = some x := by
  cases hq : h n with
  | none => exact absurd hq hn
  | some ob =>
    cases r.obj n ob hq with
    | row hβ => exact ⟨_, hβ⟩
    | arr _ _ hβ => exact ⟨_, hβ⟩
    | arr0 hβ => exact ⟨_, hβ⟩

theorem upd_names {β : Beta} {t : Nm} {x : Nat × Nat × Nat} (ht : β t = none) : ∀ n y, β n = some y → upd β t (some x) n = some y := by
  intro n y hn
  have : n ≠ t := fun e => by rw [e, ht] at hn; cases hn
  rw [upd_other _ _ _ this, hn]

theorem upd_fresh {β : Beta} {slot k : Nat} {x : Nat × Nat × Nat} : ∀ (n : Nm) y, upd β (slot, k) (some x) n = some y → β n = some y ∨ n.1 = slot := by
  intro n y hn
  by_cases e : n = (slot, k)
  · exact .inr (by rw [e])
  · rw [upd_other _ _ _ e] at hn; exact .inl hn

theorem create_row (r : HRel w I β O h) (hs : ∀ k, β (slot, k) = none) {cs : List Cell} (hr : RepL w I β arr.toList cs) (m : Made w w1 arr ty) :
    StepTo slot w w1 I I β (upd β (slot, 0) (some (w.heap.size, 0, 0))) O (upd O (slot, 0) (fun b => b = w.heap.size)) h (putWr h [((slot, 0), some (.row cs))]) := by
  have hb := hs 0
  have mv : Moves w w1 I I β (upd β (slot, 0) (some (w.heap.size, 0, 0))) :=
    ⟨fun b hi => m.old (r.ilt b hi), fun _ h => h, upd_names hb, (m.evo (fun _ => False)).rows⟩
  refine step1 (t := (slot, 0)) (ob := .row cs) r mv upd_fresh (m.evo _) (fun n hn => .inl ?_) ?_ ?_ (fun n hn => ?_) (fun n hn hne b hO => ?_) (fun b hO => ?_) (fun b hO => ?_) (fun b hi => .inl hi) (fun b hO hi => ?_)
  · simp [putWr, upd, hn]
  · simp [putWr, upd]
  · refine .row (b := w.heap.size) (off := 0) (upd_same _ _ _) m.new (by rw [upd_same]) fun i c hi => ?_
    have hlt : i < arr.toList.length := by rw [hr.1]; exact (List.getElem?_eq_some_iff.1 hi).1
    refine ⟨arr.toList[i], by simp at hlt ⊢, (hr.2 i _ c (by simp) hi).moves mv⟩
  · rw [upd_other _ _ _ hn]
  · exact m.old (r.lt n b (by simpa [putWr, upd, hn] using hne) hO)
  · rw [upd_same] at hO; left; omega
  · rw [upd_same] at hO; rw [m.size]; omega
  · rw [upd_same] at hO; have := r.ilt b hi; omega

theorem create_arr (r : HRel w I β O h) (hs : ∀ k, β (slot, k) = none) {vs : List Value} {ts : List T} {ns : List Nm} {u : Bool} {Ss : Nat → Nat → Prop} (g : Given w I O h vs ts ns u Ss)
    {sz : Nat} {es : List (List T)} (h0 : 0 < sz) (hsz : ∀ e ∈ es, e.length = sz) (hes : ∀ (i : Nat) c, es.flatten[i]? = some c → ts[i]? = some c)
    (harr : ∀ (i : Nat) v, vs[i]? = some v → arr[i]? = some v) (m : Made w w1 arr ty) :
    ∃ I' O', StepTo slot w w1 I I' β (upd β (slot, 0) (some (w.heap.size, 0, sz))) O O' h (putWr h (dead ns ++ [((slot, 0), some (.arr u sz es))])) := by
  have hb := hs 0
  let t : Nm := (slot, 0)
  have htn : t ∉ ns := fun hm => by
    obtain ⟨x, hx⟩ := live_beta r (g.live t hm)
    rw [hb] at hx; cases hx
  have hput : ∀ n, putWr h (dead ns ++ [(t, some (.arr u sz es))]) n = if n = t then some (.arr u sz es) else if n ∈ ns then none else h n := by
    intro n
    rw [putWr_append]
    by_cases e : n = t
    · subst e; simp [putWr, upd]
    · simp [putWr, upd, e, putWr_dead]
  have hoff : 0 + es.length * sz ≤ arr.size := by
    have hfl := flatten_length es hsz
    by_cases hz : es.flatten.length = 0
    · omega
    · have h1 := hes (es.flatten.length - 1) es.flatten[es.flatten.length - 1] (List.getElem?_eq_getElem (by omega))
      have h2 := (List.getElem?_eq_some_iff.1 h1).1
      have h2' : es.flatten.length - 1 < vs.length := by rw [g.len]; exact h2
      have h3 := harr (es.flatten.length - 1) vs[es.flatten.length - 1] (List.getElem?_eq_getElem h2')
      have h4 := (Array.getElem?_eq_some_iff.1 h3).1
      omega
  have vget : ∀ (i : Nat) c, es.flatten[i]? = some c → ∃ v, vs[i]? = some v ∧ ts[i]? = some c := fun i c hi => by
    have h1 := hes i c hi
    have hlt : i < vs.length := by rw [g.len]; exact (List.getElem?_eq_some_iff.1 h1).1
    exact ⟨vs[i], by simp, h1⟩
  cases u with
  | true =>
    have mv : Moves w w1 I I β (upd β (slot, 0) (some (w.heap.size, 0, sz))) := ⟨fun b hi => m.old (r.ilt b hi), fun _ h => h, upd_names hb, (m.evo (fun _ => False)).rows⟩
    refine ⟨I, upd O t (fun b => b = w.heap.size ∨ ∃ n ∈ ns, O n b), step1 (t := t) (ob := .arr true sz es) r mv upd_fresh (m.evo _) (fun n hn => ?_) ?_ ?_ (fun n hn => upd_other _ _ _ hn) (fun n hn hne b hO => ?_) (fun b hO => ?_) (fun b hO => ?_) (fun b hi => .inl hi) (fun b hO hi => ?_)⟩
    · rw [hput, if_neg hn]; by_cases h1 : n ∈ ns <;> simp [h1]
    · rw [hput, if_pos rfl]
    · refine .arr (b := w.heap.size) (off := 0) (fun i => arr.getD i Go.undef) Ss (upd_same _ _ _) m.new (by rw [upd_same]; exact .inl rfl) hsz h0 hoff (fun i c hi => ?_) (fun _ i c hi => ?_) (fun hx => by cases hx) (fun i x hx => ?_) g.dis
      · obtain ⟨v, h1, _⟩ := vget i c hi
        have h2 := harr i v h1
        rw [Nat.zero_add, Array.getD_eq_getD_getElem?, h2]; rfl
      · obtain ⟨v, h1, h3⟩ := vget i c hi
        have h2 := harr i v h1
        have : arr.getD i Go.undef = v := by rw [Array.getD_eq_getD_getElem?, h2]; rfl
        rw [this]
        refine (g.alone rfl i v c h1 h3).evo fun b hb => m.old ?_
        obtain ⟨n, hn, hx⟩ := g.sub i b hb
        exact r.lt n b (g.live n hn) hx
      · obtain ⟨n, hn, hx'⟩ := g.sub i x hx
        rw [upd_same]
        exact ⟨.inr ⟨n, hn, hx'⟩, fun e => by have := r.lt n x (g.live n hn) hx'; omega⟩
    · rw [hput, if_neg hn] at hne
      by_cases h1 : n ∈ ns
      · simp [h1] at hne
      · rw [if_neg h1] at hne; exact m.old (r.lt n b hne hO)
    · rw [upd_same] at hO
      rcases hO with hO | ⟨n, hn, hx⟩
      · left; omega
      · right; refine ⟨n, g.live n hn, hx, .inr ?_⟩
        rw [hput, if_neg (show n ≠ t from fun e => htn (e ▸ hn)), if_pos hn]
    · rw [upd_same] at hO; rw [m.size]
      rcases hO with hO | ⟨n, hn, hx⟩
      · omega
      · have := r.lt n b (g.live n hn) hx; omega
    · rw [upd_same] at hO
      rcases hO with hO | ⟨n, hn, hx⟩
      · have := r.ilt b hi; omega
      · exact r.imm n b (g.live n hn) hx hi
  | false =>
    have gone : ∀ b, (∃ n ∈ ns, O n b) → ∃ k, h k ≠ none ∧ O k b ∧ (k = t ∨ putWr h (dead ns ++ [(t, some (.arr false sz es))]) k = none) := by
      rintro b ⟨n, hn, hx⟩
      refine ⟨n, g.live n hn, hx, .inr ?_⟩
      rw [hput, if_neg (show n ≠ t from fun e => htn (e ▸ hn)), if_pos hn]
    have mv : Moves w w1 I (fun b => I b ∨ ∃ n ∈ ns, O n b) β (upd β (slot, 0) (some (w.heap.size, 0, sz))) := ⟨fun b hi => m.old (r.ilt b hi), fun _ h => .inl h, upd_names hb, (m.evo (fun _ => False)).rows⟩
    refine ⟨fun b => I b ∨ ∃ n ∈ ns, O n b, upd O t (fun b => b = w.heap.size), step1 (t := t) (ob := .arr false sz es) r mv upd_fresh (m.evo _) (fun n hn => ?_) ?_ ?_ (fun n hn => upd_other _ _ _ hn) (fun n hn hne b hO => ?_) (fun b hO => ?_) (fun b hO => ?_) (fun b hi => hi.imp id (gone b)) (fun b hO hi => ?_)⟩
    · rw [hput, if_neg hn]; by_cases h1 : n ∈ ns <;> simp [h1]
    · rw [hput, if_pos rfl]
    · refine .arr (b := w.heap.size) (off := 0) (fun i => arr.getD i Go.undef) (fun _ _ => False) (upd_same _ _ _) m.new (by rw [upd_same]) hsz h0 hoff (fun i c hi => ?_) (fun hx => by cases hx) (fun _ i c hi => ?_) (fun i x hx => hx.elim) (fun i j x hx => hx.elim)
      · obtain ⟨v, h1, _⟩ := vget i c hi
        have h2 := harr i v h1
        rw [Nat.zero_add, Array.getD_eq_getD_getElem?, h2]; rfl
      · obtain ⟨v, h1, h3⟩ := vget i c hi
        have h2 := harr i v h1
        have : arr.getD i Go.undef = v := by rw [Array.getD_eq_getD_getElem?, h2]; rfl
        rw [this]
        refine (g.data i v c h1 h3).evo (fun b hb => m.old ?_) fun _ hb => hb
        rcases hb with hb | ⟨n, hn, hx⟩
        · exact r.ilt b hb
        · exact r.lt n b (g.live n hn) hx
    · rw [hput, if_neg hn] at hne
      by_cases h1 : n ∈ ns
      · simp [h1] at hne
      · rw [if_neg h1] at hne; exact m.old (r.lt n b hne hO)
    · rw [upd_same] at hO; left; omega
    · rw [upd_same] at hO; rw [m.size]; omega
    · rw [upd_same] at hO
      rcases hi with hi | ⟨n, hn, hx⟩
      · have := r.ilt b hi; omega
      · have := r.lt n b (g.live n hn) hx; omega

/-! ### alloc, box -/

theorem zeroT_some {t : TypeId} {z : Value} (h : zeroT P t = some z) (w : World) : (zeroValue t).run P w = .ok z w := by
  unfold zeroT at h
  cases hq : P.info? t with
  | none => simp [hq] at h
  | some i => simp [hq] at h; simp [zeroValue, typeInfo, hq, h]

theorem okOp_alc {x : Op} {z : List Cell} (h : okOp P x (.alc z) = true) : ∃ t v, x = .alloc t ∧ zeroT P t = some v ∧ okCells v.cells.toList z = true := by
  cases x <;> simp [okOp, Option.any_eq_true] at h
  obtain ⟨v, h1, h2⟩ := h
  exact ⟨_, v, rfl, h1, h2⟩

theorem run_alloc {t : TypeId} {v : Value} (hz : o.op = .alloc t) (h1 : zeroT P t = some v) (w : World) : (execOp a.eval o).run P w = .ok (.value (.pointer (some ⟨w.heap.size, 0, none⟩))) (w.alloc (.cells v.cells t)) := by
  have hr := zeroT_some h1 w
  unfold execOp
  rw [hz]
  simp [Instr.alloc, hr, newVar, newRow]

theorem sound_alc {ef : EF} {env : Nat → Ent} {z : List Cell} (r : HRel w I β O h) (hs : ∀ k, β (slot, k) = none) (hok : okOp P o.op (.alc z) = true) (hev : (evOp ef slot env (.alc z)).val h = some (e, wr)) :
    OpW P o a w slot I β O h e wr := by
  obtain ⟨t, v, hz, h1, h2⟩ := okOp_alc hok
  simp only [evOp, HM.val, Option.some.injEq, Prod.mk.injEq] at hev
  obtain ⟨rfl, rfl⟩ := hev
  exact opW_value (run_alloc hz h1 w) (create_row r hs (okCells_rep h2 w I β) (.alloc w v.cells t)) (.val (.one (by have := RepC.ptr (w := w.alloc (.cells v.cells t)) (I := I) (n := (slot, 0)) (i := 0) (upd_same β (slot, 0) (some (w.heap.size, 0, 0))); simpa using this)))

theorem okOp_alcA {x : Op} {sz n : Nat} {z : List T} (h : okOp P x (.alcA sz n z) = true) : ∃ t v, x = .alloc t ∧ zeroT P t = some v ∧ okCells v.cells.toList ((List.replicate n z).flatten.map .t) = true ∧ z.length = sz ∧ 0 < sz := by
  cases x <;> simp [okOp, Option.any_eq_true] at h
  obtain ⟨⟨⟨v, h1, h2⟩, h3⟩, h4⟩ := h
  exact ⟨_, v, rfl, h1, by simpa using h2, h3, h4⟩

/-- a cell that refers to nothing -/
def isZT : T → Bool
  | .v _ => true
  | .sl _ [] => true
  | _ => false

/-- constants as given cells -/
theorem given_flat {vs : List Value} {ts : List T} (hr : RepL w I β vs (ts.map .t)) (hv : ts.all isZT = true) : Given w I O h vs ts [] true (fun _ _ => False) := by
  refine ⟨by simpa using hr.1, by simp, by simp, by simp, fun i v t h1 h2 => ?_, fun _ i v t h1 h2 => ?_⟩
  · have := hr.2 i v (.t t) h1 (by simp [h2])
    cases this with
    | t ht => exact ht.evo (fun _ _ => rfl) fun b hb => .inl hb
  · have := hr.2 i v (.t t) h1 (by simp [h2])
    cases this with
    | t ht =>
      have hz : isZT t = true := by rw [List.all_eq_true] at hv; exact hv t (List.mem_of_getElem? h2)
      cases ht with
      | v hf => exact .v hf
      | sl =>
        rename_i es _ _ _ _ _
        cases es with
        | nil => exact .nil
        | cons => simp [isZT] at hz
      | pt => simp [isZT] at hz
      | fn => simp [isZT] at hz

theorem okCells_flat {vs : List Value} {ts : List T} (h : okCells vs (ts.map .t) = true) : ts.all isZT = true := by
  induction ts generalizing vs with
  | nil => rfl
  | cons t ts ih =>
    cases vs with
    | nil => simp [okCells] at h
    | cons v vs =>
      simp only [List.map_cons, okCells, Bool.and_eq_true] at h
      simp only [List.all_cons, Bool.and_eq_true]
      refine ⟨?_, ih h.2⟩
      have h1 := h.1
      cases t with
      | v => rfl
      | sl s es =>
        cases es with
        | nil => rfl
        | cons => cases v <;> simp [okCell] at h1
      | pt => cases v <;> simp [okCell] at h1
      | fn => cases v <;> simp [okCell] at h1
      | ifc => cases v <;> simp [okCell] at h1

theorem sound_alcA {ef : EF} {env : Nat → Ent} {sz n : Nat} {z : List T} (r : HRel w I β O h) (hs : ∀ k, β (slot, k) = none) (hok : okOp P o.op (.alcA sz n z) = true) (hev : (evOp ef slot env (.alcA sz n z)).val h = some (e, wr)) :
    OpW P o a w slot I β O h e wr := by
  obtain ⟨t, v, hz, h1, h2, h3, h4⟩ := okOp_alcA hok
  simp only [evOp, HM.val, Option.some.injEq, Prod.mk.injEq] at hev
  obtain ⟨rfl, rfl⟩ := hev
  have g : Given w I O h v.cells.toList (List.replicate n z).flatten [] true (fun _ _ => False) := given_flat (okCells_rep h2 w I β) (okCells_flat h2)
  obtain ⟨I', O', s⟩ := create_arr r hs g (sz := sz) (es := List.replicate n z) h4 (fun e he => by rw [(List.mem_replicate.1 he).2, h3]) (fun i c hi => hi) (fun i v hv => by simpa using hv) (.alloc w v.cells t)
  refine opW_value (run_alloc hz h1 w) (wr := [((slot, 0), some (.arr true sz (List.replicate n z)))]) (by simpa [dead] using s) (.val (.one ?_))
  have := RepC.pel (w := w.alloc (.cells v.cells t)) (I := I') (n := (slot, 0)) (i := 0) (j := 0) (b := w.heap.size) (off := 0) (sz := sz) (upd_same β (slot, 0) (some (w.heap.size, 0, sz))) h4
  simpa using this

theorem okOp_box {x : Op} {y : Opd} (h : okOp P x (.box y) = true) : ∃ t z, x = .box t z ∧ okOpd z y = true := by
  cases x <;> simp [okOp] at h
  exact ⟨_, _, rfl, h⟩
theorem okOp_boxA {x : Op} {sz : Nat} {y : Opd} (h : okOp P x (.boxA sz y) = true) : ∃ t z, x = .box t z ∧ okOpd z y = true ∧ 0 < sz := by
  cases x <;> simp [okOp] at h
  exact ⟨_, _, rfl, h⟩

theorem run_box {t : TypeId} {z : Operand} (hz : o.op = .box t z) (w : World) : (execOp a.eval o).run P w = .ok (.value (.pointer (some ⟨w.heap.size, 0, none⟩))) (w.alloc (.cells (a.eval z).cells t)) := by
  unfold execOp
  rw [hz]
  simp [Instr.box, newVar, newRow]

theorem sound_box {ef : EF} {env : Nat → Ent} {y : Opd} (r : HRel w I β O h) (he : EnvRep w I β a env) (hs : ∀ k, β (slot, k) = none) (hok : okOp P o.op (.box y) = true) (hev : (evOp ef slot env (.box y)).val h = some (e, wr)) :
    OpW P o a w slot I β O h e wr := by
  obtain ⟨t, z, hz, h1⟩ := okOp_box hok
  simp only [evOp] at hev
  split at hev
  · rename_i av hg
    obtain ⟨hg1, hd⟩ := opd_full hg
    simp only [HM.val, Option.some.injEq, Prod.mk.injEq] at hev
    obtain ⟨rfl, rfl⟩ := hev
    obtain ⟨hr, _⟩ := repA_cells (opd_rep he h1 hg1) hd
    exact opW_value (run_box hz w) (create_row r hs hr (.alloc w _ t)) (.val (.one (by have := RepC.ptr (w := w.alloc (.cells (a.eval z).cells t)) (I := I) (n := (slot, 0)) (i := 0) (upd_same β (slot, 0) (some (w.heap.size, 0, 0))); simpa using this)))
  · simp [HM.val] at hev

theorem chunk_flatten {sz : Nat} : ∀ (n : Nat) (cs : List T) (i : Nat) c, (chunk sz cs n).flatten[i]? = some c → n * sz ≤ cs.length → cs[i]? = some c
  | 0, cs, i, c, h, _ => by simp [chunk] at h
  | n + 1, cs, i, c, h, hl => by
    simp only [chunk, List.flatten_cons] at h
    have e : (n + 1) * sz = n * sz + sz := by rw [Nat.add_mul]; omega
    have hlen : (cs.take sz).length = sz := by simp; omega
    by_cases hi : i < sz
    · rw [List.getElem?_append_left (by omega), List.getElem?_take_of_lt hi] at h; exact h
    · rw [List.getElem?_append_right (by omega), hlen] at h
      have := chunk_flatten n (cs.drop sz) _ c h (by simp; omega)
      rw [List.getElem?_drop] at this
      rwa [show sz + (i - sz) = i from by omega] at this

theorem chunk_size {sz : Nat} : ∀ (n : Nat) (cs : List T), n * sz ≤ cs.length → ∀ e ∈ chunk sz cs n, e.length = sz
  | 0, cs, _, e, h => by simp [chunk] at h
  | n + 1, cs, hl, e, h => by
    have e2 : (n + 1) * sz = n * sz + sz := by rw [Nat.add_mul]; omega
    simp only [chunk, List.mem_cons] at h
    rcases h with rfl | h
    · simp; omega
    · exact chunk_size n (cs.drop sz) (by simp; omega) e h

theorem flatten_single (cs : List T) : (cs.map fun c => [c]).flatten = cs := by
  induction cs with
  | nil => rfl
  | cons c cs ih => simp [ih]

theorem rowsOf_ok {sz : Nat} (h0 : 0 < sz) (cs : List T) : (∀ e ∈ rowsOf sz cs, e.length = sz) ∧ ∀ (i : Nat) c, (rowsOf sz cs).flatten[i]? = some c → cs[i]? = some c := by
  unfold rowsOf
  split
  · rename_i h1
    subst h1
    exact ⟨fun e he => by obtain ⟨c, _, rfl⟩ := List.mem_map.1 he; rfl, fun i c h => by rwa [flatten_single] at h⟩
  · have := Nat.div_mul_le_self cs.length sz
    exact ⟨chunk_size _ _ this, fun i c h => chunk_flatten _ _ i c h this⟩

theorem sound_boxA {ef : EF} {env : Nat → Ent} {sz : Nat} {y : Opd} (r : HRel w I β O h) (he : EnvRep w I β a env) (hs : ∀ k, β (slot, k) = none) (hok : okOp P o.op (.boxA sz y) = true) (hev : (evOp ef slot env (.boxA sz y)).val h = some (e, wr)) :
    OpW P o a w slot I β O h e wr := by
  obtain ⟨t, z, hz, h1, h0⟩ := okOp_boxA hok
  simp only [evOp] at hev
  split at hev
  · rename_i av hg
    obtain ⟨hg1, hd⟩ := opd_full hg
    rw [val_bind] at hev
    obtain ⟨⟨ts, ns, u⟩, hgv, hev⟩ := Option.bind_eq_some_iff.1 hev
    simp only [HM.val, Option.some.injEq, Prod.mk.injEq] at hev
    obtain ⟨rfl, rfl⟩ := hev
    obtain ⟨hr, _⟩ := repA_cells (opd_rep he h1 hg1) hd
    obtain ⟨Ss, g⟩ := give_all r hr hgv
    obtain ⟨k1, k2⟩ := rowsOf_ok h0 ts
    obtain ⟨I', O', s⟩ := create_arr r hs g h0 k1 k2 (arr := (a.eval z).cells) (fun i v hv => by simpa using hv) (.alloc w (a.eval z).cells t)
    refine opW_value (run_box hz w) s (.val (.one ?_))
    have := RepC.pel (w := w.alloc (.cells (a.eval z).cells t)) (I := I') (n := (slot, 0)) (i := 0) (j := 0) (b := w.heap.size) (off := 0) (sz := sz) (upd_same β (slot, 0) (some (w.heap.size, 0, sz))) h0
    simpa using this
  · simp [HM.val] at hev

end
end Go.Pur
