/- Structs and rows built; rows made; closures. -/
import Derived.Test.YtjgegedgmkdoiaaFj
import Derived.Laws.MakeOwn
namespace Go.Pur
open Go
set_option linter.unusedSimpArgs false

section
variable {P : Program} {o : Oper} {a : Act} {w w1 : World} {slot : Nat} {I : Nat → Prop} {β : Beta} {O : Nm → Nat → Prop} {h : Nm → Option LObj} {e : Ent} {wr : Wr} {arr : Array Value} {ty : TypeId}

theorem mapM_get {α γ : Type} {f : α → Option γ} : ∀ {l : List α} {r : List γ}, l.mapM f = some r → ∀ i : Nat, r[i]? = (l[i]?).bind f
  | [], r, h, i => by simp at h; subst h; simp
  | x :: l, r, h, i => by
    simp only [List.mapM_cons, Option.bind_eq_bind, Option.pure_def, Option.bind_eq_some_iff, Option.some.injEq] at h
    obtain ⟨y, hy, r', hr, rfl⟩ := h
    cases i with
    | zero => simp [hy]
    | succ i => simpa using mapM_get hr i

theorem mapM_all {α γ : Type} {f : α → Option γ} : ∀ {l : List α}, (∀ x ∈ l, (f x).isSome = true) → ∃ r, l.mapM f = some r
  | [], _ => ⟨[], rfl⟩
  | x :: l, h => by
    obtain ⟨y, hy⟩ := Option.isSome_iff_exists.1 (h x (by simp))
    obtain ⟨r, hr⟩ := mapM_all (l := l) (fun z hz => h z (by simp [hz]))
    exact ⟨y :: r, by simp [hy, hr]⟩

theorem okOp_bld {x : Op} {z : List Cell} {qs : List (Nat × Nat × Opd)} (h : okOp P x (.bld z qs) = true) :
    ∃ t ps v place, x = .build t ps ∧ zeroT P t = some v ∧ okCells v.cells.toList z = true ∧ okParts place ps.toList qs = true ∧ ∀ (vals : List (Nat × Value)) cells, Instr.fill place v.cells vals = some cells → P.built t vals = some cells := by
  cases x <;> try (simp [okOp] at h; done)
  rename_i t ps
  simp only [okOp, Bool.and_eq_true, Option.any_eq_true] at h
  obtain ⟨⟨v, h1, h2⟩, h3⟩ := h
  have h1' := h1
  unfold zeroT at h1'
  cases hit : P.info? t with
  | none => simp [hit] at h1'
  | some it =>
    simp [hit] at h1'
    split at h3
    · rename_i fs hu
      simp only [Bool.and_eq_true] at h3
      obtain ⟨h3, h4⟩ := h3
      refine ⟨t, ps, v, _, rfl, h1, h2, h3, fun vals cells hf => ?_⟩
      obtain ⟨places, hp⟩ := mapM_all (f := fun f : Field => (P.info? f.type).map fun i => (f.offset, i.size)) (l := fs.toList) fun f hf => by
        rw [Array.all_eq_true_iff_forall_mem] at h4
        have := h4 f (by simpa using hf)
        simp only [sizeT, Option.isSome_map] at this ⊢
        exact this
      have hpl : (fun i : Nat => (fs[i]?).bind fun f : Field => (sizeT P f.type).map fun s => (f.offset, s)) = (places.toArray[·]?) := by
        funext i
        have := mapM_get hp i
        simp only [List.getElem?_toArray, this, Array.getElem?_toList, sizeT, Option.map_map]
        rfl
      unfold Program.built
      rw [hit, hu]
      simp only [h1', hp]
      rw [← hpl]; exact hf
    · rename_i n el hu
      split at h3
      · rename_i s hs
        refine ⟨t, ps, v, _, rfl, h1, h2, h3, fun vals cells hf => ?_⟩
        unfold sizeT at hs
        cases hie : P.info? el with
        | none => simp [hie] at hs
        | some ie =>
          simp [hie] at hs
          unfold Program.built
          rw [hit, hu]
          simp only [h1', hie, hs]
          exact hf
      · cases h3
    · cases h3

theorem okCells_one {vs : List Value} {cs : List Cell} (h : okCells vs cs = true) : ∀ u ∈ vs, u.oneCell' = true := by
  induction vs generalizing cs with
  | nil => simp
  | cons v vs ih =>
    cases cs with
    | nil => simp [okCells] at h
    | cons c cs =>
      simp only [okCells, Bool.and_eq_true] at h
      intro u hu
      rcases List.mem_cons.1 hu with rfl | hu
      · have := okCell_rep h.1 (default : World) (fun _ => False) (fun _ => none)
        refine this.oneCell ?_
        cases c <;> first | rfl | (cases u <;> simp [okCell] at h)
      · exact ih h.2 u hu

theorem sound_bld {ef : EF} {env : Nat → Ent} {z : List Cell} {qs : List (Nat × Nat × Opd)} (r : HRel w I β O h) (he : EnvRep w I β a env) (hok : okOp P o.op (.bld z qs) = true) (hev : (evOp ef slot env (.bld z qs)).val h = some (e, wr)) :
    OpW P o a w slot I β O h e wr := by
  obtain ⟨t, ps, v, place, hz, h1, h2, h3, h4⟩ := okOp_bld hok
  simp only [evOp] at hev
  split at hev
  · rename_i fs hfs
    split at hev
    · rename_i cs hcs
      simp only [outA, HM.val, Option.some.injEq, Prod.mk.injEq] at hev
      obtain ⟨rfl, rfl⟩ := hev
      obtain ⟨cells, g1, g2, _⟩ := fill_rep he h3 (okCells_rep h2 w I β) (okCells_one h2) hfs hcs
      refine opW_pure r (v := .agg cells) ?_ (.val (.agg g2)) rfl
      have hb := h4 _ _ g1
      have hr := run_build (P := P) w t (ps.map fun p => (p.1, a.eval p.2)) cells (by rw [Array.toList_map]; exact hb)
      unfold execOp
      rw [hz]
      simp only [Sem.run_bind]
      have e1 : (ps.map fun (i, x) => (i, a.eval x)) = ps.map fun p => (p.1, a.eval p.2) := rfl
      rw [e1, hr]
      rfl
    · simp [HM.val] at hev
  · simp [HM.val] at hev

theorem okOp_bsl {x : Op} {sz n : Nat} {z : List T} {qs : List (Nat × Nat × Opd)} (h : okOp P x (.bsl sz n z qs) = true) :
    ∃ t el ps v, x = .buildSlice t n ps ∧ P.underlying t = some (.slice el) ∧ sizeT P el = some sz ∧ zeroT P el = some v ∧ okCells v.cells.toList (z.map .t) = true ∧ z.length = sz ∧ 0 < sz ∧ n * sz ≤ 16777216 ∧ okParts (fun i => some (i * sz, sz)) ps.toList qs = true := by
  cases x <;> try (simp [okOp] at h; done)
  rename_i t m ps
  simp only [okOp, Bool.and_eq_true, decide_eq_true_eq, beq_iff_eq] at h
  obtain ⟨⟨⟨rfl, h0⟩, h1⟩, h2⟩ := h
  split at h2
  · rename_i el hel
    simp only [Bool.and_eq_true, Option.any_eq_true, beq_iff_eq] at h2
    obtain ⟨⟨⟨h3, v, h4, h5⟩, h6⟩, h7⟩ := h2
    exact ⟨t, el, ps, v, rfl, elemT_some hel, h3, h4, h5, h6, h0, h1, h7⟩
  · cases h2

theorem replicate_flatten_get {α : Type} (z : List α) : ∀ (n i : Nat), 0 < z.length → i < n * z.length → (List.replicate n z).flatten[i]? = z[i % z.length]?
  | 0, i, _, h => by omega
  | n + 1, i, h0, h => by
    rw [List.replicate_succ, List.flatten_cons]
    by_cases hi : i < z.length
    · rw [List.getElem?_append_left hi, Nat.mod_eq_of_lt hi]
    · rw [List.getElem?_append_right (by omega), replicate_flatten_get z n (i - z.length) h0 (by rw [Nat.add_mul] at h; omega)]
      congr 1
      exact (Nat.mod_eq_sub_mod (by omega)).symm

/-- the zero cells of n elements -/
theorem zero_rep {v : Value} {z : List T} (h : okCells v.cells.toList (z.map .t) = true) (h0 : 0 < z.length) (n : Nat) :
    RepL w I β ((Array.range (n * z.length)).map (v.cells[· % v.cells.size]!)).toList ((List.replicate n z).flatten.map .t) ∧ ∀ u ∈ ((Array.range (n * z.length)).map (v.cells[· % v.cells.size]!)).toList, u.oneCell' = true := by
  have hr := okCells_rep h w I β
  have hlen : v.cells.size = z.length := by simpa using hr.1
  have hfl : (List.replicate n z).flatten.length = n * z.length := by simp
  refine ⟨⟨by simp, fun i x c hx hc => ?_⟩, fun u hu => ?_⟩
  · simp only [List.getElem?_map, Option.map_eq_some_iff] at hc
    obtain ⟨t, ht, rfl⟩ := hc
    have hi : i < n * z.length := by rw [← hfl]; exact (List.getElem?_eq_some_iff.1 ht).1
    rw [replicate_flatten_get z n i h0 hi] at ht
    have hm : i % z.length < z.length := Nat.mod_lt _ h0
    have hx' : x = v.cells[i % v.cells.size]! := by
      simp [hi] at hx
      rw [← hx]
    rw [hx', hlen]
    refine hr.2 (i % z.length) _ _ ?_ (by simp [ht])
    have : i % z.length < v.cells.size := by omega
    simp [this]
  · simp only [Array.toList_map, List.mem_map] at hu
    obtain ⟨i, hi, rfl⟩ := hu
    have hm : i % v.cells.size < v.cells.size := Nat.mod_lt _ (by omega)
    rw [getElem!_pos v.cells _ hm]
    exact okCells_one h _ (by simp)

theorem sound_bsl {ef : EF} {env : Nat → Ent} {sz n : Nat} {z : List T} {qs : List (Nat × Nat × Opd)} (r : HRel w I β O h) (he : EnvRep w I β a env) (hs : ∀ k, β (slot, k) = none) (hok : okOp P o.op (.bsl sz n z qs) = true) (hev : (evOp ef slot env (.bsl sz n z qs)).val h = some (e, wr)) :
    OpW P o a w slot I β O h e wr := by
  obtain ⟨t, el, ps, v, hz, hu, hsz, hv, hz1, hz2, h0, h1, h3⟩ := okOp_bsl hok
  simp only [evOp] at hev
  split at hev
  · rename_i fs hfs
    split at hev
    · rename_i cs hcs
      rw [val_bind] at hev
      obtain ⟨⟨ts, ns, u⟩, hgv, hev2⟩ := Option.bind_eq_some_iff.1 hev
      clear hev
      simp only [HM.val, Option.some.injEq, Prod.mk.injEq] at hev2
      obtain ⟨rfl, rfl⟩ := hev2
      obtain ⟨z1, z2⟩ := zero_rep (w := w) (I := I) (β := β) hz1 (by omega) n
      rw [hz2] at z1 z2
      obtain ⟨cells, g1, g2, g3⟩ := fill_rep he h3 z1 z2 hfs hcs
      obtain ⟨Ss, g⟩ := give_all r g2 hgv
      have hcl : cells.size = n * sz := by rw [g3]; simp
      have htl : ts.length = n * sz := by rw [← g.len]; simp [hcl]
      have hes : (∀ e ∈ (if sz = 1 then ts.map (fun c => [c]) else chunk sz ts n), e.length = sz) ∧ (if sz = 1 then ts.map (fun c => [c]) else chunk sz ts n).length = n ∧
          ∀ (i : Nat) c, (if sz = 1 then ts.map (fun c => [c]) else chunk sz ts n).flatten[i]? = some c → ts[i]? = some c := by
        split
        · rename_i hs1
          subst hs1
          exact ⟨fun e he => by obtain ⟨c, _, rfl⟩ := List.mem_map.1 he; rfl, by simp; omega, fun i c hc => by rwa [flatten_single] at hc⟩
        · refine ⟨chunk_size n ts (by omega), ?_, fun i c hc => chunk_flatten n ts i c hc (by omega)⟩
          have : ∀ (m : Nat) (l : List T), (chunk sz l m).length = m := fun m => by
            induction m with
            | zero => intro l; rfl
            | succ m ih => intro l; simp [chunk, ih]
          exact this n ts
      obtain ⟨I', O', s⟩ := create_arr r hs g h0 hes.1 hes.2.2 (arr := cells) (fun i v hv => by simpa using hv) (.alloc w cells el)
      have hrun : (execOp a.eval o).run P w = .ok (.value (.slice (some ⟨w.heap.size, 0, none⟩) n n)) (w.alloc (.cells cells el)) := by
        have hr1 := sizeT_some hsz w
        have hr2 := zeroT_some hv w
        have hle : ¬ n * sz > 2 ^ 24 := by simpa using h1
        unfold execOp
        rw [hz]
        have e1 : (ps.map fun (i, x) => (i, a.eval x)) = ps.map fun p => (p.1, a.eval p.2) := rfl
        simp only [e1, Instr.buildSlice, Sem.run_bind, run_underlying hu, Result.andThen_ok, hr1, if_neg hle]
        by_cases hn0 : n * sz = 0
        · have e0 : ∀ f : Nat → Value, (Array.range 0).map f = #[] := fun f => by simp
          rw [hn0, e0] at g1
          simp only [hn0, if_true, Sem.run_pure, Result.andThen_ok, e0]
          simp [g1, newRow]
        · simp only [hn0, if_false, Sem.run_bind, hr2, Result.andThen_ok, Sem.run_pure]
          simp [g1, newRow]
      have hβ := upd_same β (slot, 0) (some (w.heap.size, 0, sz))
      refine opW_value hrun s (.val (.one ?_))
      have := RepC.ref (w := w.alloc (.cells cells el)) (I := I') (n := (slot, 0)) (lo := 0) (len := n) (cap := n) hβ (heap_alloc_new w _) (by simp [hcl]) (Nat.le_refl _) (by
        have : n * 1 ≤ n * sz := Nat.mul_le_mul_left _ h0
        unfold maxLen; omega) h0
      simpa using this
    · simp [HM.val] at hev
  · simp [HM.val] at hev

theorem okOp_ms {x : Op} {sz : Nat} {z : List T} {l c : Opd} (h : okOp P x (.ms sz z l c) = true) :
    ∃ t el v b l' c', x = .makeSlice t l' c' ∧ P.underlying t = some (.slice el) ∧ sizeT P el = some sz ∧ bytesT P el = some b ∧ b ≤ 32768 ∧ zeroT P el = some v ∧ okCells v.cells.toList (z.map .t) = true ∧ z.length = sz ∧ 0 < sz ∧ okOpd l' l = true ∧ okOpd c' c = true := by
  cases x <;> simp [okOp, Option.any_eq_true] at h
  obtain ⟨⟨⟨⟨⟨el, h1, ⟨h2, b, h3, h4⟩, v, h5, h6⟩, h7⟩, h8⟩, h9⟩, h10⟩ := h
  exact ⟨_, el, v, b, _, _, rfl, elemT_some h1, h2, h3, h4, h5, h6, h7, h8, h9, h10⟩

theorem sound_ms {ef : EF} {env : Nat → Ent} {sz : Nat} {z : List T} {l c : Opd} (r : HRel w I β O h) (he : EnvRep w I β a env) (hs : ∀ k, β (slot, k) = none) (hok : okOp P o.op (.ms sz z l c) = true) (hev : (evOp ef slot env (.ms sz z l c)).val h = some (e, wr)) :
    OpW P o a w slot I β O h e wr := by
  obtain ⟨t, el, v, b, l', c', hz, hu, hsz, hby, hb, hv, hz1, hz2, h0, h1, h2⟩ := okOp_ms hok
  simp only [evOp] at hev
  split at hev
  · rename_i l c gl gc
    split at hev
    · rename_i hcond
      obtain ⟨c1, c2, c3⟩ := hcond
      simp only [HM.val, Option.some.injEq, Prod.mk.injEq] at hev
      obtain ⟨rfl, rfl⟩ := hev
      obtain ⟨kl, hl⟩ := opd_int he h1 gl
      obtain ⟨kc, hc⟩ := opd_int he h2 gc
      unfold sizeT at hsz
      unfold bytesT at hby
      unfold zeroT at hv
      cases hq : P.info? el with
      | none => simp [hq] at hsz
      | some i =>
        simp [hq] at hsz hby hv
        have hbb : (i.bytes : Int) * c ≤ 281474976710656 := by
          have k1 : (i.bytes : Int) ≤ 32768 := by omega
          calc (i.bytes : Int) * c ≤ 32768 * c := Int.mul_le_mul_of_nonneg_right k1 (by omega)
            _ ≤ 281474976710656 := by omega
        have hrun := run_make (P := P) w t el i v hu hq hv kl kc l c c1 c2 hbb (by omega)
        obtain ⟨z1, _⟩ := zero_rep (w := w) (I := I) (β := β) hz1 (by omega) c.toNat
        rw [hz2] at z1
        have hma : madeCells v.cells (c.toNat * i.size) = (Array.range (c.toNat * sz)).map (v.cells[· % v.cells.size]!) := by rw [hsz]; rfl
        rw [← hma] at z1
        have hflat : (List.replicate c.toNat z).flatten.all isZT = true := by
          have := okCells_flat hz1
          rw [List.all_eq_true] at this ⊢
          intro x hx
          obtain ⟨l1, hl1, hx⟩ := List.mem_flatten.1 hx
          rw [(List.mem_replicate.1 hl1).2] at hx
          exact this x hx
        have g := given_flat (O := O) (h := h) z1 hflat
        have hsizes : ∀ e ∈ List.replicate l.toNat z, e.length = sz := fun e he => by rw [(List.mem_replicate.1 he).2, hz2]
        obtain ⟨I', O', s⟩ := create_arr r hs g h0 hsizes (fun k x hk => by
          have hlt : k < l.toNat * z.length := by
            have := (List.getElem?_eq_some_iff.1 hk).1; simpa using this
          have hlt2 : k < c.toNat * z.length := Nat.lt_of_lt_of_le hlt (Nat.mul_le_mul_right _ (by omega))
          rw [replicate_flatten_get z _ k (by omega) hlt] at hk
          rw [replicate_flatten_get z _ k (by omega) hlt2]; exact hk) (arr := madeCells v.cells (c.toNat * i.size)) (fun i v hv => by simpa using hv) (.alloc w (madeCells v.cells (c.toNat * i.size)) el)
        have hrun2 : (execOp a.eval o).run P w = .ok (.value (.slice (some ⟨w.heap.size, 0, none⟩) l.toNat c.toNat)) (w.alloc (.cells (madeCells v.cells (c.toNat * i.size)) el)) := by
          unfold execOp
          rw [hz]
          simp only [hl, hc, Sem.run_bind, hrun, Result.andThen_ok]
          rfl
        refine opW_value hrun2 (wr := [((slot, 0), some (.arr true sz (List.replicate l.toNat z)))]) (by simpa [dead] using s) (.val (.one ?_))
        have := RepC.ref (w := w.alloc (.cells (madeCells v.cells (c.toNat * i.size)) el)) (I := I') (n := (slot, 0)) (lo := 0) (len := l.toNat) (cap := c.toNat) (upd_same β (slot, 0) (some (w.heap.size, 0, sz))) (heap_alloc_new w _)
          (by simp [size_madeCells, hsz]) (by omega) (by unfold maxLen; omega) (by omega)
        simpa using this
    · simp [HM.val] at hev
  · simp [HM.val] at hev

theorem okOp_mkf {x : Op} {f : FuncId} {xs ys : List Opd} (h : okOp P x (.mkf f xs ys) = true) : ∃ a b, x = .makeFunc (.func f) a b ∧ okOpds a.toList xs = true ∧ okOpds b.toList ys = true := by
  cases x <;> try (simp [okOp] at h; done)
  rename_i fn a b
  cases fn <;> simp [okOp] at h
  obtain ⟨⟨rfl, h1⟩, h2⟩ := h
  exact ⟨_, _, rfl, h1, h2⟩

theorem opds_rep {env : Nat → Ent} (he : EnvRep w I β a env) : ∀ {xs : List Operand} {ys : List Opd} {cs : List Cell}, okOpds xs ys = true → ys.mapM (fun o => (o.get env).bind AV.cell?) = some cs →
    (xs.map a.eval).length = cs.length ∧ ∀ (i : Nat) v c, (xs.map a.eval)[i]? = some v → cs[i]? = some c → RepC w I β v c
  | [], [], cs, _, hm => by simp at hm; subst hm; simp
  | [], y :: ys, _, hok, _ => by simp [okOpds] at hok
  | x :: xs, [], _, hok, _ => by simp [okOpds] at hok
  | x :: xs, y :: ys, cs, hok, hm => by
    simp only [okOpds, Bool.and_eq_true] at hok
    simp only [List.mapM_cons, Option.bind_eq_bind, Option.pure_def, Option.bind_eq_some_iff, Option.some.injEq] at hm
    obtain ⟨c, hc, cs', hcs, rfl⟩ := hm
    obtain ⟨l1, l2⟩ := opds_rep he hok.2 hcs
    refine ⟨by simp at l1 ⊢; exact l1, fun i v c' hv hc' => ?_⟩
    cases i with
    | zero =>
      simp at hv hc'; subst hv hc'
      exact opd_cell he hok.1 (by rw [Option.bind_eq_some_iff]; exact hc)
    | succ i => exact l2 i v c' (by simpa using hv) (by simpa using hc')

theorem sound_mkf {ef : EF} {env : Nat → Ent} {f : FuncId} {xs ys : List Opd} (r : HRel w I β O h) (he : EnvRep w I β a env) (hok : okOp P o.op (.mkf f xs ys) = true) (hev : (evOp ef slot env (.mkf f xs ys)).val h = some (e, wr)) :
    OpW P o a w slot I β O h e wr := by
  obtain ⟨as, bs, hz, h1, h2⟩ := okOp_mkf hok
  simp only [evOp] at hev
  split at hev
  · rename_i x y gx gy
    simp only [out1, HM.val, Option.some.injEq, Prod.mk.injEq] at hev
    obtain ⟨rfl, rfl⟩ := hev
    obtain ⟨l1, l2⟩ := opds_rep he h1 gx
    obtain ⟨l3, l4⟩ := opds_rep he h2 gy
    refine opW_pure r (v := .func (.func f) (as.map a.eval) (bs.map a.eval)) ?_ (.val (.one (.clo (by simpa using l1) (by simpa using l3) (fun i v c hv hc => l2 i v c (by simpa using hv) hc) (fun i v c hv hc => l4 i v c (by simpa using hv) hc)))) rfl
    unfold execOp
    rw [hz]
    simp [Instr.makeFunc]
  · simp [HM.val] at hev

end
end Go.Pur
