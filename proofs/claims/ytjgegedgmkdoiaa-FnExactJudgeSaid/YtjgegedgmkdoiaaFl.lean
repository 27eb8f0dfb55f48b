/- append and copy. -/
import Derived.Test.YtjgegedgmkdoiaaFk
namespace Go.Pur
open Go
set_option linter.unusedSimpArgs false

section
variable {P : Program} {o : Oper} {a : Act} {w w1 : World} {slot : Nat} {I : Nat → Prop} {β : Beta} {O : Nm → Nat → Prop} {h : Nm → Option LObj} {e : Ent} {wr : Wr} {arr : Array Value} {ty : TypeId}

/-- a source of elements -/
structure Src (P : Program) (w : World) (I : Nat → Prop) (O : Nm → Nat → Prop) (h : Nm → Option LObj) (x : Value) (sz : Nat) (es : List (List T)) (ns : List Nm) (u : Bool) (vs : List Value) (Ss : Nat → Nat → Prop) : Prop where
  size : ∀ e ∈ es, e.length = sz
  len : ∀ w', (Builtin.lenOf x).run P w' = .ok es.length w'
  cells : ∀ w' k, w'.heap = w.heap → k ≤ es.length → (Builtin.firstCells sz k x).run P w' = .ok (vs.take (k * sz)).toArray w'
  one : ∀ v ∈ vs, v.oneCell' = true
  given : Given w I O h vs es.flatten ns u Ss

theorem cell_same {w w' : World} (hw : w'.heap = w.heap) (ad : Addr) : w'.cell? ad = w.cell? ad := by simp [World.cell?, hw]

theorem firstCells_at {b off len cap sz k : Nat} {vs : List Value} {w w' : World} (hw : w'.heap = w.heap) (hk : k * sz ≤ vs.length) (hc : ∀ (i : Nat) v, vs[i]? = some v → w.cell? ⟨b, off + i, none⟩ = some v) :
    (Builtin.firstCells sz k (.slice (some ⟨b, off, none⟩) len cap)).run P w' = .ok (vs.take (k * sz)).toArray w' := by
  refine run_firstCells_some w' sz k _ len cap (vs.take (k * sz)) (by simp; omega) fun j v hj => ?_
  rw [add_none, cell_same hw]
  rw [List.getElem?_take] at hj
  split at hj
  · exact hc j v hj
  · cases hj

theorem all_flat {es : List (List T)} (h : (es.all fun e => e.all T.isV) = true) {i : Nat} {c : T} (hc : es.flatten[i]? = some c) : c.isV = true := by
  rw [List.all_eq_true] at h
  obtain ⟨l, hl, hc⟩ := List.mem_flatten.1 (List.mem_of_getElem? hc)
  have := h l hl
  rw [List.all_eq_true] at this
  exact this c hc

theorem range_get {f : Nat → Value} {n i : Nat} {v : Value} (h : ((List.range n).map f)[i]? = some v) : i < n ∧ v = f i := by
  simp only [List.getElem?_map, Option.map_eq_some_iff] at h
  obtain ⟨j, hj, rfl⟩ := h
  obtain ⟨h1, h2⟩ := List.getElem?_eq_some_iff.1 hj
  simp at h1 h2
  exact ⟨h1, by rw [h2]⟩

theorem src_of (r : HRel w I β O h) {sz : Nat} {cy : Cell} {x : Value} {es : List (List T)} {ns : List Nm} {u : Bool} (hc : RepC w I β x cy) (h0 : 0 < sz) (hg : (srcOf sz cy).val h = some (es, ns, u)) :
    ∃ vs Ss, Src P w I O h x sz es ns u vs Ss := by
  unfold srcOf at hg
  split at hg
  · simp only [HM.val, Option.some.injEq, Prod.mk.injEq] at hg
    obtain ⟨rfl, rfl, rfl⟩ := hg
    cases hc with
    | nils => exact ⟨[], fun _ _ => False, by simp, fun w' => by simp [Builtin.lenOf], fun w' k _ _ => by simp [Builtin.firstCells], by simp, ⟨rfl, by simp, by simp, by simp, by simp, by simp⟩⟩
  · split at hg
    · rename_i s es' hs
      subst hs
      simp only [HM.val, Option.some.injEq, Prod.mk.injEq] at hg
      obtain ⟨rfl, rfl, rfl⟩ := hg
      cases hc with
      | t ht => cases ht with
        | sl vals hcap hsz hcc hr =>
          rename_i ad cap
          have hfl := flatten_length es' hsz
          refine ⟨(List.range es'.flatten.length).map vals, fun _ _ => False, hsz, fun w' => by simp [Builtin.lenOf], fun w' k hw hk => ?_, fun v hv => ?_, ⟨by simp, by simp, by simp, by simp, fun i v t hv ht => ?_, fun hu i v t hv ht => ?_⟩⟩
          · by_cases hz : es'.flatten.length = 0
            · have he0 : es'.length = 0 := by
                rw [hfl] at hz
                rcases Nat.mul_eq_zero.1 hz with h1 | h1 <;> omega
              have hk0 : k = 0 := by omega
              subst hk0
              have : (List.take (0 * s) (List.map vals (List.range es'.flatten.length))) = [] := by simp
              rw [this]
              cases ad with
              | none => simp [Builtin.firstCells]
              | some ad => simp [Builtin.firstCells, loadCells, loadCellsFrom]
            · have h1 : (0 : Nat) < es'.flatten.length := by omega
              obtain ⟨b, off, rfl, _, _⟩ := hcc 0 _ (List.getElem?_eq_getElem h1)
              refine firstCells_at hw (by simp only [List.length_map, List.length_range, hfl]; exact Nat.mul_le_mul_right _ hk) fun i v hv => ?_
              obtain ⟨hi, rfl⟩ := range_get hv
              obtain ⟨b', off', he', _, hcell⟩ := hcc i _ (List.getElem?_eq_getElem hi)
              simp only [Option.some.injEq, Addr.mk.injEq] at he'
              obtain ⟨rfl, rfl, _⟩ := he'
              exact hcell
          · obtain ⟨i, hi, rfl⟩ := List.getElem_of_mem hv
            obtain ⟨h1, h2⟩ := range_get (List.getElem?_eq_getElem hi)
            rw [h2]
            exact (hr i _ (List.getElem?_eq_getElem h1)).oneCell
          · obtain ⟨hi, rfl⟩ := range_get hv
            exact (hr i t ht).evo (fun _ _ => rfl) fun b hb => .inl hb
          · obtain ⟨hi, rfl⟩ := range_get hv
            exact (hr i t ht).toX (all_flat hu ht) _
    · simp [HM.val] at hg
  · split at hg
    · rename_i s hs
      subst hs
      simp only [HM.val, Option.some.injEq, Prod.mk.injEq] at hg
      obtain ⟨rfl, rfl, rfl⟩ := hg
      cases hc with
      | t ht => cases ht with
        | v hf =>
          have hsz : ∀ e ∈ bytesOf s, e.length = 1 := fun e he => by
            simp only [bytesOf, List.mem_map] at he
            obtain ⟨_, _, rfl⟩ := he; rfl
          have hfl : (bytesOf s).flatten = s.data.toList.map fun b => T.v (.int .u8 b.toNat) := by
            unfold bytesOf
            generalize s.data.toList = l
            induction l with
            | nil => rfl
            | cons x l ih => simp [ih]
          have hlen : (bytesOf s).length = s.size := by simp [bytesOf]
          refine ⟨s.data.toList.map fun b => Value.int .u8 b.toNat, fun _ _ => False, hsz, fun w' => by simp [Builtin.lenOf, hlen], fun w' k hw hk => ?_, fun v hv => ?_, ⟨by rw [hfl]; simp, by simp, by simp, by simp, fun i v t hv ht => ?_, fun hu i v t hv ht => ?_⟩⟩
          · simp only [Builtin.firstCells, Sem.run_pure]
            congr 1
            apply Array.ext'
            simp only [Nat.mul_one, Array.toList_map, ByteArray.data_extract, Array.toList_extract, List.toList_toArray, List.map_take]
            simp
          · simp only [List.mem_map] at hv
            obtain ⟨_, _, rfl⟩ := hv; rfl
          · rw [hfl] at ht
            simp only [List.getElem?_map, Option.map_eq_some_iff] at hv ht
            obtain ⟨b1, h1, rfl⟩ := hv
            obtain ⟨b2, h2, rfl⟩ := ht
            rw [h1] at h2; cases h2
            exact .v rfl
          · rw [hfl] at ht
            simp only [List.getElem?_map, Option.map_eq_some_iff] at hv ht
            obtain ⟨b1, h1, rfl⟩ := hv
            obtain ⟨b2, h2, rfl⟩ := ht
            rw [h1] at h2; cases h2
            exact .v rfl
    · simp [HM.val] at hg
  · rename_i n lo len
    simp only [HM.val] at hg
    cases hn : h n with
    | none => simp [hn, HM.val] at hg
    | some ob =>
      cases ob with
      | row cs => simp [hn, HM.val] at hg
      | gone => simp [hn, HM.val] at hg
      | arr own s es' =>
        simp only [hn] at hg
        split at hg
        · rename_i hcond
          obtain ⟨rfl, hl⟩ := hcond
          have hob := r.obj n _ hn
          cases hob with
          | arr0 hβ0 h00 =>
            have hlen : len = 0 := by simp at hl; omega
            subst hlen
            have hxe : ∃ ad, x = .slice ad 0 0 := by
              cases hc with
              | ref hβ' hbk hcap hlc hm hzp => rw [hβ'] at hβ0; simp at hβ0; omega
              | ref0 => exact ⟨_, rfl⟩
            obtain ⟨ad, rfl⟩ := hxe
            simp only [List.all_nil, if_true, HM.val, Option.some.injEq, Prod.mk.injEq, List.take_zero] at hg
            obtain ⟨rfl, rfl, rfl⟩ := hg
            refine ⟨[], fun _ _ => False, by simp, fun w' => by simp [Builtin.lenOf], fun w' k _ hk => ?_, by simp, ⟨rfl, by simp, by simp, by simp, by simp, by simp⟩⟩
            have hk0 : k = 0 := by simpa using hk
            subst hk0
            cases ad with
            | none => simp [Builtin.firstCells]
            | some ad => simp [Builtin.firstCells, loadCells, loadCellsFrom]
          | arr vals Ss hβ hb hO hsz h0' hoff hcc hx ht hsub hdis =>
            rename_i b off arr ty
            have hwsz : ∀ e ∈ (es'.drop lo).take len, e.length = s := fun e he => hsz e (mem_window he)
            have hwlen : ((es'.drop lo).take len).length = len := by simp; omega
            have hfl := flatten_length _ hwsz
            have hlenOf : ∃ ad cap, x = .slice ad len cap := by
              cases hc with
              | ref => exact ⟨_, _, rfl⟩
              | ref0 => exact ⟨_, _, rfl⟩
            have hcells : ∀ w' k, w'.heap = w.heap → k ≤ len → (Builtin.firstCells s k x).run P w' = .ok (((List.range ((es'.drop lo).take len).flatten.length).map fun i => vals (lo * s + i)).take (k * s)).toArray w' := by
              intro w' k hw hk
              cases hc with
              | ref hβ' hbk hcap hlc hm hzp =>
                rw [hβ] at hβ'
                simp only [Option.some.injEq, Prod.mk.injEq] at hβ'
                obtain ⟨rfl, rfl, rfl⟩ := hβ'
                refine firstCells_at hw (by simp only [List.length_map, List.length_range, hfl, hwlen]; exact Nat.mul_le_mul_right _ hk) fun i v hv => ?_
                obtain ⟨hi, rfl⟩ := range_get hv
                rw [cell_heap hb, Nat.add_assoc]
                exact hcc _ _ (window_get hsz (List.getElem?_eq_getElem hi))
              | ref0 =>
                have hk0 : k = 0 := by omega
                subst hk0
                rename_i ad y hy
                have : (List.take (0 * s) (List.map (fun i => vals (lo * s + i)) (List.range ((es'.drop lo).take 0).flatten.length))) = [] := by simp
                rw [this]
                cases ad with
                | none => simp [Builtin.firstCells]
                | some ad => simp [Builtin.firstCells, loadCells, loadCellsFrom]
            have hvlen : ((List.range ((es'.drop lo).take len).flatten.length).map fun i => vals (lo * s + i)).length = ((es'.drop lo).take len).flatten.length := by simp
            have hx1 : ∀ (i : Nat) c, ((es'.drop lo).take len).flatten[i]? = some c → RepT w (fun b => I b ∨ O n b) (vals (lo * s + i)) c := fun i c hi => by
              have hi' := window_get hsz hi
              cases own with
              | true => exact (hx rfl _ _ hi').toT fun x hx => .inr (hsub _ _ hx).1
              | false => exact (ht rfl _ _ hi').evo (fun _ _ => rfl) fun x hx => .inl hx
            have hone : ∀ v ∈ ((List.range ((es'.drop lo).take len).flatten.length).map fun i => vals (lo * s + i)), v.oneCell' = true := fun v hv => by
              obtain ⟨i, hi, rfl⟩ := List.getElem_of_mem hv
              obtain ⟨h1, h2⟩ := range_get (List.getElem?_eq_getElem hi)
              rw [h2]
              exact (hx1 i _ (List.getElem?_eq_getElem h1)).oneCell
            obtain ⟨ad, cap, hxe⟩ := hlenOf
            have hlo : ∀ w', (Builtin.lenOf x).run P w' = .ok ((es'.drop lo).take len).length w' := fun w' => by rw [hxe, hwlen]; simp [Builtin.lenOf]
            split at hg
            · rename_i hflat
              simp only [HM.val, Option.some.injEq, Prod.mk.injEq] at hg
              obtain ⟨rfl, rfl, rfl⟩ := hg
              refine ⟨_, fun _ _ => False, hwsz, hlo, fun w' k hw hk => hcells w' k hw (by omega), hone, ⟨hvlen, by simp, by simp, by simp, fun i v t hv ht => ?_, fun hu i v t hv ht => ?_⟩⟩
              · obtain ⟨hi, rfl⟩ := range_get hv
                exact (hx1 i t ht).flat (all_flat hflat (window_get hsz ht))
              · obtain ⟨hi, rfl⟩ := range_get hv
                exact (hx1 i t ht).toX (all_flat hflat (window_get hsz ht)) _
            · simp only [HM.val, Option.some.injEq, Prod.mk.injEq] at hg
              obtain ⟨rfl, rfl, rfl⟩ := hg
              refine ⟨_, fun i => Ss (lo * s + i), hwsz, hlo, fun w' k hw hk => hcells w' k hw (by omega), hone, ⟨hvlen, by simp [hn], fun i x hx => ⟨n, by simp, (hsub _ _ hx).1⟩, fun i j x h1 h2 => by have := hdis _ _ _ h1 h2; omega, fun i v t hv ht => ?_, fun hu i v t hv ht => ?_⟩⟩
              · obtain ⟨hi, rfl⟩ := range_get hv
                exact (hx1 i t ht).evo (fun _ _ => rfl) fun b hb => hb.imp id fun hb => ⟨n, by simp, hb⟩
              · obtain ⟨hi, rfl⟩ := range_get hv
                exact hx hu _ _ (window_get hsz ht)
        · simp [HM.val] at hg
  · simp [HM.val] at hg

/-- two givings, one behind the other -/
theorem Given.append {vs1 vs2 : List Value} {ts1 ts2 : List T} {n1 n2 : List Nm} {u1 u2 : Bool} {S1 S2 : Nat → Nat → Prop} (r : HRel w I β O h) (g1 : Given w I O h vs1 ts1 n1 u1 S1) (g2 : Given w I O h vs2 ts2 n2 u2 S2)
    (hd : ∀ n ∈ n1, n ∉ n2) : ∃ S, Given w I O h (vs1 ++ vs2) (ts1 ++ ts2) (n1 ++ n2) (u1 && u2) S := by
  have apart : ∀ i j x, S1 i x → S2 j x → False := fun i j x h1 h2 => by
    obtain ⟨n, hn, hx⟩ := g1.sub i x h1
    obtain ⟨m, hm, hy⟩ := g2.sub j x h2
    have := r.dis n m x (g1.live n hn) (g2.live m hm) hx hy
    subst this
    exact hd n hn hm
  have hl := g1.len
  refine ⟨fun i => if i < vs1.length then S1 i else S2 (i - vs1.length), ⟨by simp [g1.len, g2.len], fun n hn => ?_, fun i x hx => ?_, fun i j x h1 h2 => ?_, fun i v t hv ht => ?_, fun hu i v t hv ht => ?_⟩⟩
  · rcases List.mem_append.1 hn with hn | hn
    · exact g1.live n hn
    · exact g2.live n hn
  · by_cases c : i < vs1.length
    · rw [if_pos c] at hx
      obtain ⟨n, hn, h2⟩ := g1.sub i x hx; exact ⟨n, List.mem_append.2 (.inl hn), h2⟩
    · rw [if_neg c] at hx
      obtain ⟨n, hn, h2⟩ := g2.sub _ x hx; exact ⟨n, List.mem_append.2 (.inr hn), h2⟩
  · by_cases c : i < vs1.length <;> by_cases d : j < vs1.length
    · rw [if_pos c] at h1; rw [if_pos d] at h2; exact g1.dis i j x h1 h2
    · rw [if_pos c] at h1; rw [if_neg d] at h2; exact (apart _ _ x h1 h2).elim
    · rw [if_neg c] at h1; rw [if_pos d] at h2; exact (apart _ _ x h2 h1).elim
    · rw [if_neg c] at h1; rw [if_neg d] at h2; have := g2.dis _ _ x h1 h2; omega
  · by_cases c : i < vs1.length
    · rw [List.getElem?_append_left c] at hv; rw [List.getElem?_append_left (by omega)] at ht
      exact (g1.data i v t hv ht).evo (fun _ _ => rfl) fun b hb => hb.imp id fun ⟨n, hn, h3⟩ => ⟨n, List.mem_append.2 (.inl hn), h3⟩
    · rw [List.getElem?_append_right (by omega)] at hv ht
      rw [← hl] at ht
      exact (g2.data _ v t hv ht).evo (fun _ _ => rfl) fun b hb => hb.imp id fun ⟨n, hn, h3⟩ => ⟨n, List.mem_append.2 (.inr hn), h3⟩
  · simp at hu
    by_cases c : i < vs1.length
    · rw [List.getElem?_append_left c] at hv; rw [List.getElem?_append_left (by omega)] at ht
      rw [if_pos c]; exact g1.alone hu.1 i v t hv ht
    · rw [List.getElem?_append_right (by omega)] at hv ht
      rw [← hl] at ht
      rw [if_neg c]; exact g2.alone hu.2 _ v t hv ht

end
end Go.Pur
