/- Calls. -/
import Derived.Test.YtjgegedgmkdoiaaFn
namespace Go.Pur
open Go
set_option linter.unusedSimpArgs false

section
variable {P : Program} {o : Oper} {a : Act} {w w1 : World} {slot : Nat} {I I' : Nat → Prop} {β β' : Beta} {O O' : Nm → Nat → Prop} {h h' : Nm → Option LObj} {e : Ent} {wr : Wr} {arr : Array Value} {ty : TypeId}

/-- what lies in lent objects -/
def Lent (O : Nm → Nat → Prop) (h : Nm → Option LObj) (ns : List Nm) (b : Nat) : Prop := ∃ n ∈ ns, h n ≠ none ∧ O n b

theorem mapM_val {α γ : Type} {f : α → HM γ} : ∀ {l : List α} {r : List γ}, (HM.mapM f l).val h = some r → r.length = l.length ∧ ∀ (i : Nat) x y, l[i]? = some x → r[i]? = some y → (f x).val h = some y
  | [], r, hv => by
    simp only [HM.mapM, HM.val, Option.some.injEq] at hv
    subst hv
    exact ⟨rfl, fun i x y hx => by simp at hx⟩
  | x :: l, r, hv => by
    simp only [HM.mapM, val_bind] at hv
    obtain ⟨y, hy, hv⟩ := Option.bind_eq_some_iff.1 hv
    obtain ⟨ys, hys, hv⟩ := Option.bind_eq_some_iff.1 hv
    simp only [HM.val, Option.some.injEq] at hv
    subst hv
    obtain ⟨l1, l2⟩ := mapM_val hys
    refine ⟨by simp [l1], fun i x' y' hx hy' => ?_⟩
    cases i with
    | zero => simp at hx hy'; subst hx hy'; exact hy
    | succ i => exact l2 i x' y' (by simpa using hx) (by simpa using hy')

theorem snap_sound (r : HRel w I β O h) : ∀ (k : Nat) {v : Value} {c : Cell} {t : T} {ns : List Nm}, RepC w I β v c → (Cell.snap k c).val h = some (t, ns) → RepT w (fun b => I b ∨ Lent O h ns b) v t := by
  have inner : ∀ (k : Nat), (∀ {v : Value} {c : Cell} {t : T} {ns : List Nm}, RepC w I β v c → (Cell.snap k c).val h = some (t, ns) → RepT w (fun b => I b ∨ Lent O h ns b) v t) →
      ∀ {cs : List Cell} {ts : List (T × List Nm)}, (HM.mapM (Cell.snap k) cs).val h = some ts → ts.length = cs.length ∧ ∀ (i : Nat) v c t, cs[i]? = some c → RepC w I β v c → (ts.map (·.1))[i]? = some t → RepT w (fun b => I b ∨ Lent O h (ts.flatMap (·.2)) b) v t := by
    intro k ih cs ts hm
    obtain ⟨l1, l2⟩ := mapM_val hm
    refine ⟨l1, fun i v c t hc hr ht => ?_⟩
    rw [List.getElem?_map] at ht
    obtain ⟨p, hp, rfl⟩ := Option.map_eq_some_iff.1 ht
    have := ih hr (l2 i c p hc hp)
    exact this.evo (fun _ _ => rfl) fun b hb => hb.imp id fun ⟨n, hn, h1, h2⟩ => ⟨n, List.mem_flatMap.2 ⟨p, List.mem_of_getElem? hp, hn⟩, h1, h2⟩
  intro k
  induction k with
  | zero =>
    intro v c t ns hc hv
    cases c with
    | t x =>
      simp only [Cell.snap, HM.val, Option.some.injEq, Prod.mk.injEq] at hv
      obtain ⟨rfl, rfl⟩ := hv
      cases hc with
      | t ht => exact ht.evo (fun _ _ => rfl) fun b hb => .inl hb
    | nils s =>
      simp only [Cell.snap, HM.val, Option.some.injEq, Prod.mk.injEq] at hv
      obtain ⟨rfl, rfl⟩ := hv
      cases hc with
      | nils => exact RepX.nil.toT (S := fun _ => False) (by simp)
    | ref n lo len => exact snapRef hc hv
    | pel n i j => exact snapPel hc hv
    | ptr n i => simp [Cell.snap, HM.val] at hv
    | clo f x y => simp [Cell.snap, HM.val] at hv
    | undef => simp [Cell.snap, HM.val] at hv
  | succ k ih =>
    intro v c t ns hc hv
    cases c with
    | t x =>
      simp only [Cell.snap, HM.val, Option.some.injEq, Prod.mk.injEq] at hv
      obtain ⟨rfl, rfl⟩ := hv
      cases hc with
      | t ht => exact ht.evo (fun _ _ => rfl) fun b hb => .inl hb
    | nils s =>
      simp only [Cell.snap, HM.val, Option.some.injEq, Prod.mk.injEq] at hv
      obtain ⟨rfl, rfl⟩ := hv
      cases hc with
      | nils => exact RepX.nil.toT (S := fun _ => False) (by simp)
    | ref n lo len => exact snapRef hc hv
    | pel n i j => exact snapPel hc hv
    | ptr n i =>
      simp only [Cell.snap, HM.val] at hv
      cases hn : h n with
      | none => simp [hn, HM.val] at hv
      | some ob =>
        cases ob with
        | arr own sz es => simp [hn, HM.val] at hv
        | gone => simp [hn, HM.val] at hv
        | row cs =>
          simp only [hn, val_bind] at hv
          obtain ⟨ts, hts, hv⟩ := Option.bind_eq_some_iff.1 hv
          simp only [HM.val, Option.some.injEq, Prod.mk.injEq] at hv
          obtain ⟨rfl, rfl⟩ := hv
          obtain ⟨l1, l2⟩ := inner k ih hts
          cases hc with
          | ptr hβ =>
            cases r.obj n _ hn with
            | row hβ' hb hO hcc =>
              rename_i b off sz b' off' sz' arr ty
              rw [hβ] at hβ'
              simp only [Option.some.injEq, Prod.mk.injEq] at hβ'
              obtain ⟨rfl, rfl, _⟩ := hβ'
              have hin : ∀ (j : Nat) c, (ts.map (·.1))[j]? = some c → ∃ c', (cs.drop i)[j]? = some c' := fun j c hj => by
                have hlt := (List.getElem?_eq_some_iff.1 hj).1
                exact ⟨_, List.getElem?_eq_getElem (by simpa [l1] using hlt)⟩
              refine .pt (fun j => arr.getD (off + i + j) Go.undef) (fun j c hj => ?_) (fun j c hj => ?_)
              · obtain ⟨c', hc'⟩ := hin j c hj
                rw [List.getElem?_drop] at hc'
                obtain ⟨v, h1, _⟩ := hcc _ _ hc'
                rw [← Nat.add_assoc] at h1
                exact ⟨.inr ⟨n, by simp, by simp [hn], hO⟩, by rw [cell_heap hb, Array.getD_eq_getD_getElem?, h1]; rfl⟩
              · obtain ⟨c', hc'⟩ := hin j c hj
                have hc2 := hc'
                rw [List.getElem?_drop] at hc2
                obtain ⟨v, h1, h2⟩ := hcc _ _ hc2
                rw [← Nat.add_assoc] at h1
                have : arr.getD (off + i + j) Go.undef = v := by rw [Array.getD_eq_getD_getElem?, h1]; rfl
                rw [this]
                exact (l2 j v c' c hc' h2 hj).evo (fun _ _ => rfl) fun b hb => hb.imp id fun ⟨m, hm, x1, x2⟩ => ⟨m, by simp [hm], x1, x2⟩
    | clo f x y =>
      simp only [Cell.snap, val_bind] at hv
      obtain ⟨xs, hxs, hv⟩ := Option.bind_eq_some_iff.1 hv
      obtain ⟨ys, hys, hv⟩ := Option.bind_eq_some_iff.1 hv
      simp only [HM.val, Option.some.injEq, Prod.mk.injEq] at hv
      obtain ⟨rfl, rfl⟩ := hv
      obtain ⟨l1, l2⟩ := inner k ih hxs
      obtain ⟨l3, l4⟩ := inner k ih hys
      cases hc with
      | clo h1 h2 r1 r2 =>
        refine .fn (by simp [l1, h1]) (by simp [l3, h2]) (fun i v c hv hc => ?_) (fun i v c hv hc => ?_)
        · have hlt := (List.getElem?_eq_some_iff.1 hc).1
          have hx : x[i]? = some (x[i]'(by simpa [l1] using hlt)) := List.getElem?_eq_getElem _
          exact (l2 i v _ c hx (r1 i v _ hv hx) hc).evo (fun _ _ => rfl) fun b hb => hb.imp id fun ⟨m, hm, x1, x2⟩ => ⟨m, List.mem_append.2 (.inl hm), x1, x2⟩
        · have hlt := (List.getElem?_eq_some_iff.1 hc).1
          have hy : y[i]? = some (y[i]'(by simpa [l3] using hlt)) := List.getElem?_eq_getElem _
          exact (l4 i v _ c hy (r2 i v _ hv hy) hc).evo (fun _ _ => rfl) fun b hb => hb.imp id fun ⟨m, hm, x1, x2⟩ => ⟨m, List.mem_append.2 (.inr hm), x1, x2⟩
    | undef => simp [Cell.snap, HM.val] at hv
where
  snapRef {k : Nat} {v : Value} {n : Nm} {lo len : Nat} {t : T} {ns : List Nm} (hc : RepC w I β v (.ref n lo len)) (hv : (Cell.snap k (.ref n lo len)).val h = some (t, ns)) : RepT w (fun b => I b ∨ Lent O h ns b) v t := by
    have hs : Cell.snap k (.ref n lo len) = .rd n fun
      | some (.arr _ sz es) => if lo + len ≤ es.length then .ret (.sl sz ((es.drop lo).take len), [n]) else .fail
      | _ => .fail := by cases k <;> rfl
    rw [hs] at hv
    simp only [HM.val] at hv
    cases hn : h n with
    | none => simp [hn, HM.val] at hv
    | some ob =>
      cases ob with
      | row cs => simp [hn, HM.val] at hv
      | gone => simp [hn, HM.val] at hv
      | arr own sz es =>
        simp only [hn] at hv
        split at hv
        · rename_i hl
          simp only [HM.val, Option.some.injEq, Prod.mk.injEq] at hv
          obtain ⟨rfl, rfl⟩ := hv
          cases hc with
          | ref hβ hb hcap hlc hm hzp =>
            rename_i cap b off sz' arr ty
            obtain ⟨h1, _, rfl⟩ := obj_window (cap := cap) (r.obj n _ hn) hβ hzp hl hlc
            exact h1.evo (fun _ _ => rfl) fun b hb => hb.imp id fun hb => ⟨n, by simp, by simp [hn], hb⟩
          | ref0 hβ =>
            rw [List.take_zero]
            exact RepX.nil.toT (S := fun _ => False) (by simp)
        · simp [HM.val] at hv
  snapPel {k : Nat} {v : Value} {n : Nm} {i j : Nat} {t : T} {ns : List Nm} (hc : RepC w I β v (.pel n i j)) (hv : (Cell.snap k (.pel n i j)).val h = some (t, ns)) : RepT w (fun b => I b ∨ Lent O h ns b) v t := by
    have hs : Cell.snap k (.pel n i j) = .rd n fun
      | some (.arr _ _ es) => .ret (.pt (((es.drop i).flatten).drop j), [n])
      | _ => .fail := by cases k <;> rfl
    rw [hs] at hv
    simp only [HM.val] at hv
    cases hn : h n with
    | none => simp [hn, HM.val] at hv
    | some ob =>
      cases ob with
      | row cs => simp [hn, HM.val] at hv
      | gone => simp [hn, HM.val] at hv
      | arr own sz es =>
        simp only [hn, HM.val, Option.some.injEq, Prod.mk.injEq] at hv
        obtain ⟨rfl, rfl⟩ := hv
        cases hc with
        | pel hβ hz =>
          cases r.obj n _ hn with
          | arr0 hβ' => rw [hβ] at hβ'; simp at hβ'; omega
          | arr vals Ss hβ' hb hO hsz h0 hoff hcc hx ht hsub hdis =>
            rename_i b off sz' b' off' arr ty
            rw [hβ] at hβ'
            simp only [Option.some.injEq, Prod.mk.injEq] at hβ'
            obtain ⟨rfl, rfl, rfl⟩ := hβ'
            have hget : ∀ (q : Nat) c, (((es.drop i).flatten).drop j)[q]? = some c → es.flatten[i * sz' + j + q]? = some c := fun q c hq => by
              rw [flatten_drop _ _ hsz, List.getElem?_drop, List.getElem?_drop, ← Nat.add_assoc] at hq
              exact hq
            refine .pt (fun q => vals (i * sz' + j + q)) (fun q c hq => ?_) (fun q c hq => ?_)
            · refine ⟨.inr ⟨n, by simp, by simp [hn], hO⟩, ?_⟩
              rw [cell_heap hb, show off + i * sz' + j + q = off + (i * sz' + j + q) from by omega]
              exact hcc _ _ (hget q c hq)
            · cases own with
              | true => exact (hx rfl _ _ (hget q c hq)).toT fun x hx => .inr ⟨n, by simp, by simp [hn], (hsub _ x hx).1⟩
              | false => exact (ht rfl _ _ (hget q c hq)).evo (fun _ _ => rfl) fun x hx => .inl hx

theorem arg_sound (r : HRel w I β O h) {m : Bool} {x : AV} {y : AV} {ns : List Nm} {v : Value} (hr : RepA w I β v x) (hv : (argOf m x).val h = some (y, ns)) : RepA w (fun b => I b ∨ Lent O h ns b) β v y := by
  have mv : Moves w w I (fun b => I b ∨ Lent O h ns b) β β := ⟨fun _ _ => rfl, fun _ hb => .inl hb, fun _ _ hh => hh, fun _ arr _ _ hb => ⟨arr, hb, rfl⟩⟩
  unfold argOf at hv
  split at hv
  · simp only [HM.val, Option.some.injEq, Prod.mk.injEq] at hv
    obtain ⟨rfl, rfl⟩ := hv
    exact hr.moves mv
  · rw [val_bind] at hv
    obtain ⟨ts, hts, hv2⟩ := Option.bind_eq_some_iff.1 hv
    clear hv
    simp only [HM.val, Option.some.injEq, Prod.mk.injEq] at hv2
    obtain ⟨rfl, rfl⟩ := hv2
    obtain ⟨l1, l2⟩ := mapM_val hts
    have key : ∀ (i : Nat) v c c', x.cells[i]? = some c → RepC w I β v c → (ts.map fun x => Cell.t x.1)[i]? = some c' → RepC w (fun b => I b ∨ Lent O h (ts.flatMap (·.2)) b) β v c' := fun i v c c' hc hrc hc' => by
      rw [List.getElem?_map] at hc'
      obtain ⟨p, hp, rfl⟩ := Option.map_eq_some_iff.1 hc'
      have := snap_sound r _ hrc (l2 i c p hc hp)
      exact .t (this.evo (fun _ _ => rfl) fun b hb => hb.imp id fun ⟨n, hn, h1, h2⟩ => ⟨n, List.mem_flatMap.2 ⟨p, List.mem_of_getElem? hp, hn⟩, h1, h2⟩)
    cases hr with
    | one hc =>
      rename_i c
      obtain ⟨p, rfl⟩ := List.length_eq_one_iff.1 l1
      exact .one (key 0 v _ _ rfl hc rfl)
    | agg hc =>
      refine .agg ⟨by simp [l1, hc.1], fun i v c hv hc' => ?_⟩
      have hlt := (List.getElem?_eq_some_iff.1 hc').1
      rename_i vs cs
      have hlt2 : i < cs.length := by simpa [l1] using hlt
      have hx : cs[i]? = some cs[i] := List.getElem?_eq_getElem hlt2
      exact key i v _ c hx (hc.2 i v _ hv hx) hc'

theorem entryHeap_eq : ∀ (os : List LObj) (j : Nat) (n : Nm), entryHeap j os n = if n.1 = 0 ∧ j ≤ n.2 then (match os[n.2 - j]? with | some .gone => none | x => x) else none
  | [], j, n => by simp [entryHeap]
  | ob :: os, j, n => by
    have ih := entryHeap_eq os (j + 1) n
    have step : entryHeap j (ob :: os) n = if n = (0, j) then (match ob with | .gone => none | x => some x) else entryHeap (j + 1) os n := by
      cases ob with
      | gone =>
        simp only [entryHeap]
        split
        · rename_i hn; subst hn; rw [ih, if_neg (by simp)]
        · rfl
      | row cs => simp only [entryHeap, upd]
      | arr o s e => simp only [entryHeap, upd]
    rw [step, ih]
    by_cases hn : n = (0, j)
    · subst hn
      rw [if_pos rfl, if_pos ⟨rfl, Nat.le_refl _⟩]
      simp
      cases ob <;> rfl
    · rw [if_neg hn]
      by_cases h1 : n.1 = 0 ∧ j ≤ n.2
      · have h2 : j + 1 ≤ n.2 := by
          rcases Nat.lt_or_ge j n.2 with h3 | h3
          · exact h3
          · exact absurd (by obtain ⟨a, b⟩ := n; simp at h1 h3 ⊢; omega : n = (0, j)) hn
        rw [if_pos ⟨h1.1, h2⟩, if_pos h1, show n.2 - j = (n.2 - (j + 1)) + 1 from by omega, List.getElem?_cons_succ]
      · rw [if_neg h1, if_neg (by omega)]

end
end Go.Pur
