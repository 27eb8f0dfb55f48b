/- Operations that make memory; data given into a row. -/
import Derived.Test.YtjgegedgmkdoiaaFd
namespace Go.Pur
open Go

/-! ### rows of elements of one size -/

theorem flatten_drop {α : Type} {sz : Nat} : ∀ (es : List (List α)) (n : Nat), (∀ e ∈ es, e.length = sz) → (es.drop n).flatten = es.flatten.drop (n * sz)
  | [], n, _ => by simp
  | e :: es, 0, _ => by simp
  | e :: es, n + 1, h => by
    have h1 : e.length = sz := h e (by simp)
    have ih := flatten_drop es n (fun x hx => h x (by simp [hx]))
    have e2 : (n + 1) * sz = e.length + n * sz := by rw [h1, Nat.add_mul]; omega
    rw [List.drop_succ_cons, ih, List.flatten_cons, e2, ← List.drop_drop, List.drop_left]

theorem flatten_take {α : Type} {sz : Nat} : ∀ (es : List (List α)) (n : Nat), (∀ e ∈ es, e.length = sz) → (es.take n).flatten = es.flatten.take (n * sz)
  | [], n, _ => by simp
  | e :: es, 0, _ => by simp
  | e :: es, n + 1, h => by
    have h1 : e.length = sz := h e (by simp)
    have ih := flatten_take es n (fun x hx => h x (by simp [hx]))
    have e2 : (n + 1) * sz = e.length + n * sz := by rw [h1, Nat.add_mul]; omega
    rw [List.take_succ_cons, List.flatten_cons, ih, List.flatten_cons, e2, List.take_length_add_append]

theorem flatten_length {α : Type} {sz : Nat} : ∀ (es : List (List α)), (∀ e ∈ es, e.length = sz) → es.flatten.length = es.length * sz
  | [], _ => by simp
  | e :: es, h => by
    have ih := flatten_length es (fun x hx => h x (by simp [hx]))
    rw [List.flatten_cons, List.length_append, ih, h e (by simp), List.length_cons, Nat.add_mul]; omega

/-- cell j of element i -/
theorem flatten_elem {α : Type} {sz : Nat} {es : List (List α)} {i j : Nat} {e : List α} {c : α} (h : ∀ e ∈ es, e.length = sz) (he : es[i]? = some e) (hc : e[j]? = some c) : es.flatten[i * sz + j]? = some c := by
  have hi : i < es.length := (List.getElem?_eq_some_iff.1 he).1
  have hj : j < e.length := (List.getElem?_eq_some_iff.1 hc).1
  have h1 : es.flatten.drop (i * sz) = (es.drop i).flatten := (flatten_drop es i h).symm
  have h2 : es.drop i = e :: es.drop (i + 1) := by
    rw [List.drop_eq_getElem_cons hi]
    congr 1
    rw [List.getElem?_eq_getElem hi] at he
    exact Option.some.inj he
  have h3 : (es.flatten.drop (i * sz))[j]? = some c := by
    rw [h1, h2, List.flatten_cons, List.getElem?_append_left hj]; exact hc
  rwa [List.getElem?_drop] at h3

theorem window_flatten {α : Type} {sz : Nat} (es : List (List α)) (lo len : Nat) (h : ∀ e ∈ es, e.length = sz) : ((es.drop lo).take len).flatten = (es.flatten.drop (lo * sz)).take (len * sz) := by
  rw [flatten_take _ _ (fun e he => h e (List.mem_of_mem_drop he)), flatten_drop _ _ h]

theorem window_get {α : Type} {sz : Nat} {es : List (List α)} {lo len i : Nat} {c : α} (h : ∀ e ∈ es, e.length = sz) (hc : ((es.drop lo).take len).flatten[i]? = some c) : es.flatten[lo * sz + i]? = some c := by
  rw [window_flatten _ _ _ h, List.getElem?_take] at hc
  split at hc
  · rwa [List.getElem?_drop] at hc
  · cases hc

theorem mem_window {α : Type} {es : List α} {lo len : Nat} {e : α} (h : e ∈ (es.drop lo).take len) : e ∈ es := List.mem_of_mem_drop (List.mem_of_mem_take h)

/-! ### a cell is given away -/

/-- what a given row of cells is good for: names that go, sets of memory apart from one another; data of what stays immutable and what went; alone, where u says so -/
structure Given (w : World) (I : Nat → Prop) (O : Nm → Nat → Prop) (h : Nm → Option LObj) (vs : List Value) (ts : List T) (ns : List Nm) (u : Bool) (Ss : Nat → Nat → Prop) : Prop where
  len : vs.length = ts.length
  live : ∀ n ∈ ns, h n ≠ none
  sub : ∀ i x, Ss i x → ∃ n ∈ ns, O n x
  dis : ∀ i j x, Ss i x → Ss j x → i = j
  data : ∀ (i : Nat) v t, vs[i]? = some v → ts[i]? = some t → RepT w (fun b => I b ∨ ∃ n ∈ ns, O n b) v t
  alone : u = true → ∀ (i : Nat) v t, vs[i]? = some v → ts[i]? = some t → RepX w v t (Ss i)

theorem cell_heap {w : World} {b : Nat} {arr : Array Value} {ty : TypeId} (hb : w.heap[b]? = some (.cells arr ty (0, 0))) (i : Nat) : w.cell? ⟨b, i, none⟩ = arr[i]? := by simp [World.cell?, hb]
theorem frozen_heap {w : World} {b : Nat} {arr : Array Value} {ty : TypeId} (hb : w.heap[b]? = some (.cells arr ty (0, 0))) (i : Nat) : w.frozen? ⟨b, i, none⟩ = false := by simp [World.frozen?, hb]

/-- a part of an own row, as data and alone -/
theorem obj_window {w : World} {I : Nat → Prop} {β : Beta} {O : Nat → Prop} {n : Nm} {own : Bool} {sz lo len cap b off sz' : Nat} {es : List (List T)}
    (hob : ObjRep w I β O n (.arr own sz es)) (hβ : β n = some (b, off, sz')) (hz : 0 < sz') (hl : lo + len ≤ es.length) (hlc : len ≤ cap) :
    RepT w (fun x => I x ∨ O x) (.slice (some ⟨b, off + lo * sz, none⟩) len cap) (.sl sz ((es.drop lo).take len)) ∧
    (own = true → RepX w (.slice (some ⟨b, off + lo * sz, none⟩) len cap) (.sl sz ((es.drop lo).take len)) O) ∧ sz' = sz := by
  cases hob with
  | arr0 hβ' => rw [hβ] at hβ'; simp at hβ'; omega
  | arr vals Ss hβ' hb hO hsz h0 hoff hc hx ht hsub hdis =>
    rw [hβ] at hβ'
    simp only [Option.some.injEq, Prod.mk.injEq] at hβ'
    obtain ⟨rfl, rfl, rfl⟩ := hβ'
    have hlen : ((es.drop lo).take len).length = len := by simp; omega
    have hsz' : ∀ e ∈ (es.drop lo).take len, e.length = sz' := fun e he => hsz e (mem_window he)
    refine ⟨?_, fun hown => ?_, rfl⟩
    · have := RepT.sl (w := w) (I := fun x => I x ∨ O x) (a := some ⟨b, off + lo * sz', none⟩) (cap := cap) (es := (es.drop lo).take len) (fun i => vals (lo * sz' + i)) (by omega) hsz'
        (fun i c hi => ⟨b, _, rfl, .inr hO, by rw [cell_heap hb, Nat.add_assoc]; exact hc _ _ (window_get hsz hi)⟩)
        (fun i c hi => by
          have hi' := window_get hsz hi
          cases own with
          | true => exact (hx rfl _ _ hi').toT fun x hx => .inr (hsub _ _ hx).1
          | false => exact (ht rfl _ _ hi').evo (fun _ _ => rfl) fun x hx => .inl hx)
      rwa [hlen] at this
    · have := RepX.sl (w := w) (b := b) (off := off + lo * sz') (cap := cap) (es := (es.drop lo).take len) (S := O) (fun i => vals (lo * sz' + i)) (fun i => Ss (lo * sz' + i)) (by omega) hsz' hO
        (fun i c hi => ⟨by rw [cell_heap hb, Nat.add_assoc]; exact hc _ _ (window_get hsz hi), frozen_heap hb _⟩)
        (fun i c hi => hx hown _ _ (window_get hsz hi))
        (fun i x hi => hsub _ _ hi) (fun i j x h1 h2 => by have := hdis _ _ _ h1 h2; omega)
      rwa [hlen] at this

theorem give_one {w : World} {I : Nat → Prop} {β : Beta} {O : Nm → Nat → Prop} {h : Nm → Option LObj} {v : Value} {c : Cell} {t : T} {ns : List Nm} {u : Bool}
    (r : HRel w I β O h) (hc : RepC w I β v c) (hg : c.give.val h = some (t, ns, u)) :
    ∃ S : Nat → Prop, (∀ n ∈ ns, h n ≠ none) ∧ (∀ x, S x → ∃ n ∈ ns, O n x) ∧ RepT w (fun b => I b ∨ ∃ n ∈ ns, O n b) v t ∧ (u = true → RepX w v t S) := by
  unfold Cell.give at hg
  split at hg
  · simp only [HM.val, Option.some.injEq, Prod.mk.injEq] at hg
    obtain ⟨rfl, rfl, rfl⟩ := hg
    cases hc with
    | t ht => exact ⟨fun _ => False, by simp, by simp, ht.evo (fun _ _ => rfl) (fun b hb => .inl hb), fun hu => ht.toX hu _⟩
  · simp only [HM.val, Option.some.injEq, Prod.mk.injEq] at hg
    obtain ⟨rfl, rfl, rfl⟩ := hg
    cases hc with
    | nils => exact ⟨fun _ => False, by simp, by simp, RepX.nil.toT (S := fun _ => False) (by simp), fun _ => .nil⟩
  · rename_i n lo len
    simp only [HM.val] at hg
    cases hn : h n with
    | none => simp [hn, HM.val] at hg
    | some ob =>
      cases ob with
      | arr own sz es =>
        simp only [hn] at hg
        split at hg
        · rename_i hl
          simp only [HM.val, Option.some.injEq, Prod.mk.injEq] at hg
          obtain ⟨rfl, rfl, rfl⟩ := hg
          cases hc with
          | ref hβ hb hcap hlc hm hz =>
            rename_i cap b off sz' arr ty
            obtain ⟨h1, h2, rfl⟩ := obj_window (cap := cap) (r.obj n _ hn) hβ hz hl hlc
            exact ⟨O n, by simp [hn], fun x hx => ⟨n, by simp, hx⟩, h1.evo (fun _ _ => rfl) (fun b hb => hb.imp id fun hb => ⟨n, by simp, hb⟩), h2⟩
          | ref0 hβ =>
            rw [List.take_zero]
            exact ⟨fun _ => False, by simp [hn], by simp, RepX.nil.toT (S := fun _ => False) (by simp), fun _ => .nil⟩
        · simp [HM.val] at hg
      | row cs => simp [hn, HM.val] at hg
      | gone => simp [hn, HM.val] at hg
  · simp [HM.val] at hg

theorem val_bind {α β : Type} (h : Nm → Option LObj) (m : HM α) (f : α → HM β) : (m.bind f).val h = (m.val h).bind fun x => (f x).val h := by
  induction m with
  | ret a => rfl
  | fail => rfl
  | rd n k ih => exact ih (h n)

theorem give_all {w : World} {I : Nat → Prop} {β : Beta} {O : Nm → Nat → Prop} {h : Nm → Option LObj} (r : HRel w I β O h) : ∀ {cs : List Cell} {vs : List Value} {ts : List T} {ns : List Nm} {u : Bool},
    RepL w I β vs cs → (giveL cs).val h = some (ts, ns, u) → ∃ Ss, Given w I O h vs ts ns u Ss
  | [], vs, ts, ns, u, hr, hg => by
    simp only [giveL, HM.val, Option.some.injEq, Prod.mk.injEq] at hg
    obtain ⟨rfl, rfl, rfl⟩ := hg
    have : vs = [] := List.eq_nil_of_length_eq_zero hr.1
    subst this
    exact ⟨fun _ _ => False, ⟨rfl, by simp, by simp, by simp, by simp, by simp⟩⟩
  | c :: cs, vs, ts, ns, u, hr, hg => by
    simp only [giveL, val_bind] at hg
    obtain ⟨⟨t1, n1, u1⟩, hg1, hg⟩ := Option.bind_eq_some_iff.1 hg
    obtain ⟨⟨t2, n2, u2⟩, hg2, hg⟩ := Option.bind_eq_some_iff.1 hg
    simp only at hg
    split at hg
    · simp [HM.val] at hg
    · rename_i hap
      simp only [HM.val, Option.some.injEq, Prod.mk.injEq] at hg
      obtain ⟨rfl, rfl, rfl⟩ := hg
      cases vs with
      | nil => have := hr.1; simp at this
      | cons v vs =>
        have hrest : RepL w I β vs cs := ⟨by simpa using hr.1, fun i v' c' h1 h2 => hr.2 (i + 1) v' c' (by simpa using h1) (by simpa using h2)⟩
        obtain ⟨S, l1, s1, d1, a1⟩ := give_one r (hr.2 0 v c (by simp) (by simp)) hg1
        obtain ⟨Ss, g⟩ := give_all r hrest hg2
        have apart : ∀ x, S x → ∀ i, Ss i x → False := fun x h1 i h2 => by
          obtain ⟨n, hn, hx⟩ := s1 x h1
          obtain ⟨m, hm, hy⟩ := g.sub i x h2
          have := r.dis n m x (l1 n hn) (g.live m hm) hx hy
          subst this
          apply hap
          rw [List.any_eq_true]
          exact ⟨n, hn, by simpa using hm⟩
        refine ⟨fun i => match i with | 0 => S | i + 1 => Ss i, ⟨by simp [g.len], ?_, ?_, ?_, ?_, ?_⟩⟩
        · intro n hn
          rcases List.mem_append.1 hn with hn | hn
          · exact l1 n hn
          · exact g.live n hn
        · intro i x hx
          cases i with
          | zero => obtain ⟨n, hn, h2⟩ := s1 x hx; exact ⟨n, List.mem_append.2 (.inl hn), h2⟩
          | succ i => obtain ⟨n, hn, h2⟩ := g.sub i x hx; exact ⟨n, List.mem_append.2 (.inr hn), h2⟩
        · intro i j x h1 h2
          cases i <;> cases j
          · rfl
          · exact (apart x h1 _ h2).elim
          · exact (apart x h2 _ h1).elim
          · have := g.dis _ _ x h1 h2; omega
        · intro i v' t' h1 h2
          cases i with
          | zero =>
            simp at h1 h2; subst h1 h2
            exact d1.evo (fun _ _ => rfl) fun b hb => hb.imp id fun ⟨n, hn, h3⟩ => ⟨n, List.mem_append.2 (.inl hn), h3⟩
          | succ i =>
            simp at h1 h2
            exact (g.data i v' t' h1 h2).evo (fun _ _ => rfl) fun b hb => hb.imp id fun ⟨n, hn, h3⟩ => ⟨n, List.mem_append.2 (.inr hn), h3⟩
        · intro hu i v' t' h1 h2
          simp at hu
          cases i with
          | zero => simp at h1 h2; subst h1 h2; exact a1 hu.1
          | succ i => simp at h1 h2; exact g.alone hu.2 i v' t' h1 h2

theorem putWr_append (h : Nm → Option LObj) (a b : Wr) : putWr h (a ++ b) = putWr (putWr h a) b := by
  induction a generalizing h with
  | nil => rfl
  | cons x a ih => obtain ⟨n, o⟩ := x; exact ih _

theorem putWr_dead (h : Nm → Option LObj) (l : List Nm) (n : Nm) : putWr h (dead l) n = if n ∈ l then none else h n := by
  induction l generalizing h with
  | nil => simp [dead, putWr]
  | cons m l ih =>
    have := ih (upd h m none)
    simp only [dead, List.map_cons, putWr] at this ⊢
    rw [this]
    by_cases h1 : n ∈ l
    · simp [h1]
    · by_cases h2 : n = m
      · subst h2; simp [upd]
      · simp [h1, h2, upd]

end Go.Pur
