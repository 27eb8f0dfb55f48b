/- Stores. -/
import Derived.Test.YtjgegedgmkdoiaaFg
namespace Go.Pur
open Go

section
variable {P : Program} {o : Oper} {a : Act} {w w1 : World} {slot : Nat} {I : Nat → Prop} {β : Beta} {O : Nm → Nat → Prop} {h : Nm → Option LObj} {e : Ent} {wr : Wr} {arr : Array Value} {ty : TypeId}

theorem okOp_st {x : Op} {n : Nat} {y z : Opd} (h : okOp P x (.st n y z) = true) : ∃ t y' z', x = .store t y' z' ∧ sizeT P t = some n ∧ 0 < n ∧ okOpd y' y = true ∧ okOpd z' z = true := by
  cases x <;> simp [okOp] at h
  exact ⟨_, _, _, rfl, h.1.1.1, h.1.1.2, h.1.2, h.2⟩

/-- a part of a row is written anew -/
def spliceA (arr : Array Value) (p : Nat) (vs : List Value) : Array Value := (arr.toList.take p ++ vs ++ arr.toList.drop (p + vs.length)).toArray

theorem spliceA_size {arr : Array Value} {p : Nat} {vs : List Value} (h : p + vs.length ≤ arr.size) : (spliceA arr p vs).size = arr.size := by
  simp [spliceA]; omega

theorem spliceA_in {arr : Array Value} {p : Nat} {vs : List Value} (h : p + vs.length ≤ arr.size) (k : Nat) (v : Value) (hv : vs[k]? = some v) : (spliceA arr p vs)[p + k]? = some v := by
  have hk : k < vs.length := (List.getElem?_eq_some_iff.1 hv).1
  simp only [spliceA, List.getElem?_toArray]
  rw [List.append_assoc, List.getElem?_append_right (by simp; omega)]
  have : (arr.toList.take p).length = p := by simp; omega
  rw [this, Nat.add_sub_cancel_left, List.getElem?_append_left hk]
  exact hv

theorem spliceA_out {arr : Array Value} {p : Nat} {vs : List Value} (h : p + vs.length ≤ arr.size) (k : Nat) (hk : k < p ∨ p + vs.length ≤ k) : (spliceA arr p vs)[k]? = arr[k]? := by
  simp only [spliceA, List.getElem?_toArray]
  have hp : (arr.toList.take p).length = p := by simp; omega
  rcases hk with hk | hk
  · rw [List.append_assoc, List.getElem?_append_left (by omega), List.getElem?_take_of_lt hk]; simp
  · rw [List.getElem?_append_right (by simp; omega), List.length_append, hp, List.getElem?_drop, show p + vs.length + (k - (p + vs.length)) = k from by omega]; simp

theorem run_store {t : TypeId} {y z : Operand} {n b off : Nat} (hz : o.op = .store t y z) (hs : sizeT P t = some n) (hy : a.eval y = .pointer (some ⟨b, off, none⟩)) (hn : (a.eval z).cells.toList.length = n)
    (hb : w.heap[b]? = some (.cells arr ty (0, 0))) (hfit : off + n ≤ arr.size) (h1 : ∀ u ∈ (a.eval z).cells.toList, u.oneCell' = true) :
    (execOp a.eval o).run P w = .ok .skip (w.setRow b (spliceA arr off (a.eval z).cells.toList)) := by
  have hsz := sizeT_some hs w
  have hst := run_storeCells_at P b off ty (a.eval z).cells.toList 0 arr w hb (by omega) h1
  have hne : ¬ (a.eval z).cells.size ≠ n := by simpa using hn
  unfold execOp
  rw [hz]
  simp only [Instr.storeAt, Instr.sureAddr, hy, storeVar, Sem.run_bind, Sem.run_pure, Result.andThen_ok, hsz, if_neg hne, hst]
  rfl

theorem setRow_evo {W : Nat → Prop} {arr' : Array Value} {b : Nat} (hb : w.heap[b]? = some (.cells arr ty (0, 0))) (hs : arr'.size = arr.size) (hW : W b) : Evo W w (w.setRow b arr') := by
  refine ⟨rfl, rfl, rfl, by simp [World.setRow], fun k _ hk => setRow_other w b k _ (fun e => hk (e ▸ hW)), fun k ar t fz hk => ?_⟩
  by_cases hkb : k = b
  · subst hkb
    rw [hb] at hk
    simp only [Option.some.injEq, Obj.cells.injEq] at hk
    obtain ⟨rfl, rfl, rfl⟩ := hk
    exact ⟨arr', setRow_heap w k arr arr' ty (0, 0) hb, hs⟩
  · exact ⟨ar, by rw [setRow_other w b k _ hkb]; exact hk, rfl⟩

theorem setRow_same {arr' : Array Value} {b k : Nat} (hk : k ≠ b) : (w.setRow b arr').heap[k]? = w.heap[k]? := setRow_other w b k _ hk

theorem store_row (r : HRel w I β O h) {m : Nm} {cs new : List Cell} {vs : List Value} {i b off sz : Nat} (hm : h m = some (.row cs)) (hβ : β m = some (b, off, sz)) (hl : i + new.length ≤ cs.length) (h0 : 0 < new.length)
    (hr : RepL w I β vs new) (hb : w.heap[b]? = some (.cells arr ty (0, 0))) :
    off + i + vs.length ≤ arr.size ∧ StepTo slot w (w.setRow b (spliceA arr (off + i) vs)) I I β β O O h (putWr h [(m, some (.row (cs.take i ++ new ++ cs.drop (i + new.length))))]) := by
  have hput : ∀ k ob, putWr h [(m, some ob)] k = if k = m then some ob else h k := fun k ob => by simp [putWr, upd]
  cases r.obj m _ hm with
  | row hβ' hb' hO hcc =>
    rename_i b' off' sz' arr' ty'
    rw [hβ] at hβ'
    simp only [Option.some.injEq, Prod.mk.injEq] at hβ'
    obtain ⟨rfl, rfl, _⟩ := hβ'
    rw [hb] at hb'
    simp only [Option.some.injEq, Obj.cells.injEq] at hb'
    obtain ⟨rfl, rfl, _⟩ := hb'
    have hvl : vs.length = new.length := hr.1
    have hfit : off + i + vs.length ≤ arr.size := by
      obtain ⟨v, hv, _⟩ := hcc (cs.length - 1) cs[cs.length - 1] (by simp)
      have := (Array.getElem?_eq_some_iff.1 hv).1
      omega
    refine ⟨hfit, ?_⟩
    have evo := setRow_evo (W := Owned O h) hb (spliceA_size hfit) ⟨m, by simp [hm], hO⟩
    have mv : Moves w (w.setRow b (spliceA arr (off + i) vs)) I I β β := ⟨fun x hx => evo.same x (r.ilt x hx) (r.notOwned hx), fun _ h => h, fun _ _ h => h, evo.rows⟩
    refine step1 (t := m) r mv (fun _ _ h => .inl h) evo (fun k hk => .inl (by rw [hput, if_neg hk])) (by rw [hput, if_pos rfl]) ?_ (fun _ _ => rfl) (fun k hk hne x hx => setRow_same fun e => ?_) (fun x hx => .inr ⟨m, by simp [hm], hx, .inl rfl⟩)
      (fun x hx => ?_) (fun x hx => .inl hx) (fun x hx => r.imm m x (by simp [hm]) hx)
    · refine .row hβ (setRow_heap w b arr _ ty (0, 0) hb) hO fun k c hk => ?_
      by_cases h1 : k < i
      · rw [List.append_assoc, List.getElem?_append_left (by simp; omega), List.getElem?_take_of_lt h1] at hk
        obtain ⟨v, hv, hc⟩ := hcc k c hk
        exact ⟨v, by rw [spliceA_out hfit _ (.inl (by omega))]; exact hv, hc.moves mv⟩
      · by_cases h2 : k < i + new.length
        · rw [List.append_assoc, List.getElem?_append_right (by simp; omega), List.getElem?_append_left (by simp; omega)] at hk
          have e1 : k - (cs.take i).length = k - i := by simp; omega
          rw [e1] at hk
          have hlt : k - i < vs.length := by omega
          refine ⟨vs[k - i], ?_, (hr.2 _ _ c (List.getElem?_eq_getElem hlt) hk).moves mv⟩
          have := spliceA_in hfit (k - i) vs[k - i] (List.getElem?_eq_getElem hlt)
          rwa [show off + i + (k - i) = off + k from by omega] at this
        · rw [List.getElem?_append_right (by simp; omega), List.getElem?_drop] at hk
          have e1 : i + new.length + (k - (cs.take i ++ new).length) = k := by simp; omega
          rw [e1] at hk
          obtain ⟨v, hv, hc⟩ := hcc k c hk
          exact ⟨v, by rw [spliceA_out hfit _ (.inr (by omega))]; exact hv, hc.moves mv⟩
    · subst e
      rw [hput, if_neg hk] at hne
      exact hk (r.dis k m x hne (by simp [hm]) hx hO)
    · exact Nat.lt_of_lt_of_le (r.lt m x (by simp [hm]) hx) evo.size

theorem set_flatten {α : Type} {sz : Nat} {es : List (List α)} {i : Nat} {e' : List α} (hsz : ∀ e ∈ es, e.length = sz) (hi : i < es.length) (he : e'.length = sz) (k : Nat) :
    (es.set i e').flatten[k]? = if i * sz ≤ k ∧ k < i * sz + sz then e'[k - i * sz]? else es.flatten[k]? := by
  have h1 : es.set i e' = es.take i ++ e' :: es.drop (i + 1) := List.set_eq_take_append_cons_drop.trans (by simp [hi])
  have h2 : (es.take i).flatten.length = i * sz := by
    rw [flatten_length _ (fun e he => hsz e (List.mem_of_mem_take he)), List.length_take, Nat.min_eq_left (by omega)]
  rw [h1, List.flatten_append, List.flatten_cons]
  by_cases c1 : k < i * sz
  · rw [List.getElem?_append_left (by omega), flatten_take _ _ hsz, List.getElem?_take_of_lt c1, if_neg (by omega)]
  · rw [List.getElem?_append_right (by omega), h2]
    by_cases c2 : k < i * sz + sz
    · rw [List.getElem?_append_left (by omega), if_pos (by omega)]
    · rw [List.getElem?_append_right (by omega), if_neg (by omega), he, flatten_drop _ _ hsz, List.getElem?_drop]
      congr 1
      rw [Nat.add_mul]; omega

theorem store_arr (r : HRel w I β O h) {m : Nm} {own u : Bool} {sz p b off : Nat} {es es' : List (List T)} {vs : List Value} {ts : List T} {ns : List Nm} {Sg : Nat → Nat → Prop}
    (hm : h m = some (.arr own sz es)) (hβ : β m = some (b, off, sz)) (g : Given w I O h vs ts ns u Sg) (hmn : m ∉ ns) (hb : w.heap[b]? = some (.cells arr ty (0, 0)))
    (hsz' : ∀ e ∈ es', e.length = sz) (hoff' : off + es'.length * sz ≤ arr.size) (hfit : off + p + vs.length ≤ arr.size)
    (hes : ∀ (k : Nat) c, es'.flatten[k]? = some c → (es.flatten[k]? = some c ∧ (k < p ∨ p + ts.length ≤ k)) ∨ (p ≤ k ∧ k < p + ts.length ∧ ts[k - p]? = some c)) :
    ∃ I' O', StepTo slot w (w.setRow b (spliceA arr (off + p) vs)) I I' β β O O' h (putWr h (dead ns ++ [(m, some (.arr (own && u) sz es'))])) := by
  have hput : ∀ k ob, putWr h (dead ns ++ [(m, some ob)]) k = if k = m then some ob else if k ∈ ns then none else h k := by
    intro k ob
    rw [putWr_append]
    by_cases e : k = m
    · subst e; simp [putWr, upd]
    · simp [putWr, upd, e, putWr_dead]
  have hvl := g.len
  have hmne : h m ≠ none := by simp [hm]
  cases r.obj m _ hm with
  | arr0 hβ' h0 => rw [hβ] at hβ'; simp at hβ'; omega
  | arr vals Ss hβ' hb' hO hsz h0 hoff hc hx ht hsub hdis =>
    rw [hβ] at hβ'
    simp only [Option.some.injEq, Prod.mk.injEq] at hβ'
    obtain ⟨rfl, rfl, _⟩ := hβ'
    rw [hb] at hb'
    simp only [Option.some.injEq, Obj.cells.injEq] at hb'
    obtain ⟨rfl, rfl, _⟩ := hb'
    have evo := setRow_evo (W := Owned O h) hb (spliceA_size hfit) ⟨m, hmne, hO⟩
    have hsame : ∀ x, x ≠ b → (w.setRow b (spliceA arr (off + p) vs)).heap[x]? = w.heap[x]? := fun x hx => setRow_same hx
    have nsb : ∀ n ∈ ns, ∀ x, O n x → x ≠ b := fun n hn x hx e => by
      subst e; exact hmn (r.dis n m x (g.live n hn) hmne hx hO ▸ hn)
    have old : ∀ k, k < p ∨ p + ts.length ≤ k → (spliceA arr (off + p) vs)[off + k]? = arr[off + k]? := fun k hk => spliceA_out hfit _ (by omega)
    have new : ∀ k v, vs[k]? = some v → (spliceA arr (off + p) vs)[off + (p + k)]? = some v := fun k v hv => by
      rw [← Nat.add_assoc]; exact spliceA_in hfit k v hv
    let vals' : Nat → Value := fun k => if p ≤ k ∧ k < p + ts.length then vs.getD (k - p) Go.undef else vals k
    have hc' : ∀ (k : Nat) c, es'.flatten[k]? = some c → (spliceA arr (off + p) vs)[off + k]? = some (vals' k) := by
      intro k c hk
      rcases hes k c hk with ⟨h1, h2⟩ | ⟨h1, h2, h3⟩
      · rw [old k h2, hc k c h1]
        have : ¬ (p ≤ k ∧ k < p + ts.length) := by omega
        simp [vals', this]
      · have hlt : k - p < vs.length := by omega
        have := new (k - p) vs[k - p] (List.getElem?_eq_getElem hlt)
        rw [show p + (k - p) = k from by omega] at this
        simp [this, vals', h1, h2, List.getD_eq_getElem?_getD, List.getElem?_eq_getElem hlt]
    have vnew : ∀ (k : Nat), p ≤ k → k < p + ts.length → vs[k - p]? = some (vals' k) := fun k h1 h2 => by
      have hlt : k - p < vs.length := by omega
      simp [vals', h1, h2, List.getD_eq_getElem?_getD, List.getElem?_eq_getElem hlt]
    have vold : ∀ (k : Nat), k < p ∨ p + ts.length ≤ k → vals' k = vals k := fun k hk => by
      have : ¬ (p ≤ k ∧ k < p + ts.length) := by omega
      simp [vals', this]
    by_cases hou : own = true ∧ u = true
    · obtain ⟨rfl, rfl⟩ := hou
      have mv : Moves w (w.setRow b (spliceA arr (off + p) vs)) I I β β := ⟨fun x hx => evo.same x (r.ilt x hx) (r.notOwned hx), fun _ h => h, fun _ _ h => h, evo.rows⟩
      refine ⟨I, upd O m (fun x => O m x ∨ ∃ n ∈ ns, O n x), step1 (t := m) (ob := .arr true sz es') r mv (fun _ _ h => .inl h) evo (fun k hk => ?_) (by rw [Bool.and_self, hput, if_pos rfl]) ?_ (fun k hk => upd_other _ _ _ hk) (fun k hk hne x hx => hsame x fun e => ?_) (fun x hx => ?_)
        (fun x hx => ?_) (fun x hx => .inl hx) (fun x hx hi => ?_)⟩
      · rw [hput, if_neg hk]; by_cases h1 : k ∈ ns <;> simp [h1]
      · refine .arr vals' (fun k x => (p ≤ k ∧ k < p + ts.length ∧ Sg (k - p) x) ∨ (¬ (p ≤ k ∧ k < p + ts.length) ∧ Ss k x)) hβ (setRow_heap w b arr _ ty (0, 0) hb) (by rw [upd_same]; exact .inl hO) hsz' h0 (by rw [spliceA_size hfit]; exact hoff') hc'
          (fun _ k c hk => ?_) (fun hx => by cases hx) (fun k x hx => ?_) (fun i j x h1 h2 => ?_)
        · rcases hes k c hk with ⟨h1, h2⟩ | ⟨h1, h2, h3⟩
          · rw [vold k h2]
            exact ((hx rfl k c h1).evo fun x hx => hsame x (hsub k x hx).2).mono fun x hx => .inr ⟨by omega, hx⟩
          · refine ((g.alone rfl (k - p) (vals' k) c (vnew k h1 h2) h3).evo fun x hx => hsame x ?_).mono fun x hx => .inl ⟨h1, h2, hx⟩
            obtain ⟨n, hn, ho⟩ := g.sub _ x hx
            exact nsb n hn x ho
        · rw [upd_same]
          rcases hx with ⟨_, _, hx⟩ | ⟨_, hx⟩
          · obtain ⟨n, hn, ho⟩ := g.sub _ x hx
            exact ⟨.inr ⟨n, hn, ho⟩, nsb n hn x ho⟩
          · exact ⟨.inl (hsub k x hx).1, (hsub k x hx).2⟩
        · rcases h1 with ⟨a1, a2, a3⟩ | ⟨a1, a2⟩ <;> rcases h2 with ⟨b1, b2, b3⟩ | ⟨b1, b2⟩
          · have := g.dis _ _ x a3 b3; omega
          · obtain ⟨n, hn, ho⟩ := g.sub _ x a3
            exact (hmn (r.dis n m x (g.live n hn) hmne ho (hsub _ x b2).1 ▸ hn)).elim
          · obtain ⟨n, hn, ho⟩ := g.sub _ x b3
            exact (hmn (r.dis n m x (g.live n hn) hmne ho (hsub _ x a2).1 ▸ hn)).elim
          · exact hdis _ _ x a2 b2
      · subst e
        rw [Bool.and_self, hput, if_neg hk] at hne
        by_cases h1 : k ∈ ns
        · simp [h1] at hne
        · rw [if_neg h1] at hne
          exact hk (r.dis k m x hne hmne hx hO)
      · rw [upd_same] at hx
        rcases hx with hx | ⟨n, hn, hx⟩
        · exact .inr ⟨m, hmne, hx, .inl rfl⟩
        · refine .inr ⟨n, g.live n hn, hx, .inr ?_⟩
          rw [Bool.and_self, hput, if_neg (show n ≠ m from fun e => hmn (e ▸ hn)), if_pos hn]
      · rw [upd_same] at hx
        rcases hx with hx | ⟨n, hn, hx⟩
        · exact Nat.lt_of_lt_of_le (r.lt m x hmne hx) evo.size
        · exact Nat.lt_of_lt_of_le (r.lt n x (g.live n hn) hx) evo.size
      · rw [upd_same] at hx
        rcases hx with hx | ⟨n, hn, hx⟩
        · exact r.imm m x hmne hx hi
        · exact r.imm n x (g.live n hn) hx hi
    · have hf : (own && u) = false := by simpa using fun h1 => by simpa using fun h2 => hou ⟨h1, h2⟩
      rw [hf]
      let I' : Nat → Prop := fun x => I x ∨ (O m x ∧ x ≠ b) ∨ ∃ n ∈ ns, O n x
      have hsameI : ∀ x, I' x → (w.setRow b (spliceA arr (off + p) vs)).heap[x]? = w.heap[x]? := by
        rintro x (hx | ⟨_, hx⟩ | ⟨n, hn, hx⟩)
        · exact evo.same x (r.ilt x hx) (r.notOwned hx)
        · exact hsame x hx
        · exact hsame x (nsb n hn x hx)
      have mv : Moves w (w.setRow b (spliceA arr (off + p) vs)) I I' β β := ⟨fun x hx => evo.same x (r.ilt x hx) (r.notOwned hx), fun _ h => .inl h, fun _ _ h => h, evo.rows⟩
      refine ⟨I', upd O m (fun x => x = b), step1 (t := m) (ob := .arr false sz es') r mv (fun _ _ h => .inl h) evo (fun k hk => ?_) (by rw [hput, if_pos rfl]) ?_ (fun k hk => upd_other _ _ _ hk) (fun k hk hne x hx => hsame x fun e => ?_) (fun x hx => ?_)
        (fun x hx => ?_) (fun x hx => ?_) (fun x hx hi => ?_)⟩
      · rw [hput, if_neg hk]; by_cases h1 : k ∈ ns <;> simp [h1]
      · refine .arr vals' (fun _ _ => False) hβ (setRow_heap w b arr _ ty (0, 0) hb) (by rw [upd_same]) hsz' h0 (by rw [spliceA_size hfit]; exact hoff') hc' (fun hx => by cases hx) (fun _ k c hk => ?_) (fun k x hx => hx.elim) (fun i j x h1 => h1.elim)
        rcases hes k c hk with ⟨h1, h2⟩ | ⟨h1, h2, h3⟩
        · rw [vold k h2]
          have hd : RepT w I' (vals k) c := by
            cases own with
            | true => exact (hx rfl k c h1).toT fun x hx => .inr (.inl (hsub k x hx))
            | false => exact (ht rfl k c h1).evo (fun _ _ => rfl) fun x hx => .inl hx
          exact hd.evo hsameI fun _ h => h
        · have hd : RepT w I' (vals' k) c := (g.data (k - p) (vals' k) c (vnew k h1 h2) h3).evo (fun _ _ => rfl) fun x hx => hx.imp id fun hx => .inr hx
          exact hd.evo hsameI fun _ h => h
      · subst e
        rw [hput, if_neg hk] at hne
        by_cases h1 : k ∈ ns
        · simp [h1] at hne
        · rw [if_neg h1] at hne
          exact hk (r.dis k m x hne hmne hx hO)
      · rw [upd_same] at hx; subst hx
        exact .inr ⟨m, hmne, hO, .inl rfl⟩
      · rw [upd_same] at hx; subst hx
        exact Nat.lt_of_lt_of_le (r.lt m x hmne hO) evo.size
      · rcases hx with hx | ⟨hx, _⟩ | ⟨n, hn, hx⟩
        · exact .inl hx
        · exact .inr ⟨m, hmne, hx, .inl rfl⟩
        · refine .inr ⟨n, g.live n hn, hx, .inr ?_⟩
          rw [hput, if_neg (show n ≠ m from fun e => hmn (e ▸ hn)), if_pos hn]
      · rw [upd_same] at hx; subst hx
        rcases hi with hi | ⟨_, hi⟩ | ⟨n, hn, hi⟩
        · exact r.imm m x hmne hO hi
        · exact hi rfl
        · exact nsb n hn x hi rfl

/-- where the cells of an own row lie -/
theorem arr_fit {n : Nm} {own : Bool} {sz b off sz' : Nat} {es : List (List T)} {O' : Nat → Prop} (hob : ObjRep w I β O' n (.arr own sz es)) (hβ : β n = some (b, off, sz')) (hz : 0 < sz') :
    ∃ arr ty, w.heap[b]? = some (.cells arr ty (0, 0)) ∧ sz' = sz ∧ (∀ e ∈ es, e.length = sz) ∧ 0 < sz ∧ off + es.length * sz ≤ arr.size := by
  cases hob with
  | arr0 hβ' => rw [hβ] at hβ'; simp at hβ'; omega
  | arr vals Ss hβ' hb hO hsz h0 hoff hc hx ht hsub hdis =>
    rename_i arr ty
    rw [hβ] at hβ'
    simp only [Option.some.injEq, Prod.mk.injEq] at hβ'
    obtain ⟨rfl, rfl, rfl⟩ := hβ'
    exact ⟨arr, ty, hb, rfl, hsz, h0, hoff⟩

theorem sound_st {ef : EF} {env : Nat → Ent} {n : Nat} {y z : Opd} (r : HRel w I β O h) (he : EnvRep w I β a env) (hok : okOp P o.op (.st n y z) = true) (hev : (evOp ef slot env (.st n y z)).val h = some (e, wr)) :
    OpW P o a w slot I β O h e wr := by
  obtain ⟨t, y', z', hz, hs, hn0, h1, h2⟩ := okOp_st hok
  simp only [evOp] at hev
  split at hev
  · rename_i m i av hg ha
    have hc := opd_cell he h1 hg
    obtain ⟨ha1, hd⟩ := opd_full ha
    obtain ⟨hr, hone⟩ := repA_cells (opd_rep he h2 ha1) hd
    split at hev
    · rename_i hlen
      simp only [HM.val] at hev
      cases hm : h m with
      | none => simp [hm, HM.val] at hev
      | some ob =>
        cases ob with
        | row cs =>
          simp only [hm] at hev
          split at hev
          · rename_i hle
            simp only [HM.val, Option.some.injEq, Prod.mk.injEq] at hev
            obtain ⟨rfl, rfl⟩ := hev
            generalize hv : a.eval y' = v at hc
            cases hc with
            | ptr hβ =>
              rename_i b off sz
              have hbx : ∃ arr ty, w.heap[b]? = some (.cells arr ty (0, 0)) := by
                cases r.obj m _ hm with
                | row hβ' hb hO hcc =>
                  rw [hβ] at hβ'
                  simp only [Option.some.injEq, Prod.mk.injEq] at hβ'
                  obtain ⟨rfl, _, _⟩ := hβ'
                  exact ⟨_, _, hb⟩
              obtain ⟨arr, ty, hb⟩ := hbx
              have hvl : (a.eval z').cells.toList.length = n := by rw [hr.1, hlen]
              obtain ⟨hfit, s⟩ := store_row (slot := slot) (i := i) (new := av.cells) r hm hβ (by rw [hlen]; exact hle) (by rw [hlen]; exact hn0) hr hb
              rw [hvl] at hfit
              rw [hlen] at s
              exact opW_skip (run_store hz hs hv hvl hb hfit hone) s rfl
          · simp [HM.val] at hev
        | arr own sz es => simp [hm, HM.val] at hev
        | gone => simp [hm, HM.val] at hev
    · simp [HM.val] at hev
  · rename_i m i j av hg ha
    have hc := opd_cell he h1 hg
    obtain ⟨ha1, hd⟩ := opd_full ha
    obtain ⟨hr, hone⟩ := repA_cells (opd_rep he h2 ha1) hd
    split at hev
    · rename_i hlen
      simp only [HM.val] at hev
      cases hm : h m with
      | none => simp [hm, HM.val] at hev
      | some ob =>
        cases ob with
        | row cs => simp [hm, HM.val] at hev
        | gone => simp [hm, HM.val] at hev
        | arr own sz es =>
          simp only [hm, val_bind] at hev
          obtain ⟨⟨ts, ns, u⟩, hgv, hev2⟩ := Option.bind_eq_some_iff.1 hev
          clear hev
          simp only at hev2
          obtain ⟨Sg, g⟩ := give_all r hr hgv
          have hvl : (a.eval z').cells.toList.length = n := by rw [hr.1, hlen]
          have htl : ts.length = n := by rw [← g.len, hvl]
          split at hev2
          · simp [HM.val] at hev2
          · rename_i hmn
            have hmn : m ∉ ns := by simpa using hmn
            generalize hv : a.eval y' = v at hc
            cases hc with
            | pel hβ hzp =>
              rename_i b off sz'
              obtain ⟨arr, ty, hb, rfl, hsz, h0, hfit0⟩ := arr_fit (r.obj m _ hm) hβ hzp
              split at hev2
              · rename_i hfit
                split at hev2
                · rename_i el hel
                  simp only [HM.val, Option.some.injEq, Prod.mk.injEq] at hev2
                  obtain ⟨rfl, rfl⟩ := hev2
                  have hi : i < es.length := (List.getElem?_eq_some_iff.1 hel).1
                  have hlel : el.length = sz' := hsz _ (List.mem_of_getElem? hel)
                  have hmul : (i + 1) * sz' ≤ es.length * sz' := Nat.mul_le_mul_right _ hi
                  rw [Nat.add_mul, Nat.one_mul] at hmul
                  have hfit2 : off + (i * sz' + j) + n ≤ arr.size := by omega
                  have he' : (if j = 0 ∧ n = sz' then ts else el.take j ++ ts ++ el.drop (j + n)).length = sz' := by
                    split
                    · omega
                    · simp; omega
                  obtain ⟨I', O', s⟩ := store_arr (slot := slot) (p := i * sz' + j) (es' := es.set i (if j = 0 ∧ n = sz' then ts else el.take j ++ ts ++ el.drop (j + n))) r hm hβ g hmn hb
                    (fun e he => by
                      rcases List.mem_or_eq_of_mem_set he with he | rfl
                      · exact hsz e he
                      · exact he') (by rw [List.length_set]; exact hfit0) (by rw [hvl]; exact hfit2) (fun k c hk => by
                      rw [set_flatten hsz hi he' k] at hk
                      split at hk
                      · rename_i hin
                        split at hk
                        · rename_i hw
                          obtain ⟨rfl, hw⟩ := hw
                          right
                          exact ⟨by omega, by omega, by rw [show k - (i * sz' + 0) = k - i * sz' from by omega]; exact hk⟩
                        · by_cases c1 : k - i * sz' < j
                          · left
                            rw [List.append_assoc, List.getElem?_append_left (by simp; omega), List.getElem?_take_of_lt c1] at hk
                            have := flatten_elem hsz hel hk
                            rw [show i * sz' + (k - i * sz') = k from by omega] at this
                            exact ⟨this, by omega⟩
                          · by_cases c2 : k - i * sz' < j + n
                            · right
                              rw [List.append_assoc, List.getElem?_append_right (by simp; omega), List.getElem?_append_left (by simp; omega)] at hk
                              have e1 : k - i * sz' - (el.take j).length = k - (i * sz' + j) := by simp; omega
                              rw [e1] at hk
                              exact ⟨by omega, by omega, hk⟩
                            · left
                              rw [List.getElem?_append_right (by simp; omega), List.getElem?_drop] at hk
                              have e1 : j + n + (k - i * sz' - (el.take j ++ ts).length) = k - i * sz' := by simp; omega
                              rw [e1] at hk
                              have := flatten_elem hsz hel hk
                              rw [show i * sz' + (k - i * sz') = k from by omega] at this
                              exact ⟨this, by omega⟩
                      · left; exact ⟨hk, by omega⟩)
                  refine opW_skip (run_store hz hs (off := off + (i * sz' + j)) (by rw [hv, Nat.add_assoc]) hvl hb hfit2 hone) s rfl
                · simp [HM.val] at hev2
              · split at hev2
                · rename_i hw
                  obtain ⟨rfl, rfl, hnw⟩ := hw
                  simp only [HM.val, Option.some.injEq, Prod.mk.injEq] at hev2
                  obtain ⟨rfl, rfl⟩ := hev2
                  obtain ⟨k1, k2⟩ := rowsOf_ok h0 ts
                  have hfit2 : off + 0 + n ≤ arr.size := by omega
                  have hfit3 : off + (rowsOf sz' ts).length * sz' ≤ arr.size := by
                    have h4 := flatten_length _ k1
                    by_cases hz : (rowsOf sz' ts).flatten.length = 0
                    · omega
                    · have h5 := k2 ((rowsOf sz' ts).flatten.length - 1) (rowsOf sz' ts).flatten[(rowsOf sz' ts).flatten.length - 1] (List.getElem?_eq_getElem (by omega))
                      have h6 := (List.getElem?_eq_some_iff.1 h5).1
                      omega
                  obtain ⟨I', O', s⟩ := store_arr (slot := slot) (p := 0) (es' := rowsOf sz' ts) r hm hβ g hmn hb k1 hfit3 (by rw [hvl]; exact hfit2)
                    (fun k c hk => by
                      have := k2 k c hk
                      have hlt := (List.getElem?_eq_some_iff.1 this).1
                      exact .inr ⟨by omega, by omega, this⟩)
                  refine opW_skip (run_store hz hs (off := off + 0) (by rw [hv]; simp) hvl hb hfit2 hone) s rfl
                · simp [HM.val] at hev2
          
    · simp [HM.val] at hev
  · simp [HM.val] at hev

end
end Go.Pur
