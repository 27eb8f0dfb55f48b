/- append and copy: the operations. -/
import Derived.Test.YtjgegedgmkdoiaaFl
namespace Go.Pur
open Go
set_option linter.unusedSimpArgs false

section
variable {P : Program} {o : Oper} {a : Act} {w w1 : World} {slot : Nat} {I : Nat → Prop} {β : Beta} {O : Nm → Nat → Prop} {h : Nm → Option LObj} {e : Ent} {wr : Wr} {arr : Array Value} {ty : TypeId}

/-- a row without elements, which lies nowhere -/
theorem phantom_step (r : HRel w I β O h) (hs : ∀ k, β (slot, k) = none) {ns : List Nm} (hl : ∀ k ∈ ns, h k ≠ none) {own : Bool} {sz : Nat} (h0 : 0 < sz) :
    ∃ I' O', StepTo slot w w I I' β (upd β (slot, 0) (some (0, 0, 0))) O O' h (putWr h (dead ns ++ [((slot, 0), some (.arr own sz []))])) := by
  let t : Nm := (slot, 0)
  have htn : t ∉ ns := fun hm => by
    obtain ⟨x, hx⟩ := live_beta r (hl t hm)
    rw [hs 0] at hx; cases hx
  have hput : ∀ k, putWr h (dead ns ++ [(t, some (.arr own sz []))]) k = if k = t then some (.arr own sz []) else if k ∈ ns then none else h k := by
    intro k
    rw [putWr_append]
    by_cases e : k = t
    · subst e; simp [putWr, upd]
    · rw [show putWr (putWr h (dead ns)) [(t, some (.arr own sz []))] k = putWr h (dead ns) k from by simp [putWr, upd, e], putWr_dead, if_neg e]
  have mv : Moves w w I I β (upd β t (some (0, 0, 0))) := ⟨fun _ _ => rfl, fun _ h => h, upd_names (hs 0), fun _ arr _ _ h => ⟨arr, h, rfl⟩⟩
  refine ⟨I, upd O t (fun _ => False), step1 (t := t) (ob := .arr own sz []) r mv upd_fresh (.refl _ _) (fun k hk => ?_) (by rw [hput, if_pos rfl]) (.arr0 (upd_same _ _ _) h0) (fun k hk => upd_other _ _ _ hk) (fun _ _ _ _ _ => rfl)
    (fun x hx => ?_) (fun x hx => ?_) (fun x hx => .inl hx) (fun x hx => ?_)⟩
  · rw [hput, if_neg hk]; by_cases h1 : k ∈ ns
    · right; rw [if_pos h1]
    · left; rw [if_neg h1]
  · rw [upd_same] at hx; exact hx.elim
  · rw [upd_same] at hx; exact hx.elim
  · rw [upd_same] at hx; exact hx.elim

/-- room behind the last element: the row has a new name -/
theorem append_in (r : HRel w I β O h) (hs : ∀ k, β (slot, k) = none) {n : Nm} {own u2 : Bool} {sz lo b off : Nat} {es es2 : List (List T)} {news : List Value} {ns2 : List Nm} {Ss2 : Nat → Nat → Prop}
    (hn : h n = some (.arr own sz es)) (hβ : β n = some (b, off, sz)) (hb : w.heap[b]? = some (.cells arr ty (0, 0))) (hlo : lo ≤ es.length) (g : Given w I O h news es2.flatten ns2 u2 Ss2) (hn2 : n ∉ ns2)
    (hsz2 : ∀ e ∈ es2, e.length = sz) (hfit : off + es.length * sz + news.length ≤ arr.size) :
    ∃ I' O', StepTo slot w (w.setRow b (spliceA arr (off + es.length * sz) news)) I I' β (upd β (slot, 0) (some (b, off + lo * sz, sz))) O O' h
      (putWr h (dead (n :: ns2) ++ [((slot, 0), some (.arr (own && u2) sz (es.drop lo ++ es2)))])) := by
  let t : Nm := (slot, 0)
  have hnne : h n ≠ none := by simp [hn]
  have hnew : ∀ k ∈ n :: ns2, h k ≠ none := fun k hk => by
    rcases List.mem_cons.1 hk with rfl | hk
    · exact hnne
    · exact g.live k hk
  have htn : t ∉ n :: ns2 := fun hm => by
    obtain ⟨x, hx⟩ := live_beta r (hnew t hm)
    rw [hs 0] at hx; cases hx
  have hput : ∀ k ob, putWr h (dead (n :: ns2) ++ [(t, some ob)]) k = if k = t then some ob else if k ∈ n :: ns2 then none else h k := by
    intro k ob
    rw [putWr_append]
    by_cases e : k = t
    · subst e; simp [putWr, upd]
    · rw [show putWr (putWr h (dead (n :: ns2))) [(t, some ob)] k = putWr h (dead (n :: ns2)) k from by simp [putWr, upd, e], putWr_dead, if_neg e]
  cases r.obj n _ hn with
  | arr0 hβ' h0 => rw [hβ] at hβ'; simp at hβ'; omega
  | arr vals Ss hβ' hb' hO hsz h0 hoff hc hx ht hsub hdis =>
    rw [hβ] at hβ'
    simp only [Option.some.injEq, Prod.mk.injEq] at hβ'
    obtain ⟨rfl, rfl, _⟩ := hβ'
    rw [hb] at hb'
    simp only [Option.some.injEq, Obj.cells.injEq] at hb'
    obtain ⟨rfl, rfl, _⟩ := hb'
    have hfl := flatten_length es hsz
    have hdl : (es.drop lo).flatten.length = (es.length - lo) * sz := by rw [flatten_length _ (fun e he => hsz e (List.mem_of_mem_drop he)), List.length_drop]
    have hmul : lo * sz + (es.length - lo) * sz = es.length * sz := by rw [← Nat.add_mul]; congr 1; omega
    have evo := setRow_evo (W := Owned O h) hb (spliceA_size hfit) ⟨n, hnne, hO⟩
    have hsame : ∀ x, x ≠ b → (w.setRow b (spliceA arr (off + es.length * sz) news)).heap[x]? = w.heap[x]? := fun x hx => setRow_same hx
    have nsb : ∀ k ∈ ns2, ∀ x, O k x → x ≠ b := fun k hk x hx e => by
      subst e; exact hn2 (r.dis k n x (g.live k hk) hnne hx hO ▸ hk)
    have hgl := g.len
    -- the cells of the new row
    let vals' : Nat → Value := fun k => if k < (es.length - lo) * sz then vals (lo * sz + k) else news.getD (k - (es.length - lo) * sz) Go.undef
    have split : ∀ (k : Nat) c, (es.drop lo ++ es2).flatten[k]? = some c → (k < (es.length - lo) * sz ∧ es.flatten[lo * sz + k]? = some c ∧ vals' k = vals (lo * sz + k)) ∨
        ((es.length - lo) * sz ≤ k ∧ es2.flatten[k - (es.length - lo) * sz]? = some c ∧ news[k - (es.length - lo) * sz]? = some (vals' k)) := by
      intro k c hk
      rw [List.flatten_append] at hk
      by_cases c1 : k < (es.length - lo) * sz
      · left
        rw [List.getElem?_append_left (by omega), flatten_drop _ _ hsz, List.getElem?_drop] at hk
        exact ⟨c1, hk, by simp [vals', c1]⟩
      · right
        rw [List.getElem?_append_right (by omega), hdl] at hk
        have hlt : k - (es.length - lo) * sz < news.length := by rw [hgl]; exact (List.getElem?_eq_some_iff.1 hk).1
        exact ⟨by omega, hk, by simp [vals', c1, List.getD_eq_getElem?_getD, List.getElem?_eq_getElem hlt]⟩
    have hc' : ∀ (k : Nat) c, (es.drop lo ++ es2).flatten[k]? = some c → (spliceA arr (off + es.length * sz) news)[off + lo * sz + k]? = some (vals' k) := by
      intro k c hk
      rcases split k c hk with ⟨h1, h2, h3⟩ | ⟨h1, h2, h3⟩
      · rw [h3, spliceA_out hfit _ (.inl (by omega)), Nat.add_assoc]
        exact hc _ c h2
      · have := spliceA_in hfit _ _ h3
        rwa [show off + es.length * sz + (k - (es.length - lo) * sz) = off + lo * sz + k from by omega] at this
    have hsz' : ∀ e ∈ es.drop lo ++ es2, e.length = sz := fun e he => by
      rcases List.mem_append.1 he with he | he
      · exact hsz e (List.mem_of_mem_drop he)
      · exact hsz2 e he
    have hoff' : off + lo * sz + (es.drop lo ++ es2).length * sz ≤ (spliceA arr (off + es.length * sz) news).size := by
      rw [spliceA_size hfit, List.length_append, List.length_drop, Nat.add_mul]
      have := flatten_length es2 hsz2
      omega
    by_cases hou : own = true ∧ u2 = true
    · obtain ⟨rfl, rfl⟩ := hou
      have mv : Moves w (w.setRow b (spliceA arr (off + es.length * sz) news)) I I β (upd β t (some (b, off + lo * sz, sz))) := ⟨fun x hx => evo.same x (r.ilt x hx) (r.notOwned hx), fun _ h => h, upd_names (hs 0), evo.rows⟩
      refine ⟨I, upd O t (fun x => ∃ k ∈ n :: ns2, O k x), step1 (t := t) (ob := .arr true sz (es.drop lo ++ es2)) r mv upd_fresh evo (fun k hk => ?_) (by rw [Bool.and_self, hput, if_pos rfl]) ?_ (fun k hk => upd_other _ _ _ hk) (fun k hk hne x hx => hsame x fun e => ?_) (fun x hx => ?_)
        (fun x hx => ?_) (fun x hx => .inl hx) (fun x hx hi => ?_)⟩
      · rw [hput, if_neg hk]; by_cases h1 : k ∈ n :: ns2
        · right; rw [if_pos h1]
        · left; rw [if_neg h1]
      · refine .arr vals' (fun k x => (k < (es.length - lo) * sz ∧ Ss (lo * sz + k) x) ∨ ((es.length - lo) * sz ≤ k ∧ Ss2 (k - (es.length - lo) * sz) x)) (upd_same _ _ _) (setRow_heap w b arr _ ty (0, 0) hb) (by rw [upd_same]; exact ⟨n, by simp, hO⟩) hsz' h0 hoff' hc'
          (fun _ k c hk => ?_) (fun hx => by cases hx) (fun k x hx => ?_) (fun i j x h1 h2 => ?_)
        · rcases split k c hk with ⟨h1, h2, h3⟩ | ⟨h1, h2, h3⟩
          · rw [h3]
            exact ((hx rfl _ c h2).evo fun x hx => hsame x (hsub _ x hx).2).mono fun x hx => .inl ⟨h1, hx⟩
          · refine ((g.alone rfl _ (vals' k) c h3 h2).evo fun x hx => hsame x ?_).mono fun x hx => .inr ⟨h1, hx⟩
            obtain ⟨k, hk, ho⟩ := g.sub _ x hx
            exact nsb k hk x ho
        · rw [upd_same]
          rcases hx with ⟨_, hx⟩ | ⟨_, hx⟩
          · exact ⟨⟨n, by simp, (hsub _ x hx).1⟩, (hsub _ x hx).2⟩
          · obtain ⟨k, hk, ho⟩ := g.sub _ x hx
            exact ⟨⟨k, by simp [hk], ho⟩, nsb k hk x ho⟩
        · rcases h1 with ⟨a1, a2⟩ | ⟨a1, a2⟩ <;> rcases h2 with ⟨b1, b2⟩ | ⟨b1, b2⟩
          · have := hdis _ _ x a2 b2; omega
          · obtain ⟨k, hk, ho⟩ := g.sub _ x b2
            exact (hn2 (r.dis k n x (g.live k hk) hnne ho (hsub _ x a2).1 ▸ hk)).elim
          · obtain ⟨k, hk, ho⟩ := g.sub _ x a2
            exact (hn2 (r.dis k n x (g.live k hk) hnne ho (hsub _ x b2).1 ▸ hk)).elim
          · have := g.dis _ _ x a2 b2; omega
      · subst e
        rw [Bool.and_self, hput, if_neg hk] at hne
        by_cases h1 : k ∈ n :: ns2
        · rw [if_pos h1] at hne; exact hne rfl
        · rw [if_neg h1] at hne
          exact h1 (by rw [r.dis k n x hne hnne hx hO]; simp)
      · rw [upd_same] at hx
        obtain ⟨k, hk, hx⟩ := hx
        refine .inr ⟨k, hnew k hk, hx, .inr ?_⟩
        rw [Bool.and_self, hput, if_neg (show k ≠ t from fun e => htn (e ▸ hk)), if_pos hk]
      · rw [upd_same] at hx
        obtain ⟨k, hk, hx⟩ := hx
        exact Nat.lt_of_lt_of_le (r.lt k x (hnew k hk) hx) evo.size
      · rw [upd_same] at hx
        obtain ⟨k, hk, hx⟩ := hx
        exact r.imm k x (hnew k hk) hx hi
    · have hf : (own && u2) = false := by simpa using fun h1 => by simpa using fun h2 => hou ⟨h1, h2⟩
      rw [hf]
      let I' : Nat → Prop := fun x => I x ∨ (x ≠ b ∧ ∃ k ∈ n :: ns2, O k x)
      have hsameI : ∀ x, I' x → (w.setRow b (spliceA arr (off + es.length * sz) news)).heap[x]? = w.heap[x]? := by
        rintro x (hx | ⟨hx, _⟩)
        · exact evo.same x (r.ilt x hx) (r.notOwned hx)
        · exact hsame x hx
      have mv : Moves w (w.setRow b (spliceA arr (off + es.length * sz) news)) I I' β (upd β t (some (b, off + lo * sz, sz))) := ⟨fun x hx => evo.same x (r.ilt x hx) (r.notOwned hx), fun _ h => .inl h, upd_names (hs 0), evo.rows⟩
      have gone : ∀ k ∈ n :: ns2, putWr h (dead (n :: ns2) ++ [(t, some (.arr false sz (es.drop lo ++ es2)))]) k = none := fun k hk => by
        rw [hput, if_neg (show k ≠ t from fun e => htn (e ▸ hk)), if_pos hk]
      refine ⟨I', upd O t (fun x => x = b), step1 (t := t) (ob := .arr false sz (es.drop lo ++ es2)) r mv upd_fresh evo (fun k hk => ?_) (by rw [hput, if_pos rfl]) ?_ (fun k hk => upd_other _ _ _ hk) (fun k hk hne x hx => hsame x fun e => ?_) (fun x hx => ?_)
        (fun x hx => ?_) (fun x hx => ?_) (fun x hx hi => ?_)⟩
      · rw [hput, if_neg hk]; by_cases h1 : k ∈ n :: ns2
        · right; rw [if_pos h1]
        · left; rw [if_neg h1]
      · refine .arr vals' (fun _ _ => False) (upd_same _ _ _) (setRow_heap w b arr _ ty (0, 0) hb) (by rw [upd_same]) hsz' h0 hoff' hc' (fun hx => by cases hx) (fun _ k c hk => ?_) (fun k x hx => hx.elim) (fun i j x h1 => h1.elim)
        rcases split k c hk with ⟨h1, h2, h3⟩ | ⟨h1, h2, h3⟩
        · rw [h3]
          have hd : RepT w I' (vals (lo * sz + k)) c := by
            cases own with
            | true => exact (hx rfl _ c h2).toT fun x hx => .inr ⟨(hsub _ x hx).2, n, by simp, (hsub _ x hx).1⟩
            | false => exact (ht rfl _ c h2).evo (fun _ _ => rfl) fun x hx => .inl hx
          exact hd.evo hsameI fun _ h => h
        · have hd : RepT w I' (vals' k) c := (g.data _ (vals' k) c h3 h2).evo (fun _ _ => rfl) fun x hx => hx.imp id fun ⟨k, hk, ho⟩ => ⟨nsb k hk x ho, k, by simp [hk], ho⟩
          exact hd.evo hsameI fun _ h => h
      · subst e
        rw [hput, if_neg hk] at hne
        by_cases h1 : k ∈ n :: ns2
        · rw [if_pos h1] at hne; exact hne rfl
        · rw [if_neg h1] at hne
          exact h1 (by rw [r.dis k n x hne hnne hx hO]; simp)
      · rw [upd_same] at hx; subst hx
        exact .inr ⟨n, hnne, hO, .inr (gone n (by simp))⟩
      · rw [upd_same] at hx; subst hx
        exact Nat.lt_of_lt_of_le (r.lt n x hnne hO) evo.size
      · rcases hx with hx | ⟨_, k, hk, hx⟩
        · exact .inl hx
        · exact .inr ⟨k, hnew k hk, hx, .inr (gone k hk)⟩
      · rw [upd_same] at hx; subst hx
        rcases hi with hi | ⟨hi, _⟩
        · exact r.imm n x hnne hO hi
        · exact hi rfl

/-! ### the runs -/

theorem okOp_app {x : Op} {sz : Nat} {y z : Opd} (h : okOp P x (.app sz y z) = true) :
    ∃ t t' el i v y' z', x = .call { callee := .builtin .append, args := #[y', z'], argTypes := #[t, t'] } ∧ okOpd y' y = true ∧ okOpd z' z = true ∧ 0 < sz ∧ P.underlying t = some (.slice el) ∧ P.info? el = some i ∧ i.size = sz ∧ i.bytes ≤ 32768 ∧ i.zero = some v ∧ v.cells.size = sz ∧
      ∃ d, P.underlying t' = some d ∧ (∀ k, d ≠ .int k) := by
  cases x <;> try (simp [okOp] at h; done)
  rename_i c
  obtain ⟨callee, args, ts⟩ := c
  cases callee <;> try (simp [okOp] at h; done)
  rename_i b
  cases b <;> try (simp [okOp] at h; done)
  simp only [okOp] at h
  split at h
  · rename_i y' z' t t' ha ht
    simp only [Bool.and_eq_true, Option.any_eq_true, beq_iff_eq, decide_eq_true_eq, Bool.or_eq_true] at h
    obtain ⟨⟨⟨⟨h1, h2⟩, h0⟩, el, h3, ⟨h4, b, h5, h6⟩, v, h7, h8⟩, h9⟩ := h
    cases hq : P.info? el with
    | none => simp [sizeT, hq] at h4
    | some i =>
      simp [sizeT, bytesT, zeroT, hq] at h4 h5 h7
      refine ⟨t, t', el, i, v, y', z', by rw [toList_two ha, toList_two ht], h1, h2, h0, elemT_some h3, hq, h4, by omega, h7, h8, ?_⟩
      rcases h9 with h9 | h9
      · obtain ⟨e', he'⟩ := Option.isSome_iff_exists.1 h9
        exact ⟨_, elemT_some he', fun k hk => by cases hk⟩
      · exact ⟨_, isStrT_eq h9, fun k hk => by cases hk⟩
  · cases h

theorem run_append_in {t t' el ty : TypeId} {i : TypeInfo} {d : TypeDesc} (hu : P.underlying t = some (.slice el)) (hi : P.info? el = some i) (hd : P.underlying t' = some d) (hdi : ∀ k, d ≠ .int k)
    {b off len cap n : Nat} {x : Value} {news : List Value} {bty : TypeId} (hl : ∀ w', (Builtin.lenOf x).run P w' = .ok n w') (hf : (Builtin.firstCells i.size n x).run P w = .ok news.toArray w)
    (hroom : len + n ≤ cap) (hb : w.heap[b]? = some (.cells arr bty (0, 0))) (hfit : off + len * i.size + news.length ≤ arr.size) (h1 : ∀ u ∈ news, u.oneCell' = true) :
    (Builtin.append_ #[t, t'] ty #[.slice (some ⟨b, off, none⟩) len cap, x]).run P w = .ok (.slice (some ⟨b, off, none⟩) (len + n) cap) (w.setRow b (spliceA arr (off + len * i.size) news)) := by
  have hst := run_storeCells_at P b (off + len * i.size) bty news 0 arr w hb (by omega) h1
  simp only [Nat.add_zero] at hst
  have hsz : (sizeOf el).run P w = .ok i.size w := by simp [sizeOf, typeInfo, hi]
  have hzf : (match d with | .int _ => true | _ => false) = false := by cases d <;> first | rfl | exact absurd rfl (hdi _)
  simp only [Builtin.append_, List.getElem?_toArray, List.getElem?_cons_zero, List.getElem?_cons_succ, Sem.run_bind, run_underlying hu, run_underlying hd, Result.andThen_ok, hsz, Sem.run_pure, hzf, Bool.false_eq_true, if_false, Bool.not_false, if_true, hl, hroom, hf, add_none, hst, spliceA]

theorem run_append_out {t t' el ty : TypeId} {i : TypeInfo} {z : Value} {d : TypeDesc} (hu : P.underlying t = some (.slice el)) (hi : P.info? el = some i) (hz : i.zero = some z) (hd : P.underlying t' = some d) (hdi : ∀ k, d ≠ .int k)
    {base : Option Addr} {len cap n : Nat} {x : Value} {olds news : List Value} (hl : ∀ w', (Builtin.lenOf x).run P w' = .ok n w') (hf : (Builtin.firstCells i.size n x).run P w.drew = .ok news.toArray w.drew)
    (ho : (Builtin.firstCells i.size len (.slice base len cap)).run P w.drew = .ok olds.toArray w.drew) (hroom : cap < len + n) (hsmall : len + n ≤ 4294967296) (hby : i.bytes ≤ 32768) :
    (Builtin.append_ #[t, t'] ty #[.slice base len cap, x]).run P w = .ok (.slice (some ⟨w.heap.size, 0, none⟩) (len + n) (grownCap w (len + n) cap el))
      (w.drew.alloc (.cells (olds.toArray ++ news.toArray ++ Builtin.zeroCells z.cells (grownCap w (len + n) cap el - (len + n))) el)) := by
  have hn : ¬ (len + n ≤ cap) := by omega
  have hmul : (len + n) * i.bytes ≤ 140737488355328 := Nat.le_trans (Nat.mul_le_mul hsmall hby) (by omega)
  have h48 := growslice_fits hroom hmul
  have h48' : ¬ (281474976710656 < Builtin.nextslicecap (len + n) cap * i.bytes) := by omega
  have h63' : ¬ (9223372036854775807 < ((len : Int) + (n : Int))) := by omega
  have hsz : (sizeOf el).run P w = .ok i.size w := by simp [sizeOf, typeInfo, hi]
  have hzf : (match d with | .int _ => true | _ => false) = false := by cases d <;> first | rfl | exact absurd rfl (hdi _)
  simp only [Builtin.append_, List.getElem?_toArray, List.getElem?_cons_zero, List.getElem?_cons_succ, Sem.run_bind, run_underlying hu, run_underlying hd, Result.andThen_ok, hsz, Sem.run_pure, hzf, Bool.false_eq_true, if_false, Bool.not_false, if_true, hl, hn]
  have h63 : ¬ (((len + n : Nat) : Int) > IntKind.i64.max ∧ (False ∨ i.bytes = 0)) := by
    intro hc
    have := hc.1
    simp at this
    omega
  have hti : (typeInfo el).run P w = .ok i w := by simp [typeInfo, hi]
  have hti2 : (typeInfo el).run P w.drew = .ok i w.drew := by simp [typeInfo, hi]
  have hzv : (zeroValue el).run P w.drew = .ok z w.drew := by simp [zeroValue, typeInfo, hi, hz]
  have h48'' : ¬ (Builtin.nextslicecap (len + n) cap * i.bytes > 2 ^ 48) := by
    intro hc
    have : (2 : Nat) ^ 48 = 281474976710656 := by decide
    omega
  have hch : (choose (.appendCap (len + n) cap el)).run P w = .ok (grownCap w (len + n) cap el) w.drew := by
    simp only [choose, Sem.run, Question.forced, Bool.false_eq_true, if_false]
    rfl
  have hask : ∀ k w', (askRoom k).run P w' = .ok () w' := fun k w' => by
    unfold askRoom
    split <;> simp
  have hnr : ∀ cs w', (newRow el cs).run P w' = .ok ⟨w'.heap.size, 0, none⟩ (w'.alloc (.cells cs el)) := fun cs w' => by simp [newRow]
  simp only [hti, Result.andThen_ok, if_neg h63, Sem.run_bind, if_neg h48'', hch, hti2, hask, ho, hf, hzv, hnr, Sem.run_pure]
  rfl

theorem sound_app {ef : EF} {env : Nat → Ent} {sz : Nat} {y z : Opd} (r : HRel w I β O h) (he : EnvRep w I β a env) (hs : ∀ k, β (slot, k) = none) (hok : okOp P o.op (.app sz y z) = true) (hev : (evOp ef slot env (.app sz y z)).val h = some (e, wr)) :
    OpW P o a w slot I β O h e wr := by
  obtain ⟨t, t', el, i, v, y', z', hz, h1, h2, h0, hu, hi, hsz, hby, hzv, hvs, d, hd, hdi⟩ := okOp_app hok
  subst hsz
  simp only [evOp] at hev
  have exec : ∀ v1 v2 r', a.eval y' = v1 → a.eval z' = v2 → ∀ w', (Builtin.append_ #[t, t'] o.type #[v1, v2]).run P w = .ok r' w' → (execOp a.eval o).run P w = .ok (.value r') w' := fun v1 v2 r' e1 e2 w' hr => by
    unfold execOp
    rw [hz]
    simp [resolve, invoke, builtin, e1, e2, hr]
  -- a new row, of what was there and what comes
  have out : ∀ (base : Option Addr) (len cap : Nat) (olds : List Value) (es1 : List (List T)) (n1 : List Nm) (u1 : Bool) (S1 : Nat → Nat → Prop) (vs : List Value) (es2 : List (List T)) (n2 : List Nm) (u2 : Bool) (S2 : Nat → Nat → Prop),
      a.eval y' = .slice base len cap → Src P w I O h (a.eval z') i.size es2 n2 u2 vs S2 → Given w I O h olds es1.flatten n1 u1 S1 → (∀ e ∈ es1, e.length = i.size) → es1.length = len →
      (Builtin.firstCells i.size len (.slice base len cap)).run P w.drew = .ok olds.toArray w.drew → cap < len + es2.length → len + es2.length ≤ 4294967296 → (∀ n ∈ n1, n ∉ n2) →
      OpW P o a w slot I β O h (.val (.one (.ref (slot, 0) 0 (len + es2.length)))) (dead (n1 ++ n2) ++ [((slot, 0), some (.arr (u1 && u2) i.size (es1 ++ es2)))]) := by
    intro base len cap olds es1 n1 u1 S1 vs es2 n2 u2 S2 hy src g1 hs1 hl1 ho hcap hsmall hdj
    have hfl2 := flatten_length es2 src.size
    have hvl : vs.length = es2.length * i.size := by rw [src.given.len, hfl2]
    have hf : (Builtin.firstCells i.size es2.length (a.eval z')).run P w.drew = .ok vs.toArray w.drew := by
      have := src.cells w.drew es2.length rfl (Nat.le_refl _)
      rwa [← hvl, List.take_length] at this
    have hr := run_append_out (ty := o.type) hu hi hzv hd hdi src.len hf ho hcap hsmall hby
    obtain ⟨S, g⟩ := Given.append r g1 src.given hdj
    have hfl1 := flatten_length es1 hs1
    have hol : olds.length = len * i.size := by rw [g1.len, hfl1, hl1]
    obtain ⟨I', O', s⟩ := create_arr r hs g (sz := i.size) (es := es1 ++ es2) h0 (fun e he => by
      rcases List.mem_append.1 he with he | he
      · exact hs1 e he
      · exact src.size e he) (fun k c hk => by rwa [List.flatten_append] at hk) (arr := olds.toArray ++ vs.toArray ++ Builtin.zeroCells v.cells (grownCap w (len + es2.length) cap el - (len + es2.length))) (fun k x hx => by
        have hlt : k < (olds ++ vs).length := (List.getElem?_eq_some_iff.1 hx).1
        rw [Array.getElem?_append_left (by simpa using hlt)]
        simpa using hx) (Made.alloc_drew w _ el)
    refine opW_value (exec _ _ _ hy rfl _ hr) s (.val (.one ?_))
    have hge := grownCap_ge w (len + es2.length) cap el
    have hmx := grownCap_le_maxLen w (len + es2.length) cap el (by unfold maxLen; omega)
    have := RepC.ref (w := w.drew.alloc (.cells (olds.toArray ++ vs.toArray ++ Builtin.zeroCells v.cells (grownCap w (len + es2.length) cap el - (len + es2.length))) el)) (I := I') (n := (slot, 0)) (lo := 0) (len := len + es2.length) (cap := grownCap w (len + es2.length) cap el)
      (upd_same β (slot, 0) (some (w.heap.size, 0, i.size))) (heap_alloc_new w.drew _) (by
        simp only [Array.size_append, List.size_toArray, hol, hvl, Builtin.zeroCells, Array.size_map, Array.size_range, hvs, ← Nat.add_mul]
        have : len + es2.length + (grownCap w (len + es2.length) cap el - (len + es2.length)) = grownCap w (len + es2.length) cap el := by omega
        rw [this]; omega) hge hmx h0
    simpa using this
  split at hev
  · rename_i cx cy gx gy
    have hcx := opd_cell he h1 gx
    have hcy := opd_cell he h2 gy
    rw [val_bind] at hev
    obtain ⟨⟨es2, n2, u2⟩, hsrc, hev2⟩ := Option.bind_eq_some_iff.1 hev
    clear hev
    obtain ⟨vs, S2, src⟩ := src_of (P := P) r hcy h0 hsrc
    simp only at hev2
    split at hev2
    · rename_i s
      generalize hv : a.eval y' = v1 at hcx
      cases hcx with
      | nils =>
        split at hev2
        · rename_i he0
          simp only [out1, HM.val, Option.some.injEq, Prod.mk.injEq] at hev2
          obtain ⟨rfl, rfl⟩ := hev2
          refine opW_pure r (exec _ _ (.slice none 0 0) hv rfl w ?_) (.val (.one .nils)) rfl
          have hl := src.len w
          have hf := src.cells w 0 rfl (by omega)
          have hsz : (sizeOf el).run P w = .ok i.size w := by simp [sizeOf, typeInfo, hi]
          have hzf : (match d with | .int _ => true | _ => false) = false := by cases d <;> first | rfl | exact absurd rfl (hdi _)
          rw [he0] at hl
          simp only [Builtin.append_, List.getElem?_toArray, List.getElem?_cons_zero, List.getElem?_cons_succ, Sem.run_bind, run_underlying hu, run_underlying hd, Result.andThen_ok, hsz, Sem.run_pure, hzf, Bool.false_eq_true, if_false, Bool.not_false, if_true, hl, hf, Nat.le_refl]
        · rename_i he0
          split at hev2
          · rename_i hsmall
            simp only [HM.val, Option.some.injEq, Prod.mk.injEq] at hev2
            obtain ⟨rfl, rfl⟩ := hev2
            have := out none 0 0 [] [] [] true (fun _ _ => False) vs es2 n2 u2 S2 hv src ⟨rfl, by simp, by simp, by simp, by simp, by simp⟩ (by simp) rfl (by simp [Builtin.firstCells]) (by omega) (by omega) (by simp)
            simpa using this
          · simp [HM.val] at hev2
    · rename_i n lo len
      simp only [HM.val] at hev2
      cases hn : h n with
      | none => simp [hn, HM.val] at hev2
      | some ob =>
        cases ob with
        | row cs => simp [hn, HM.val] at hev2
        | gone => simp [hn, HM.val] at hev2
        | arr own s es =>
          simp only [hn] at hev2
          split at hev2
          · rename_i hcond
            obtain ⟨rfl, htip, hsmall⟩ := hcond
            split at hev2
            · simp [HM.val] at hev2
            · rename_i hn2
              have hn2 : n ∉ n2 := by simpa using hn2
              simp only [HM.val, Option.some.injEq, Prod.mk.injEq] at hev2
              obtain ⟨rfl, rfl⟩ := hev2
              have hob := r.obj n _ hn
              have hvl : vs.length = es2.length * i.size := by rw [src.given.len, flatten_length es2 src.size]
              have hfw : ∀ w', w'.heap = w.heap → (Builtin.firstCells i.size es2.length (a.eval z')).run P w' = .ok vs.toArray w' := fun w' hw' => by
                have := src.cells w' es2.length hw' (Nat.le_refl _)
                rwa [← hvl, List.take_length] at this
              generalize hv : a.eval y' = v1 at hcx
              cases hcx with
              | ref hβ hbk hcap hlc hmx hzp =>
                rename_i cap b off sz' arr ty
                obtain ⟨arr', ty', hbk', hsz', hsz, _, hfit⟩ := arr_fit hob hβ hzp
                subst hsz'
                rw [hbk] at hbk'
                simp only [Option.some.injEq, Obj.cells.injEq] at hbk'
                obtain ⟨rfl, rfl, _⟩ := hbk'
                have hm1 : lo * i.size + len * i.size = es.length * i.size := by rw [← Nat.add_mul, htip]
                by_cases hroom : len + es2.length ≤ cap
                · have hm2 : (len + es2.length) * i.size ≤ cap * i.size := Nat.mul_le_mul_right _ hroom
                  rw [Nat.add_mul] at hm2
                  have hfit2 : off + es.length * i.size + vs.length ≤ arr.size := by rw [hvl]; omega
                  obtain ⟨I', O', s⟩ := append_in (lo := lo) r hs hn hβ hbk (by omega) src.given hn2 src.size hfit2
                  have hr := run_append_in (ty := o.type) hu hi hd hdi src.len (hfw w rfl) hroom hbk (off := off + lo * i.size) (by omega) src.one
                  rw [show off + lo * i.size + len * i.size = off + es.length * i.size from by omega] at hr
                  refine opW_value (exec _ _ _ hv rfl _ hr) s (.val (.one ?_))
                  have := RepC.ref (w := w.setRow b (spliceA arr (off + es.length * i.size) vs)) (I := I') (n := (slot, 0)) (lo := 0) (len := len + es2.length) (cap := cap)
                    (upd_same β (slot, 0) (some (b, off + lo * i.size, i.size))) (setRow_heap w b arr _ ty (0, 0) hbk) (by rw [spliceA_size hfit2]; omega) hroom hmx h0
                  simpa using this
                · obtain ⟨g1, hs1, ho⟩ : (∃ olds S1, Given w I O h olds (es.drop lo).flatten [n] own S1 ∧ (Builtin.firstCells i.size len (.slice (some ⟨b, off + lo * i.size, none⟩) len cap)).run P w.drew = .ok olds.toArray w.drew) ∧ (∀ e ∈ es.drop lo, e.length = i.size) ∧ (es.drop lo).length = len := by
                    refine ⟨?_, fun e he => hsz e (List.mem_of_mem_drop he), by simp; omega⟩
                    cases hob with
                    | arr0 hβ' => rw [hβ] at hβ'; simp at hβ'; omega
                    | arr vals Ss hβ' hb' hO hsz3 h03 hoff hc hx ht hsub hdis =>
                      rw [hβ] at hβ'
                      simp only [Option.some.injEq, Prod.mk.injEq] at hβ'
                      obtain ⟨rfl, rfl, _⟩ := hβ'
                      rw [hbk] at hb'
                      simp only [Option.some.injEq, Obj.cells.injEq] at hb'
                      obtain ⟨rfl, rfl, _⟩ := hb'
                      have hdl : (es.drop lo).flatten.length = len * i.size := by rw [flatten_length _ (fun e he => hsz e (List.mem_of_mem_drop he)), List.length_drop]; congr 1; omega
                      have hget : ∀ (k : Nat) c, (es.drop lo).flatten[k]? = some c → es.flatten[lo * i.size + k]? = some c := fun k c hk => by
                        rwa [flatten_drop _ _ hsz, List.getElem?_drop] at hk
                      refine ⟨(List.range (len * i.size)).map (fun k => vals (lo * i.size + k)), fun k => Ss (lo * i.size + k), ⟨by simp [hdl], by simp [hn], fun k x hx => ⟨n, by simp, (hsub _ _ hx).1⟩, fun k j x h1 h2 => by have := hdis _ _ _ h1 h2; omega, fun k v t hv ht' => ?_, fun hu' k v t hv ht' => ?_⟩, ?_⟩
                      · obtain ⟨_, rfl⟩ := range_get hv
                        cases own with
                        | true => exact (hx rfl _ _ (hget k t ht')).toT fun x hx => .inr ⟨n, by simp, (hsub _ _ hx).1⟩
                        | false => exact (ht rfl _ _ (hget k t ht')).evo (fun _ _ => rfl) fun x hx => .inl hx
                      · obtain ⟨_, rfl⟩ := range_get hv
                        exact hx hu' _ _ (hget k t ht')
                      · have := firstCells_at (P := P) (w := w) (w' := w.drew) (b := b) (off := off + lo * i.size) (len := len) (cap := cap) (sz := i.size) (k := len) (vs := (List.range (len * i.size)).map (fun k => vals (lo * i.size + k))) rfl (by simp) (fun k v hv => by
                          obtain ⟨hk, rfl⟩ := range_get hv
                          rw [cell_heap hbk, Nat.add_assoc]
                          exact hc _ _ (hget k _ (List.getElem?_eq_getElem (by omega))))
                        rwa [List.take_of_length_le (by simp)] at this
                  obtain ⟨olds, S1, g1, hof⟩ := g1
                  have := out _ len cap olds (es.drop lo) [n] own S1 vs es2 n2 u2 S2 hv src g1 hs1 ho hof (by omega) hsmall (by simpa using hn2)
                  simpa using this
              | ref0 hβ =>
                rename_i ad x
                have hlo : es.drop lo = [] := by
                  apply List.eq_nil_of_length_eq_zero; simp; omega
                by_cases hz0 : es2.length = 0
                · obtain ⟨b, off, szn⟩ := x
                  have hl := src.len w
                  have hf := hfw w rfl
                  rw [hz0] at hl hf
                  have hszr : (sizeOf el).run P w = .ok i.size w := by simp [sizeOf, typeInfo, hi]
                  have hzf : (match d with | .int _ => true | _ => false) = false := by cases d <;> first | rfl | exact absurd rfl (hdi _)
                  have hv0 : vs = [] := List.eq_nil_of_length_eq_zero (by rw [hvl, hz0, Nat.zero_mul])
                  have hrun : (Builtin.append_ #[t, t'] o.type #[.slice ad 0 0, a.eval z']).run P w = .ok (.slice ad 0 0) w := by
                    cases ad <;> simp only [Builtin.append_, List.getElem?_toArray, List.getElem?_cons_zero, List.getElem?_cons_succ, Sem.run_bind, run_underlying hu, run_underlying hd, Result.andThen_ok, hszr, Sem.run_pure, hzf, Bool.false_eq_true, if_false, Bool.not_false, if_true, hl, hf, hv0, Nat.le_refl, storeCells]
                  by_cases hph : szn = 0
                  · subst hph
                    have hes0 : es = [] := by
                      cases hob with
                      | arr vals Ss hβ' hb' hO hsz h03 => rw [hβ] at hβ'; simp at hβ'; omega
                      | arr0 => rfl
                    subst hes0
                    have he20 : es2 = [] := List.eq_nil_of_length_eq_zero hz0
                    subst he20
                    obtain ⟨I', O', s⟩ := phantom_step (own := own && u2) (sz := i.size) r hs (ns := n :: n2) (fun k hk => by
                      rcases List.mem_cons.1 hk with rfl | hk
                      · simp [hn]
                      · exact src.given.live k hk) h0
                    refine opW_value (exec _ _ _ hv rfl _ hrun) (by simpa using s) (.val (.one ?_))
                    exact .ref0 (upd_same _ _ _)
                  obtain ⟨arr, ty, hbk, hsz', hsz, _, hfit⟩ := arr_fit hob hβ (by omega)
                  subst hsz'
                  subst hv0
                  obtain ⟨I', O', s⟩ := append_in (lo := lo) r hs hn hβ hbk (by omega) src.given hn2 src.size (by simpa using hfit)
                  have hself : spliceA arr (off + es.length * i.size) [] = arr := by
                    simp [spliceA]
                  rw [hself, setRow_self w b arr ty (0, 0) hbk] at s
                  refine opW_value (exec _ _ _ hv rfl _ hrun) s (.val (.one ?_))
                  rw [hz0]
                  exact .ref0 (upd_same _ _ _)
                · have := out ad 0 0 [] [] [n] own (fun _ _ => False) vs es2 n2 u2 S2 hv src ⟨rfl, by simp [hn], by simp, by simp, by simp, by simp⟩ (by simp) rfl (by cases ad <;> simp [Builtin.firstCells, loadCells, loadCellsFrom]) (by omega) (by omega) (by simpa using hn2)
                  rw [hlo]
                  simpa using this
          · simp [HM.val] at hev2
    · simp [HM.val] at hev2
  · simp [HM.val] at hev

end
end Go.Pur
