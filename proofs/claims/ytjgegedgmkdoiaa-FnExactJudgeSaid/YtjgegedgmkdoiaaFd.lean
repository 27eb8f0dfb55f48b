/- One operation: what the evaluator says is what the model does. First part: the frame of a step, and operations that touch no memory or make some. -/
import Derived.Test.YtjgegedgmkdoiaaFc
import Derived.Laws.Small
namespace Go.Pur
open Go

theorem upd_same {κ α : Type} [DecidableEq κ] (f : κ → α) (k : κ) (v : α) : upd f k v k = v := by simp [upd]
theorem upd_other {κ α : Type} [DecidableEq κ] (f : κ → α) (k : κ) (v : α) {x : κ} (h : x ≠ k) : upd f k v x = f x := by simp [upd, h]

def OpW (P : Program) (o : Oper) (a : Act) (w : World) (slot : Nat) (I : Nat → Prop) (β : Beta) (O : Nm → Nat → Prop) (h : Nm → Option LObj) (e : Ent) (wr : Wr) : Prop :=
  ∀ (K : Act → World → Prop) (Q : Exit → Act → World → Prop),
    (∀ v w' I' β' O', StepTo slot w w' I I' β β' O O' h (putWr h wr) → RepE w' I' β' v e → K (a.put o.dst v) w') → o.wp P a w K Q

section
variable {P : Program} {o : Oper} {a : Act} {w w' : World} {slot : Nat} {I I' : Nat → Prop} {β β' : Beta} {O O' : Nm → Nat → Prop} {h : Nm → Option LObj} {e : Ent} {wr : Wr}

theorem opW_value {v : Value} (hr : (execOp a.eval o).run P w = .ok (.value v) w') (s : StepTo slot w w' I I' β β' O O' h (putWr h wr)) (re : RepE w' I' β' v e) : OpW P o a w slot I β O h e wr := by
  intro K Q hk
  unfold Oper.wp
  rw [hr]
  exact hk v w' I' β' O' s re

theorem opW_skip (hr : (execOp a.eval o).run P w = .ok .skip w') (s : StepTo slot w w' I I' β β' O O' h (putWr h wr)) (he : e = .nil) : OpW P o a w slot I β O h e wr := by
  intro K Q hk
  unfold Oper.wp
  rw [hr]
  exact hk _ w' I' β' O' s (he ▸ .nil)

theorem opW_pure {v : Value} (r : HRel w I β O h) (hr : (execOp a.eval o).run P w = .ok (.value v) w) (re : RepE w I β v e) (hw : wr = []) : OpW P o a w slot I β O h e wr := by
  subst hw
  exact opW_value hr (StepTo.refl r) re

/-- one name is turned (or made), some go, the others stay -/
theorem step1 {h' : Nm → Option LObj} {t : Nm} {ob : LObj} (r : HRel w I β O h) (m : Moves w w' I I' β β') (fr : ∀ n x, β' n = some x → β n = some x ∨ n.1 = slot)
    (evo : Evo (Owned O h) w w') (hh : ∀ n, n ≠ t → h' n = h n ∨ h' n = none) (ht : h' t = some ob) (hob : ObjRep w' I' β' (O' t) t ob) (hO : ∀ n, n ≠ t → O' n = O n)
    (hsame : ∀ n, n ≠ t → h' n ≠ none → ∀ b, O n b → w'.heap[b]? = w.heap[b]?)
    (hOt : ∀ b, O' t b → w.heap.size ≤ b ∨ ∃ k, h k ≠ none ∧ O k b ∧ (k = t ∨ h' k = none)) (hOlt : ∀ b, O' t b → b < w'.heap.size)
    (hI : ∀ b, I' b → I b ∨ ∃ k, h k ≠ none ∧ O k b ∧ (k = t ∨ h' k = none)) (hIt : ∀ b, O' t b → ¬ I' b) :
    StepTo slot w w' I I' β β' O O' h h' := by
  have alive : ∀ n, n ≠ t → h' n ≠ none → h n ≠ none := fun n hn h1 => by
    rcases hh n hn with h2 | h2
    · rwa [← h2]
    · exact absurd h2 h1
  have away : ∀ n, n ≠ t → h' n ≠ none → ∀ b, O n b → ¬ ∃ k, h k ≠ none ∧ O k b ∧ (k = t ∨ h' k = none) := by
    rintro n hn h1 b hb ⟨k, hk, hkb, hk2⟩
    have := r.dis k n b hk (alive n hn h1) hkb hb
    subst this
    rcases hk2 with rfl | hk2
    · exact hn rfl
    · exact h1 hk2
  refine ⟨⟨fun n ob' hn => ?_, fun n k b h1 h2 o1 o2 => ?_, fun n b h1 o1 hi => ?_, fun n b h1 o1 => ?_, fun b hb => ?_⟩, m.names, fr, evo, m.more, fun b hb => ?_, fun b hb => ?_⟩
  · by_cases e : n = t
    · subst e; rw [ht] at hn; cases hn; exact hob
    · have hne : h' n ≠ none := by rw [hn]; simp
      rcases hh n e with h2 | h2
      · rw [h2] at hn
        exact (r.obj n ob' hn).moves m (hsame n e hne) (fun b hb => by rw [hO n e]; exact hb)
      · exact absurd h2 hne
  · by_cases e1 : n = t <;> by_cases e2 : k = t
    · rw [e1, e2]
    · subst e1; rw [hO k e2] at o2
      rcases hOt b o1 with hl | hx
      · have := r.lt k b (alive k e2 h2) o2; omega
      · exact absurd hx (away k e2 h2 b o2)
    · subst e2; rw [hO n e1] at o1
      rcases hOt b o2 with hl | hx
      · have := r.lt n b (alive n e1 h1) o1; omega
      · exact absurd hx (away n e1 h1 b o1)
    · rw [hO n e1] at o1; rw [hO k e2] at o2
      exact r.dis n k b (alive n e1 h1) (alive k e2 h2) o1 o2
  · by_cases e1 : n = t
    · subst e1; exact hIt b o1 hi
    · rw [hO n e1] at o1
      rcases hI b hi with h3 | hx
      · exact r.imm n b (alive n e1 h1) o1 h3
      · exact absurd hx (away n e1 h1 b o1)
  · by_cases e1 : n = t
    · subst e1; exact hOlt b o1
    · rw [hO n e1] at o1
      exact Nat.lt_of_lt_of_le (r.lt n b (alive n e1 h1) o1) evo.size
  · rcases hI b hb with h3 | ⟨k, hk, hkb, _⟩
    · exact Nat.lt_of_lt_of_le (r.ilt b h3) evo.size
    · exact Nat.lt_of_lt_of_le (r.lt k b hk hkb) evo.size
  · rcases hI b hb with h3 | ⟨k, hk, hkb, _⟩
    · exact .inl h3
    · exact .inr (.inr ⟨k, hk, hkb⟩)
  · obtain ⟨n, hn, hnb⟩ := hb
    by_cases e1 : n = t
    · subst e1
      rcases hOt b hnb with hl | ⟨k, hk, hkb, _⟩
      · exact .inl hl
      · exact .inr ⟨k, hk, hkb⟩
    · rw [hO n e1] at hnb
      exact .inr ⟨n, alive n e1 hn, hnb⟩

/-! ### no memory -/

theorem okOp_mov {x : Op} {y : Opd} (h : okOp P x (.mov y) = true) : ∃ z, (x = .move z ∨ x = .assign z) ∧ okOpd z y = true := by
  cases x <;> simp [okOp] at h <;> first | exact ⟨_, .inl rfl, h⟩ | exact ⟨_, .inr rfl, h⟩

theorem sound_mov {ef : EF} {env : Nat → Ent} {y : Opd} (r : HRel w I β O h) (he : EnvRep w I β a env) (hok : okOp P o.op (.mov y) = true) (hev : (evOp ef slot env (.mov y)).val h = some (e, wr)) :
    OpW P o a w slot I β O h e wr := by
  obtain ⟨z, hz, ho⟩ := okOp_mov hok
  simp only [evOp] at hev
  have hr : (execOp a.eval o).run P w = .ok (.value (a.eval z)) w := by
    unfold execOp
    rcases hz with hz | hz <;> rw [hz] <;> rfl
  have hE : RepE w I β (a.eval z) (y.ent env) := by
    cases y with
    | c av => exact .val (opd_rep he ho rfl)
    | t n =>
      have hzn : z = .tmp n := by
        unfold okOpd at ho
        split at ho <;> simp_all
      subst hzn
      exact he n
  split at hev
  · simp [HM.val] at hev
  · rename_i av hg
    simp only [HM.val, Option.some.injEq, Prod.mk.injEq] at hev
    obtain ⟨rfl, rfl⟩ := hev
    exact opW_pure r hr (hg ▸ hE) rfl
  · rename_i as hg
    simp only [HM.val, Option.some.injEq, Prod.mk.injEq] at hev
    obtain ⟨rfl, rfl⟩ := hev
    exact opW_pure r hr (hg ▸ hE) rfl

theorem okOp_pick {x : Op} {c b d : Opd} (h : okOp P x (.pick c b d) = true) : ∃ c' b' d', x = .pick c' b' d' ∧ okOpd c' c = true ∧ okOpd b' b = true ∧ okOpd d' d = true := by
  cases x <;> simp [okOp] at h
  exact ⟨_, _, _, rfl, h.1.1, h.1.2, h.2⟩

theorem sound_pick {ef : EF} {env : Nat → Ent} {c b d : Opd} (r : HRel w I β O h) (he : EnvRep w I β a env) (hok : okOp P o.op (.pick c b d) = true) (hev : (evOp ef slot env (.pick c b d)).val h = some (e, wr)) :
    OpW P o a w slot I β O h e wr := by
  obtain ⟨c', b', d', hz, h1, h2, h3⟩ := okOp_pick hok
  simp only [evOp] at hev
  split at hev
  · rename_i x g1
    have hc := opd_bool he h1 g1
    have hr : (execOp a.eval o).run P w = .ok (.value (if x then a.eval b' else a.eval d')) w := by
      unfold execOp
      rw [hz]
      simp [hc, asBool]
    split at hev
    · rename_i hx
      split at hev
      · rename_i g2
        simp only [outA, HM.val, Option.some.injEq, Prod.mk.injEq] at hev
        obtain ⟨rfl, rfl⟩ := hev
        rw [hx] at hr
        exact opW_pure r hr (.val (opd_rep he h2 g2)) rfl
      · simp [HM.val] at hev
    · rename_i hx
      split at hev
      · rename_i g3
        simp only [outA, HM.val, Option.some.injEq, Prod.mk.injEq] at hev
        obtain ⟨rfl, rfl⟩ := hev
        simp only [Bool.not_eq_true] at hx
        rw [hx] at hr
        exact opW_pure r hr (.val (opd_rep he h3 g3)) rfl
      · simp [HM.val] at hev
  · simp [HM.val] at hev

theorem okOp_nilc {x : Op} {y : Opd} (h : okOp P x (.nilc y) = true) : ∃ z, x = .nilCheck z ∧ okOpd z y = true := by
  cases x <;> simp [okOp] at h
  exact ⟨_, rfl, h⟩

theorem sound_nilc {ef : EF} {env : Nat → Ent} {y : Opd} (r : HRel w I β O h) (he : EnvRep w I β a env) (hok : okOp P o.op (.nilc y) = true) (hev : (evOp ef slot env (.nilc y)).val h = some (e, wr)) :
    OpW P o a w slot I β O h e wr := by
  obtain ⟨z, hz, ho⟩ := okOp_nilc hok
  simp only [evOp] at hev
  have key : ∀ ad : Addr, a.eval z = .pointer (some ad) → (execOp a.eval o).run P w = .ok (.value (.pointer (some ad))) w := fun ad hv => by
    unfold execOp
    rw [hz]
    simp [hv]
  split at hev
  · rename_i m i hg
    have hc := opd_cell he ho hg
    simp only [out1, HM.val, Option.some.injEq, Prod.mk.injEq] at hev
    obtain ⟨rfl, rfl⟩ := hev
    generalize hv : a.eval z = v at hc
    cases hc with
    | ptr hb => exact opW_pure r (key _ hv) (.val (.one (.ptr hb))) rfl
  · rename_i m i j hg
    have hc := opd_cell he ho hg
    simp only [out1, HM.val, Option.some.injEq, Prod.mk.injEq] at hev
    obtain ⟨rfl, rfl⟩ := hev
    generalize hv : a.eval z = v at hc
    cases hc with
    | pel hb hzp => exact opW_pure r (key _ hv) (.val (.one (.pel hb hzp))) rfl
  · rename_i cs hg
    have hc := opd_cell he ho hg
    simp only [out1, HM.val, Option.some.injEq, Prod.mk.injEq] at hev
    obtain ⟨rfl, rfl⟩ := hev
    generalize hv : a.eval z = v at hc
    cases hc with
    | t ht => cases ht with
      | pt vals hc hr => exact opW_pure r (key _ hv) (.val (.one (.t (.pt vals hc hr)))) rfl
  · simp [HM.val] at hev

theorem repV {w : World} {I : Nat → Prop} {β : Beta} {x : Value} (h : x.flatB = true) : RepE w I β x (.val (.one (.t (.v x)))) := .val (.one (.t (.v h)))

theorem okOp_bin {x : Op} {op : BinOp} {y z : Opd} (h : okOp P x (.bin op y z) = true) : ∃ t y' z' yt, x = .binOp op t y' z' yt ∧ okOpd y' y = true ∧ okOpd z' z = true := by
  cases x <;> simp [okOp] at h
  obtain ⟨⟨rfl, h1⟩, h2⟩ := h
  exact ⟨_, _, _, _, rfl, h1, h2⟩

theorem run_eqGuard_flat (op : BinOp) (t : TypeId) (x y : Operand) {u v r : Value} (h : flatBin op u v = some r) (w : World) : (eqGuard op t x y u v).run P w = .ok () w := by
  unfold flatBin at h
  unfold eqGuard
  split at h <;> (try cases h) <;> (cases op <;> simp)

theorem run_intBin {op : BinOp} {k : IntKind} {x y : Int} {r : Value} (hs : isShift op = false) (h : intBin op k x y = some r) (t : TypeId) (w : World) : (binOp op t (.int k x) (.int k y)).run P w = .ok r w ∧ r.flatB = true := by
  cases op <;> simp [isShift] at hs <;> simp [intBin] at h <;>
    first
      | (subst h; simp [binOp, Op.intArith, Op.intCmp, Op.intBits, Value.flatB]; done)
      | (obtain ⟨h1, rfl⟩ := h; simp [binOp, Op.intDiv, h1, Value.flatB])

theorem run_shift {op : BinOp} {k k' : IntKind} {x y : Int} {r : Value} (h : shiftV op k x y = some r) (t : TypeId) (w : World) : (binOp op t (.int k x) (.int k' y)).run P w = .ok r w ∧ r.flatB = true := by
  unfold shiftV at h
  split at h
  · cases h
  · rename_i hy
    cases op <;> simp at h <;> (subst h; simp [binOp, Op.shift, hy, Value.flatB])

theorem run_strBin {op : BinOp} {x y : ByteArray} {r : Value} (h : strBin op x y = some r) (t : TypeId) (w : World) : (binOp op t (.string x) (.string y)).run P w = .ok r w ∧ r.flatB = true := by
  cases op <;> simp [strBin] at h
  · obtain ⟨h1, rfl⟩ := h
    refine ⟨?_, rfl⟩
    simp [binOp, Op.stringOp]
    exact h1
  · subst h; simp [binOp, Op.stringOp, Value.flatB]
  · subst h; simp [binOp, Op.stringOp, Value.flatB]

theorem run_flatBin {op : BinOp} {u v r : Value} (h : flatBin op u v = some r) (t : TypeId) (w : World) : (binOp op t u v).run P w = .ok r w ∧ r.flatB = true := by
  unfold flatBin at h
  split at h
  · rename_i k x k' y
    split at h
    · exact run_shift h t w
    · rename_i hs
      split at h
      · rename_i hk; subst hk
        exact run_intBin (by simpa using hs) h t w
      · cases h
  · exact run_strBin h t w
  · cases h

theorem sound_bin {ef : EF} {env : Nat → Ent} {op : BinOp} {y z : Opd} (r : HRel w I β O h) (he : EnvRep w I β a env) (hok : okOp P o.op (.bin op y z) = true) (hev : (evOp ef slot env (.bin op y z)).val h = some (e, wr)) :
    OpW P o a w slot I β O h e wr := by
  obtain ⟨t, y', z', yt, hz, h1, h2⟩ := okOp_bin hok
  simp only [evOp] at hev
  split at hev
  · rename_i x1 x2 g1 g2
    split at hev
    · rename_i u v f1 f2
      split at hev
      · rename_i res hb
        simp only [out1, HM.val, Option.some.injEq, Prod.mk.injEq] at hev
        obtain ⟨rfl, rfl⟩ := hev
        obtain ⟨e1, _⟩ := repA_flat (opd_rep he h1 g1) f1
        obtain ⟨e2, _⟩ := repA_flat (opd_rep he h2 g2) f2
        obtain ⟨hr, hf⟩ := run_flatBin (P := P) hb t w
        have hg := run_eqGuard_flat (P := P) op t y' z' hb w
        refine opW_pure r (v := res) ?_ (repV hf) rfl
        unfold execOp
        rw [hz]
        simp only [e1, e2, Sem.run_bind, hg, hr, Result.andThen_ok, Sem.run_pure]
      · simp [HM.val] at hev
    · simp [HM.val] at hev
  · simp [HM.val] at hev

theorem okOp_un {x : Op} {op : UnOp} {y : Opd} (h : okOp P x (.un op y) = true) : ∃ t y', x = .unOp op t y' ∧ okOpd y' y = true := by
  cases x <;> simp [okOp] at h
  obtain ⟨rfl, h1⟩ := h
  exact ⟨_, _, rfl, h1⟩

theorem run_flatUn {op : UnOp} {u r : Value} (h : flatUn op u = some r) (w : World) : (Op.unary op u).run P w = .ok r w ∧ r.flatB = true := by
  unfold flatUn at h
  split at h <;> (try cases h) <;> simp [Op.unary, Op.intArith, Op.intBits, Value.flatB]

theorem sound_un {ef : EF} {env : Nat → Ent} {op : UnOp} {y : Opd} (r : HRel w I β O h) (he : EnvRep w I β a env) (hok : okOp P o.op (.un op y) = true) (hev : (evOp ef slot env (.un op y)).val h = some (e, wr)) :
    OpW P o a w slot I β O h e wr := by
  obtain ⟨t, y', hz, h1⟩ := okOp_un hok
  simp only [evOp] at hev
  split at hev
  · rename_i u g1
    split at hev
    · rename_i res hb
      simp only [out1, HM.val, Option.some.injEq, Prod.mk.injEq] at hev
      obtain ⟨rfl, rfl⟩ := hev
      obtain ⟨e1, _⟩ := opd_flat he h1 g1
      obtain ⟨hr, hf⟩ := run_flatUn (P := P) hb w
      refine opW_pure r (v := res) ?_ (repV hf) rfl
      unfold execOp
      rw [hz]
      simp only [e1, Sem.run_bind, hr, Result.andThen_ok, Sem.run_pure]
    · simp [HM.val] at hev
  · simp [HM.val] at hev

theorem okOp_eqb {x : Op} {neg : Bool} {y z : Opd} (h : okOp P x (.eqb neg y z) = true) : ∃ t y' z' yt, x = .binOp (if neg then .neq else .eql) t y' z' yt ∧ P.underlying t = some .bool ∧ okOpd y' y = true ∧ okOpd z' z = true := by
  cases x <;> simp [okOp] at h
  rename_i op t y' z' yt
  obtain ⟨⟨⟨h0, h1⟩, h2⟩, h3⟩ := h
  have ht : P.underlying t = some .bool := by split at h1 <;> simp_all
  have ho : op = (if neg then .neq else .eql) := by cases op <;> simp_all
  exact ⟨t, y', z', yt, by rw [ho], ht, h2, h3⟩

theorem sound_eqb {ef : EF} {env : Nat → Ent} {neg : Bool} {y z : Opd} (r : HRel w I β O h) (he : EnvRep w I β a env) (hok : okOp P o.op (.eqb neg y z) = true) (hev : (evOp ef slot env (.eqb neg y z)).val h = some (e, wr)) :
    OpW P o a w slot I β O h e wr := by
  obtain ⟨t, y', z', yt, hz, ht, h1, h2⟩ := okOp_eqb hok
  simp only [evOp] at hev
  split at hev
  · rename_i x1 x2 g1 g2
    simp only [out1, HM.val, Option.some.injEq, Prod.mk.injEq] at hev
    obtain ⟨rfl, rfl⟩ := hev
    have e1 := opd_bool he h1 g1
    have e2 := opd_bool he h2 g2
    have hr := run_equal_bool (P := P) w t x1 x2 ht
    refine opW_pure r ?_ (repV (x := .bool (if neg then !(x1 == x2) else x1 == x2)) rfl) rfl
    unfold execOp
    rw [hz]
    cases neg <;> simp [e1, e2, eqGuard, binOp, hr]
  · simp [HM.val] at hev

theorem okOp_isnil {x : Op} {neg : Bool} {y : Opd} (h : okOp P x (.isnil neg y) = true) : ∃ t el y' yt, x = .binOp (if neg then .neq else .eql) t y' (.const (.pointer none)) yt ∧ P.underlying t = some (.pointer el) ∧ okOpd y' y = true := by
  cases x <;> simp [okOp] at h
  rename_i op t y' z' yt
  obtain ⟨⟨⟨h0, h1⟩, h2⟩, h3⟩ := h
  have ho : op = (if neg then .neq else .eql) := by cases op <;> simp_all
  have hz : z' = .const (.pointer none) := by split at h3 <;> simp_all
  split at h1
  · rename_i el ht
    exact ⟨t, el, y', yt, by rw [ho, hz], ht, h2⟩
  · simp at h1

theorem run_eq_nil (t el : TypeId) (p : Option Addr) (ht : P.underlying t = some (.pointer el)) (w : World) : (Op.equal t (.pointer p) (.pointer none)).run P w = .ok p.isNone w := by
  have key : ∀ d, (Op.equalIn (d + 1) t (.pointer p) (.pointer none)).run P w = .ok p.isNone w := fun d => by
    cases p <;> simp [Op.equalIn, run_underlying ht]
  exact key 9999

theorem sound_isnil {ef : EF} {env : Nat → Ent} {neg : Bool} {y : Opd} (r : HRel w I β O h) (he : EnvRep w I β a env) (hok : okOp P o.op (.isnil neg y) = true) (hev : (evOp ef slot env (.isnil neg y)).val h = some (e, wr)) :
    OpW P o a w slot I β O h e wr := by
  obtain ⟨t, el, y', yt, hz, ht, h1⟩ := okOp_isnil hok
  simp only [evOp] at hev
  have key : ∀ p : Option Addr, a.eval y' = .pointer p → (execOp a.eval o).run P w = .ok (.value (.bool (if neg then !p.isNone else p.isNone))) w := fun p hp => by
    have hr := run_eq_nil (P := P) t el p ht w
    have hc : a.eval (.const (.pointer none)) = .pointer none := rfl
    unfold execOp
    rw [hz]
    cases neg <;> simp [hp, hc, eqGuard, binOp, hr]
  split at hev
  · rename_i m i hg
    have hc := opd_cell he h1 hg
    simp only [out1, HM.val, Option.some.injEq, Prod.mk.injEq] at hev
    obtain ⟨rfl, rfl⟩ := hev
    generalize hv : a.eval y' = v at hc
    cases hc with
    | ptr hb => exact opW_pure r (key _ hv) (by cases neg <;> exact repV rfl) rfl
  · rename_i m i j hg
    have hc := opd_cell he h1 hg
    simp only [out1, HM.val, Option.some.injEq, Prod.mk.injEq] at hev
    obtain ⟨rfl, rfl⟩ := hev
    generalize hv : a.eval y' = v at hc
    cases hc with
    | pel hb => exact opW_pure r (key _ hv) (by cases neg <;> exact repV rfl) rfl
  · rename_i cs hg
    have hc := opd_cell he h1 hg
    simp only [out1, HM.val, Option.some.injEq, Prod.mk.injEq] at hev
    obtain ⟨rfl, rfl⟩ := hev
    generalize hv : a.eval y' = v at hc
    cases hc with
    | t ht => cases ht with
      | pt vals hc hr => exact opW_pure r (key _ hv) (by cases neg <;> exact repV rfl) rfl
  · rename_i hg
    have hc := opd_cell he h1 hg
    simp only [out1, HM.val, Option.some.injEq, Prod.mk.injEq] at hev
    obtain ⟨rfl, rfl⟩ := hev
    generalize hv : a.eval y' = v at hc
    cases hc with
    | t ht => cases ht with
      | v hf => exact opW_pure r (key _ hv) (by cases neg <;> exact repV rfl) rfl
  · simp [HM.val] at hev

theorem okOp_cvi {x : Op} {k : IntKind} {y : Opd} (h : okOp P x (.cvi k y) = true) : ∃ s d ds y', x = .convert s d y' ∧ P.underlying s = some ds ∧ P.underlying d = some (.int k) ∧ okOpd y' y = true := by
  cases x <;> simp [okOp] at h
  rename_i s d y'
  obtain ⟨⟨h1, h2⟩, h3⟩ := h
  obtain ⟨ds, hd⟩ := Option.isSome_iff_exists.1 h1
  have : P.underlying d = some (.int k) := by
    unfold intT at h2
    split at h2 <;> simp_all
  exact ⟨s, d, ds, y', rfl, hd, this, h3⟩

theorem sound_cvi {ef : EF} {env : Nat → Ent} {k : IntKind} {y : Opd} (r : HRel w I β O h) (he : EnvRep w I β a env) (hok : okOp P o.op (.cvi k y) = true) (hev : (evOp ef slot env (.cvi k y)).val h = some (e, wr)) :
    OpW P o a w slot I β O h e wr := by
  obtain ⟨s, d, ds, y', hz, hs, hd, h1⟩ := okOp_cvi hok
  simp only [evOp] at hev
  split at hev
  · rename_i n g1
    simp only [out1, HM.val, Option.some.injEq, Prod.mk.injEq] at hev
    obtain ⟨rfl, rfl⟩ := hev
    obtain ⟨k', e1⟩ := opd_int he h1 g1
    refine opW_pure r ?_ (repV (x := .int k (k.wrap n)) rfl) rfl
    unfold execOp
    rw [hz]
    simp only [e1, Sem.run_bind, convert, run_underlying hs, run_underlying hd, Result.andThen_ok]
    cases ds <;> simp [Conv.intToInt]
  · simp [HM.val] at hev

theorem elemT_some {t e : TypeId} (h : elemT P t = some e) : P.underlying t = some (.slice e) := by
  unfold elemT at h; split at h <;> simp_all
theorem isStrT_eq {t : TypeId} (h : isStrT P t = true) : P.underlying t = some .string := by
  unfold isStrT at h; split at h <;> simp_all
theorem arrT_some {t : TypeId} {n : Nat} {e : TypeId} (h : arrT P t = some (n, e)) : P.underlying t = some (.array n e) := by
  unfold arrT at h; split at h <;> simp_all
theorem fieldT_some {t : TypeId} {i : Nat} {f : Field} (h : fieldT P t i = some f) : ∃ fs, P.underlying t = some (.struct fs) ∧ fs[i]? = some f := by
  unfold fieldT at h; split at h <;> simp_all
theorem sizeT_some {t : TypeId} {n : Nat} (h : sizeT P t = some n) (w : World) : (sizeOf t).run P w = .ok n w := by
  unfold sizeT at h
  cases hq : P.info? t with
  | none => simp [hq] at h
  | some i => simp [hq] at h; simp [sizeOf, typeInfo, hq, h]
theorem toList_one {α : Type} {xs : Array α} {x : α} (h : xs.toList = [x]) : xs = #[x] := by cases xs; simp_all
theorem toList_two {α : Type} {xs : Array α} {x y : α} (h : xs.toList = [x, y]) : xs = #[x, y] := by cases xs; simp_all

theorem okOp_len {x : Op} {y : Opd} (h : okOp P x (.len y) = true) : ∃ t e y', x = .call { callee := .builtin .len, args := #[y'], argTypes := #[t] } ∧ okOpd y' y = true ∧ P.underlying t = some (.slice e) := by
  cases x <;> try (simp [okOp] at h; done)
  rename_i c
  obtain ⟨callee, args, ts⟩ := c
  cases callee <;> try (simp [okOp] at h; done)
  rename_i b
  cases b <;> try (simp [okOp] at h; done)
  simp only [okOp] at h
  split at h
  · rename_i y' t ha ht
    simp at h
    obtain ⟨e, he⟩ := Option.isSome_iff_exists.1 h.2
    exact ⟨t, e, y', by rw [toList_one ha, toList_one ht], h.1, elemT_some he⟩
  · cases h

theorem okOp_lens {x : Op} {y : Opd} (h : okOp P x (.lens y) = true) : ∃ t y', x = .call { callee := .builtin .len, args := #[y'], argTypes := #[t] } ∧ okOpd y' y = true ∧ P.underlying t = some .string := by
  cases x <;> try (simp [okOp] at h; done)
  rename_i c
  obtain ⟨callee, args, ts⟩ := c
  cases callee <;> try (simp [okOp] at h; done)
  rename_i b
  cases b <;> try (simp [okOp] at h; done)
  simp only [okOp] at h
  split at h
  · rename_i y' t ha ht
    simp at h
    exact ⟨t, y', by rw [toList_one ha, toList_one ht], h.1, isStrT_eq h.2⟩
  · cases h

theorem okOp_lena {x : Op} {n : Nat} (h : okOp P x (.lena n) = true) : ∃ t e y', x = .call { callee := .builtin .len, args := #[y'], argTypes := #[t] } ∧ P.underlying t = some (.array n e) := by
  cases x <;> try (simp [okOp] at h; done)
  rename_i c
  obtain ⟨callee, args, ts⟩ := c
  cases callee <;> try (simp [okOp] at h; done)
  rename_i b
  cases b <;> try (simp [okOp] at h; done)
  simp only [okOp] at h
  split at h
  · rename_i y' t ha ht
    simp only [Option.any_eq_true, beq_iff_eq] at h
    obtain ⟨⟨m, e⟩, h1, h2⟩ := h
    simp at h2
    subst h2
    exact ⟨t, e, y', by rw [toList_one ha, toList_one ht], arrT_some h1⟩
  · cases h

theorem sound_len {ef : EF} {env : Nat → Ent} {y : Opd} (r : HRel w I β O h) (he : EnvRep w I β a env) (hok : okOp P o.op (.len y) = true) (hev : (evOp ef slot env (.len y)).val h = some (e, wr)) :
    OpW P o a w slot I β O h e wr := by
  obtain ⟨t, el, y', hz, h1, hu⟩ := okOp_len hok
  simp only [evOp] at hev
  have key : ∀ ad n cap, a.eval y' = .slice ad n cap → (execOp a.eval o).run P w = .ok (.value (.int .i64 n)) w := fun ad n cap hv => by
    unfold execOp
    rw [hz]
    simp [resolve, invoke, builtin, Builtin.len_, run_underlying hu, hv, goInt]
  split at hev
  · rename_i m lo len hg
    have hc := opd_cell he h1 hg
    simp only [out1, HM.val, Option.some.injEq, Prod.mk.injEq] at hev
    obtain ⟨rfl, rfl⟩ := hev
    generalize hv : a.eval y' = v at hc
    cases hc with
    | ref => exact opW_pure r (key _ _ _ hv) (repV rfl) rfl
    | ref0 => exact opW_pure r (key _ _ _ hv) (repV rfl) rfl
  · rename_i sz es hg
    have hc := opd_cell he h1 hg
    simp only [out1, HM.val, Option.some.injEq, Prod.mk.injEq] at hev
    obtain ⟨rfl, rfl⟩ := hev
    generalize hv : a.eval y' = v at hc
    cases hc with
    | t ht => cases ht with
      | sl => exact opW_pure r (key _ _ _ hv) (repV rfl) rfl
  · rename_i sz hg
    have hc := opd_cell he h1 hg
    simp only [out1, HM.val, Option.some.injEq, Prod.mk.injEq] at hev
    obtain ⟨rfl, rfl⟩ := hev
    generalize hv : a.eval y' = v at hc
    cases hc with
    | nils => exact opW_pure r (key _ _ _ hv) (repV rfl) rfl
  · simp [HM.val] at hev

theorem sound_lens {ef : EF} {env : Nat → Ent} {y : Opd} (r : HRel w I β O h) (he : EnvRep w I β a env) (hok : okOp P o.op (.lens y) = true) (hev : (evOp ef slot env (.lens y)).val h = some (e, wr)) :
    OpW P o a w slot I β O h e wr := by
  obtain ⟨t, y', hz, h1, hu⟩ := okOp_lens hok
  simp only [evOp] at hev
  split at hev
  · rename_i s hg
    obtain ⟨hv, _⟩ := opd_flat he h1 hg
    simp only [out1, HM.val, Option.some.injEq, Prod.mk.injEq] at hev
    obtain ⟨rfl, rfl⟩ := hev
    refine opW_pure r ?_ (repV (x := .int .i64 s.size) rfl) rfl
    unfold execOp
    rw [hz]
    simp [resolve, invoke, builtin, Builtin.len_, run_underlying hu, hv, goInt]
  · simp [HM.val] at hev

theorem sound_lena {ef : EF} {env : Nat → Ent} {n : Nat} (r : HRel w I β O h) (hok : okOp P o.op (.lena n) = true) (hev : (evOp ef slot env (.lena n)).val h = some (e, wr)) :
    OpW P o a w slot I β O h e wr := by
  obtain ⟨t, el, y', hz, hu⟩ := okOp_lena hok
  simp only [evOp, out1, HM.val, Option.some.injEq, Prod.mk.injEq] at hev
  obtain ⟨rfl, rfl⟩ := hev
  refine opW_pure r ?_ (repV (x := .int .i64 n) rfl) rfl
  unfold execOp
  rw [hz]
  simp [resolve, invoke, builtin, Builtin.len_, run_underlying hu, goInt]

theorem okOp_mnx {x : Op} {mx : Bool} {y z : Opd} (h : okOp P x (.mnx mx y z) = true) : ∃ ts y' z', x = .call { callee := .builtin (if mx then .max else .min), args := #[y', z'], argTypes := ts } ∧ okOpd y' y = true ∧ okOpd z' z = true := by
  cases x <;> try (simp [okOp] at h; done)
  rename_i c
  obtain ⟨callee, args, ts⟩ := c
  cases callee <;> try (simp [okOp] at h; done)
  rename_i b
  cases mx <;> cases b <;> try (simp [okOp] at h; done)
  all_goals
    simp only [okOp] at h
    split at h
    · rename_i a b ha
      simp at h
      exact ⟨ts, a, b, by rw [toList_two ha]; rfl, h.1, h.2⟩
    · cases h

theorem sound_mnx {ef : EF} {env : Nat → Ent} {mx : Bool} {y z : Opd} (r : HRel w I β O h) (he : EnvRep w I β a env) (hok : okOp P o.op (.mnx mx y z) = true) (hev : (evOp ef slot env (.mnx mx y z)).val h = some (e, wr)) :
    OpW P o a w slot I β O h e wr := by
  obtain ⟨ts, y', z', hz, h1, h2⟩ := okOp_mnx hok
  simp only [evOp] at hev
  split at hev
  · rename_i k m k' n hg1 hg2
    obtain ⟨hv1, _⟩ := opd_flat he h1 hg1
    obtain ⟨hv2, _⟩ := opd_flat he h2 hg2
    split at hev
    · rename_i hk
      subst hk
      simp only [out1, HM.val, Option.some.injEq, Prod.mk.injEq] at hev
      obtain ⟨rfl, rfl⟩ := hev
      refine opW_pure r ?_ (repV (x := .int k (if mx = true then max m n else min m n)) rfl) rfl
      unfold execOp
      rw [hz]
      cases mx with
      | true =>
        have hm : (if n > m then n else m) = max m n := by omega
        simp [resolve, invoke, builtin, Builtin.max_, Builtin.max2, hv1, hv2]
        omega
      | false =>
        have hm : (if n < m then n else m) = min m n := by omega
        simp [resolve, invoke, builtin, Builtin.min_, Builtin.min2, hv1, hv2]
        omega
    · simp [HM.val] at hev
  · simp [HM.val] at hev

theorem okOp_ext {x : Op} {i : Nat} {y : Opd} (h : okOp P x (.ext i y) = true) : ∃ z, x = .extract z i ∧ okOpd z y = true := by
  cases x <;> simp [okOp] at h
  obtain ⟨rfl, h1⟩ := h
  exact ⟨_, rfl, h1⟩

theorem sound_ext {ef : EF} {env : Nat → Ent} {i : Nat} {y : Opd} (r : HRel w I β O h) (he : EnvRep w I β a env) (hok : okOp P o.op (.ext i y) = true) (hev : (evOp ef slot env (.ext i y)).val h = some (e, wr)) :
    OpW P o a w slot I β O h e wr := by
  obtain ⟨z, hz, h1⟩ := okOp_ext hok
  simp only [evOp] at hev
  split at hev
  · rename_i n
    have hzn : z = .tmp n := by
      unfold okOpd at h1
      split at h1 <;> simp_all
    split at hev
    · rename_i as hn
      split at hev
      · rename_i av hi
        simp only [outA, HM.val, Option.some.injEq, Prod.mk.injEq] at hev
        obtain ⟨rfl, rfl⟩ := hev
        have hrep := he n
        rw [hn] at hrep
        have hev : a.eval z = a.tmps.getD n Go.undef := by rw [hzn]; rfl
        generalize a.tmps.getD n Go.undef = v at hrep hev
        cases hrep with
        | tup hs hr =>
          rename_i vs
          have hlt : i < vs.size := by
            rw [hs]; exact (List.getElem?_eq_some_iff.1 hi).1
          have hvi : vs[i]? = some vs[i] := by simp [hlt]
          refine opW_pure r (v := vs[i]) ?_ (.val (hr i _ _ hvi hi)) rfl
          unfold execOp
          rw [hz]
          simp [hev, Instr.extract, hvi]
      · simp [HM.val] at hev
    · simp [HM.val] at hev
  · simp [HM.val] at hev

theorem okOp_fa {x : Op} {off : Nat} {y : Opd} (h : okOp P x (.fa off y) = true) : ∃ t z i fs f s, x = .fieldAddr t z i ∧ okOpd z y = true ∧ P.underlying t = some (.struct fs) ∧ fs[i]? = some f ∧ f.offset = off ∧ sizeT P f.type = some s ∧ 0 < s := by
  cases x <;> simp [okOp, Option.any_eq_true] at h
  obtain ⟨⟨f, h1, h2, s, h3, h4⟩, h5⟩ := h
  obtain ⟨fs, hu, hf⟩ := fieldT_some h1
  exact ⟨_, _, _, fs, f, s, rfl, h5, hu, hf, h2, h3, h4⟩

theorem add_none (b off n : Nat) : (⟨b, off, none⟩ : Addr).add n = ⟨b, off + n, none⟩ := by unfold Addr.add; split <;> simp_all

theorem sound_fa {ef : EF} {env : Nat → Ent} {off : Nat} {y : Opd} (r : HRel w I β O h) (he : EnvRep w I β a env) (hok : okOp P o.op (.fa off y) = true) (hev : (evOp ef slot env (.fa off y)).val h = some (e, wr)) :
    OpW P o a w slot I β O h e wr := by
  obtain ⟨t, z, i, fs, f, s, hz, h1, hu, hf, rfl, hs, h0⟩ := okOp_fa hok
  simp only [evOp] at hev
  have key : ∀ b k, a.eval z = .pointer (some ⟨b, k, none⟩) → (execOp a.eval o).run P w = .ok (.value (.pointer (some ⟨b, k + f.offset, none⟩))) w := fun b k hv => by
    have hne : s ≠ 0 := by omega
    unfold execOp
    rw [hz]
    simp [Instr.fieldAt, run_underlying hu, hf, hv, Instr.sureAddr, fieldPlace, sizeT_some hs, hne, add_none]
  split at hev
  · rename_i m k hg
    have hc := opd_cell he h1 hg
    simp only [out1, HM.val, Option.some.injEq, Prod.mk.injEq] at hev
    obtain ⟨rfl, rfl⟩ := hev
    generalize hv : a.eval z = v at hc
    cases hc with
    | ptr hb => exact opW_pure r (key _ _ hv) (.val (.one (by rw [Nat.add_assoc]; exact .ptr hb))) rfl
  · rename_i m k j hg
    have hc := opd_cell he h1 hg
    simp only [out1, HM.val, Option.some.injEq, Prod.mk.injEq] at hev
    obtain ⟨rfl, rfl⟩ := hev
    generalize hv : a.eval z = v at hc
    cases hc with
    | pel hb hzp => exact opW_pure r (key _ _ hv) (.val (.one (by rw [Nat.add_assoc]; exact .pel hb hzp))) rfl
  · rename_i cs hg
    have hc := opd_cell he h1 hg
    simp only [out1, HM.val, Option.some.injEq, Prod.mk.injEq] at hev
    obtain ⟨rfl, rfl⟩ := hev
    generalize hv : a.eval z = v at hc
    cases hc with
    | t ht => cases ht with
      | pt vals hc hr =>
        refine opW_pure r (key _ _ hv) (.val (.one (.t (.pt (fun j => vals (f.offset + j)) (fun j c hj => ?_) (fun j c hj => ?_))))) rfl
        · rw [List.getElem?_drop] at hj
          have := hc _ _ hj
          rwa [Nat.add_assoc]
        · rw [List.getElem?_drop] at hj
          exact hr _ _ hj
  · simp [HM.val] at hev

end
end Go.Pur
