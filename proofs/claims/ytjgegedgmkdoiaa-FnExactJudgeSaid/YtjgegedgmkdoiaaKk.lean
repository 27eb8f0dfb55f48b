import Derived.Test.YtjgegedgmkdoiaaKj
namespace Go.Pur
open Go
set_option linter.unusedSimpArgs false

set_option maxHeartbeats 2000000 in
theorem lp1_spec_Judge (l : List DeedT) (j : JS) (d : DeedT) (i : Nat) (hi : (i : Int) < l.length) (hget : l[i]? = some d) : ∀ (n : Nat) (r : Int), 1 ≤ r → r + n = 10 → ∀ out : List (Int × Int), out.length + n ≤ 4294967296 →
    nrmK 0 [0, 4, 5, 6] (blkK 2 (evLN tab.E 0 [0, 4, 5, 6, 7] b1_spec_Judge ⟨upd (upd (upd (upd (upd u0 7 (.val (vI r))) 6 (.val (vI i))) 5 (.val (v1 (.ptr (0, 1) 0)))) 4 (.val (rf 0 out.length))) 0 (.val (vDeeds l)), h2 (.arr true 2 (out.map eFind)) (kR j), 1⟩)) =
      some (.normal, ⟨upd (upd (upd (upd u0 6 (.val (vI i))) 5 (.val (v1 (.ptr (0, 1) 0)))) 4 (.val (rf 0 (out ++ fnds j i d n r).length))) 0 (.val (vDeeds l)), h2 (.arr true 2 ((out ++ fnds j i d n r).map eFind)) (kR j), 1⟩) := by
  intro n
  induction n with
  | zero =>
    intro r h1 h2 out _
    have h9 : ¬ r ≤ 9 := by omega
    rw [evLN_eq]
    simp -implicitDefEqProofs [fnds, h9]
  | succ n ih =>
    intro r h1 h2 out ho
    have h9 : r ≤ 9 := by omega
    have hw := w64 (x := r + 1) (by omega) (by omega)
    have hb := E_spec_l21Breaks j i d r h1 h9
    have ho2 : out.length + 1 ≤ 4294967296 := by omega
    have hlt : i < l.length := by omega
    rw [evLN_eq]
    simp only [fnds]
    cases e : brk j r i d <;> rw [e] at hb
    · have := ih (r + 1) (by omega) (by omega) out (by omega)
      simp only [Bool.false_eq_true, if_false, List.nil_append]
      rw [← this]
      simp -implicitDefEqProofs [h9, hw, hb, hget]
    · have := ih (r + 1) (by omega) (by omega) (out ++ [((i : Int), r)]) (by simp; omega)
      simp only [if_true]
      rw [← List.append_assoc, ← this]
      simp -implicitDefEqProofs [h9, hw, hb, ho2, hget, chunk]

set_option maxHeartbeats 2000000 in
theorem lp0_spec_Judge (l : List DeedT) (hl : l.length ≤ 500) : ∀ (n i : Nat), i + n = l.length → ∀ (j : JS) (out : List (Int × Int)), out.length ≤ 9 * i →
    nrmK 0 [4] (blkK 0 (evLN tab.E 0 [0, 4, 5, 6] b0_spec_Judge ⟨upd (upd (upd (upd u0 6 (.val (vI i))) 5 (.val (v1 (.ptr (0, 1) 0)))) 4 (.val (rf 0 out.length))) 0 (.val (vDeeds l)), h2 (.arr true 2 (out.map eFind)) (kR j), 1⟩)) =
      some (.normal, ⟨upd u0 4 (.val (rf 0 (out ++ judF thnS j i (l.drop i)).length)), h1 (.arr true 2 ((out ++ judF thnS j i (l.drop i)).map eFind)), 1⟩) := by
  intro n
  induction n with
  | zero =>
    intro i h j out _
    obtain rfl : i = l.length := by omega
    rw [evLN_eq]
    simp -implicitDefEqProofs [judF]
  | succ n ih =>
    intro i h j out ho
    have hi : i < l.length := by omega
    have hil : (i : Int) < l.length := by omega
    have hw := w64 (x := (i : Int) + 1) (by omega) (by omega)
    have hget := get_at hi
    generalize hd : l[i] = d at hget
    have h1 := lp1_spec_Judge l j d i hil hget 9 1 (by omega) (by omega) out (by omega)
    have h2 := E_spec_l21Then j d
    have hf := fnds_length (j := j) (i := i) (d := d) (n := 9) (r := 1)
    have := ih (i + 1) (by omega) (thnS j d) (out ++ fnds j i d 9 1) (by simp; omega)
    rw [List.drop_eq_getElem_cons hi, hd, evLN_eq]
    simp only [judF]
    rw [← List.append_assoc]
    simp only [Int.natCast_add, Int.natCast_one] at this
    rw [← this]
    simp only [List.map_append] at h1 ⊢
    simp -implicitDefEqProofs [hil, hget, hw, h1, h2]

/-! ### the two judges find the same -/
/-- the same but for what a session that isn't open has made -/
structure Same (a b : JS) : Prop where
  conf : a.conf = b.conf
  cand : a.cand = b.cand
  trials : a.trials = b.trials
  waits : a.waits = b.waits
  opn : a.opn = b.opn
  slot : a.slot = b.slot
  runs : a.runs = b.runs
  started : a.started = b.started
  made : a.opn = true → a.made = b.made ∧ a.known = b.known

theorem Same.brk {a b : JS} (h : Same a b) (r i : Int) (d : DeedT) : brk a r i d = brk b r i d := by
  obtain ⟨c1, c2, c3, c4, c5, c6, c7, c8, c9⟩ := h
  unfold Pur.brk tries
  rw [c1, c2, c3, c4, c5, c6, c7, c8]
  cases e : b.opn with
  | false => simp
  | true =>
    obtain ⟨m1, m2⟩ := c9 (by rw [c5, e])
    rw [m1, m2]
theorem Same.fnds {a b : JS} (h : Same a b) (i : Int) (d : DeedT) : ∀ (n : Nat) (r : Int), fnds a i d n r = fnds b i d n r
  | 0, _ => rfl
  | n + 1, r => by simp only [Pur.fnds, h.brk, Same.fnds h i d n (r + 1)]
theorem Same.then {a b : JS} (h : Same a b) (d : DeedT) : Same (thn a d) (thnS b d) := by
  have ht : tries a = tries b := by unfold tries; rw [h.waits, h.trials]
  have hw := h.waits
  have ho := h.opn
  obtain ⟨c1, c2, c3, c4, c5, c6, c7, c8, c9⟩ := h
  unfold thnS thn
  by_cases h1 : d.kind = 1
  · simp only [h1, if_true, if_false, show ¬ (1 : Int) = 3 from by omega, false_and]
    exact ⟨rfl, rfl, rfl, rfl, rfl, rfl, rfl, rfl, fun _ => ⟨rfl, rfl⟩⟩
  by_cases h3 : d.kind = 3
  · cases e : b.opn
    · simp only [h3, and_self, if_true, if_false, show ¬ (3 : Int) = 1 from by omega, show ¬ (3 : Int) = 2 from by omega]
      refine ⟨c1, c2, c3, c4, c5, c6, c7, c8, fun hx => ?_⟩
      simp only [ho, e] at hx
      cases hx
    · simp only [h3, if_true, if_false, Bool.true_eq_false, and_false, show ¬ (3 : Int) = 1 from by omega, show ¬ (3 : Int) = 2 from by omega]
      exact ⟨c1, c2, c3, c4, by rw [c5, e], c6, c7, c8, fun _ => ⟨rfl, rfl⟩⟩
  simp only [h1, h3, if_false, false_and]
  by_cases h2 : d.kind = 2
  · simp only [h2, if_true]
    exact ⟨c1, c2, c3, c4, rfl, rfl, c7, c8, fun _ => ⟨rfl, rfl⟩⟩
  by_cases h4 : d.kind = 4
  · simp only [h4, if_true, if_false, show ¬ (4 : Int) = 2 from by omega]
    exact ⟨c1, rfl, rfl, rfl, rfl, c6, c7, c8, fun hx => by cases hx⟩
  by_cases h5 : d.kind = 5
  · simp only [h5, if_true, if_false, show ¬ (5 : Int) = 2 from by omega, show ¬ (5 : Int) = 4 from by omega]
    exact ⟨c1, c2, c3, c4, rfl, c6, c7, c8, fun hx => by cases hx⟩
  by_cases h6 : d.kind = 6
  · simp only [h6, if_true, if_false, show ¬ (6 : Int) = 2 from by omega, show ¬ (6 : Int) = 4 from by omega, show ¬ (6 : Int) = 5 from by omega, ht]
    cases e : tries b
    · simp only [Bool.false_eq_true, if_false]
      exact ⟨c1, c2, c3, rfl, c5, c6, c1, rfl, fun hx => ⟨(c9 hx).1, rfl⟩⟩
    · simp only [if_true]
      exact ⟨c1, c2, by simp only [c3], c4, c5, c6, c2, rfl, fun hx => ⟨(c9 hx).1, rfl⟩⟩
  by_cases h7 : d.kind = 7
  · simp only [h7, if_true, if_false, show ¬ (7 : Int) = 2 from by omega, show ¬ (7 : Int) = 4 from by omega, show ¬ (7 : Int) = 5 from by omega, show ¬ (7 : Int) = 6 from by omega, hw]
    cases e : b.waits
    · simp only [Bool.false_eq_true, if_false]
      exact ⟨c1, c2, c3, c4, c5, c6, c7, c8, c9⟩
    · simp only [if_true]
      exact ⟨c2, c2, c3, rfl, c5, c6, c7, c8, c9⟩
  by_cases h8 : d.kind = 8
  · simp only [h8, if_true, if_false, show ¬ (8 : Int) = 2 from by omega, show ¬ (8 : Int) = 4 from by omega, show ¬ (8 : Int) = 5 from by omega, show ¬ (8 : Int) = 6 from by omega, show ¬ (8 : Int) = 7 from by omega]
    exact ⟨c1, c2, c3, rfl, c5, c6, c7, c8, c9⟩
  simp only [h2, h4, h5, h6, h7, h8, if_false]
  exact ⟨c1, c2, c3, c4, c5, c6, c7, c8, c9⟩
theorem Same.judF : ∀ (ds : List DeedT) {a b : JS} (i : Int), Same a b → judF thn a i ds = judF thnS b i ds
  | [], _, _, _, _ => rfl
  | d :: ds, a, b, i, h => by simp only [Pur.judF, h.fnds, Same.judF ds (i + 1) (h.then d)]

/-- what is found -/
def found (l : List DeedT) : List (Int × Int) := judF thn js0 0 l
theorem found_spec (l : List DeedT) : judF thnS js0 0 l = found l := (Same.judF l 0 ⟨rfl, rfl, rfl, rfl, rfl, rfl, rfl, rfl, fun _ => ⟨rfl, rfl⟩⟩).symm
theorem found_length {l : List DeedT} (h : l.length ≤ 500) : (found l).length ≤ 4500 := by
  have := judF_length (th := thn) (ds := l) (j := js0) (i := 0)
  unfold found; omega

theorem E_impl_Judge (l : List DeedT) (hl : l.length ≤ maxLen) : tab.E i_impl_Judge [vDeeds l] [] =
    some (if 500 < l.length then ([v1 (.nils 2), vB false], []) else ([rf 0 (found l).length, vB true], [oFinds (found l)])) := by
  refine Tab.E_of L_impl_Judge rfl ?_
  by_cases e : (500 : Int) < l.length
  · rw [if_pos (by omega)]
    simp -implicitDefEqProofs [fn_impl_Judge, e, chunk]
  · rw [if_neg (by omega)]
    have := lp0_impl_Judge l (by omega) l.length 0 (by omega) js0 [] (by simp)
    have hn := E_impl_newJudge
    simp only [List.drop_zero, List.nil_append, Int.natCast_zero, List.length_nil, List.map_nil] at this
    unfold found
    simp [js0, jR] at this hn
    simp -implicitDefEqProofs [fn_impl_Judge, e, hn, this, js0, chunk]
theorem E_spec_Judge (l : List DeedT) (hl : l.length ≤ maxLen) : tab.E i_spec_Judge [vDeeds l] [] =
    some (if 500 < l.length then ([rf 0 0, vB false], [.arr true 2 []]) else ([rf 0 (found l).length, vB true], [oFinds (found l)])) := by
  refine Tab.E_of L_spec_Judge rfl ?_
  by_cases e : (500 : Int) < l.length
  · rw [if_pos (by omega)]
    simp -implicitDefEqProofs [fn_spec_Judge, e, chunk]
  · rw [if_neg (by omega)]
    have := lp0_spec_Judge l (by omega) l.length 0 (by omega) js0 [] (by simp)
    have hn := E_spec_l21First
    simp only [List.drop_zero, List.nil_append, Int.natCast_zero, List.length_nil, List.map_nil, found_spec] at this
    simp [js0, kR, kV] at this hn
    simp -implicitDefEqProofs [fn_spec_Judge, e, hn, this, chunk]
end Go.Pur
