import Derived.Test.YtjgegedgmkdoiaaKb
namespace Go.Pur
open Go
set_option linter.unusedSimpArgs false

def pOutI (x : Option (List Int)) (out : List Int) : Option (Ex × St) :=
  match x with
  | none => some (.ret, ⟨upd (upd u0 7 (.val (vB false))) 6 (.val (v1 (.nils 1))), h0, 1⟩)
  | some o => some (.normal, ⟨upd u0 10 (.val (rf 0 (out ++ o).length)), h1 (oIs (out ++ o)), 1⟩)

set_option maxHeartbeats 2000000 in
theorem lp1_impl_Paced (cs : List Int) (m g r : Int) (hr : 0 ≤ r) (hr' : r ≤ 100000) (hcs : ∀ c ∈ cs, 0 ≤ c ∧ c ≤ 100000) (hlen : cs.length ≤ 50) : ∀ (d i : Nat), i + d = cs.length → ∀ (l t : Int) (out : List Int), supOk l m g = true → 0 ≤ t → t ≤ i * 200000 → out.length = i →
    nrmK 0 [10] (blkK 2 (evLN tab.E 0 [2, 3, 10, 11, 40, 41, 42] b1_impl_Paced
      ⟨upd (upd (upd (upd (upd (upd (upd u0 42 (.val (vI i))) 41 (.val (vI cs.length))) 40 (.val (vIs cs))) 11 (.val (vI t))) 10 (.val (v1 (.ref (0, 1) 0 out.length)))) 3 (.val (v1 (.ptr (0, 0) 0)))) 2 (.val (vI r)), h2 (.row [cI l, cI m, cI g]) (oIs out), 1⟩)) =
      pOutI (pacedR m g r (cs.drop i) l t) out := by
  intro d
  induction d with
  | zero =>
    intro i h l t out _ _ _ ho
    obtain rfl : i = cs.length := by omega
    rw [evLN_eq]
    simp -implicitDefEqProofs [pacedR, pOutI]
  | succ d ih =>
    intro i h l t out hs ht ht' ho
    have hi : i < cs.length := by omega
    obtain ⟨hc, hc'⟩ := hcs cs[i] (List.getElem_mem hi)
    obtain ⟨s1, s2, s3, s4, s5, s6⟩ := supOk_iff.1 hs
    have w9 := w64 (x := (i : Int) + 1) (by omega) (by omega)
    have ho2 : out.length + 1 ≤ 4294967296 := by omega
    have hil : (i : Int) < cs.length := by omega
    rw [List.drop_eq_getElem_cons hi, evLN_eq]
    generalize hce : cs[i] = c at hc hc'
    have hget : cs[i]? = some c := by rw [get_at hi, hce]
    simp only [pacedR]
    have w1 := w64 (x := c + r) (by omega) (by omega)
    cases hp : pStep m g l t c r with
    | none =>
      simp only [pOutI]
      unfold pStep at hp
      split at hp
      · rename_i hlt
        split at hp
        · rename_i hbad
          by_cases hb : m < c + r
          · simp -implicitDefEqProofs [hil, hget, w1, hlt, hb]
          · have hg0 : g = 0 := by omega
            simp -implicitDefEqProofs [hil, hget, w1, hlt, hb, hg0]
        · cases hp
      · cases hp
    | some p =>
      obtain ⟨l', t'⟩ := p
      obtain ⟨p1, p2, p3, p4, p5⟩ := pStep_some hs hc hr hp
      have hrest := E_impl_rested (l' - c) m g 1 p5 (by omega)
      have w7 := w64 (x := l' - c) (by omega) (by omega)
      have w8 := w64 (x := t' + 1) (by omega) (by omega)
      have key := ih (i + 1) (by omega) (restL (l' - c) m g 1) (t' + 1) (out ++ [t']) (restL_one p5) (by omega) (by omega) (by simp [ho])
      have key2 : pOutI (pacedR m g r (cs.drop (i + 1)) (restL (l' - c) m g 1) (t' + 1)) (out ++ [t']) = pOutI ((pacedR m g r (cs.drop (i + 1)) (restL (l' - c) m g 1) (t' + 1)).map (t' :: ·)) out := by
        cases pacedR m g r (cs.drop (i + 1)) (restL (l' - c) m g 1) (t' + 1) with
        | none => rfl
        | some o => simp [pOutI]
      rw [key2] at key
      simp [oIs] at key
      simp only
      unfold pStep at hp
      split at hp
      · rename_i hlt
        split at hp
        · cases hp
        · rename_i hok
          simp only [Option.some.injEq, Prod.mk.injEq] at hp
          obtain ⟨hp1, hp2⟩ := hp
          have hg : 0 < g := by omega
          have hb : ¬ m < c + r := by omega
          have hg0 : ¬ g = 0 := by omega
          obtain ⟨b1, b2, b3⟩ := pN_bounds hg hlt
          have w2 := w64 (x := c + r - l) (by omega) (by omega)
          have w3 := w64 (x := c + r - l + g) (by omega) (by omega)
          have w4 := w64 (x := c + r - l + g - 1) (by omega) (by omega)
          have hN : (c + r - l + g - 1).tdiv g = pN g l c r := rfl
          have w5 := w64 (x := pN g l c r) (by omega) (by omega)
          have w6 := w64 (x := t + pN g l c r) (by omega) (by omega)
          have hr1 := E_impl_rested l m g (pN g l c r) hs (by omega)
          have hr2 : restL l m g (pN g l c r) = l' := by
            unfold restL
            rw [if_pos hg, show min (pN g l c r) 100000 = pN g l c r from by omega]; exact hp1
          rw [hr2] at hr1
          rw [hp2] at w6
          simp -implicitDefEqProofs [hil, hget, w1, hlt, hb, hg0, w2, w3, w4, hN, w5, w6, hp2, hr1, w7, w8, w9, hrest, ho2, key]
      · rename_i hlt
        simp only [Option.some.injEq, Prod.mk.injEq] at hp
        obtain ⟨rfl, rfl⟩ := hp
        simp -implicitDefEqProofs [hil, hget, w1, hlt, w7, w8, w9, hrest, ho2, key]


/-- what Paced answers -/
def pacedF (m g r : Int) (cs : List Int) (l : Int) : Option (List Int) :=
  if supOk l m g = true ∧ cs.length ≤ 50 ∧ inB r 0 100000 = true ∧ cs.all (fun u => inB u 0 100000) = true then pacedR m g r cs l 0 else none

theorem all_in {cs : List Int} (h : cs.all (fun u => inB u 0 100000) = true) : ∀ c ∈ cs, 0 ≤ c ∧ c ≤ 100000 := fun c hc => inB_iff.1 (List.all_eq_true.1 h c hc)

set_option maxHeartbeats 1000000 in
theorem E_impl_Paced (m g r : Int) (cs : List Int) (l : Int) (hl : cs.length ≤ maxLen) : tab.E i_impl_Paced [vSup l m g, vIs cs, vI r] [] =
    some (match pacedF m g r cs l with
      | none => ([v1 (.nils 1), vB false], [])
      | some o => ([rf 0 o.length, vB true], [oIs o])) := by
  refine Tab.E_of L_impl_Paced rfl ?_
  have h1 := E_impl_isSupply l m g
  have h2 := E_impl_in r 0 100000
  unfold pacedF
  cases e1 : supOk l m g <;> rw [e1] at h1
  · simp -implicitDefEqProofs [fn_impl_Paced, h1]
  by_cases e2 : (50 : Int) < cs.length
  · have e2' : ¬ cs.length ≤ 50 := by omega
    simp -implicitDefEqProofs [fn_impl_Paced, h1, e2, e2']
  have e2' : cs.length ≤ 50 := by omega
  cases e3 : inB r 0 100000 <;> rw [e3] at h2
  · simp -implicitDefEqProofs [fn_impl_Paced, h1, e2, e2', h2]
  have h3 := lp0_impl_Paced cs l m g r hl cs.length 0 (by omega)
  rw [List.drop_zero] at h3
  cases e4 : cs.all (fun u => inB u 0 100000) <;> simp only [e4, if_true, if_false, Bool.false_eq_true, Int.natCast_zero] at h3
  · simp -implicitDefEqProofs [fn_impl_Paced, h1, e2, e2', h2, h3]
  obtain ⟨hr1, hr2⟩ := inB_iff.1 e3
  have h4 := lp1_impl_Paced cs m g r hr1 hr2 (all_in e4) e2' cs.length 0 (by omega) l 0 [] e1 (by omega) (by omega) rfl
  rw [List.drop_zero] at h4
  simp only [and_self, if_true, e2']
  cases e5 : pacedR m g r cs l 0 with
  | none =>
    rw [e5] at h4
    simp [pOutI, oIs] at h4
    simp -implicitDefEqProofs [fn_impl_Paced, h1, e2, e2', h2, h3, h4]
  | some o =>
    rw [e5] at h4
    simp [pOutI, oIs] at h4
    simp -implicitDefEqProofs [fn_impl_Paced, h1, e2, e2', h2, h3, h4]
end Go.Pur
