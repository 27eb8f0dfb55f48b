import Derived.Test.YtjgegedgmkdoiaaKc
namespace Go.Pur
open Go
set_option linter.unusedSimpArgs false

def pFailS : Option (Ex × St) := some (.ret, ⟨upd (upd u0 7 (.val (vB false))) 6 (.val (rf 0 0)), h1 (.arr true 1 []), 1⟩)
def pAtS (cs out : List Int) (r m g l t : Int) (i : Nat) : St :=
  ⟨upd (upd (upd (upd (upd (upd u0 11 (.val (vI i))) 10 (.val (vI t))) 9 (.val (v1 (.ref (0, 1) 0 out.length)))) 3 (.val (v1 (.ptr (0, 0) 0)))) 2 (.val (vI r))) 1 (.val (vIs cs)), h2 (.row [cI l, cI m, cI g]) (oIs out), 1⟩

set_option maxHeartbeats 2000000 in
theorem lp2_spec_Paced (cs out : List Int) (m g r c : Int) (i : Nat) (hi : i < cs.length) (hget : cs[i]? = some c) (hr : 0 ≤ r) (hr' : r ≤ 100000) (hc : 0 ≤ c) (hc' : c ≤ 100000) : ∀ (d : Nat) (l t : Int), supOk l m g = true → (m - l).toNat = d → 0 ≤ t → t + (m - l) ≤ 1000000000 →
    nrmK 0 [1, 2, 3, 9, 10, 11] (blkK 4 (evLN tab.E 0 [1, 2, 3, 9, 10, 11] b2_spec_Paced (pAtS cs out r m g l t i))) =
      match pStep m g l t c r with
      | none => pFailS
      | some (l', t') => some (.normal, pAtS cs out r m g l' t' i) := by
  intro d
  induction d using Nat.strongRecOn with
  | ind d ih =>
    intro l t hs hd ht ht'
    obtain ⟨s1, s2, s3, s4, s5, s6⟩ := supOk_iff.1 hs
    have w1 := w64 (x := c + r) (by omega) (by omega)
    have hil : (i : Int) < cs.length := by omega
    by_cases hlt : l < c + r
    · by_cases hg : g = 0
      · have : pStep m g l t c r = none := by unfold pStep; rw [if_pos hlt, if_pos (.inr hg)]
        rw [this, evLN_eq]
        subst hg
        simp -implicitDefEqProofs [pAtS, pFailS, hil, hget, w1, hlt]
      · by_cases hlm : l = m
        · have : pStep m g l t c r = none := by unfold pStep; rw [if_pos hlt, if_pos (.inl (by omega))]
          have hb : m < c + r := by omega
          rw [this, evLN_eq]
          simp -implicitDefEqProofs [pAtS, pFailS, hil, hget, w1, hlt, hb, hg, hlm]
        · have hg0 : 0 < g := by omega
          have hrest := E_spec_Rested l m g 1 (by omega)
          have hv : restA l m g 1 = min m (l + g) := by
            unfold restA restL
            rw [if_pos ⟨hs, by omega⟩, if_pos hg0, show min (1 : Int) 100000 = 1 from by omega, Int.mul_one]
          rw [hv] at hrest
          have w2 := w64 (x := t + 1) (by omega) (by omega)
          have hs2 : supOk (min m (l + g)) m g = true := by rw [supOk_iff]; omega
          have key := ih (m - min m (l + g)).toNat (by omega) (min m (l + g)) (t + 1) hs2 rfl (by omega) (by omega)
          rw [← pStep_next hg0 hlt] at key
          rw [evLN_eq]
          simp only [pAtS] at key ⊢
          rw [← key]
          simp -implicitDefEqProofs [hil, hget, w1, hlt, hg, hlm, hrest, w2]
    · have : pStep m g l t c r = some (l, t) := by unfold pStep; rw [if_neg hlt]
      rw [this, evLN_eq]
      simp -implicitDefEqProofs [pAtS, hil, hget, w1, hlt]

def pOutS (x : Option (List Int)) (out : List Int) : Option (Ex × St) :=
  match x with
  | none => pFailS
  | some o => some (.normal, ⟨upd u0 9 (.val (rf 0 (out ++ o).length)), h1 (oIs (out ++ o)), 1⟩)

set_option maxHeartbeats 2000000 in
theorem lp1_spec_Paced (cs : List Int) (m g r : Int) (hr : 0 ≤ r) (hr' : r ≤ 100000) (hcs : ∀ c ∈ cs, 0 ≤ c ∧ c ≤ 100000) (hlen : cs.length ≤ 50) : ∀ (d i : Nat), i + d = cs.length → ∀ (l t : Int) (out : List Int), supOk l m g = true → 0 ≤ t → t ≤ i * 200000 → out.length = i →
    nrmK 0 [9] (blkK 2 (evLN tab.E 0 [1, 2, 3, 9, 10, 11] b1_spec_Paced (pAtS cs out r m g l t i))) = pOutS (pacedR m g r (cs.drop i) l t) out := by
  intro d
  induction d with
  | zero =>
    intro i h l t out _ _ _ ho
    obtain rfl : i = cs.length := by omega
    rw [evLN_eq]
    simp -implicitDefEqProofs [pAtS, pacedR, pOutS]
  | succ d ih =>
    intro i h l t out hs ht ht' ho
    have hi : i < cs.length := by omega
    obtain ⟨hc, hc'⟩ := hcs cs[i] (List.getElem_mem hi)
    obtain ⟨s1, s2, s3, s4, s5, s6⟩ := supOk_iff.1 hs
    have w9 := w64 (x := (i : Int) + 1) (by omega) (by omega)
    have ho2 : out.length + 1 ≤ 4294967296 := by omega
    have hil : (i : Int) < cs.length := by omega
    rw [List.drop_eq_getElem_cons hi, evLN_eq]
    generalize hce : cs[i] = c at hc hc'
    have hget : cs[i]? = some c := by rw [get_at hi, hce]
    have inner := lp2_spec_Paced cs out m g r c i hi hget hr hr' hc hc' (m - l).toNat l t hs rfl ht (by omega)
    simp only [pacedR]
    cases hp : pStep m g l t c r with
    | none =>
      rw [hp] at inner
      simp only [pAtS, pFailS] at inner
      simp only [pOutS, pFailS]
      simp -implicitDefEqProofs [pAtS, hil, inner]
    | some p =>
      obtain ⟨l', t'⟩ := p
      rw [hp] at inner
      obtain ⟨p1, p2, p3, p4, p5⟩ := pStep_some hs hc hr hp
      have hrest := E_spec_Rested (l' - c) m g 1 (by omega)
      have hv : restA (l' - c) m g 1 = restL (l' - c) m g 1 := by
        unfold restA
        rw [if_pos ⟨p5, by omega⟩]
      rw [hv] at hrest
      have w7 := w64 (x := l' - c) (by omega) (by omega)
      have w8 := w64 (x := t' + 1) (by omega) (by omega)
      have key := ih (i + 1) (by omega) (restL (l' - c) m g 1) (t' + 1) (out ++ [t']) (restL_one p5) (by omega) (by omega) (by simp [ho])
      have key2 : pOutS (pacedR m g r (cs.drop (i + 1)) (restL (l' - c) m g 1) (t' + 1)) (out ++ [t']) = pOutS ((pacedR m g r (cs.drop (i + 1)) (restL (l' - c) m g 1) (t' + 1)).map (t' :: ·)) out := by
        cases pacedR m g r (cs.drop (i + 1)) (restL (l' - c) m g 1) (t' + 1) with
        | none => rfl
        | some o => simp [pOutS]
      rw [key2] at key
      simp [pAtS, oIs] at key
      simp only [pAtS] at inner
      simp only
      simp -implicitDefEqProofs [pAtS, hil, hget, inner, w7, w8, w9, hrest, ho2, key]

set_option maxHeartbeats 1000000 in
theorem E_spec_Paced (m g r : Int) (cs : List Int) (l : Int) (hl : cs.length ≤ maxLen) : tab.E i_spec_Paced [vSup l m g, vIs cs, vI r] [] =
    some (match pacedF m g r cs l with
      | none => ([rf 0 0, vB false], [.arr true 1 []])
      | some o => ([rf 0 o.length, vB true], [oIs o])) := by
  refine Tab.E_of L_spec_Paced rfl ?_
  have h1 := E_spec_SupplyOk l m g
  have h2 := E_spec_l1In r 0 100000
  unfold pacedF
  cases e1 : supOk l m g <;> rw [e1] at h1
  · simp -implicitDefEqProofs [fn_spec_Paced, h1]
  by_cases e2 : (50 : Int) < cs.length
  · have e2' : ¬ cs.length ≤ 50 := by omega
    simp -implicitDefEqProofs [fn_spec_Paced, h1, e2, e2']
  have e2' : cs.length ≤ 50 := by omega
  cases e3 : inB r 0 100000 <;> rw [e3] at h2
  · simp -implicitDefEqProofs [fn_spec_Paced, h1, e2, e2', h2]
  have h3 := lp0_spec_Paced cs l m g r hl cs.length 0 (by omega)
  rw [List.drop_zero] at h3
  cases e4 : cs.all (fun u => inB u 0 100000) <;> simp only [e4, if_true, if_false, Bool.false_eq_true, Int.natCast_zero] at h3
  · simp -implicitDefEqProofs [fn_spec_Paced, h1, e2, e2', h2, h3]
  obtain ⟨hr1, hr2⟩ := inB_iff.1 e3
  have h4 := lp1_spec_Paced cs m g r hr1 hr2 (all_in e4) e2' cs.length 0 (by omega) l 0 [] e1 (by omega) (by omega) rfl
  rw [List.drop_zero] at h4
  simp only [and_self, if_true, e2']
  cases e5 : pacedR m g r cs l 0 with
  | none =>
    rw [e5] at h4
    simp [pOutS, pAtS, pFailS, oIs] at h4
    simp -implicitDefEqProofs [fn_spec_Paced, h1, e2, e2', h2, h3, h4]
  | some o =>
    rw [e5] at h4
    simp [pOutS, pAtS, oIs] at h4
    simp -implicitDefEqProofs [fn_spec_Paced, h1, e2, e2', h2, h3, h4]

theorem pacedR_length {m g r : Int} : ∀ {cs : List Int} {l t : Int} {o : List Int}, pacedR m g r cs l t = some o → o.length = cs.length
  | [], l, t, o, h => by simp only [pacedR, Option.some.injEq] at h; subst h; rfl
  | c :: cs, l, t, o, h => by
    simp only [pacedR] at h
    split at h
    · cases h
    · obtain ⟨o', h1, rfl⟩ := Option.map_eq_some_iff.1 h
      simp [pacedR_length h1]
theorem pacedF_length {m g r : Int} {cs : List Int} {l : Int} {o : List Int} (h : pacedF m g r cs l = some o) : o.length ≤ 50 := by
  unfold pacedF at h
  split at h
  · rename_i hc
    rw [pacedR_length h]; exact hc.2.1
  · cases h

set_option maxHeartbeats 2000000 in
theorem E_laws_FnExactPaced (l m g : Int) (cs : List Int) (r : Int) (hl : cs.length ≤ maxLen) : tab.E i_laws_FnExactPaced [vSup l m g, vIs cs, vI r] [] = some ([vB true], []) := by
  refine Tab.E_of L_laws_FnExactPaced rfl ?_
  by_cases e : (1048576 : Int) < cs.length
  · simp -implicitDefEqProofs [fn_laws_FnExactPaced, e]
  have h0 := E_laws_toSupply l m g
  have h1 := E_laws_toIntS cs (by omega)
  have h2 := E_spec_Paced m g r cs l hl
  have h3 := E_impl_Paced m g r cs l hl
  have h4 := E_laws_eqIntS cs cs hl
  have h5 := E_laws_markIntS true (cs.map eI) 1 cs.length (by simp) (by omega) (by omega) (by omega)
  have h5' : ¬ (1 : Int) + cs.length < 0 := by omega
  cases e2 : pacedF m g r cs l with
  | none =>
    rw [e2] at h2 h3
    have h6 := E_laws_eqIntS [] [] (by simp)
    have h7 := E_laws_markIntS_nil 1
    have h8 := E_laws_heldIntS 1 0 (by omega) (by omega) (by omega)
    simp [vIs] at h6
    simp [vIs, mkI] at h8
    simp at h4
    simp -implicitDefEqProofs [fn_laws_FnExactPaced, e, h0, h1, h2, h3, h4, h5, h5', h6, h7, h8]
  | some o =>
    rw [e2] at h2 h3
    have hol := pacedF_length e2
    have h6 := E_laws_eqIntS o o (by simp [maxLen]; omega)
    have h7 := E_laws_markIntS true (o.map eI) 1 o.length (by simp) (by omega) (by omega) (by omega)
    have h8 := E_laws_heldIntS 1 o.length (by omega) (by omega) (by omega)
    have h8' : ¬ (1 : Int) + o.length < 0 := by omega
    have h9 := mkI_take 1 o.length
    simp at h4 h6
    simp -implicitDefEqProofs [fn_laws_FnExactPaced, e, h0, h1, h2, h3, h4, h5, h5', h6, h7, h8, h8', h9, mkI_length]
end Go.Pur
