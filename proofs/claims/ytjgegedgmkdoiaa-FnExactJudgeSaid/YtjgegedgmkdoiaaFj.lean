/- Arrays sliced; structs and rows built; rows made. -/
import Derived.Test.YtjgegedgmkdoiaaFi
namespace Go.Pur
open Go
set_option linter.unusedSimpArgs false

section
variable {P : Program} {o : Oper} {a : Act} {w w1 : World} {slot : Nat} {I : Nat → Prop} {β : Beta} {O : Nm → Nat → Prop} {h : Nm → Option LObj} {e : Ent} {wr : Wr} {arr : Array Value} {ty : TypeId}

theorem okOp_sla {x : Op} {n sz : Nat} {y : Opd} {lo hi : Option Opd} (h : okOp P x (.sla n sz y lo hi) = true) : ∃ t el y' lo' hi', x = .slice t y' lo' hi' none ∧ P.underlying t = some (.array n el) ∧ sizeT P el = some sz ∧ (0 < sz ∧ n ≤ 4294967296) ∧ okOpd y' y = true ∧ okOpt lo' lo = true ∧ okOpt hi' hi = true := by
  cases x <;> try (simp [okOp] at h; done)
  rename_i t y' lo' hi' mx
  cases mx <;> simp [okOp, Option.any_eq_true] at h
  obtain ⟨⟨⟨⟨⟨k, el, h1, rfl, h2⟩, h3⟩, h4⟩, h5⟩, h6⟩ := h
  exact ⟨_, el, _, _, _, rfl, arrT_some h1, h2, h3, h4, h5, h6⟩

theorem sound_sla {ef : EF} {env : Nat → Ent} {n sz : Nat} {y : Opd} {lo hi : Option Opd} (r : HRel w I β O h) (he : EnvRep w I β a env) (hok : okOp P o.op (.sla n sz y lo hi) = true) (hev : (evOp ef slot env (.sla n sz y lo hi)).val h = some (e, wr)) :
    OpW P o a w slot I β O h e wr := by
  obtain ⟨t, el, y', lo', hi', hz, hu, hs, ⟨h0, hn32⟩, h1, h2, h3⟩ := okOp_sla hok
  have hsz := sizeT_some hs w
  simp only [evOp] at hev
  have key : ∀ b off l hh, a.eval y' = .pointer (some ⟨b, off, none⟩) → BoundV (lo'.map a.eval) 0 l → BoundV (hi'.map a.eval) n hh → l ≤ hh → hh ≤ n →
      (execOp a.eval o).run P w = .ok (.value (.slice (some (if n = l then ⟨b, off, none⟩ else ⟨b, off + l * sz, none⟩)) (hh - l) (n - l))) w := fun b off l hh hv bl bh h5 h6 => by
    have hr := run_bounds (P := P) (isSlice := false) bl bh h5 h6 w
    unfold execOp
    rw [hz]
    simp [hv, Instr.sliceAt, Instr.sureAddr, run_underlying hu, hr, hsz, add_none]
  split at hev
  · rename_i m l hh hg gl gh
    have hc := opd_cell he h1 hg
    split at hev
    · rename_i hb
      have bl := opt_bound (d := 0) he h2 gl hb.1
      have bh := opt_bound (d := n) he h3 gh (by omega)
      simp only [HM.val] at hev
      cases hm : h m with
      | none => simp [hm, HM.val] at hev
      | some ob =>
        cases ob with
        | row cs => simp [hm, HM.val] at hev
        | gone => simp [hm, HM.val] at hev
        | arr own s es =>
          simp only [hm] at hev
          split at hev
          · rename_i hss
            obtain ⟨hn, hss⟩ := hss
            subst hss
            simp only [out1, HM.val, Option.some.injEq, Prod.mk.injEq] at hev
            obtain ⟨rfl, rfl⟩ := hev
            generalize hv : a.eval y' = v at hc
            cases hc with
            | pel hβ hzp =>
              rename_i b off sz'
              obtain ⟨arr, ty, hbk, rfl, _, _, hfit⟩ := arr_fit (r.obj m _ hm) hβ hzp
              refine opW_pure r (key _ _ _ _ hv bl bh (by omega) (by omega)) (.val (.one ?_)) rfl
              simp only [Nat.zero_mul, Nat.add_zero]
              by_cases hcl : n = l.toNat
              · have e1 : hh.toNat - l.toNat = 0 := by omega
                rw [e1, show n - l.toNat = 0 from by omega]
                exact .ref0 hβ
              · rw [if_neg hcl]
                have hmul : l.toNat * sz' + (n - l.toNat) * sz' = n * sz' := by
                  rw [← Nat.add_mul]; congr 1; omega
                have hne : es.length ≠ 0 := by omega
                have hfit2 : off + n * sz' ≤ arr.size := by rw [hn] at hfit; exact hfit
                have hmax : n ≤ maxLen := by unfold maxLen; omega
                exact RepC.ref (w := w) (I := I) (lo := l.toNat) (len := hh.toNat - l.toNat) (cap := n - l.toNat) hβ hbk (by omega) (by omega) (by omega) hzp
          · simp [HM.val] at hev
    · simp [HM.val] at hev
  · simp [HM.val] at hev

/-! ### parts -/

theorem foldl_set_get (off : Nat) : ∀ (l : List (Value × Nat)) (cells : Array Value) (j0 : Nat), (∀ i p, l[i]? = some p → p.2 = j0 + i) → off + j0 + l.length ≤ cells.size →
    (l.foldl (fun cs (p : Value × Nat) => cs.setIfInBounds (off + p.2) p.1) cells).size = cells.size ∧
    ∀ k, (l.foldl (fun cs (p : Value × Nat) => cs.setIfInBounds (off + p.2) p.1) cells)[k]? = if off + j0 ≤ k ∧ k < off + j0 + l.length then (l[k - (off + j0)]?).map (·.1) else cells[k]?
  | [], cells, j0, _, _ => ⟨rfl, fun k => by rw [if_neg (by simp)]; rfl⟩
  | p :: l, cells, j0, hp, hl => by
    have hp0 : p.2 = j0 := by simpa using hp 0 p rfl
    have hl' : off + j0 + (l.length + 1) ≤ cells.size := hl
    obtain ⟨i1, i2⟩ := foldl_set_get off l (cells.setIfInBounds (off + p.2) p.1) (j0 + 1) (fun i q hq => by have := hp (i + 1) q (by simpa using hq); omega) (by simp; omega)
    refine ⟨by simp only [List.foldl_cons]; rw [i1]; simp, fun k => ?_⟩
    simp only [List.foldl_cons]
    rw [i2 k, hp0]
    by_cases c1 : k = off + j0
    · subst c1
      rw [if_neg (by omega), if_pos ⟨by omega, by simp only [List.length_cons]; omega⟩, Array.getElem?_setIfInBounds_self_of_lt (by omega)]
      simp
    · rw [Array.getElem?_setIfInBounds_ne (by omega)]
      by_cases c2 : off + (j0 + 1) ≤ k ∧ k < off + (j0 + 1) + l.length
      · rw [if_pos c2, if_pos (by simp; omega)]
        rw [show k - (off + j0) = (k - (off + (j0 + 1))) + 1 from by omega, List.getElem?_cons_succ]
      · rw [if_neg c2, if_neg (by simp; omega)]

theorem fill_rep {place : Nat → Option (Nat × Nat)} : ∀ {ps : List (Nat × Operand)} {qs : List (Nat × Nat × Opd)} {cells : Array Value} {cs cs' : List Cell} {env : Nat → Ent} {fs : List (Nat × Nat × List Cell)},
    EnvRep w I β a env → okParts place ps qs = true → RepL w I β cells.toList cs → (∀ u ∈ cells.toList, u.oneCell' = true) → qs.mapM (fun p => (p.2.2.full env).map fun a => (p.1, p.2.1, a.cells)) = some fs → fillC cs fs = some cs' →
    ∃ cells', Instr.fill place cells (ps.map fun p => (p.1, a.eval p.2)) = some cells' ∧ RepL w I β cells'.toList cs' ∧ cells'.size = cells.size
  | [], [], cells, cs, cs', env, fs, he, hok, hr, h1, hm, hf => by
    simp at hm; subst hm
    simp [fillC] at hf; subst hf
    exact ⟨cells, rfl, hr, rfl⟩
  | [], q :: qs, _, _, _, _, _, _, hok, _, _, _, _ => by simp [okParts] at hok
  | p :: ps, [], _, _, _, _, _, _, hok, _, _, _, _ => by simp [okParts] at hok
  | (i, x) :: ps, (off, n, y) :: qs, cells, cs, cs', env, fs, he, hok, hr, h1, hm, hf => by
    simp only [okParts, Bool.and_eq_true, beq_iff_eq] at hok
    obtain ⟨⟨hpl, hxy⟩, hrest⟩ := hok
    simp only [List.mapM_cons, Option.pure_def, Option.bind_eq_bind, Option.bind_eq_some_iff, Option.map_eq_some_iff, Option.some.injEq] at hm
    obtain ⟨f, ⟨av, hav, rfl⟩, fs', hfs, rfl⟩ := hm
    simp only [fillC] at hf
    split at hf
    · rename_i hcond
      obtain ⟨hlen, hle⟩ := hcond
      obtain ⟨hg, hd⟩ := opd_full hav
      obtain ⟨hrv, hone⟩ := repA_cells (opd_rep he hxy hg) hd
      have hsz : cells.size = cs.length := by simpa using hr.1
      have hvs : (a.eval x).cells.size = n := by have := hrv.1; simp at this; omega
      have hz : ∀ i (p : Value × Nat), (a.eval x).cells.zipIdx.toList[i]? = some p → p.2 = 0 + i := by
        intro i p hp
        simp only [Array.toList_zipIdx, List.getElem?_zipIdx, Option.map_eq_some_iff] at hp
        obtain ⟨_, _, rfl⟩ := hp
        simp
      obtain ⟨f1, f2⟩ := foldl_set_get off (a.eval x).cells.zipIdx.toList cells 0 hz (by simp; omega)
      rw [Array.foldl_toList] at f1 f2
      have hget : ∀ k, ((a.eval x).cells.zipIdx.foldl (fun cs (p : Value × Nat) => cs.setIfInBounds (off + p.2) p.1) cells)[k]? = if off ≤ k ∧ k < off + n then (a.eval x).cells[k - off]? else cells[k]? := by
        intro k
        rw [f2 k]
        simp only [Nat.add_zero, Array.toList_zipIdx, List.length_zipIdx, Array.length_toList, hvs]
        split
        · simp
          cases (a.eval x).cells[k - off]? <;> rfl
        · rfl
      have hrl : RepL w I β ((a.eval x).cells.zipIdx.foldl (fun cs (p : Value × Nat) => cs.setIfInBounds (off + p.2) p.1) cells).toList (cs.take off ++ av.cells ++ cs.drop (off + av.cells.length)) := by
        refine ⟨by rw [Array.length_toList, f1]; simp; omega, fun k v c hv hc => ?_⟩
        rw [Array.getElem?_toList, hget k] at hv
        by_cases c1 : k < off
        · rw [if_neg (by omega)] at hv
          rw [List.append_assoc, List.getElem?_append_left (by simp; omega), List.getElem?_take_of_lt c1] at hc
          exact hr.2 k v c (by simpa using hv) hc
        · by_cases c2 : k < off + n
          · rw [if_pos (by omega)] at hv
            rw [List.append_assoc, List.getElem?_append_right (by simp; omega), List.getElem?_append_left (by simp; omega)] at hc
            have e1 : k - (cs.take off).length = k - off := by simp; omega
            rw [e1] at hc
            exact hrv.2 (k - off) v c (by simpa using hv) hc
          · rw [if_neg (by omega)] at hv
            rw [List.getElem?_append_right (by simp; omega), List.getElem?_drop] at hc
            have e1 : off + av.cells.length + (k - (cs.take off ++ av.cells).length) = k := by simp; omega
            rw [e1] at hc
            exact hr.2 k v c (by simpa using hv) hc
      have hone2 : ∀ u ∈ ((a.eval x).cells.zipIdx.foldl (fun cs (p : Value × Nat) => cs.setIfInBounds (off + p.2) p.1) cells).toList, u.oneCell' = true := by
        intro u hu
        obtain ⟨k, hk, rfl⟩ := List.getElem_of_mem hu
        have hk2 := List.getElem?_eq_getElem hk
        rw [Array.getElem?_toList, hget k] at hk2
        split at hk2
        · exact hone _ (Array.mem_toList_iff.2 (Array.mem_of_getElem? hk2))
        · exact h1 _ (Array.mem_toList_iff.2 (Array.mem_of_getElem? hk2))
      obtain ⟨cells', g1, g2, g3⟩ := fill_rep he hrest hrl hone2 hfs hf
      refine ⟨cells', ?_, g2, by rw [g3]; simpa using f1⟩
      have hc1 : ¬ ((a.eval x).cells.size ≠ n ∨ off + (a.eval x).cells.size > cells.size) := by omega
      simp only [List.map_cons, Instr.fill, hpl]
      have hc2 : ((decide ((a.eval x).cells.size ≠ n) || decide (off + (a.eval x).cells.size > cells.size)) = true) = False := by
        simp; omega
      simp only [hc2, if_false]
      exact g1
    · cases hf

end
end Go.Pur
