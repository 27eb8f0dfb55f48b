import Derived.Test.YtjgegedgmkdoiaaKe
namespace Go.Pur
open Go
set_option linter.unusedSimpArgs false

/-! ### deeds and what is known -/
structure DeedT where
  kind : Int
  slot : Int
  value : Int
  deriving DecidableEq
abbrev eDeed (d : DeedT) : List T := [tI d.kind, tI d.slot, tI d.value]
abbrev vDeed (d : DeedT) : AV := ⟨true, [cI d.kind, cI d.slot, cI d.value]⟩
abbrev vDeeds (l : List DeedT) : AV := ⟨false, [.t (.sl 3 (l.map eDeed))]⟩

structure JS where
  conf : Int
  cand : Int
  trials : Int
  waits : Bool
  opn : Bool
  slot : Int
  made : Int
  known : Bool
  runs : Int
  started : Bool
abbrev jR (j : JS) : LObj := .row [cI j.conf, cI j.cand, cI j.trials, cB j.waits, cB j.opn, cI j.slot, cI j.made, cB j.known, cI j.runs, cB j.started]
abbrev jT (j : JS) : AV := ⟨false, [.t (.pt [tI j.conf, tI j.cand, tI j.trials, tB j.waits, tB j.opn, tI j.slot, tI j.made, tB j.known, tI j.runs, tB j.started])]⟩
abbrev kV (j : JS) : AV := ⟨true, [cI j.conf, cB j.waits, cI j.cand, cI j.trials, cB j.opn, cI j.slot, cB j.known, cI j.made, cB j.started, cI j.runs]⟩
abbrev kR (j : JS) : LObj := .row [cI j.conf, cB j.waits, cI j.cand, cI j.trials, cB j.opn, cI j.slot, cB j.known, cI j.made, cB j.started, cI j.runs]

def tries (j : JS) : Bool := j.waits && decide (0 < j.trials)
theorem E_impl_judge_tries (j : JS) : tab.E i_impl_judge_tries [jT j] [] = some ([vB (tries j)], []) := by
  refine Tab.E_of L_impl_judge_tries rfl ?_
  obtain ⟨c, d, t, w, o, s, m, k, r, st⟩ := j
  unfold tries
  cases w <;> by_cases h : 0 < t <;> simp -implicitDefEqProofs [fn_impl_judge_tries, h]

/-- are the fields of a deed right -/
def field (d : DeedT) : Bool :=
  if d.kind = 1 ∨ d.kind = 3 then inB d.slot 0 1 && (decide (d.slot = 0) && inB d.value 0 1024)
  else if d.kind = 2 then inB d.slot 0 1 && inB d.value 1 2147483647
  else if d.kind = 4 then inB d.slot 0 1 && inB d.value 0 1024
  else if d.kind = 5 then inB d.slot 0 1 && (decide (d.slot = 0) && inB d.value 2 17)
  else if d.kind = 6 ∨ d.kind = 7 then inB d.slot 0 1 && inB d.value 0 0
  else if d.kind = 8 then inB d.slot 0 1 && (decide (d.slot = 0) && inB d.value 0 0)
  else false

theorem E_impl_names (k : Int) : tab.E i_impl_names [vI k] [] =
    some (if k = 1 ∨ k = 3 then [vB false, vI 0, vI 1024] else if k = 2 then [vB true, vI 1, vI 2147483647] else if k = 4 then [vB true, vI 0, vI 1024] else if k = 5 then [vB false, vI 2, vI 17]
      else [vB (decide (k = 6 ∨ k = 7)), vI 0, vI 0], []) := by
  refine Tab.E_of L_impl_names rfl ?_
  by_cases h1 : k = 1
  · subst h1; simp -implicitDefEqProofs [fn_impl_names]
  by_cases h2 : k = 2
  · subst h2; simp -implicitDefEqProofs [fn_impl_names]
  by_cases h3 : k = 3
  · subst h3; simp -implicitDefEqProofs [fn_impl_names]
  by_cases h4 : k = 4
  · subst h4; simp -implicitDefEqProofs [fn_impl_names]
  by_cases h5 : k = 5
  · subst h5; simp -implicitDefEqProofs [fn_impl_names]
  by_cases h6 : k = 6
  · subst h6; simp -implicitDefEqProofs [fn_impl_names]
  by_cases h7 : k = 7
  · subst h7; simp -implicitDefEqProofs [fn_impl_names]
  simp only [h1, h2, h3, h4, h5, h6, h7, or_self, if_false, decide_false]
  simp -implicitDefEqProofs [fn_impl_names, h1, h2, h3, h4, h5, h6, h7]

set_option maxHeartbeats 4000000 in
theorem E_impl_fieldsOk (d : DeedT) : tab.E i_impl_fieldsOk [vDeed d] [] = some ([vB (field d)], []) := by
  refine Tab.E_of L_impl_fieldsOk rfl ?_
  obtain ⟨k, s, v⟩ := d
  have hn := E_impl_names k
  have hk := E_impl_in k 1 8
  have hs := E_impl_in s 0 1
  unfold field
  simp only
  by_cases h1 : k = 1
  · subst h1
    have hv := E_impl_in v 0 1024
    simp at hn
    rw [show inB 1 1 8 = true from rfl] at hk
    by_cases e2 : s = 0
    · subst e2
      rw [show inB 0 0 1 = true from rfl] at hs ⊢
      cases e3 : inB v 0 1024 <;> rw [e3] at hv <;> simp -implicitDefEqProofs [fn_impl_fieldsOk, hn, hk, hs, hv, e3]
    · cases e1 : inB s 0 1 <;> rw [e1] at hs <;> simp -implicitDefEqProofs [fn_impl_fieldsOk, hn, hk, hs, e1, e2]
  by_cases h3 : k = 3
  · subst h3
    have hv := E_impl_in v 0 1024
    simp at hn
    rw [show inB 3 1 8 = true from rfl] at hk
    by_cases e2 : s = 0
    · subst e2
      rw [show inB 0 0 1 = true from rfl] at hs ⊢
      cases e3 : inB v 0 1024 <;> rw [e3] at hv <;> simp -implicitDefEqProofs [fn_impl_fieldsOk, hn, hk, hs, hv, e3]
    · cases e1 : inB s 0 1 <;> rw [e1] at hs <;> simp -implicitDefEqProofs [fn_impl_fieldsOk, hn, hk, hs, e1, e2]
  by_cases h2 : k = 2
  · subst h2
    have hv := E_impl_in v 1 2147483647
    simp at hn
    rw [show inB 2 1 8 = true from rfl] at hk
    cases e1 : inB s 0 1 <;> cases e3 : inB v 1 2147483647 <;> rw [e1] at hs <;> rw [e3] at hv <;> simp -implicitDefEqProofs [fn_impl_fieldsOk, hn, hk, hs, hv, e1, e3]
  by_cases h4 : k = 4
  · subst h4
    have hv := E_impl_in v 0 1024
    simp at hn
    rw [show inB 4 1 8 = true from rfl] at hk
    cases e1 : inB s 0 1 <;> cases e3 : inB v 0 1024 <;> rw [e1] at hs <;> rw [e3] at hv <;> simp -implicitDefEqProofs [fn_impl_fieldsOk, hn, hk, hs, hv, e1, e3]
  by_cases h5 : k = 5
  · subst h5
    have hv := E_impl_in v 2 17
    simp at hn
    rw [show inB 5 1 8 = true from rfl] at hk
    by_cases e2 : s = 0
    · subst e2
      rw [show inB 0 0 1 = true from rfl] at hs ⊢
      cases e3 : inB v 2 17 <;> rw [e3] at hv <;> simp -implicitDefEqProofs [fn_impl_fieldsOk, hn, hk, hs, hv, e3]
    · cases e1 : inB s 0 1 <;> rw [e1] at hs <;> simp -implicitDefEqProofs [fn_impl_fieldsOk, hn, hk, hs, e1, e2]
  have hv := E_impl_in v 0 0
  by_cases h6 : k = 6
  · subst h6
    simp at hn
    rw [show inB 6 1 8 = true from rfl] at hk
    cases e1 : inB s 0 1 <;> cases e3 : inB v 0 0 <;> rw [e1] at hs <;> rw [e3] at hv <;> simp -implicitDefEqProofs [fn_impl_fieldsOk, hn, hk, hs, hv, e1, e3]
  by_cases h7 : k = 7
  · subst h7
    simp at hn
    rw [show inB 7 1 8 = true from rfl] at hk
    cases e1 : inB s 0 1 <;> cases e3 : inB v 0 0 <;> rw [e1] at hs <;> rw [e3] at hv <;> simp -implicitDefEqProofs [fn_impl_fieldsOk, hn, hk, hs, hv, e1, e3]
  by_cases h8 : k = 8
  · subst h8
    simp at hn
    rw [show inB 8 1 8 = true from rfl] at hk
    by_cases e2 : s = 0
    · subst e2
      rw [show inB 0 0 1 = true from rfl] at hs ⊢
      cases e3 : inB v 0 0 <;> rw [e3] at hv <;> simp -implicitDefEqProofs [fn_impl_fieldsOk, hn, hk, hs, hv, e3]
    · cases e1 : inB s 0 1 <;> rw [e1] at hs <;> simp -implicitDefEqProofs [fn_impl_fieldsOk, hn, hk, hs, e1, e2]
  have hk0 : inB k 1 8 = false := by
    cases e : inB k 1 8 with
    | false => rfl
    | true => have := inB_iff.1 e; omega
  rw [hk0] at hk
  simp [h1, h2, h3, h4, h5, h6, h7] at hn
  simp only [h1, h2, h3, h4, h5, h6, h7, h8, or_self, if_false]
  simp -implicitDefEqProofs [fn_impl_fieldsOk, hn, hk]

/-- does a deed break a rule -/
def brk (j : JS) (rule i : Int) (d : DeedT) : Bool :=
  if rule = 1 then decide (i = 0) && !decide (d.kind = 1)
  else if rule = 2 then !field d
  else if rule = 3 then (decide (d.kind = 2) || decide (d.kind = 4)) && j.waits
  else if rule = 4 then (decide (d.kind = 2) || decide (d.kind = 4)) && decide (d.slot = j.conf) || (decide (d.kind = 4) && j.opn && !decide (d.slot = j.slot))
  else if rule = 5 then (decide (d.kind = 3) || decide (d.kind = 4) || decide (d.kind = 5)) && !j.opn
  else if rule = 6 then j.opn && j.known && (decide (d.kind = 3) && decide (d.value < j.made) || decide (d.kind = 4) && !decide (d.value = j.made))
  else if rule = 7 then decide (d.kind = 6) && !decide (d.slot = if tries j = true then j.cand else j.conf)
  else if rule = 8 then decide (d.kind = 7) && (!j.waits || !decide (d.slot = j.cand) || !j.started || !decide (j.runs = j.cand))
  else decide (d.kind = 8) && !j.waits
end Go.Pur
