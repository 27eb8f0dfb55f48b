import Derived.Test.YtjgegedgmkdoiaaKi
namespace Go.Pur
open Go
set_option linter.unusedSimpArgs false

/-! ### findings -/
abbrev eFind (p : Int × Int) : List T := [tI p.1, tI p.2]
abbrev oFinds (l : List (Int × Int)) : LObj := .arr true 2 (l.map eFind)
def fnds (j : JS) (i : Int) (d : DeedT) : Nat → Int → List (Int × Int)
  | 0, _ => []
  | n + 1, r => (if brk j r i d = true then [(i, r)] else []) ++ fnds j i d n (r + 1)
theorem fnds_length {j : JS} {i : Int} {d : DeedT} : ∀ {n : Nat} {r : Int}, (fnds j i d n r).length ≤ n
  | 0, _ => by simp [fnds]
  | n + 1, r => by
    have := fnds_length (j := j) (i := i) (d := d) (n := n) (r := r + 1)
    simp only [fnds, List.length_append]
    split <;> simp <;> omega
def judF (th : JS → DeedT → JS) : JS → Int → List DeedT → List (Int × Int)
  | _, _, [] => []
  | j, i, d :: ds => fnds j i d 9 1 ++ judF th (th j d) (i + 1) ds
theorem judF_length {th : JS → DeedT → JS} : ∀ {ds : List DeedT} {j : JS} {i : Int}, (judF th j i ds).length ≤ 9 * ds.length
  | [], _, _ => by simp [judF]
  | d :: ds, j, i => by
    have h1 := fnds_length (j := j) (i := i) (d := d) (n := 9) (r := 1)
    have h2 := judF_length (th := th) (ds := ds) (j := th j d) (i := i + 1)
    simp only [judF, List.length_append, List.length_cons]
    omega

abbrev iS1 (l : List DeedT) (j : JS) (d : DeedT) (i r : Int) (out : List (Int × Int)) : St :=
  ⟨upd (upd (upd (upd (upd (upd (upd (upd u0 16 (.val (vI i))) 15 (.val (vI l.length))) 14 (.val (vDeeds l))) 8 (.val (vI r))) 7 (.val (v1 (.ptr (0, 2) 0)))) 6 (.val (vI i))) 5 (.val (v1 (.ref (0, 1) 0 out.length)))) 4 (.val (v1 (.ptr (0, 0) 0))),
    h3 (jR j) (.arr true 2 (out.map eFind)) (.row [cI d.kind, cI d.slot, cI d.value]), 1⟩

set_option maxHeartbeats 2000000 in
theorem lp1_impl_Judge (l : List DeedT) (j : JS) (d : DeedT) (i : Int) : ∀ (n : Nat) (r : Int), 1 ≤ r → r + n = 10 → ∀ out : List (Int × Int), out.length + n ≤ 4294967296 →
    nrmK 0 [4, 5, 7, 14, 15, 16] (blkK 2 (evLN tab.E 0 [4, 5, 6, 7, 8, 14, 15, 16] b1_impl_Judge (iS1 l j d i r out))) =
      some (.normal, ⟨upd (upd (upd (upd (upd (upd u0 16 (.val (vI i))) 15 (.val (vI l.length))) 14 (.val (vDeeds l))) 7 (.val (v1 (.ptr (0, 2) 0)))) 5 (.val (v1 (.ref (0, 1) 0 (out ++ fnds j i d n r).length)))) 4 (.val (v1 (.ptr (0, 0) 0))),
        h3 (jR j) (.arr true 2 ((out ++ fnds j i d n r).map eFind)) (.row [cI d.kind, cI d.slot, cI d.value]), 1⟩) := by
  intro n
  induction n with
  | zero =>
    intro r h1 h2 out _
    have h9 : ¬ r ≤ 9 := by omega
    rw [evLN_eq]
    simp -implicitDefEqProofs [fnds, h9]
  | succ n ih =>
    intro r h1 h2 out ho
    have h9 : r ≤ 9 := by omega
    have hw := w64 (x := r + 1) (by omega) (by omega)
    have hb := E_impl_judge_breaks j i d r h1 h9
    have ho2 : out.length + 1 ≤ 4294967296 := by omega
    rw [evLN_eq]
    simp only [fnds]
    cases e : brk j r i d <;> rw [e] at hb
    · have := ih (r + 1) (by omega) (by omega) out (by omega)
      simp only [Bool.false_eq_true, if_false, List.nil_append]
      rw [← this]
      simp -implicitDefEqProofs [h9, hw, hb]
    · have := ih (r + 1) (by omega) (by omega) (out ++ [(i, r)]) (by simp; omega)
      simp only [if_true]
      rw [← List.append_assoc, ← this]
      simp -implicitDefEqProofs [h9, hw, hb, ho2, chunk, iS1]

set_option maxHeartbeats 2000000 in
theorem lp0_impl_Judge (l : List DeedT) (hl : l.length ≤ 500) : ∀ (n i : Nat), i + n = l.length → ∀ (j : JS) (out : List (Int × Int)), out.length ≤ 9 * i →
    nrmK 0 [5] (blkK 0 (evLN tab.E 0 [4, 5, 14, 15, 16] b0_impl_Judge ⟨upd (upd (upd (upd (upd u0 16 (.val (vI i))) 15 (.val (vI l.length))) 14 (.val (vDeeds l))) 5 (.val (v1 (.ref (0, 1) 0 out.length)))) 4 (.val (v1 (.ptr (0, 0) 0))),
      h2 (jR j) (.arr true 2 (out.map eFind)), 1⟩)) =
      some (.normal, ⟨upd u0 5 (.val (rf 0 (out ++ judF thn j i (l.drop i)).length)), h1 (.arr true 2 ((out ++ judF thn j i (l.drop i)).map eFind)), 1⟩) := by
  intro n
  induction n with
  | zero =>
    intro i h j out _
    obtain rfl : i = l.length := by omega
    rw [evLN_eq]
    simp -implicitDefEqProofs [judF]
  | succ n ih =>
    intro i h j out ho
    have hi : i < l.length := by omega
    have hil : (i : Int) < l.length := by omega
    have hw := w64 (x := (i : Int) + 1) (by omega) (by omega)
    have hget := get_at hi
    generalize hd : l[i] = d at hget
    have h1 := lp1_impl_Judge l j d i 9 1 (by omega) (by omega) out (by omega)
    have h2 := E_impl_judge_then j d
    have hf := fnds_length (j := j) (i := i) (d := d) (n := 9) (r := 1)
    have := ih (i + 1) (by omega) (thn j d) (out ++ fnds j i d 9 1) (by simp; omega)
    rw [List.drop_eq_getElem_cons hi, hd, evLN_eq]
    simp only [judF]
    rw [← List.append_assoc]
    simp only [Int.natCast_add, Int.natCast_one] at this
    rw [← this]
    simp only [List.map_append] at h1 ⊢
    simp -implicitDefEqProofs [hil, hget, hw, h1, h2]
end Go.Pur
