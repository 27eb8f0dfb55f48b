/- The IR against the model's Code: a Bool check; what constants and operands stand for. -/
import Derived.Test.YtjgegedgmkdoiaaFb
namespace Go.Pur
open Go

def eqFlat : Value → Value → Bool
  | .bool a, .bool b => a == b
  | .int k a, .int l b => k == l && a == b
  | .string a, .string b => a.data.toList == b.data.toList
  | .pointer none, .pointer none => true
  | .nilFunc, .nilFunc => true
  | .nilIface, .nilIface => true
  | _, _ => false

theorem eqFlat_eq {x y : Value} (h : eqFlat x y = true) : x = y ∧ y.flatB = true := by
  unfold eqFlat at h
  split at h
  · simp at h; subst h; exact ⟨rfl, rfl⟩
  · simp at h; obtain ⟨rfl, rfl⟩ := h; exact ⟨rfl, rfl⟩
  · rename_i a b
    have : a = b := by
      cases a with | mk x => cases b with | mk y => simp at h; cases x; cases y; simp_all
    subst this; exact ⟨rfl, rfl⟩
  · exact ⟨rfl, rfl⟩
  · exact ⟨rfl, rfl⟩
  · exact ⟨rfl, rfl⟩
  · cases h

def okCell : Value → Cell → Bool
  | x, .t (.v y) => eqFlat x y
  | .slice none 0 0, .nils _ => true
  | .slice none 0 0, .t (.sl _ []) => true
  | .func (.func f) a b, .clo g [] [] => f == g && a.size == 0 && b.size == 0
  | _, _ => false

theorem okCell_rep {x : Value} {c : Cell} (h : okCell x c = true) (w : World) (I : Nat → Prop) (β : Beta) : RepC w I β x c := by
  unfold okCell at h
  split at h
  · obtain ⟨rfl, h2⟩ := eqFlat_eq h
    exact .t (.v h2)
  · exact .nils
  · exact .t (.sl (es := []) (cap := 0) (fun _ => Go.undef) (by simp) (by simp) (fun i c hi => by simp at hi) (fun i c hi => by simp at hi))
  · rename_i f a b g
    simp only [Bool.and_eq_true, beq_iff_eq] at h
    obtain ⟨⟨rfl, ha⟩, hb⟩ := h
    exact .clo (by simpa using ha) (by simpa using hb) (fun i v c _ h2 => by simp at h2) (fun i v c _ h2 => by simp at h2)
  · cases h

def okCells : List Value → List Cell → Bool
  | [], [] => true
  | v :: vs, c :: cs => okCell v c && okCells vs cs
  | _, _ => false

theorem okCells_rep {vs : List Value} {cs : List Cell} (h : okCells vs cs = true) (w : World) (I : Nat → Prop) (β : Beta) : RepL w I β vs cs := by
  induction vs generalizing cs with
  | nil => cases cs with
    | nil => exact ⟨rfl, fun i v c h => by simp at h⟩
    | cons => simp [okCells] at h
  | cons v vs ih => cases cs with
    | nil => simp [okCells] at h
    | cons c cs =>
      simp only [okCells, Bool.and_eq_true] at h
      obtain ⟨h1, h2⟩ := ih h.2
      refine ⟨by simp [h1], fun i v' c' hv hc => ?_⟩
      cases i with
      | zero => simp at hv hc; subst hv hc; exact okCell_rep h.1 w I β
      | succ i => simp at hv hc; exact h2 i v' c' hv hc

def okA : Value → AV → Bool
  | .agg vs, ⟨true, cs⟩ => okCells vs.toList cs
  | .agg _, ⟨false, _⟩ => false
  | v, ⟨false, [c]⟩ => okCell v c
  | _, _ => false

theorem okA_rep {v : Value} {a : AV} (h : okA v a = true) (w : World) (I : Nat → Prop) (β : Beta) : RepA w I β v a := by
  unfold okA at h
  split at h
  · exact .agg (okCells_rep h w I β)
  · cases h
  · exact .one (okCell_rep h w I β)
  · cases h

def okOpd : Operand → Opd → Bool
  | .tmp t, .t n => t == n
  | .const v, .c a => okA v a
  | .func f, .c ⟨false, [.clo g [] []]⟩ => f == g
  | _, _ => false

/-- slots by what is known of them -/
def EnvRep (w : World) (I : Nat → Prop) (β : Beta) (a : Act) (env : Nat → Ent) : Prop := ∀ t, RepE w I β (a.tmps.getD t Go.undef) (env t)

theorem opd_rep {w : World} {I : Nat → Prop} {β : Beta} {a : Act} {env : Nat → Ent} {x : Operand} {y : Opd} {av : AV} (he : EnvRep w I β a env) (hok : okOpd x y = true) (hg : y.get env = some av) : RepA w I β (a.eval x) av := by
  unfold okOpd at hok
  split at hok
  · rename_i t _
    simp at hok; subst hok
    simp only [Opd.get] at hg
    split at hg
    · rename_i av' heq
      simp at hg; subst hg
      have := he t
      rw [heq] at this
      show RepA w I β (a.tmps.getD t Go.undef) av'
      generalize a.tmps.getD t Go.undef = u at this ⊢
      cases this with
      | val h => exact h
    · cases hg
  · simp only [Opd.get, Option.some.injEq] at hg
    subst hg
    exact okA_rep hok w I β
  · simp only [Opd.get, Option.some.injEq] at hg
    subst hg
    simp at hok; subst hok
    exact .one (.clo (by simp) (by simp) (fun i v c _ h2 => by simp at h2) (fun i v c _ h2 => by simp at h2))
  · cases hok

theorem opd_full {y : Opd} {env : Nat → Ent} {av : AV} (h : y.full env = some av) : y.get env = some av ∧ av.cells.all Cell.isDef = true := by
  unfold Opd.full at h
  split at h
  · rename_i a' ha
    split at h
    · rename_i hd
      simp at h; subst h
      exact ⟨ha, hd⟩
    · cases h
  · cases h

theorem repA_cells {w : World} {I : Nat → Prop} {β : Beta} {v : Value} {av : AV} (h : RepA w I β v av) (hd : av.cells.all Cell.isDef = true) : RepL w I β v.cells.toList av.cells ∧ ∀ u ∈ v.cells.toList, u.oneCell' = true := by
  have key : RepL w I β v.cells.toList av.cells := by
    cases h with
    | one hc =>
      have h1 := hc.oneCell (by simpa using hd)
      have : v.cells = #[v] := by cases v <;> simp_all [Value.cells, Value.oneCell']
      rw [this]
      refine ⟨rfl, fun i v' c' h1 h2 => ?_⟩
      cases i with
      | zero => simp at h1 h2; subst h1 h2; exact hc
      | succ i => simp at h1
    | agg h => exact h
  refine ⟨key, fun u hu => ?_⟩
  obtain ⟨i, hi, rfl⟩ := List.getElem_of_mem hu
  have hlt : i < av.cells.length := by rw [← key.1]; exact hi
  have hc := key.2 i _ _ (List.getElem?_eq_getElem hi) (List.getElem?_eq_getElem hlt)
  exact hc.oneCell (by rw [List.all_eq_true] at hd; exact hd _ (List.getElem_mem _))

theorem repA_cell {w : World} {I : Nat → Prop} {β : Beta} {v : Value} {av : AV} {c : Cell} (h : RepA w I β v av) (hc : av.cell? = some c) : RepC w I β v c := by
  unfold AV.cell? at hc
  split at hc
  · simp at hc; subst hc
    cases h with
    | one h => exact h
  · cases hc

theorem repA_flat {w : World} {I : Nat → Prop} {β : Beta} {v : Value} {av : AV} {x : Value} (h : RepA w I β v av) (hc : av.flat? = some x) : v = x ∧ x.flatB = true := by
  unfold AV.flat? at hc
  split at hc
  · simp at hc; subst hc
    cases h with
    | one h => cases h with
      | t h => cases h with
        | v h => exact ⟨rfl, h⟩
  · cases hc

theorem repA_int {w : World} {I : Nat → Prop} {β : Beta} {v : Value} {av : AV} {n : Int} (h : RepA w I β v av) (hc : av.int? = some n) : ∃ k, v = .int k n := by
  unfold AV.int? at hc
  split at hc
  · simp at hc; subst hc
    cases h with
    | one h => cases h with
      | t h => cases h with
        | v h => exact ⟨_, rfl⟩
  · cases hc

theorem repA_bool {w : World} {I : Nat → Prop} {β : Beta} {v : Value} {av : AV} {b : Bool} (h : RepA w I β v av) (hc : av.bool? = some b) : v = .bool b := by
  unfold AV.bool? at hc
  split at hc
  · simp at hc; subst hc
    cases h with
    | one h => cases h with
      | t h => cases h with
        | v h => rfl
  · cases hc

/-- an operand that is wanted as one cell, a flat value, an integer, a bool -/
theorem opd_cell {w : World} {I : Nat → Prop} {β : Beta} {a : Act} {env : Nat → Ent} {x : Operand} {y : Opd} {c : Cell} (he : EnvRep w I β a env) (hok : okOpd x y = true) (hg : (y.get env).bind AV.cell? = some c) : RepC w I β (a.eval x) c := by
  obtain ⟨av, h1, h2⟩ := Option.bind_eq_some_iff.1 hg
  exact repA_cell (opd_rep he hok h1) h2
theorem opd_flat {w : World} {I : Nat → Prop} {β : Beta} {a : Act} {env : Nat → Ent} {x : Operand} {y : Opd} {v : Value} (he : EnvRep w I β a env) (hok : okOpd x y = true) (hg : (y.get env).bind AV.flat? = some v) : a.eval x = v ∧ v.flatB = true := by
  obtain ⟨av, h1, h2⟩ := Option.bind_eq_some_iff.1 hg
  exact repA_flat (opd_rep he hok h1) h2
theorem opd_int {w : World} {I : Nat → Prop} {β : Beta} {a : Act} {env : Nat → Ent} {x : Operand} {y : Opd} {n : Int} (he : EnvRep w I β a env) (hok : okOpd x y = true) (hg : (y.get env).bind AV.int? = some n) : ∃ k, a.eval x = .int k n := by
  obtain ⟨av, h1, h2⟩ := Option.bind_eq_some_iff.1 hg
  exact repA_int (opd_rep he hok h1) h2
theorem opd_bool {w : World} {I : Nat → Prop} {β : Beta} {a : Act} {env : Nat → Ent} {x : Operand} {y : Opd} {b : Bool} (he : EnvRep w I β a env) (hok : okOpd x y = true) (hg : (y.get env).bind AV.bool? = some b) : a.eval x = .bool b := by
  obtain ⟨av, h1, h2⟩ := Option.bind_eq_some_iff.1 hg
  exact repA_bool (opd_rep he hok h1) h2

/-! ### the check -/

def sizeT (P : Program) (t : TypeId) : Option Nat := (P.info? t).map (·.size)
def bytesT (P : Program) (t : TypeId) : Option Nat := (P.info? t).map (·.bytes)
def zeroT (P : Program) (t : TypeId) : Option Value := (P.info? t).bind (·.zero)
def isAggT (P : Program) (t : TypeId) : Option Bool :=
  match P.underlying t with
  | some (.struct _) => some true
  | some (.array _ _) => some true
  | some _ => some false
  | none => none
/-- a variable of this type: is it an aggregate, and how many cells -/
def varT (P : Program) (t : TypeId) (agg : Bool) (n : Nat) : Bool := isAggT P t == some agg && sizeT P t == some n && (agg || n == 1)
def elemT (P : Program) (t : TypeId) : Option TypeId :=
  match P.underlying t with
  | some (.slice e) => some e
  | _ => none
def arrT (P : Program) (t : TypeId) : Option (Nat × TypeId) :=
  match P.underlying t with
  | some (.array n e) => some (n, e)
  | _ => none
def fieldT (P : Program) (t : TypeId) (f : Nat) : Option Field :=
  match P.underlying t with
  | some (.struct fs) => fs[f]?
  | _ => none
def isStrT (P : Program) (t : TypeId) : Bool :=
  match P.underlying t with
  | some .string => true
  | _ => false
def intT (P : Program) (t : TypeId) : Option IntKind :=
  match P.underlying t with
  | some (.int k) => some k
  | _ => none

def okOpds : List Operand → List Opd → Bool
  | [], [] => true
  | x :: xs, y :: ys => okOpd x y && okOpds xs ys
  | _, _ => false
def okOpt : Option Operand → Option Opd → Bool
  | none, none => true
  | some x, some y => okOpd x y
  | _, _ => false
/-- parts of a struct or of a row: where they lie, and how many cells each has -/
def okParts (place : Nat → Option (Nat × Nat)) : List (Nat × Operand) → List (Nat × Nat × Opd) → Bool
  | [], [] => true
  | (i, x) :: xs, (off, n, y) :: ys => place i == some (off, n) && okOpd x y && okParts place xs ys
  | _, _ => false
def okArgs : List Operand → List (Bool × Opd) → Bool
  | [], [] => true
  | x :: xs, (_, y) :: ys => okOpd x y && okArgs xs ys
  | _, _ => false

def okOp (P : Program) (x : Op) (y : IOp) : Bool :=
  match x, y with
  | .move x, .mov y => okOpd x y
  | .assign x, .mov y => okOpd x y
  | .pick c a b, .pick c' a' b' => okOpd c c' && okOpd a a' && okOpd b b'
  | .alloc t, .alc z => (zeroT P t).any fun v => okCells v.cells.toList z
  | .alloc t, .alcA sz n z => (zeroT P t).any (fun v => okCells v.cells.toList ((List.replicate n z).flatten.map .t)) && z.length == sz && decide (0 < sz)
  | .box _ x, .box y => okOpd x y
  | .box _ x, .boxA sz y => okOpd x y && decide (0 < sz)
  | .build t ps, .bld z qs => (zeroT P t).any (fun v => okCells v.cells.toList z) && (match P.underlying t with
      | some (.struct fs) => okParts (fun i => (fs[i]?).bind fun f => (sizeT P f.type).map fun s => (f.offset, s)) ps.toList qs && fs.all (fun f => (sizeT P f.type).isSome)
      | some (.array _ e) => (match sizeT P e with | some s => okParts (fun i => some (i * s, s)) ps.toList qs | none => false)
      | _ => false)
  | .buildSlice t n ps, .bsl sz n' z qs => n == n' && decide (0 < sz) && decide (n * sz ≤ 16777216) && (match elemT P t with
      | some e => sizeT P e == some sz && (zeroT P e).any (fun v => okCells v.cells.toList (z.map .t)) && z.length == sz && okParts (fun i => some (i * sz, sz)) ps.toList qs
      | none => false)
  | .load t a, .ld agg n a' => varT P t agg n && okOpd a a'
  | .store t a v, .st n a' v' => sizeT P t == some n && decide (0 < n) && okOpd a a' && okOpd v v'
  | .nilCheck x, .nilc y => okOpd x y
  | .binOp op _ x y _, .bin op' x' y' => op == op' && okOpd x x' && okOpd y y'
  | .binOp op t x y _, .eqb neg x' y' => (match op with | .eql => !neg | .neq => neg | _ => false) && (match P.underlying t with | some .bool => true | _ => false) && okOpd x x' && okOpd y y'
  | .binOp op t x y _, .isnil neg x' => (match op with | .eql => !neg | .neq => neg | _ => false) && (match P.underlying t with | some (.pointer _) => true | _ => false) && okOpd x x' && (match y with | .const (.pointer none) => true | _ => false)
  | .unOp op _ x, .un op' x' => op == op' && okOpd x x'
  | .convert s d x, .cvi k x' => (P.underlying s).isSome && intT P d == some k && okOpd x x'
  | .fieldAddr t x f, .fa off x' => (fieldT P t f).any (fun f => f.offset == off && (sizeT P f.type).any (fun s => decide (0 < s))) && okOpd x x'
  | .field t x f, .fd agg off n x' => (fieldT P t f).any (fun f => f.offset == off && varT P f.type agg n) && okOpd x x'
  | .indexAddr t x i, .ia none sz x' i' => (elemT P t).any (fun e => sizeT P e == some sz) && okOpd x x' && okOpd i i' && decide (0 < sz)
  | .indexAddr t x i, .ia (some n) sz x' i' => (arrT P t).any (fun e => e.1 == n && sizeT P e.2 == some sz) && okOpd x x' && okOpd i i' && decide (0 < sz)
  | .index t x i, .ixs x' i' => isStrT P t && okOpd x x' && okOpd i i'
  | .index t x i, .ixa agg n sz x' i' => (arrT P t).any (fun e => e.1 == n && varT P e.2 agg sz) && okOpd x x' && okOpd i i'
  | .makeSlice t l c, .ms sz z l' c' => (elemT P t).any (fun e => sizeT P e == some sz && (bytesT P e).any (fun b => decide (b ≤ 32768)) && (zeroT P e).any (fun v => okCells v.cells.toList (z.map .t))) && z.length == sz && decide (0 < sz) && okOpd l l' && okOpd c c'
  | .slice t x lo hi none, .sls x' lo' hi' => isStrT P t && okOpd x x' && okOpt lo lo' && okOpt hi hi'
  | .slice t x lo hi none, .slc sz x' lo' hi' => (elemT P t).any (fun e => sizeT P e == some sz) && decide (0 < sz) && okOpd x x' && okOpt lo lo' && okOpt hi hi'
  | .slice t x lo hi none, .sla n sz x' lo' hi' => (arrT P t).any (fun e => e.1 == n && sizeT P e.2 == some sz) && decide (0 < sz ∧ n ≤ 4294967296) && okOpd x x' && okOpt lo lo' && okOpt hi hi'
  | .call { callee := .builtin .append, args, argTypes }, .app sz x y => (match args.toList, argTypes.toList with
      | [a, b], [t, t'] => okOpd a x && okOpd b y && decide (0 < sz) && (elemT P t).any (fun e => sizeT P e == some sz && (bytesT P e).any (fun b => decide (b ≤ 32768)) && (zeroT P e).any (fun v => v.cells.size == sz)) && ((elemT P t').isSome || isStrT P t')
      | _, _ => false)
  | .call { callee := .builtin .len, args, argTypes }, .len x => (match args.toList, argTypes.toList with
      | [a], [t] => okOpd a x && (elemT P t).isSome
      | _, _ => false)
  | .call { callee := .builtin .len, args, argTypes }, .lens x => (match args.toList, argTypes.toList with
      | [a], [t] => okOpd a x && isStrT P t
      | _, _ => false)
  | .call { callee := .builtin .len, args, argTypes }, .lena n => (match args.toList, argTypes.toList with
      | [_], [t] => (arrT P t).any (fun e => e.1 == n)
      | _, _ => false)
  | .call { callee := .builtin .copy, args, argTypes }, .cpy sz x y => (match args.toList, argTypes.toList with
      | [a, b], [t, t'] => okOpd a x && okOpd b y && decide (0 < sz) && (elemT P t).any (fun e => sizeT P e == some sz) && ((elemT P t').isSome || isStrT P t')
      | _, _ => false)
  | .makeFunc (.func f) a b, .mkf g x y => f == g && okOpds a.toList x && okOpds b.toList y
  | .call { callee := .value (.func f), args, .. }, .call g as => f == g && okArgs args.toList as
  | .call { callee := .value x, args, .. }, .callv y as => okOpd x y && okArgs args.toList as && (match x with | .tmp _ => true | _ => false)
  | .extract x i, .ext j y => i == j && okOpd x y
  | .call { callee := .builtin .min, args, .. }, .mnx false x y => (match args.toList with
      | [a, b] => okOpd a x && okOpd b y
      | _ => false)
  | .call { callee := .builtin .max, args, .. }, .mnx true x y => (match args.toList with
      | [a, b] => okOpd a x && okOpd b y
      | _ => false)
  | _, .bad => true
  | _, _ => false

end Go.Pur
