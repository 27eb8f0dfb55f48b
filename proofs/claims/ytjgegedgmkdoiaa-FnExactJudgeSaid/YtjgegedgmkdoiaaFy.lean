/- The words of a walk: how the evaluator's answers are reckoned by simp. -/
import Derived.Test.YtjgegedgmkdoiaaFx
namespace Go.Pur
open Go
set_option linter.unusedSimpArgs false

/-! ### short names for printed functions -/
abbrev IOper.d (t : Nat) (op : IOp) : IOper := ⟨some t, op, [], none⟩
abbrev IOper.s (op : IOp) : IOper := ⟨none, op, [], none⟩
abbrev IOper.g (t g : Nat) (b : Bool) (op : IOp) : IOper := ⟨some t, op, [], some (g, b)⟩
abbrev IOper.sg (g : Nat) (b : Bool) (op : IOp) : IOper := ⟨none, op, [], some (g, b)⟩
abbrev Opd.i (n : Int) : Opd := .c ⟨false, [.t (.v (.int .i64 n))]⟩
abbrev Opd.b (x : Bool) : Opd := .c ⟨false, [.t (.v (.bool x))]⟩
abbrev IC.r (ops : List IOper) : IC := .reg false ops
abbrev IC.w (ops : List IOper) : IC := .reg true ops
abbrev IC.q (flags : List Nat) (ops : List IOper) : IC := .regq flags ops
abbrev IOper.a (t : Nat) (op : IOp) (af : List Nat) : IOper := ⟨some t, op, af, none⟩
abbrev IOper.ga (t g : Nat) (b : Bool) (op : IOp) (af : List Nat) : IOper := ⟨some t, op, af, some (g, b)⟩
abbrev IOper.as (op : IOp) (af : List Nat) : IOper := ⟨none, op, af, none⟩
abbrev IOper.gas (g : Nat) (b : Bool) (op : IOp) (af : List Nat) : IOper := ⟨none, op, af, some (g, b)⟩

/-! ### short names for data -/
abbrev vI (n : Int) : AV := ⟨false, [.t (.v (.int .i64 n))]⟩
abbrev vK (k : IntKind) (n : Int) : AV := ⟨false, [.t (.v (.int k n))]⟩
abbrev vB (x : Bool) : AV := ⟨false, [.t (.v (.bool x))]⟩
abbrev vS (s : ByteArray) : AV := ⟨false, [.t (.v (.string s))]⟩
abbrev v1 (c : Cell) : AV := ⟨false, [c]⟩
abbrev cI (n : Int) : Cell := .t (.v (.int .i64 n))
abbrev cB (x : Bool) : Cell := .t (.v (.bool x))
abbrev tI (n : Int) : T := .v (.int .i64 n)
abbrev tB (x : Bool) : T := .v (.bool x)
abbrev eI (n : Int) : List T := [.v (.int .i64 n)]
abbrev eY (n : Int) : List T := [.v (.int .u8 n)]
/-- a slice of int, of bytes -/
abbrev tIs (l : List Int) : T := .sl 1 (l.map eI)
abbrev tYs (l : List Int) : T := .sl 1 (l.map eY)
abbrev cIs (l : List Int) : Cell := .t (.sl 1 (l.map eI))
abbrev cYs (l : List Int) : Cell := .t (.sl 1 (l.map eY))

/-! ### states in order -/
abbrev u0 : Nat → Ent := fun _ => .nil
abbrev h0 : Nm → Option LObj := fun _ => none
abbrev h1 (o : LObj) : Nm → Option LObj := upd h0 (0, 0) (some o)
abbrev h2 (o o' : LObj) : Nm → Option LObj := upd (upd h0 (0, 1) (some o')) (0, 0) (some o)
abbrev h3 (o o' o'' : LObj) : Nm → Option LObj := upd (upd (upd h0 (0, 2) (some o'')) (0, 1) (some o')) (0, 0) (some o)
abbrev vIs (l : List Int) : AV := ⟨false, [.t (.sl 1 (l.map eI))]⟩
abbrev vYs (l : List Int) : AV := ⟨false, [.t (.sl 1 (l.map eY))]⟩
abbrev rf (i n : Nat) : AV := ⟨false, [.ref (0, i) 0 n]⟩
abbrev oIs (l : List Int) : LObj := .arr true 1 (l.map eI)
abbrev oYs (l : List Int) : LObj := .arr true 1 (l.map eY)

/-! ### numbers -/
theorem w64 {x : Int} (h : -9223372036854775808 ≤ x) (h' : x ≤ 9223372036854775807) : IntKind.i64.wrap x = x := by
  simp only [IntKind.wrap, IntKind.bits, IntKind.signed]
  simp
  omega

theorem get_at {α : Type} {l : List α} {i : Nat} (h : i < l.length) : l[i]? = some l[i] := List.getElem?_eq_getElem h

/-! ### a row that is being filled -/
theorem fill_get {α : Type} {L : List α} {i d : Nat} {z : α} (h : i < L.length) : (L.take i ++ List.replicate (d + 1) z)[i]? = some z := by
  have hl : (L.take i).length = i := by rw [List.length_take]; omega
  rw [List.getElem?_append_right (by omega), hl, Nat.sub_self]
  simp
theorem fill_set {α : Type} {L : List α} {i d : Nat} {z x : α} (h : i < L.length) (hx : L[i] = x) : (L.take i ++ List.replicate (d + 1) z).set i x = L.take (i + 1) ++ List.replicate d z := by
  subst hx
  have hl : (L.take i).length = i := by rw [List.length_take]; omega
  have ht : L.take (i + 1) = L.take i ++ [L[i]] := by rw [List.take_add_one, get_at h]; rfl
  rw [List.set_append_right _ _ (by omega), hl, Nat.sub_self, ht, List.append_assoc]
  rfl

theorem drop_eq_iff {α : Type} {a b : List α} {i : Nat} (hi : i < a.length) (hj : i < b.length) : a.drop i = b.drop i ↔ a[i] = b[i] ∧ a.drop (i + 1) = b.drop (i + 1) := by
  rw [List.drop_eq_getElem_cons hi, List.drop_eq_getElem_cons hj, List.cons.injEq]

/-! ### regions -/

def bindK (r : Option St) (K : St → Option St) : Option St :=
  match r with
  | some σ => K σ
  | none => none
/-- what an operation gives is laid down -/
def putK (o : IOper) (σ : St) (r : Option Out) : Option St :=
  match r with
  | some (e, w) => some ⟨putDst σ.env o.dst e, putWr σ.heap w, σ.next⟩
  | none => none
def guardK (e : Ent) (a b s : Option St) : Option St :=
  match e.bool? with
  | some x => if x = true then a else b
  | none => if e.isUnd = true then s else none
def St.setB (σ : St) (g : Nat) (x : Bool) : St := ⟨upd σ.env g (.val (vB x)), σ.heap, σ.next⟩

def stepV (ef : EF) (slot : Nat) (o : IOper) (σ : St) : Option St := putK o σ ((evOp ef slot σ.env o.op).val σ.heap)
def stepN (o : IOper) (σ : St) : Option St := some ⟨putDst σ.env o.dst (.tup []), σ.heap, σ.next⟩
def stepW (ef : EF) (slot : Nat) (o : IOper) (σ : St) : Option St :=
  match o.guard with
  | none => stepV ef slot o σ
  | some (g, true) => guardK (σ.env g) (stepV ef slot o (σ.setB g true)) (stepN o (σ.setB g false)) (stepN o σ)
  | some (g, false) => guardK (σ.env g) (stepN o (σ.setB g true)) (stepV ef slot o (σ.setB g false)) (stepN o σ)

theorem stepU_V (ef : EF) (slot : Nat) (o : IOper) (σ : St) : stepV ef slot o σ = (stepU ef slot o σ).map (·.1) := by
  unfold stepV stepU putK
  cases (evOp ef slot σ.env o.op).val σ.heap <;> rfl

theorem stepG_W (ef : EF) (slot : Nat) (o : IOper) (σ : St) : stepW ef slot o σ = (stepG ef slot o σ).map (·.1) := by
  unfold stepW stepG
  cases o.guard with
  | none => exact stepU_V ..
  | some p =>
    obtain ⟨g, b⟩ := p
    cases b <;> simp only [guardK] <;> generalize (σ.env g).bool? = y <;> cases y with
    | none => cases (σ.env g).isUnd <;> rfl
    | some x => cases x <;> simp [stepU_V, St.setB, vB, AV.bool, stepN, stepSkip]

def pairs : Nat → List IOper → List (Nat × IOper) := indexed

theorem runReg_plain (ef : EF) (ops : List IOper) (σ : St) : runReg ef false ops σ = runOps ef σ.next (indexed 0 ops) { σ with next := σ.next + ops.length } := rfl
theorem runReg_draw (ef : EF) (ops : List IOper) (σ : St) : runReg ef true ops σ = runDraw ef σ.next (indexed 0 ops) [] { σ with next := σ.next + ops.length } := rfl

theorem runOps_cons (ef : EF) (base i : Nat) (o : IOper) (l : List (Nat × IOper)) (σ : St) : runOps ef base ((i, o) :: l) σ = bindK (stepW ef (base + i) o σ) (runOps ef base l) := by
  rw [stepG_W]
  simp only [runOps, bindK]
  cases stepG ef (base + i) o σ <;> rfl
theorem runOps_nil (ef : EF) (base : Nat) (σ : St) : runOps ef base [] σ = some σ := rfl

def drawNext (ef : EF) (base : Nat) (l : List (Nat × IOper)) (acc : List (Nat × IOper × Foot)) (i : Nat) (o : IOper) (r : St × Foot) : Option St := runDraw ef base l (acc ++ [(i, o, r.2)]) r.1
def drawK (r : Option (St × Foot)) (K : St × Foot → Option St) : Option St :=
  match r with
  | some q => K q
  | none => none
theorem runDraw_cons (ef : EF) (base i : Nat) (o : IOper) (l : List (Nat × IOper)) (acc : List (Nat × IOper × Foot)) (σ : St) :
    runDraw ef base ((i, o) :: l) acc σ = drawK (stepG ef (base + i) o σ) (drawNext ef base l acc i o) := by
  simp only [runDraw, drawK]
  cases stepG ef (base + i) o σ <;> rfl
theorem runDraw_nil (ef : EF) (base : Nat) (acc : List (Nat × IOper × Foot)) (σ : St) : runDraw ef base [] acc σ = if orderB acc = true then some σ else none := rfl

/-! quiet regions -/
/-- what an operation gives is laid down, if it writes nothing -/
def putQ (o : IOper) (σ : St) (r : Option Out) : Option St :=
  match r with
  | some (e, []) => some ⟨putDst σ.env o.dst e, σ.heap, σ.next⟩
  | _ => none
def stepVQ (ef : EF) (slot : Nat) (o : IOper) (σ : St) : Option St := putQ o σ ((evOp ef slot σ.env o.op).val σ.heap)
def stepWQ (ef : EF) (slot : Nat) (o : IOper) (σ : St) : Option St :=
  match o.guard with
  | none => stepVQ ef slot o σ
  | some (g, true) => guardK (σ.env g) (stepVQ ef slot o (σ.setB g true)) (stepN o (σ.setB g false)) (stepN o σ)
  | some (g, false) => guardK (σ.env g) (stepN o (σ.setB g true)) (stepVQ ef slot o (σ.setB g false)) (stepN o σ)
def onlyQ (r : Option (St × Foot)) : Option St :=
  match r with
  | some (σ', f) => if f.wr.isEmpty = true then some σ' else none
  | none => none
theorem stepU_VQ (ef : EF) (slot : Nat) (o : IOper) (σ : St) : stepVQ ef slot o σ = onlyQ (stepU ef slot o σ) := by
  unfold stepVQ stepU putQ onlyQ
  cases (evOp ef slot σ.env o.op).val σ.heap with
  | none => rfl
  | some p =>
    obtain ⟨e, w⟩ := p
    cases w <;> simp [putWr]
theorem stepG_WQ (ef : EF) (slot : Nat) (o : IOper) (σ : St) : stepWQ ef slot o σ = onlyQ (stepG ef slot o σ) := by
  unfold stepWQ stepG
  cases o.guard with
  | none => exact stepU_VQ ..
  | some p =>
    obtain ⟨g, b⟩ := p
    cases b <;> simp only [guardK] <;> generalize (σ.env g).bool? = y <;> cases y with
    | none => cases (σ.env g).isUnd <;> rfl
    | some x => cases x <;> simp [stepU_VQ, St.setB, vB, AV.bool, stepN, stepSkip, onlyQ]
theorem runRegQ_at (ef : EF) (flags : List Nat) (ops : List IOper) (σ : St) : runRegQ ef flags ops σ = runQ ef σ.next flags (indexed 0 ops) { σ with next := σ.next + ops.length } := (rfl)
theorem runQ_nil (ef : EF) (base : Nat) (flags : List Nat) (σ : St) : runQ ef base flags [] σ = some σ := (rfl)
theorem runQ_cons (ef : EF) (base i : Nat) (flags : List Nat) (o : IOper) (l : List (Nat × IOper)) (σ : St) :
    runQ ef base flags ((i, o) :: l) σ = bindK (if flags.contains i = true then stepW ef (base + i) o σ else stepWQ ef (base + i) o σ) (runQ ef base flags l) := by
  rw [stepG_W, stepG_WQ]
  simp only [runQ, bindK]
  cases hs : stepG ef (base + i) o σ with
  | none => cases flags.contains i <;> rfl
  | some q =>
    obtain ⟨σ', f⟩ := q
    cases hc : flags.contains i <;> cases hw : f.wr.isEmpty <;> simp [onlyQ, hw]

/-! ### ways -/
section
variable {c : Prop} [Decidable c]
theorem ite_seqK (a b : Option (Ex × St)) (K : St → Option (Ex × St)) : seqK (if c then a else b) K = if c then seqK a K else seqK b K := by split <;> rfl
theorem ite_blkK (id : Nat) (a b : Option (Ex × St)) : blkK id (if c then a else b) = if c then blkK id a else blkK id b := by split <;> rfl
theorem ite_condK (x y : Option Bool) (a b : Option (Ex × St)) : condK (if c then x else y) a b = if c then condK x a b else condK y a b := by split <;> rfl
theorem ite_regK (a b : Option St) : regK (if c then a else b) = if c then regK a else regK b := by split <;> rfl
theorem ite_normK (a b : Option St) (K : St → Option (Ex × St)) : normK (if c then a else b) K = if c then normK a K else normK b K := by split <;> rfl
theorem ite_nrmK (m : Nat) (live : List Nat) (a b : Option (Ex × St)) : nrmK m live (if c then a else b) = if c then nrmK m live a else nrmK m live b := by split <;> rfl
theorem ite_finK (fn : List IRes) (m : Nat) (a b : Option (Ex × St)) : finK fn m (if c then a else b) = if c then finK fn m a else finK fn m b := by split <;> rfl
theorem ite_bindK (a b : Option St) (K : St → Option St) : bindK (if c then a else b) K = if c then bindK a K else bindK b K := by split <;> rfl
theorem ite_putK (o : IOper) (σ : St) (a b : Option Out) : putK o σ (if c then a else b) = if c then putK o σ a else putK o σ b := by split <;> rfl
theorem ite_putQ (o : IOper) (σ : St) (a b : Option Out) : putQ o σ (if c then a else b) = if c then putQ o σ a else putQ o σ b := by split <;> rfl
theorem ite_guardK (x y : Ent) (a b s : Option St) : guardK (if c then x else y) a b s = if c then guardK x a b s else guardK y a b s := by split <;> rfl
theorem ite_drawK (a b : Option (St × Foot)) (K : St × Foot → Option St) : drawK (if c then a else b) K = if c then drawK a K else drawK b K := by split <;> rfl
theorem ite_val {α : Type} (h : Nm → Option LObj) (a b : HM α) : (if c then a else b).val h = if c then a.val h else b.val h := by split <;> rfl
theorem ite_bind {α β : Type} (a b : HM α) (f : α → HM β) : (if c then a else b).bind f = if c then a.bind f else b.bind f := by split <;> rfl
theorem ite_names {α : Type} (h : Nm → Option LObj) (a b : HM α) : (if c then a else b).names h = if c then a.names h else b.names h := by split <;> rfl
end

theorem upd_at {κ α : Type} [DecidableEq κ] (f : κ → α) (k : κ) (v : α) (x : κ) : upd f k v x = if x = k then v else f x := rfl

theorem seqK_normal (σ : St) (K : St → Option (Ex × St)) : seqK (some (.normal, σ)) K = K σ := rfl
theorem seqK_ret (σ : St) (K : St → Option (Ex × St)) : seqK (some (.ret, σ)) K = some (.ret, σ) := rfl
theorem seqK_exit (i : Nat) (σ : St) (K : St → Option (Ex × St)) : seqK (some (.exit i, σ)) K = some (.exit i, σ) := rfl
theorem seqK_none (K : St → Option (Ex × St)) : seqK none K = none := rfl
theorem blkK_normal (id : Nat) (σ : St) : blkK id (some (.normal, σ)) = some (.normal, σ) := rfl
theorem blkK_ret (id : Nat) (σ : St) : blkK id (some (.ret, σ)) = some (.ret, σ) := rfl
theorem blkK_exit (id i : Nat) (σ : St) : blkK id (some (.exit i, σ)) = if i = id then some (.normal, σ) else some (.exit i, σ) := rfl
theorem blkK_none (id : Nat) : blkK id none = none := rfl
theorem condK_some (x : Bool) (a b : Option (Ex × St)) : condK (some x) a b = if x = true then a else b := rfl
theorem condK_none (a b : Option (Ex × St)) : condK none a b = none := rfl
theorem regK_some (σ : St) : regK (some σ) = some (.normal, σ) := rfl
theorem regK_none : regK none = none := rfl
theorem normK_some (σ : St) (K : St → Option (Ex × St)) : normK (some σ) K = K σ := rfl
theorem normK_none (K : St → Option (Ex × St)) : normK none K = none := rfl
theorem finK_normal (fn : List IRes) (m : Nat) (σ : St) : finK fn m (some (.normal, σ)) = finR fn m σ := rfl
theorem finK_ret (fn : List IRes) (m : Nat) (σ : St) : finK fn m (some (.ret, σ)) = finR fn m σ := rfl
theorem finK_exit (fn : List IRes) (m : Nat) (i : Nat) (σ : St) : finK fn m (some (.exit i, σ)) = none := rfl
theorem finK_none (fn : List IRes) (m : Nat) : finK fn m none = none := rfl
theorem bindK_some (σ : St) (K : St → Option St) : bindK (some σ) K = K σ := rfl
theorem bindK_none (K : St → Option St) : bindK none K = none := rfl
theorem putK_some (o : IOper) (σ : St) (e : Ent) (w : Wr) : putK o σ (some (e, w)) = some ⟨putDst σ.env o.dst e, putWr σ.heap w, σ.next⟩ := rfl
theorem putQ_some (o : IOper) (σ : St) (e : Ent) : putQ o σ (some (e, [])) = some ⟨putDst σ.env o.dst e, σ.heap, σ.next⟩ := rfl
theorem putQ_none (o : IOper) (σ : St) : putQ o σ none = none := rfl
theorem putQ_cons (o : IOper) (σ : St) (e : Ent) (x : Nm × Option LObj) (w : Wr) : putQ o σ (some (e, x :: w)) = none := rfl
theorem evS_regq (ef : EF) (m : Nat) (flags : List Nat) (ops : List IOper) (σ : St) : evS ef m (.regq flags ops) σ = regK (runRegQ ef flags ops σ) := rfl
theorem putK_none (o : IOper) (σ : St) : putK o σ none = none := rfl
theorem guardK_some (x : Bool) (a b s : Option St) : guardK (.val ⟨false, [.t (.v (.bool x))]⟩) a b s = if x = true then a else b := rfl
theorem guardK_und (a b s : Option St) : guardK (.tup []) a b s = s := rfl
theorem drawK_some (q : St × Foot) (K : St × Foot → Option St) : drawK (some q) K = K q := rfl
theorem drawK_none (K : St × Foot → Option St) : drawK none K = none := rfl
theorem evS_loop (ef : EF) (m : Nat) (live : List Nat) (b : IC) (σ : St) : evS ef m (.loop live b) σ = normK (norm m live σ) (evLN ef m live b) := evLI_eq live b σ
/-- a state in order is laid down -/
def okK (r : Option St) : Option (Ex × St) :=
  match r with
  | some σ => some (.normal, σ)
  | none => none
theorem ite_okK {c : Prop} [Decidable c] (a b : Option St) : okK (if c then a else b) = if c then okK a else okK b := by split <;> rfl
theorem okK_some (σ : St) : okK (some σ) = some (.normal, σ) := rfl
theorem okK_none : okK none = none := rfl
theorem nrmK_normal (m : Nat) (live : List Nat) (σ : St) : nrmK m live (some (.normal, σ)) = okK (norm m live σ) := by
  simp only [nrmK, okK]
  cases norm m live σ <;> rfl
theorem nrmK_ret (m : Nat) (live : List Nat) (σ : St) : nrmK m live (some (.ret, σ)) = some (.ret, σ) := rfl
theorem nrmK_exit (m : Nat) (live : List Nat) (i : Nat) (σ : St) : nrmK m live (some (.exit i, σ)) = some (.exit i, σ) := rfl
theorem nrmK_none (m : Nat) (live : List Nat) : nrmK m live none = none := rfl
theorem evS_nrm (ef : EF) (m : Nat) (live : List Nat) (b : IC) (σ : St) : evS ef m (.nrm live b) σ = nrmK m live (evS ef m b σ) := rfl
theorem evS_bad (ef : EF) (m : Nat) (σ : St) : evS ef m .bad σ = none := rfl
def retK (r : Option St) : Option (Ex × St) :=
  match r with
  | some σ => some (.ret, σ)
  | none => none
theorem ite_retK {c : Prop} [Decidable c] (a b : Option St) : retK (if c then a else b) = if c then retK a else retK b := by split <;> rfl
theorem retK_some (σ : St) : retK (some σ) = some (.ret, σ) := rfl
theorem retK_none : retK none = none := rfl
theorem evS_retn (ef : EF) (m : Nat) (live : List Nat) (σ : St) : evS ef m (.retn live) σ = retK (norm m live σ) := by
  simp only [evS, retK]
  cases norm m live σ <;> rfl
theorem collect_nil (k : Nat) (ns : List Nm) (os : List LObj) : collect (k + 1) [] ns os = .ret (ns, os) := by rw [collect]
def collectO (k : Nat) (n : Nm) (q ns : List Nm) (os : List LObj) : Option LObj → HM (List Nm × List LObj)
  | some ob => collect k (q ++ ob.refs) (ns ++ [n]) (os ++ [ob])
  | none => collect k q (ns ++ [n]) (os ++ [.gone])
theorem collectO_some (k : Nat) (n : Nm) (q ns : List Nm) (os : List LObj) (ob : LObj) : collectO k n q ns os (some ob) = collect k (q ++ ob.refs) (ns ++ [n]) (os ++ [ob]) := by rw [collectO]
theorem collectO_none (k : Nat) (n : Nm) (q ns : List Nm) (os : List LObj) : collectO k n q ns os none = collect k q (ns ++ [n]) (os ++ [.gone]) := by rw [collectO]
theorem collect_cons (k : Nat) (n : Nm) (q ns : List Nm) (os : List LObj) : collect (k + 1) (n :: q) ns os = if ns.contains n then collect k q ns os else .rd n (collectO k n q ns os) := by
  rw [collect]
  split
  · rfl
  · congr 1
theorem idxOf_at (a b : Nm) (l : List Nm) : List.idxOf a (b :: l) = if b = a then 0 else List.idxOf a l + 1 := by
  rw [List.idxOf_cons]
  by_cases h : b = a
  · subst h; simp
  · have h2 : (b == a) = false := beq_eq_false_iff_ne.2 h
    rw [h2, if_neg h]; rfl
theorem take_all {α β : Type} (f : α → β) (l : List α) : (l.map f).take l.length = l.map f := List.take_of_length_le (by simp)
theorem evF_at (ef : EF) (nt : Nat) (rs : List IRes) (b : IC) (args : List AV) (objs : List LObj) : evF ef ⟨nt, rs, b⟩ args objs = finK rs objs.length (evS ef objs.length b ⟨entryEnv 0 args, entryHeap 0 objs, 1⟩) := rfl
theorem evS_skip (ef : EF) (m : Nat) (σ : St) : evS ef m .skip σ = some (.normal, σ) := rfl
theorem evS_reg (ef : EF) (m : Nat) (dr : Bool) (ops : List IOper) (σ : St) : evS ef m (.reg dr ops) σ = regK (runReg ef dr ops σ) := rfl
theorem evS_seq (ef : EF) (m : Nat) (a b : IC) (σ : St) : evS ef m (.seq a b) σ = seqK (evS ef m a σ) (evS ef m b) := rfl
theorem evS_cond (ef : EF) (m : Nat) (c : Opd) (a b : IC) (σ : St) : evS ef m (.cond c a b) σ = condK ((c.get σ.env).bind AV.bool?) (evS ef m a σ) (evS ef m b σ) := rfl
theorem evS_blk (ef : EF) (m : Nat) (id : Nat) (b : IC) (σ : St) : evS ef m (.blk id b) σ = blkK id (evS ef m b σ) := rfl
theorem evS_exit (ef : EF) (m : Nat) (id : Nat) (σ : St) : evS ef m (.exit id) σ = some (.exit id, σ) := rfl
theorem evS_ret (ef : EF) (m : Nat) (σ : St) : evS ef m .ret σ = some (.ret, σ) := rfl

/-! branches are reckoned only where the way leads -/
noncomputable def condS (ef : EF) (m : Nat) (x : Option Bool) (a b : IC) (σ : St) : Option (Ex × St) := condK x (evS ef m a σ) (evS ef m b σ)
theorem evS_condS (ef : EF) (m : Nat) (c : Opd) (a b : IC) (σ : St) : evS ef m (.cond c a b) σ = condS ef m ((c.get σ.env).bind AV.bool?) a b σ := by rw [evS]; rfl
theorem condS_true (ef : EF) (m : Nat) (a b : IC) (σ : St) : condS ef m (some true) a b σ = evS ef m a σ := by simp [condS, condK]
theorem condS_false (ef : EF) (m : Nat) (a b : IC) (σ : St) : condS ef m (some false) a b σ = evS ef m b σ := by simp [condS, condK]
theorem condS_some (ef : EF) (m : Nat) (x : Bool) (a b : IC) (σ : St) : condS ef m (some x) a b σ = if x = true then evS ef m a σ else evS ef m b σ := by simp [condS, condK]
theorem condS_none (ef : EF) (m : Nat) (a b : IC) (σ : St) : condS ef m none a b σ = none := by simp [condS, condK]
theorem ite_condS {c : Prop} [Decidable c] (ef : EF) (m : Nat) (x y : Option Bool) (a b : IC) (σ : St) : condS ef m (if c then x else y) a b σ = if c then condS ef m x a b σ else condS ef m y a b σ := by split <;> rfl

def guardS (ef : EF) (slot : Nat) (o : IOper) (σ : St) (g : Nat) (want : Bool) (e : Ent) : Option St :=
  if want = true then guardK e (stepV ef slot o (σ.setB g true)) (stepN o (σ.setB g false)) (stepN o σ) else guardK e (stepN o (σ.setB g true)) (stepV ef slot o (σ.setB g false)) (stepN o σ)
def guardQ (ef : EF) (slot : Nat) (o : IOper) (σ : St) (g : Nat) (want : Bool) (e : Ent) : Option St :=
  if want = true then guardK e (stepVQ ef slot o (σ.setB g true)) (stepN o (σ.setB g false)) (stepN o σ) else guardK e (stepN o (σ.setB g true)) (stepVQ ef slot o (σ.setB g false)) (stepN o σ)
section
variable (ef : EF) (slot : Nat) (d : Option Nat) (op : IOp) (af : List Nat) (o : IOper) (σ : St) (g : Nat) (x want : Bool)
theorem stepW_none : stepW ef slot ⟨d, op, af, none⟩ σ = stepV ef slot ⟨d, op, af, none⟩ σ := by simp [stepW]
theorem stepW_some : stepW ef slot ⟨d, op, af, some (g, want)⟩ σ = guardS ef slot ⟨d, op, af, some (g, want)⟩ σ g want (σ.env g) := by cases want <;> simp [stepW, guardS]
theorem stepWQ_none : stepWQ ef slot ⟨d, op, af, none⟩ σ = stepVQ ef slot ⟨d, op, af, none⟩ σ := by simp [stepWQ]
theorem stepWQ_some : stepWQ ef slot ⟨d, op, af, some (g, want)⟩ σ = guardQ ef slot ⟨d, op, af, some (g, want)⟩ σ g want (σ.env g) := by cases want <;> simp [stepWQ, guardQ]
theorem guardS_tt : guardS ef slot o σ g true (.val ⟨false, [.t (.v (.bool true))]⟩) = stepV ef slot o (σ.setB g true) := by simp [guardS, guardK, Ent.bool?, AV.bool?]
theorem guardS_tf : guardS ef slot o σ g true (.val ⟨false, [.t (.v (.bool false))]⟩) = stepN o (σ.setB g false) := by simp [guardS, guardK, Ent.bool?, AV.bool?]
theorem guardS_ft : guardS ef slot o σ g false (.val ⟨false, [.t (.v (.bool true))]⟩) = stepN o (σ.setB g true) := by simp [guardS, guardK, Ent.bool?, AV.bool?]
theorem guardS_ff : guardS ef slot o σ g false (.val ⟨false, [.t (.v (.bool false))]⟩) = stepV ef slot o (σ.setB g false) := by simp [guardS, guardK, Ent.bool?, AV.bool?]
theorem guardS_und : guardS ef slot o σ g want (.tup []) = stepN o σ := by cases want <;> simp [guardS, guardK, Ent.bool?, Ent.isUnd]
theorem guardS_t : guardS ef slot o σ g true (.val ⟨false, [.t (.v (.bool x))]⟩) = if x = true then stepV ef slot o (σ.setB g true) else stepN o (σ.setB g false) := by simp [guardS, guardK, Ent.bool?, AV.bool?]
theorem guardS_f : guardS ef slot o σ g false (.val ⟨false, [.t (.v (.bool x))]⟩) = if x = true then stepN o (σ.setB g true) else stepV ef slot o (σ.setB g false) := by simp [guardS, guardK, Ent.bool?, AV.bool?]
theorem ite_guardS {c : Prop} [Decidable c] (e e' : Ent) : guardS ef slot o σ g want (if c then e else e') = if c then guardS ef slot o σ g want e else guardS ef slot o σ g want e' := by split <;> rfl
theorem guardQ_tt : guardQ ef slot o σ g true (.val ⟨false, [.t (.v (.bool true))]⟩) = stepVQ ef slot o (σ.setB g true) := by simp [guardQ, guardK, Ent.bool?, AV.bool?]
theorem guardQ_tf : guardQ ef slot o σ g true (.val ⟨false, [.t (.v (.bool false))]⟩) = stepN o (σ.setB g false) := by simp [guardQ, guardK, Ent.bool?, AV.bool?]
theorem guardQ_ft : guardQ ef slot o σ g false (.val ⟨false, [.t (.v (.bool true))]⟩) = stepN o (σ.setB g true) := by simp [guardQ, guardK, Ent.bool?, AV.bool?]
theorem guardQ_ff : guardQ ef slot o σ g false (.val ⟨false, [.t (.v (.bool false))]⟩) = stepVQ ef slot o (σ.setB g false) := by simp [guardQ, guardK, Ent.bool?, AV.bool?]
theorem guardQ_und : guardQ ef slot o σ g want (.tup []) = stepN o σ := by cases want <;> simp [guardQ, guardK, Ent.bool?, Ent.isUnd]
theorem guardQ_t : guardQ ef slot o σ g true (.val ⟨false, [.t (.v (.bool x))]⟩) = if x = true then stepVQ ef slot o (σ.setB g true) else stepN o (σ.setB g false) := by simp [guardQ, guardK, Ent.bool?, AV.bool?]
theorem guardQ_f : guardQ ef slot o σ g false (.val ⟨false, [.t (.v (.bool x))]⟩) = if x = true then stepN o (σ.setB g true) else stepVQ ef slot o (σ.setB g false) := by simp [guardQ, guardK, Ent.bool?, AV.bool?]
theorem ite_guardQ {c : Prop} [Decidable c] (e e' : Ent) : guardQ ef slot o σ g want (if c then e else e') = if c then guardQ ef slot o σ g want e else guardQ ef slot o σ g want e' := by split <;> rfl
end
attribute [simp] evS_condS condS_true condS_false condS_none ite_condS stepW_none stepW_some stepWQ_none stepWQ_some guardS_tt guardS_tf guardS_ft guardS_ff guardS_und ite_guardS guardQ_tt guardQ_tf guardQ_ft guardQ_ff guardQ_und ite_guardQ
attribute [simp low] condS_some guardS_t guardS_f guardQ_t guardQ_f

attribute [simp] Ent.isUnd ite_putQ putQ_some putQ_none putQ_cons evS_regq runRegQ_at runQ_nil runQ_cons stepVQ idxOf_at take_all ite_retK retK_some retK_none evS_retn nextK_at ite_nrmK ite_okK okK_some okK_none nrmK_normal nrmK_ret nrmK_exit nrmK_none evS_nrm evS_bad evF_at finR ite_seqK ite_blkK ite_condK ite_regK ite_normK ite_finK ite_bindK ite_putK ite_guardK ite_drawK ite_val ite_bind ite_names upd_at
  seqK_normal seqK_ret seqK_exit seqK_none blkK_normal blkK_ret blkK_exit blkK_none condK_some condK_none regK_some regK_none normK_some normK_none
  finK_normal finK_ret finK_exit finK_none bindK_some bindK_none putK_some putK_none guardK_some guardK_und drawK_some drawK_none
  evS_skip evS_reg evS_seq evS_blk evS_exit evS_ret evS_loop runReg_plain runReg_draw runOps_cons runOps_nil runDraw_cons runDraw_nil drawNext
  stepV stepN St.setB indexed stepG stepU stepSkip evOp Opd.get Opd.ent Opd.full Cell.isDef entryEnv putDst putWr outA out1 HM.val HM.names HM.mapM HM.bind
  AV.int AV.bool AV.str AV.one AV.cell? AV.bool? AV.int? AV.flat? Ent.bool? flatBin flatUn isShift intBin shiftV strBin finish resOf collect_nil collect_cons collectO_some collectO_none collectFuel AV.ren Cell.ren Cell.renL AV.refs Cell.refsL Cell.refs
  heapOf entryHeap doCall argOf Cell.snap snapDepth Ent.ofRes newsOf nameOut objOut Cell.freshC LObj.freshO fillC LObj.ren LObj.refs placeOf backOf T.isV dead srcOf optInt giveL Cell.give rowsOf
  norm envOf Ent.ren Ent.refs orderB apartB IOper.looks IOp.tmps Opd.tmp optTmp

end Go.Pur
