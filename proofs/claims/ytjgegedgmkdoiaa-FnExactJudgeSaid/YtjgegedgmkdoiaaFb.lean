/- What abstract values stand for in a world; what a change of the world leaves. -/
import Derived.Test.YtjgegedgmkdoiaaFa
import Derived.Laws.AppendOwn
namespace Go.Pur
open Go

abbrev Beta := Nm → Option (Nat × Nat × Nat)

inductive RepT (w : World) (I : Nat → Prop) : Value → T → Prop
  | v {x : Value} (h : x.flatB = true) : RepT w I x (.v x)
  | sl {a : Option Addr} {cap sz : Nat} {es : List (List T)} (vals : Nat → Value)
      (hcap : es.length ≤ cap) (hsz : ∀ e ∈ es, e.length = sz)
      (hc : ∀ i c, es.flatten[i]? = some c → ∃ b off, a = some ⟨b, off, none⟩ ∧ I b ∧ w.cell? ⟨b, off + i, none⟩ = some (vals i))
      (hr : ∀ i c, es.flatten[i]? = some c → RepT w I (vals i) c) : RepT w I (.slice a es.length cap) (.sl sz es)
  | pt {b off : Nat} {cs : List T} (vals : Nat → Value)
      (hc : ∀ i c, cs[i]? = some c → I b ∧ w.cell? ⟨b, off + i, none⟩ = some (vals i))
      (hr : ∀ i c, cs[i]? = some c → RepT w I (vals i) c) : RepT w I (.pointer (some ⟨b, off, none⟩)) (.pt cs)
  | fn {f : FuncId} {first caps : Array Value} {xs ys : List T} (h1 : first.size = xs.length) (h2 : caps.size = ys.length)
      (r1 : ∀ (i : Nat) v c, first[i]? = some v → xs[i]? = some c → RepT w I v c)
      (r2 : ∀ (i : Nat) v c, caps[i]? = some v → ys[i]? = some c → RepT w I v c) : RepT w I (.func (.func f) first caps) (.fn f xs ys)

inductive RepX (w : World) : Value → T → (Nat → Prop) → Prop
  | v {x : Value} {S : Nat → Prop} (h : x.flatB = true) : RepX w x (.v x) S
  | sl {b off cap sz : Nat} {es : List (List T)} {S : Nat → Prop} (vals : Nat → Value) (Ss : Nat → Nat → Prop)
      (hcap : es.length ≤ cap) (hsz : ∀ e ∈ es, e.length = sz) (hS : S b)
      (hc : ∀ i c, es.flatten[i]? = some c → w.cell? ⟨b, off + i, none⟩ = some (vals i) ∧ w.frozen? ⟨b, off + i, none⟩ = false)
      (hr : ∀ i c, es.flatten[i]? = some c → RepX w (vals i) c (Ss i))
      (hsub : ∀ i x, Ss i x → S x ∧ x ≠ b) (hdis : ∀ i j x, Ss i x → Ss j x → i = j) : RepX w (.slice (some ⟨b, off, none⟩) es.length cap) (.sl sz es) S
  | nil {a : Option Addr} {cap sz : Nat} {S : Nat → Prop} : RepX w (.slice a 0 cap) (.sl sz []) S

inductive RepC (w : World) (I : Nat → Prop) (β : Beta) : Value → Cell → Prop
  | t {v : Value} {x : T} (h : RepT w I v x) : RepC w I β v (.t x)
  | nils {sz : Nat} : RepC w I β (.slice none 0 0) (.nils sz)
  | ptr {n : Nm} {i b off sz : Nat} (h : β n = some (b, off, sz)) : RepC w I β (.pointer (some ⟨b, off + i, none⟩)) (.ptr n i)
  | ref {n : Nm} {lo len cap b off sz : Nat} {arr : Array Value} {ty : TypeId} (h : β n = some (b, off, sz)) (hb : w.heap[b]? = some (.cells arr ty (0, 0)))
      (hcap : off + lo * sz + cap * sz ≤ arr.size) (hl : len ≤ cap) (hm : cap ≤ maxLen) (hz : 0 < sz) : RepC w I β (.slice (some ⟨b, off + lo * sz, none⟩) len cap) (.ref n lo len)
  | ref0 {n : Nm} {lo : Nat} {a : Option Addr} {x : Nat × Nat × Nat} (h : β n = some x) : RepC w I β (.slice a 0 0) (.ref n lo 0)
  | pel {n : Nm} {i j b off sz : Nat} (h : β n = some (b, off, sz)) (hz : 0 < sz) : RepC w I β (.pointer (some ⟨b, off + i * sz + j, none⟩)) (.pel n i j)
  | clo {f : FuncId} {first caps : Array Value} {xs ys : List Cell} (h1 : first.size = xs.length) (h2 : caps.size = ys.length)
      (r1 : ∀ (i : Nat) v c, first[i]? = some v → xs[i]? = some c → RepC w I β v c)
      (r2 : ∀ (i : Nat) v c, caps[i]? = some v → ys[i]? = some c → RepC w I β v c) : RepC w I β (.func (.func f) first caps) (.clo f xs ys)
  | undef {v : Value} : RepC w I β v .undef

/-- a row of values by a row of cells -/
def RepL (w : World) (I : Nat → Prop) (β : Beta) (vs : List Value) (cs : List Cell) : Prop :=
  vs.length = cs.length ∧ ∀ (i : Nat) v c, vs[i]? = some v → cs[i]? = some c → RepC w I β v c

inductive RepA (w : World) (I : Nat → Prop) (β : Beta) : Value → AV → Prop
  | one {v : Value} {c : Cell} (h : RepC w I β v c) : RepA w I β v ⟨false, [c]⟩
  | agg {vs : Array Value} {cs : List Cell} (h : RepL w I β vs.toList cs) : RepA w I β (.agg vs) ⟨true, cs⟩

inductive RepE (w : World) (I : Nat → Prop) (β : Beta) : Value → Ent → Prop
  | nil {v : Value} : RepE w I β v .nil
  | val {v : Value} {a : AV} (h : RepA w I β v a) : RepE w I β v (.val a)
  | tup {vs : Array Value} {as : List AV} (h : vs.size = as.length) (r : ∀ (i : Nat) v c, vs[i]? = some v → as[i]? = some c → RepA w I β v c) : RepE w I β (.tuple vs) (.tup as)

inductive ObjRep (w : World) (I : Nat → Prop) (β : Beta) (O : Nat → Prop) (n : Nm) : LObj → Prop
  | row {cs : List Cell} {b off sz : Nat} {arr : Array Value} {ty : TypeId} (hβ : β n = some (b, off, sz)) (hb : w.heap[b]? = some (.cells arr ty (0, 0))) (hO : O b)
      (hc : ∀ i c, cs[i]? = some c → ∃ v, arr[off + i]? = some v ∧ RepC w I β v c) : ObjRep w I β O n (.row cs)
  | arr {own : Bool} {es : List (List T)} {b off sz : Nat} {arr : Array Value} {ty : TypeId} (vals : Nat → Value) (Ss : Nat → Nat → Prop)
      (hβ : β n = some (b, off, sz)) (hb : w.heap[b]? = some (.cells arr ty (0, 0))) (hO : O b) (hsz : ∀ e ∈ es, e.length = sz) (h0 : 0 < sz) (hoff : off + es.length * sz ≤ arr.size)
      (hc : ∀ i c, es.flatten[i]? = some c → arr[off + i]? = some (vals i))
      (hx : own = true → ∀ i c, es.flatten[i]? = some c → RepX w (vals i) c (Ss i))
      (ht : own = false → ∀ i c, es.flatten[i]? = some c → RepT w I (vals i) c)
      (hsub : ∀ i x, Ss i x → O x ∧ x ≠ b) (hdis : ∀ i j x, Ss i x → Ss j x → i = j) : ObjRep w I β O n (.arr own sz es)
  | arr0 {own : Bool} {sz b off : Nat} (hβ : β n = some (b, off, 0)) (h0 : 0 < sz) : ObjRep w I β O n (.arr own sz [])

structure HRel (w : World) (I : Nat → Prop) (β : Beta) (O : Nm → Nat → Prop) (h : Nm → Option LObj) : Prop where
  obj : ∀ n ob, h n = some ob → ObjRep w I β (O n) n ob
  dis : ∀ n m b, h n ≠ none → h m ≠ none → O n b → O m b → n = m
  imm : ∀ n b, h n ≠ none → O n b → ¬ I b
  lt : ∀ n b, h n ≠ none → O n b → b < w.heap.size
  ilt : ∀ b, I b → b < w.heap.size

/-- owned by somebody -/
def Owned (O : Nm → Nat → Prop) (h : Nm → Option LObj) (b : Nat) : Prop := ∃ n, h n ≠ none ∧ O n b

/-- the world has gone on; only blocks of W may have been written, and what is a row of cells is one of the same size -/
structure Evo (W : Nat → Prop) (w w' : World) : Prop where
  os : w'.os = w.os
  tape : w'.tape = w.tape
  output : w'.output = w.output
  size : w.heap.size ≤ w'.heap.size
  same : ∀ b, b < w.heap.size → ¬ W b → w'.heap[b]? = w.heap[b]?
  rows : ∀ (b : Nat) (arr : Array Value) (ty : TypeId) (fz : Nat × Nat), w.heap[b]? = some (Obj.cells arr ty fz) → ∃ arr' : Array Value, w'.heap[b]? = some (Obj.cells arr' ty fz) ∧ arr'.size = arr.size

theorem Evo.refl (W : Nat → Prop) (w : World) : Evo W w w := ⟨rfl, rfl, rfl, Nat.le_refl _, fun _ _ _ => rfl, fun _ arr _ _ h => ⟨arr, h, rfl⟩⟩
theorem Evo.drew (W : Nat → Prop) (w : World) : Evo W w { w with drawn := w.drawn + 1 } := ⟨rfl, rfl, rfl, Nat.le_refl _, fun _ _ _ => rfl, fun _ arr _ _ h => ⟨arr, h, rfl⟩⟩
theorem Evo.trans {W W' : Nat → Prop} {a b c : World} (h : Evo W a b) (k : Evo W' b c) (hs : ∀ x, x < a.heap.size → W' x → W x) : Evo W a c :=
  ⟨k.os.trans h.os, k.tape.trans h.tape, k.output.trans h.output, Nat.le_trans h.size k.size,
   fun x hx hn => (k.same x (Nat.lt_of_lt_of_le hx h.size) (fun hw => hn (hs x hx hw))).trans (h.same x hx hn),
   fun x arr ty fz he => by
     obtain ⟨a1, h1, e1⟩ := h.rows x arr ty fz he
     obtain ⟨a2, h2, e2⟩ := k.rows x a1 ty fz h1
     exact ⟨a2, h2, e2.trans e1⟩⟩
theorem Evo.mono {W W' : Nat → Prop} {a b : World} (h : Evo W a b) (hs : ∀ x, W x → W' x) : Evo W' a b :=
  ⟨h.os, h.tape, h.output, h.size, fun x hx hn => h.same x hx (fun hw => hn (hs x hw)), h.rows⟩
theorem Evo.alloc (W : Nat → Prop) (w : World) (o : Obj) : Evo W w (w.alloc o) :=
  ⟨rfl, rfl, rfl, by simp, fun b hb _ => heap_alloc_old w o b hb, fun b arr ty fz h => ⟨arr, by rw [heap_alloc_old w o b (Array.getElem?_eq_some_iff.1 h).1]; exact h, rfl⟩⟩

theorem cell_of_heap {w w' : World} {b o : Nat} (h : w'.heap[b]? = w.heap[b]?) : w'.cell? ⟨b, o, none⟩ = w.cell? ⟨b, o, none⟩ := World.cell?_of_block (a := ⟨b, o, none⟩) h
theorem frozen_of_heap {w w' : World} {b o : Nat} (h : w'.heap[b]? = w.heap[b]?) : w'.frozen? ⟨b, o, none⟩ = w.frozen? ⟨b, o, none⟩ := World.frozen?_of_block (a := ⟨b, o, none⟩) h

theorem RepT.evo {w w' : World} {I I' : Nat → Prop} {v : Value} {t : T} (h : RepT w I v t) (hs : ∀ b, I b → w'.heap[b]? = w.heap[b]?) (hi : ∀ b, I b → I' b) : RepT w' I' v t := by
  induction h with
  | v h => exact .v h
  | sl vals hcap hsz hc _ ih =>
    refine .sl vals hcap hsz (fun i c hi' => ?_) (fun i c hi' => ih i c hi')
    obtain ⟨b, off, e, hb, hcell⟩ := hc i c hi'
    exact ⟨b, off, e, hi b hb, (cell_of_heap (hs b hb)).trans hcell⟩
  | pt vals hc _ ih =>
    refine .pt vals (fun i c hi' => ?_) (fun i c hi' => ih i c hi')
    obtain ⟨hb, hcell⟩ := hc i c hi'
    exact ⟨hi _ hb, (cell_of_heap (hs _ hb)).trans hcell⟩
  | fn h1 h2 _ _ ih1 ih2 => exact .fn h1 h2 ih1 ih2

theorem RepX.evo {w w' : World} {v : Value} {t : T} {S : Nat → Prop} (h : RepX w v t S) (hs : ∀ b, S b → w'.heap[b]? = w.heap[b]?) : RepX w' v t S := by
  induction h with
  | v h => exact .v h
  | sl vals Ss hcap hsz hS hc _ hsub hdis ih =>
    refine .sl vals Ss hcap hsz hS (fun i c hi => ?_) (fun i c hi => ih i c hi (fun b hb => hs b (hsub i b hb).1)) hsub hdis
    obtain ⟨h1, h2⟩ := hc i c hi
    exact ⟨(cell_of_heap (hs _ hS)).trans h1, (frozen_of_heap (hs _ hS)).trans h2⟩
  | nil => exact .nil

theorem RepX.mono {w : World} {v : Value} {t : T} {S S' : Nat → Prop} (h : RepX w v t S) (hs : ∀ b, S b → S' b) : RepX w v t S' := by
  cases h with
  | v h => exact .v h
  | sl vals Ss hcap hsz hS hc hr hsub hdis => exact .sl vals Ss hcap hsz (hs _ hS) hc hr (fun i x h => ⟨hs x (hsub i x h).1, (hsub i x h).2⟩) hdis
  | nil => exact .nil

/-- given up: it is data then, of whatever set that holds its memory -/
theorem RepX.toT {w : World} {v : Value} {t : T} {S I : Nat → Prop} (h : RepX w v t S) (hs : ∀ b, S b → I b) : RepT w I v t := by
  induction h with
  | v h => exact .v h
  | sl vals Ss hcap hsz hS hc _ hsub hdis ih =>
    exact .sl vals hcap hsz (fun i c hi => ⟨_, _, rfl, hs _ hS, (hc i c hi).1⟩) (fun i c hi => ih i c hi (fun b hb => hs b (hsub i b hb).1))
  | nil => exact .sl (es := []) (fun _ => Go.undef) (by simp) (by simp) (by simp) (by simp)

theorem RepT.toX {w : World} {I : Nat → Prop} {v : Value} {t : T} (h : RepT w I v t) (hv : t.isV = true) (S : Nat → Prop) : RepX w v t S := by
  cases h with
  | v h => exact .v h
  | _ => simp [T.isV] at hv

theorem RepT.flat {w : World} {I I' : Nat → Prop} {w' : World} {v : Value} {t : T} (h : RepT w I v t) (hv : t.isV = true) : RepT w' I' v t := by
  cases h with
  | v h => exact .v h
  | _ => simp [T.isV] at hv

theorem RepT.oneCell {w : World} {I : Nat → Prop} {v : Value} {t : T} (h : RepT w I v t) : v.oneCell' = true := by
  cases h with
  | v h => cases v <;> simp_all [Value.flatB, Value.oneCell']
  | _ => rfl

theorem RepX.oneCell {w : World} {S : Nat → Prop} {v : Value} {t : T} (h : RepX w v t S) : v.oneCell' = true := by
  cases h with
  | v h => cases v <;> simp_all [Value.flatB, Value.oneCell']
  | _ => rfl

theorem RepC.oneCell {w : World} {I : Nat → Prop} {β : Beta} {v : Value} {c : Cell} (h : RepC w I β v c) (hd : c.isDef = true) : v.oneCell' = true := by
  cases h with
  | t h => exact h.oneCell
  | undef => simp [Cell.isDef] at hd
  | _ => rfl

/-- what evolves: data of I stays, names stay, rows keep their size -/
structure Moves (w w' : World) (I I' : Nat → Prop) (β β' : Beta) : Prop where
  data : ∀ b, I b → w'.heap[b]? = w.heap[b]?
  more : ∀ b, I b → I' b
  names : ∀ n x, β n = some x → β' n = some x
  rows : ∀ (b : Nat) (arr : Array Value) (ty : TypeId) (fz : Nat × Nat), w.heap[b]? = some (Obj.cells arr ty fz) → ∃ arr' : Array Value, w'.heap[b]? = some (Obj.cells arr' ty fz) ∧ arr'.size = arr.size

theorem Moves.refl (w : World) (I : Nat → Prop) (β : Beta) : Moves w w I I β β := ⟨fun _ _ => rfl, fun _ h => h, fun _ _ h => h, fun _ arr _ _ h => ⟨arr, h, rfl⟩⟩
theorem Moves.trans {w1 w2 w3 : World} {I1 I2 I3 : Nat → Prop} {β1 β2 β3 : Beta} (h : Moves w1 w2 I1 I2 β1 β2) (k : Moves w2 w3 I2 I3 β2 β3) : Moves w1 w3 I1 I3 β1 β3 :=
  ⟨fun b hb => (k.data b (h.more b hb)).trans (h.data b hb), fun b hb => k.more b (h.more b hb), fun n x hx => k.names n x (h.names n x hx),
   fun x arr ty fz he => by
     obtain ⟨a1, h1, e1⟩ := h.rows x arr ty fz he
     obtain ⟨a2, h2, e2⟩ := k.rows x a1 ty fz h1
     exact ⟨a2, h2, e2.trans e1⟩⟩

theorem RepC.moves {w w' : World} {I I' : Nat → Prop} {β β' : Beta} {v : Value} {c : Cell} (h : RepC w I β v c) (m : Moves w w' I I' β β') : RepC w' I' β' v c := by
  induction h with
  | t h => exact .t (h.evo m.data m.more)
  | nils => exact .nils
  | ptr h => exact .ptr (m.names _ _ h)
  | ref h hb hcap hl hm hz =>
    obtain ⟨a', h', e'⟩ := m.rows _ _ _ _ hb
    exact .ref (m.names _ _ h) h' (by rw [e']; exact hcap) hl hm hz
  | ref0 h => exact .ref0 (m.names _ _ h)
  | pel h hz => exact .pel (m.names _ _ h) hz
  | clo h1 h2 _ _ ih1 ih2 => exact .clo h1 h2 ih1 ih2
  | undef => exact .undef

theorem RepL.moves {w w' : World} {I I' : Nat → Prop} {β β' : Beta} {vs : List Value} {cs : List Cell} (h : RepL w I β vs cs) (m : Moves w w' I I' β β') : RepL w' I' β' vs cs :=
  ⟨h.1, fun i v c h1 h2 => (h.2 i v c h1 h2).moves m⟩
theorem RepA.moves {w w' : World} {I I' : Nat → Prop} {β β' : Beta} {v : Value} {a : AV} (h : RepA w I β v a) (m : Moves w w' I I' β β') : RepA w' I' β' v a := by
  cases h with
  | one h => exact .one (h.moves m)
  | agg h => exact .agg (h.moves m)
theorem RepE.moves {w w' : World} {I I' : Nat → Prop} {β β' : Beta} {v : Value} {e : Ent} (h : RepE w I β v e) (m : Moves w w' I I' β β') : RepE w' I' β' v e := by
  cases h with
  | nil => exact .nil
  | val h => exact .val (h.moves m)
  | tup h r => exact .tup h fun i v c h1 h2 => (r i v c h1 h2).moves m

theorem ObjRep.moves {w w' : World} {I I' : Nat → Prop} {β β' : Beta} {O O' : Nat → Prop} {n : Nm} {ob : LObj} (h : ObjRep w I β O n ob) (m : Moves w w' I I' β β') (ho : ∀ b, O b → w'.heap[b]? = w.heap[b]?) (hO : ∀ b, O b → O' b) : ObjRep w' I' β' O' n ob := by
  cases h with
  | row hβ hb hO' hc =>
    refine .row (m.names _ _ hβ) ((ho _ hO').trans hb) (hO _ hO') fun i c hi => ?_
    obtain ⟨v, h1, h2⟩ := hc i c hi
    exact ⟨v, h1, h2.moves m⟩
  | arr0 hβ h0 => exact .arr0 (m.names _ _ hβ) h0
  | arr vals Ss hβ hb hO' hsz h0 hoff hc hx ht hsub hdis =>
    exact .arr vals Ss (m.names _ _ hβ) ((ho _ hO').trans hb) (hO _ hO') hsz h0 hoff hc (fun e i c hi => (hx e i c hi).evo fun b hb => ho b (hsub i b hb).1)
      (fun e i c hi => (ht e i c hi).evo m.data m.more) (fun i x hx => ⟨hO _ (hsub i x hx).1, (hsub i x hx).2⟩) hdis

/-! ### a step from one memory to another -/

structure StepTo (slot : Nat) (w w' : World) (I I' : Nat → Prop) (β β' : Beta) (O O' : Nm → Nat → Prop) (h h' : Nm → Option LObj) : Prop where
  rel : HRel w' I' β' O' h'
  names : ∀ n x, β n = some x → β' n = some x
  fresh : ∀ n x, β' n = some x → β n = some x ∨ n.1 = slot
  evo : Evo (Owned O h) w w'
  keepI : ∀ b, I b → I' b
  newI : ∀ b, I' b → I b ∨ w.heap.size ≤ b ∨ Owned O h b
  newO : ∀ b, Owned O' h' b → w.heap.size ≤ b ∨ Owned O h b

theorem StepTo.refl {slot : Nat} {w : World} {I : Nat → Prop} {β : Beta} {O : Nm → Nat → Prop} {h : Nm → Option LObj} (r : HRel w I β O h) : StepTo slot w w I I β β O O h h :=
  ⟨r, fun _ _ h => h, fun _ _ h => .inl h, .refl _ _, fun _ h => h, fun _ h => .inl h, fun _ h => .inr h⟩

theorem HRel.notOwned {w : World} {I : Nat → Prop} {β : Beta} {O : Nm → Nat → Prop} {h : Nm → Option LObj} (r : HRel w I β O h) {b : Nat} (hi : I b) : ¬ Owned O h b :=
  fun ⟨n, hn, ho⟩ => r.imm n b hn ho hi

theorem StepTo.moves {slot : Nat} {w w' : World} {I I' : Nat → Prop} {β β' : Beta} {O O' : Nm → Nat → Prop} {h h' : Nm → Option LObj} (s : StepTo slot w w' I I' β β' O O' h h') (r : HRel w I β O h) : Moves w w' I I' β β' :=
  ⟨fun b hb => s.evo.same b (r.ilt b hb) (r.notOwned hb), s.keepI, s.names, s.evo.rows⟩

end Go.Pur
