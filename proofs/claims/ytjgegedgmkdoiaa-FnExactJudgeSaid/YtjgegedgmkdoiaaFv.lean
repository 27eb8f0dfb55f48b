/- Arguments of a row: what can be read as data is a tree of its type. -/
import Derived.Test.YtjgegedgmkdoiaaFu
import Derived.Carry
import Derived.ChangeSame
import Derived.ChangeArms
import Derived.OpenShut
namespace Go.Pur
open Go
set_option linter.unusedSimpArgs false

/-- a row of trees, by the types that lie in it one behind the other -/
def WfRow (wf : TypeId → List T → Prop) (size : TypeId → Nat) : List TypeId → List T → Prop
  | [], ts => ts = []
  | t :: l, ts => ∃ a b, ts = a ++ b ∧ a.length = size t ∧ wf t a ∧ WfRow wf size l b

/-- data of a type, as trees -/
def Wf (P : Program) : Nat → TypeId → List T → Prop
  | 0, _, _ => False
  | k + 1, t, ts => match P.underlying t with
    | some .bool => ∃ b, ts = [.v (.bool b)]
    | some (.int kd) => ∃ n, ts = [.v (.int kd n)] ∧ (Lit.int kd n).wf = true
    | some .string => ∃ s : ByteArray, ts = [.v (.string s)] ∧ s.size ≤ Go.maxLen
    | some (.slice e) => ∃ es, ts = [.sl (P.cellsOf e) es] ∧ es.length ≤ Go.maxLen ∧ ∀ x ∈ es, Wf P k e x
    | some (.struct fs) => WfRow (Wf P k) P.cellsOf (fs.toList.map (·.type)) ts
    | some (.array n e) => WfRow (Wf P k) P.cellsOf (List.replicate n e) ts
    | _ => False

/-- fields lie one behind the other from o to the end -/
def rowAt (P : Program) : Nat → List Field → Nat → Bool
  | o, [], e => o == e
  | o, f :: fs, e => f.offset == o && rowAt P (o + P.cellsOf f.type) fs e

def plainT (P : Program) : Nat → TypeId → Bool
  | 0, _ => false
  | k + 1, t => match P.underlying t with
    | some .bool => true
    | some (.int _) => true
    | some .string => true
    | some (.slice e) => decide (0 < P.cellsOf e) && plainT P k e
    | some (.struct fs) => rowAt P 0 fs.toList (P.cellsOf t) && fs.toList.all fun f => plainT P k f.type
    | some (.array n e) => n * P.cellsOf e == P.cellsOf t && plainT P k e
    | _ => false

section
variable {P : Program} {w : World}

def All (w : World) (b : Nat) : Prop := b < w.heap.size

def RepR (w : World) (cs : List Value) (ts : List T) : Prop := ts.length = cs.length ∧ ∀ (i : Nat) v x, cs[i]? = some v → ts[i]? = some x → RepT w (All w) v x

theorem RepR.one {v : Value} {x : T} (h : RepT w (All w) v x) : RepR w [v] [x] := ⟨rfl, fun i u y hu hy => by
  cases i with
  | zero => simp at hu hy; subst hu hy; exact h
  | succ i => simp at hu⟩

theorem RepR.append {cs cs' : List Value} {ts ts' : List T} (h : RepR w cs ts) (h' : RepR w cs' ts') : RepR w (cs ++ cs') (ts ++ ts') := by
  refine ⟨by simp [h.1, h'.1], fun i v x hv hx => ?_⟩
  rw [List.getElem?_append] at hv hx
  rw [h.1] at hx
  split at hv
  · rename_i hlt
    rw [if_pos hlt] at hx
    exact h.2 i v x hv hx
  · rename_i hlt
    rw [if_neg hlt] at hx
    exact h'.2 _ v x hv hx

theorem mapM_each {α γ : Type} {f : α → Option γ} : ∀ {l : List α} {r : List γ}, l.mapM f = some r → r.length = l.length ∧ ∀ (i : Nat) x, l[i]? = some x → ∃ y, r[i]? = some y ∧ f x = some y
  | [], r, h => by
    simp at h; subst h
    exact ⟨rfl, fun i x hx => by simp at hx⟩
  | a :: l, r, h => by
    simp only [List.mapM_cons, Option.bind_eq_bind, Option.pure_def, Option.bind_eq_some_iff, Option.some.injEq] at h
    obtain ⟨y, hy, ys, hys, rfl⟩ := h
    obtain ⟨h1, h2⟩ := mapM_each hys
    refine ⟨by simp [h1], fun i x hx => ?_⟩
    cases i with
    | zero => simp at hx; subst hx; exact ⟨y, rfl, hy⟩
    | succ i => simp at hx; simpa using h2 i x hx

/-- a row of types, each with a tree for its part -/
theorem row_trees {wf : TypeId → List T → Prop} {size : TypeId → Nat} {cs0 : List Value} : ∀ (l : List TypeId) (o : Nat),
    (∀ (i : Nat) t, l[i]? = some t → ∃ ts, RepR w ((cs0.drop (o + ((l.take i).map size).sum)).take (size t)) ts ∧ wf t ts) → cs0.length = o + (l.map size).sum →
    ∃ ts, RepR w (cs0.drop o) ts ∧ WfRow wf size l ts
  | [], o, _, hlen => by
    have : cs0.drop o = [] := List.drop_eq_nil_of_le (by simp at hlen; omega)
    rw [this]
    exact ⟨[], ⟨rfl, fun i v x hv => by simp at hv⟩, rfl⟩
  | t :: l, o, h, hlen => by
    simp only [List.map_cons, List.sum_cons] at hlen
    obtain ⟨a, ha, hwa⟩ := h 0 t rfl
    obtain ⟨b, hb, hwb⟩ := row_trees (wf := wf) (size := size) l (o + size t) (fun i u hu => by
      have := h (i + 1) u (by simpa using hu)
      simpa [Nat.add_assoc] using this) (by omega)
    simp only [List.take_zero, List.map_nil, List.sum_nil, Nat.add_zero] at ha
    refine ⟨a ++ b, ?_, a, b, rfl, ?_, hwa, hwb⟩
    · have : cs0.drop o = (cs0.drop o).take (size t) ++ cs0.drop (o + size t) := by
        rw [← List.drop_drop, List.take_append_drop]
      rw [this]
      exact ha.append hb
    · rw [ha.1]; simp; omega

theorem rowAt_spec : ∀ {fs : List Field} {o e : Nat}, rowAt P o fs e = true → e = o + ((fs.map (·.type)).map P.cellsOf).sum ∧ ∀ (i : Nat) f, fs[i]? = some f → f.offset = o + (((fs.map (·.type)).take i).map P.cellsOf).sum
  | [], o, e, h => by
    simp [rowAt] at h
    exact ⟨by simp [h], fun i f hf => by simp at hf⟩
  | f :: fs, o, e, h => by
    simp [rowAt] at h
    obtain ⟨h1, h2⟩ := rowAt_spec h.2
    refine ⟨by simp [h1]; omega, fun i g hg => ?_⟩
    cases i with
    | zero => simp at hg; subst hg; simp [h.1]
    | succ i =>
      simp at hg
      rw [h2 i g hg]
      simp; omega

theorem cells_spec {a : Addr} {n : Nat} {cs : List Value} (h : w.cells? 0 a n = some cs) : cs.length = n ∧ ∀ (i : Nat) v, cs[i]? = some v → w.cell? (a.add i) = some v := by
  unfold World.cells? at h
  rw [if_pos (Nat.zero_le _)] at h
  obtain ⟨h1, h2⟩ := mapM_each h
  refine ⟨by simpa using h1, fun i v hv => ?_⟩
  have hi : i < n := by have := (List.getElem?_eq_some_iff.1 hv).1; simpa [h1] using this
  obtain ⟨y, hy, hc⟩ := h2 i i (by simp [hi])
  rw [hv] at hy
  cases hy
  exact hc

theorem trod_tree {H : Type} {enc : TypeId × Value → H} {spare : Nat → Bool} {held : Bool} : ∀ (k fuel : Nat) (t : TypeId) (cs : List Value) (d : DataW H) (ps : List MemPlace), plainT P k t = true →
    DataW.trod enc P w 0 spare held fuel t cs = some (d, ps) → ∃ ts, RepR w cs ts ∧ Wf P k t ts := by
  intro k
  induction k with
  | zero => intro fuel t cs d ps hp; simp [plainT] at hp
  | succ k ih =>
    intro fuel t cs d ps hp hd
    unfold plainT at hp
    unfold Wf
    cases hu : P.underlying t with
    | none => simp [hu] at hp
    | some u =>
      simp only [hu] at hp ⊢
      cases u <;> simp only [Bool.false_eq_true] at hp
      case bool =>
        obtain ⟨b, rfl, _⟩ := DataW.trod_bool hu hd
        exact ⟨_, .one (.v rfl), b, rfl⟩
      case int kd =>
        obtain ⟨n, rfl, _, hw⟩ := DataW.trod_int hu hd
        exact ⟨_, .one (.v rfl), n, rfl, hw⟩
      case string =>
        obtain ⟨s, rfl, _, hs⟩ := DataW.trod_string hu hd
        exact ⟨_, .one (.v rfl), s, rfl, hs⟩
      case struct fs =>
        simp only [Bool.and_eq_true, List.all_eq_true] at hp
        obtain ⟨xs, n, rfl, _, hl, hxl, hf⟩ := DataW.trod_struct hu hd
        obtain ⟨r1, r2⟩ := rowAt_spec hp.1
        obtain ⟨ts, h1, h2⟩ := row_trees (w := w) (cs0 := cs) (wf := Wf P k) (size := P.cellsOf) (fs.toList.map (·.type)) 0 (fun i ty hty => by
          rw [List.getElem?_map] at hty
          obtain ⟨f, hfi, rfl⟩ := Option.map_eq_some_iff.1 hty
          have hoff := r2 i f hfi
          have hfi' : fs[i]? = some f := by simpa using hfi
          have hx := hf i f hfi'
          have hlt : i < xs.length := by rw [hxl]; exact (Array.getElem?_eq_some_iff.1 hfi').1
          rw [List.getElem?_eq_getElem hlt] at hx
          rw [hoff] at hx
          exact ih n f.type _ _ _ (hp.2 f (List.mem_of_getElem? hfi)) hx) (by rw [hl]; exact r1)
        exact ⟨ts, by simpa using h1, h2⟩
      case array n e =>
        simp only [Bool.and_eq_true, beq_iff_eq] at hp
        obtain ⟨xs, m, rfl, _, hl, hxl, hf⟩ := DataW.trod_array hu hd
        obtain ⟨ts, h1, h2⟩ := row_trees (w := w) (cs0 := cs) (wf := Wf P k) (size := P.cellsOf) (List.replicate n e) 0 (fun i ty hty => by
          have hi : i < n := by have := (List.getElem?_eq_some_iff.1 hty).1; simpa using this
          have : ty = e := by rw [List.getElem?_replicate] at hty; simp [hi] at hty; exact hty.symm
          subst this
          have hx := hf i hi
          rw [List.getElem?_eq_getElem (by omega)] at hx
          have hs : (((List.replicate n ty).take i).map P.cellsOf).sum = i * P.cellsOf ty := by
            rw [List.take_replicate, List.map_replicate, List.sum_replicate_nat, Nat.min_eq_left (by omega)]
          rw [hs, Nat.zero_add]
          exact ih m ty _ _ _ hp.2 hx) (by rw [hl, List.map_replicate, List.sum_replicate_nat]; omega)
        exact ⟨ts, by simpa using h1, h2⟩
      case slice e =>
        simp only [Bool.and_eq_true, decide_eq_true_eq] at hp
        rcases DataW.trod_slice hu hd with ⟨rfl, _⟩ | ⟨a, len, cap, elems, rest, n, rfl, rfl, _, _, hlc, hcm, hel, hall, _⟩
        · exact ⟨_, .one (.sl (es := []) (fun _ => Go.undef) (by simp) (by simp) (by simp) (by simp)), [], rfl, by simp, by simp⟩
        · have each : ∀ i, ∃ ts, i < len → ∃ csi, w.cells? 0 (a.add (i * P.cellsOf e)) (P.cellsOf e) = some csi ∧ RepR w csi ts ∧ Wf P k e ts := fun i => by
            by_cases hi : i < len
            · have hx := hall i hi
              rw [List.getElem?_eq_getElem (by omega)] at hx
              obtain ⟨csi, hc1, hc2⟩ := Option.bind_eq_some_iff.1 hx
              obtain ⟨ts, h1, h2⟩ := ih n e csi _ _ hp.2 hc2
              exact ⟨ts, fun _ => ⟨csi, hc1, h1, h2⟩⟩
            · exact ⟨[], fun h => absurd h hi⟩
          obtain ⟨g, hg⟩ := Classical.axiomOfChoice each
          have hgl : ∀ i, i < len → (g i).length = P.cellsOf e := fun i hi => by
            obtain ⟨csi, hc1, h1, _⟩ := hg i hi
            rw [h1.1, (cells_spec hc1).1]
          have hes : ∀ x ∈ (List.range len).map g, x.length = P.cellsOf e := fun x hx => by
            simp only [List.mem_map, List.mem_range] at hx
            obtain ⟨i, hi, rfl⟩ := hx
            exact hgl i hi
          have cell : ∀ i c, ((List.range len).map g).flatten[i]? = some c → ∃ v, a.spot = none ∧ a.block < w.heap.size ∧ w.cell? ⟨a.block, a.off + i, none⟩ = some v ∧ RepT w (All w) v c := fun m c hm => by
            have hlt : m < len * P.cellsOf e := by
              have := (List.getElem?_eq_some_iff.1 hm).1
              rw [flatten_length _ hes] at this
              simpa using this
            have hi : m / P.cellsOf e < len := Nat.div_lt_of_lt_mul (by rw [Nat.mul_comm]; exact hlt)
            have hj : m % P.cellsOf e < P.cellsOf e := Nat.mod_lt _ hp.1
            obtain ⟨csi, hc1, h1, _⟩ := hg _ hi
            obtain ⟨cl, cc⟩ := cells_spec hc1
            have hgj : (g (m / P.cellsOf e))[m % P.cellsOf e]? = some ((g (m / P.cellsOf e))[m % P.cellsOf e]'(by rw [hgl _ hi]; exact hj)) := List.getElem?_eq_getElem _
            have hcj : csi[m % P.cellsOf e]? = some (csi[m % P.cellsOf e]'(by rw [cl]; exact hj)) := List.getElem?_eq_getElem _
            have hfe := flatten_elem hes (i := m / P.cellsOf e) (by simp [hi]) hgj
            rw [Nat.div_add_mod' m (P.cellsOf e), hm] at hfe
            have hce := cc _ _ hcj
            have hrep := h1.2 _ _ _ hcj hgj
            rw [← Option.some.inj hfe] at hrep
            have hspot : a.spot = none := by
              obtain ⟨cs0, hc0, _⟩ := hg 0 (Nat.lt_of_le_of_lt (Nat.zero_le _) hi)
              obtain ⟨cl0, cc0⟩ := cells_spec hc0
              have := cc0 0 _ (List.getElem?_eq_getElem (by rw [cl0]; exact hp.1))
              simp [Addr.add] at this
              exact World.cell?_spot this
            obtain ⟨b, o, sp⟩ := a
            simp only at hspot
            subst hspot
            rw [add_none, add_none, Nat.add_assoc, Nat.div_add_mod' m (P.cellsOf e)] at hce
            refine ⟨_, rfl, ?_, hce, hrep⟩
            simp only
            unfold World.cell? at hce
            split at hce
            · rename_i heq
              exact (Array.getElem?_eq_some_iff.1 heq).1
            · cases hce
          refine ⟨[.sl (P.cellsOf e) ((List.range len).map g)], .one ?_, _, rfl, by simp; omega, fun x hx => ?_⟩
          · have := RepT.sl (w := w) (I := All w) (a := some a) (cap := cap) (sz := P.cellsOf e) (es := (List.range len).map g) (fun m => (w.cell? ⟨a.block, a.off + m, none⟩).getD Go.undef) (by simpa using hlc) hes (fun i c hc => by
              obtain ⟨v, h1, h2, h3, _⟩ := cell i c hc
              refine ⟨a.block, a.off, ?_, h2, by rw [h3]; rfl⟩
              obtain ⟨b, o, sp⟩ := a
              simp only at h1
              subst h1; rfl) (fun i c hc => by
              obtain ⟨v, _, _, h3, h4⟩ := cell i c hc
              rw [h3]; exact h4)
            simpa using this
          · simp only [List.mem_map, List.mem_range] at hx
            obtain ⟨i, hi, rfl⟩ := hx
            obtain ⟨_, _, _, h2⟩ := hg i hi
            exact h2

end
end Go.Pur
