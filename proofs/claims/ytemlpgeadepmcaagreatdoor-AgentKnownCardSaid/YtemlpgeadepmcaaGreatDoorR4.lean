/-
  A part of a proved evaluator for closed runs. No conditions.
-/
import Derived.Test.YtemlpgeadepmcaaGreatDoorR3
namespace Go.Rn
open Go Go.RowKit
set_option linter.unusedVariables false

/-! ### trees, worked out as they are made -/
def T.catK {β : Type} : T → T → (T → β) → β
  | .nl, b, K => K b
  | .lf x, b, K => match b with
    | .nl => K (.lf x)
    | .lf y => K (.nd 2 (.lf x) (.lf y))
    | .nd s a c => forceN (s + 1) fun n => K (.nd n (.lf x) (.nd s a c))
  | .nd s a1 a2, b, K => match b with
    | .nl => K (.nd s a1 a2)
    | .lf y => match Nat.ble (a2.size + 1) a1.size with
      | true => a2.catK (.lf y) fun c => forceN (s + 1) fun n => K (.nd n a1 c)
      | false => forceN (s + 1) fun n => K (.nd n (.nd s a1 a2) (.lf y))
    | .nd s' b1 b2 => match Nat.ble (a2.size + s') a1.size with
      | true => a2.catK (.nd s' b1 b2) fun c => forceN (s + s') fun n => K (.nd n a1 c)
      | false => forceN (s + s') fun n => K (.nd n (.nd s a1 a2) (.nd s' b1 b2))

theorem T.catK_eq {β : Type} : ∀ (a b : T) (K : T → β), a.catK b K = K (a.cat b)
  | .nl, b, K => rfl
  | .lf x, .nl, K => rfl
  | .lf x, .lf y, K => rfl
  | .lf x, .nd s a c, K => by simp only [T.catK, forceN_eq]; rfl
  | .nd s a1 a2, .nl, K => rfl
  | .nd s a1 a2, .lf y, K => by
    have e : (T.nd s a1 a2).cat (.lf y) = match Nat.ble (a2.size + 1) a1.size with
      | true => .nd (s + 1) a1 (a2.cat (.lf y))
      | false => .nd (s + 1) (.nd s a1 a2) (.lf y) := rfl
    rw [e]
    simp only [T.catK, forceN_eq]
    cases Nat.ble (a2.size + 1) a1.size with
    | true => simp only; rw [T.catK_eq]
    | false => rfl
  | .nd s a1 a2, .nd s' b1 b2, K => by
    have e : (T.nd s a1 a2).cat (.nd s' b1 b2) = match Nat.ble (a2.size + s') a1.size with
      | true => .nd (s + s') a1 (a2.cat (.nd s' b1 b2))
      | false => .nd (s + s') (.nd s a1 a2) (.nd s' b1 b2) := rfl
    rw [e]
    simp only [T.catK, forceN_eq]
    cases Nat.ble (a2.size + s') a1.size with
    | true => simp only; rw [T.catK_eq]
    | false => rfl

def T.takeK {β : Type} : T → Nat → (T → β) → β
  | .nl, _, K => K .nl
  | .lf x, k, K => match k with
    | 0 => K .nl
    | _ + 1 => K (.lf x)
  | .nd s a b, k, K => match Nat.ble s k with
    | true => K (.nd s a b)
    | false => match Nat.ble k a.size with
      | true => a.takeK k K
      | false => b.takeK (k - a.size) fun c => a.catK c K

theorem T.takeK_eq {β : Type} : ∀ (t : T) (k : Nat) (K : T → β), t.takeK k K = K (t.take k)
  | .nl, _, _ => rfl
  | .lf x, k, K => by cases k <;> rfl
  | .nd s a b, k, K => by
    simp only [T.takeK, T.take]
    cases Nat.ble s k with
    | true => rfl
    | false =>
      simp only
      cases Nat.ble k a.size with
      | true => simp only; rw [T.takeK_eq]
      | false => simp only; rw [T.takeK_eq, T.catK_eq]

def T.dropK {β : Type} : T → Nat → (T → β) → β
  | .nl, _, K => K .nl
  | .lf x, k, K => match k with
    | 0 => K (.lf x)
    | _ + 1 => K .nl
  | .nd s a b, k, K => match k with
    | 0 => K (.nd s a b)
    | k + 1 => match Nat.ble a.size (k + 1) with
      | true => b.dropK (k + 1 - a.size) K
      | false => a.dropK (k + 1) fun c => c.catK b K

theorem T.dropK_eq {β : Type} : ∀ (t : T) (k : Nat) (K : T → β), t.dropK k K = K (t.drop k)
  | .nl, _, _ => rfl
  | .lf x, k, K => by cases k <;> rfl
  | .nd s a b, 0, K => rfl
  | .nd s a b, k + 1, K => by
    simp only [T.dropK, T.drop]
    cases Nat.ble a.size (k + 1) with
    | true => simp only; rw [T.dropK_eq]
    | false => simp only; rw [T.dropK_eq, T.catK_eq]

/-- Cells from a place on, so many. -/
def T.cut (t : T) (off n : Nat) : T := (t.drop off).take n
def T.cutK {β : Type} (t : T) (off n : Nat) (K : T → β) : β := t.dropK off fun d => d.takeK n K
theorem T.cutK_eq {β : Type} (t : T) (off n : Nat) (K : T → β) : t.cutK off n K = K (t.cut off n) := by simp only [T.cutK, T.dropK_eq, T.takeK_eq, T.cut]

theorem T.cut_spec {t : T} (h : t.wf) (off n : Nat) : (t.cut off n).list = (t.list.drop off).take n ∧ (t.cut off n).wf := by
  have h1 := T.drop_spec h off
  have h2 := T.take_spec h1.2 n
  exact ⟨by rw [T.cut, h2.1, h1.1], h2.2⟩

def setL {β : Type} : List Sc → T → Nat → (T → β) → β
  | [], t, _, K => K t
  | x :: l, t, i, K => t.setK i x fun t' => setL l t' (i + 1) K

/-- Cells laid over others. -/
def T.layK {β : Type} (t : T) (off : Nat) (x : T) (K : T → β) : β :=
  match Nat.beq x.size t.size with
  | true => K x
  | false => match Nat.ble x.size 24 with
    | true => setL x.list t off K
    | false => t.takeK off fun a => t.dropK (off + x.size) fun c => a.catK x fun y => y.catK c K

def layL (l : List Sc) (off : Nat) (x : List Sc) : List Sc := l.take off ++ (x ++ l.drop (off + x.length))

theorem set_take_drop {l : List Sc} {i : Nat} {x : Sc} (h : i < l.length) : l.set i x = l.take i ++ x :: l.drop (i + 1) := by
  rw [List.set_eq_take_append_cons_drop, if_pos h]

theorem T.setK_id (x : Sc) : ∀ (t : T) {β : Type} (i : Nat) (K : T → β), t.setK i x K = K (t.setK i x fun t => t)
  | .nl, _, _, _ => rfl
  | .lf y, _, i, K => by cases i <;> rfl
  | .nd s a b, _, i, K => by
    simp only [T.setK]
    split
    · rw [T.setK_id x a i (fun a' => K (.nd s a' b)), T.setK_id x a i (fun a' => T.nd s a' b)]
    · rw [T.setK_id x b (i - a.size) (fun b' => K (.nd s a b')), T.setK_id x b (i - a.size) (fun b' => T.nd s a b')]

theorem setL_spec {β : Type} : ∀ (l : List Sc) {t : T} (_ : t.wf) (i : Nat), i + l.length ≤ t.size → ∃ t', (∀ K : T → β, setL l t i K = K t') ∧ t'.list = layL t.list i l ∧ t'.wf ∧ t'.size = t.size
  | [], t, h, i, hi => ⟨t, fun _ => rfl, by simp [layL], h, rfl⟩
  | x :: l, t, h, i, hi => by
    simp only [List.length_cons] at hi
    obtain ⟨t1, hh, h2, h3, h4⟩ := T.setK_spec h i x (fun t => t)
    have h1' : ∀ K : T → β, t.setK i x K = K t1 := fun K => by rw [T.setK_id, hh]
    obtain ⟨t2, g1, g2, g3, g4⟩ := setL_spec (β := β) l h3 (i + 1) (by omega)
    refine ⟨t2, fun K => by simp only [setL]; rw [h1', g1], ?_, g3, by rw [g4, h4]⟩
    have hl := T.length h
    rw [g2, h2]
    unfold layL
    rw [set_take_drop (by omega)]
    have e1 : (t.list.take i ++ x :: t.list.drop (i + 1)).take (i + 1) = t.list.take i ++ [x] := by
      rw [List.take_append, List.length_take, Nat.min_eq_left (by omega), show i + 1 - i = 1 by omega, List.take_of_length_le (by simp; omega)]
      simp
    have e2 : (t.list.take i ++ x :: t.list.drop (i + 1)).drop (i + 1 + l.length) = t.list.drop (i + (l.length + 1)) := by
      rw [List.drop_append, List.length_take, Nat.min_eq_left (by omega), show i + 1 + l.length - i = l.length + 1 by omega, List.drop_of_length_le (by simp; omega)]
      simp only [List.drop_succ_cons, List.nil_append, List.drop_drop]
      congr 1; omega
    rw [e1, e2]
    simp

theorem T.layK_spec {β : Type} {t x : T} (ht : t.wf) (hx : x.wf) {off : Nat} (h : off + x.size ≤ t.size) :
    ∃ t', (∀ K : T → β, t.layK off x K = K t') ∧ t'.list = layL t.list off x.list ∧ t'.wf ∧ t'.size = t.size := by
  have hl := T.length ht
  have hlx := T.length hx
  unfold T.layK
  split
  · rename_i he
    have he := Nat.eq_of_beq_eq_true he
    refine ⟨x, fun _ => rfl, ?_, hx, he⟩
    have : off = 0 := by omega
    subst this
    simp [layL, List.drop_of_length_le (show t.list.length ≤ x.list.length by omega)]
  · split
    · obtain ⟨t', h1, h2, h3, h4⟩ := setL_spec (β := β) x.list ht off (by omega)
      exact ⟨t', h1, h2, h3, h4⟩
    · have a1 := T.take_spec ht off
      have a2 := T.drop_spec ht (off + x.size)
      have a3 := T.cat_spec a1.2 hx
      have a4 := T.cat_spec a3.2.1 a2.2
      refine ⟨_, fun K => by simp only [T.takeK_eq, T.dropK_eq, T.catK_eq], ?_, a4.2.1, ?_⟩
      · rw [a4.1, a3.1, a1.1, a2.1]; simp [layL, hlx]
      · rw [← T.length a4.2.1, a4.1, a3.1, a1.1, a2.1]
        simp; omega

theorem layL_ok {D : Nm} {l x : List Sc} {off : Nat} (hl : ∀ y ∈ l, y.ok D) (hx : ∀ y ∈ x, y.ok D) : ∀ y ∈ layL l off x, y.ok D := by
  intro y hy
  unfold layL at hy
  rcases List.mem_append.1 hy with h | h
  · exact hl y (List.mem_of_mem_take h)
  · rcases List.mem_append.1 h with h | h
    · exact hx y h
    · exact hl y (List.mem_of_mem_drop h)

/-! ### tables -/
structure TI where
  sz : Nat
  bytes : Nat
  agg : Bool
  desc : TypeDesc
  zero : T

structure Tab where
  ty : Nat → Option TI
  fn : Nat → Option Func
  gl : Nat → Option Nat

def isAggD : TypeDesc → Bool
  | .struct _ => true
  | .array _ _ => true
  | _ => false

def plainT (t : T) : Prop := t.ok fun _ => False

structure TyOk (P : Program) (t : Nat) (i : TI) : Prop where
  info : ∃ q, P.info? t = some q ∧ q.size = i.sz ∧ q.bytes = i.bytes ∧ ∃ z, q.zero = some z ∧ (∀ μ, z.cells.toList = i.zero.vals μ) ∧ (i.agg = true → ∀ μ, z = .agg (i.zero.vals μ).toArray) ∧ (i.agg = false → ∀ μ, i.zero.vals μ = [z])
  und : P.underlying t = some i.desc
  agg : i.agg = isAggD i.desc
  zsz : i.zero.size = i.sz
  zok : plainT i.zero

structure TabOk (P : Program) (tb : Tab) : Prop where
  ty : ∀ t i, tb.ty t = some i → TyOk P t i
  fn : ∀ f fn, tb.fn f = some fn → P.funcs[f]? = some fn ∧ fn.body.isSome = true ∧ ∀ args w, (callFunc f args).run P w = .ok (.enter f args) w

section
variable {P : Program} {w0 w w' : World} {D D' : Nm} {μ μ' : Mu} {H H' : Tr Blk}

theorem TyOk.size {t : Nat} {i : TI} (h : TyOk P t i) : szT P t = some i.sz := by
  obtain ⟨q, h1, h2, _⟩ := h.info
  simp [szT, h1, h2]
theorem TyOk.run_size {t : Nat} {i : TI} (h : TyOk P t i) (w : World) : (sizeOf t).run P w = .ok i.sz w := by
  obtain ⟨q, h1, h2, _⟩ := h.info
  simp [sizeOf, typeInfo, h1, h2]
theorem TyOk.run_und {t : Nat} {i : TI} (h : TyOk P t i) (w : World) : (underlying t).run P w = .ok i.desc w := run_underlying h.und w
theorem TyOk.run_agg {t : Nat} {i : TI} (h : TyOk P t i) (w : World) : (isAgg t).run P w = .ok i.agg w := by
  unfold isAgg
  rw [Sem.run_bind, h.run_und, h.agg]
  simp only [Result.andThen_ok]
  cases i.desc <;> rfl
theorem TyOk.run_zero {t : Nat} {i : TI} (h : TyOk P t i) (w : World) : ∃ z, (zeroValue t).run P w = .ok z w ∧ ∀ μ, z.cells.toList = i.zero.vals μ := by
  obtain ⟨q, h1, h2, _, z, h3, h4, _⟩ := h.info
  exact ⟨z, by simp [zeroValue, typeInfo, h1, h3], h4⟩
theorem TyOk.run_zero2 {t : Nat} {i : TI} (h : TyOk P t i) : ∃ z, (∀ w, (zeroValue t).run P w = .ok z w) ∧ (i.agg = true → ∀ μ, z = .agg (i.zero.vals μ).toArray) ∧ (i.agg = false → ∀ μ, i.zero.vals μ = [z]) := by
  obtain ⟨q, h1, h2, _, z, h3, _, h4⟩ := h.info
  exact ⟨z, fun w => by simp [zeroValue, typeInfo, h1, h3], h4⟩
theorem TyOk.run_bytes {t : Nat} {i : TI} (h : TyOk P t i) (w : World) : ∃ q, (typeInfo t).run P w = .ok q w ∧ q.bytes = i.bytes := by
  obtain ⟨q, h1, h2, h3, _⟩ := h.info
  exact ⟨q, by simp [typeInfo, h1], h3⟩
theorem plainT.ok {t : T} (h : plainT t) : t.ok D := ⟨h.1, fun x hx => by
  have := h.2 x hx
  cases x with
  | v x => exact this
  | p k off => exact this.elim
  | s k off len cap op => exact this.elim
  | m k => exact this.elim
  | f fn cap =>
    intro c hc; exact (this c hc).elim
  | y l => exact this.elim
  | z k o1 o2 => exact this.elim⟩

/-! ### loads -/
/-- Cells that lie in memory. -/
def Lies (w : World) (b o : Nat) (l : List Value) : Prop := ∀ (j : Nat) (v : Value), l[j]? = some v → w.cell? ⟨b, o + j, none⟩ = some v

theorem Lies.sub {b o : Nat} {l : List Value} (h : Lies w b o l) (off n : Nat) : Lies w b (o + off) ((l.drop off).take n) := by
  intro j v hv
  rw [List.getElem?_take] at hv
  split at hv
  · rw [List.getElem?_drop] at hv
    rw [Nat.add_assoc]; exact h (off + j) v hv
  · cases hv

theorem T.vals_cut {t : T} (h : t.wf) (off n : Nat) : (t.cut off n).vals μ = ((t.vals μ).drop off).take n := by
  simp [T.vals, (T.cut_spec h off n).1, List.map_take, List.map_drop]

theorem T.cut_ok {t : T} (h : t.ok D) (off n : Nat) : (t.cut off n).ok D := by
  have h1 := T.cut_spec h.1 off n
  refine ⟨h1.2, fun x hx => ?_⟩
  rw [h1.1] at hx
  exact h.2 x (List.mem_of_mem_drop (List.mem_of_mem_take hx))

theorem Blk.lies {k : Nat} {b : Blk} {t : T} (M : MemR P w0 D μ H w) (hk : H.get k = some b) (hb : (∃ ty op, b = .c ty t op) ∨ b = .gl t) : Lies w (μ k).1 (μ k).2.1 (t.vals μ) ∧ t.ok D := by
  have h := M.ok k b hk
  rcases hb with ⟨ty, op, rfl⟩ | rfl
  · obtain ⟨h1, pre, post, h2, h3, _⟩ := h
    refine ⟨fun j v hv => ?_, h1⟩
    have hj := (List.getElem?_eq_some_iff.1 hv).1
    simp only [World.cell?, h2, Option.isSome_none, Bool.false_eq_true, if_false]
    simp only [List.getElem?_toArray]
    rw [List.getElem?_append_right (by omega), h3, Nat.add_sub_cancel_left, List.getElem?_append_left hj]
    exact hv
  · exact ⟨h.2, h.1⟩

theorem run_loadCells {b o : Nat} {l : List Value} (h : Lies w b o l) : (loadCells ⟨b, o, none⟩ l.length).run P w = .ok l.toArray w :=
  run_loadCells_list (P := P) w ⟨b, o, none⟩ l (fun j v hv => by rw [Addr.add_mid]; exact h j v hv)

def ldT {β : Type} (bad : β) (i : TI) (t : T) (off : Nat) (K : GV → β) : β := match i.agg with
  | true => t.cutK off i.sz fun d => match Nat.beq d.size i.sz with
    | true => K (.a d)
    | false => bad
  | false => match t.get off with
    | some x => K (.s x)
    | none => bad

/-- What a load of a variable comes to. -/
theorem ldT_spec {β : Type} {bad : β} {ty : Nat} {i : TI} (hi : TyOk P ty i) {t : T} (ht : t.ok D) {b o off : Nat} (hl : Lies w b o (t.vals μ)) (K : GV → β) :
    ldT bad i t off K = bad ∨ ∃ x : GV, ldT bad i t off K = K x ∧ x.ok D ∧ (loadVar ty ⟨b, o + off, none⟩).run P w = .ok (x.val μ) w := by
  unfold ldT
  split
  · rename_i ha
    rw [T.cutK_eq]
    split
    · rename_i hs
      have hs := Nat.eq_of_beq_eq_true hs
      refine .inr ⟨_, rfl, T.cut_ok ht off i.sz, ?_⟩
      have hl2 : Lies w b (o + off) ((t.cut off i.sz).vals μ) := by rw [T.vals_cut ht.1]; exact hl.sub off i.sz
      have hlen : ((t.cut off i.sz).vals μ).length = i.sz := by rw [T.vals_length (T.cut_spec ht.1 off i.sz).2, hs]
      have := run_loadCells (P := P) hl2
      rw [hlen] at this
      simp only [loadVar, Sem.run_bind, hi.run_agg, ha, Result.andThen_ok, if_true, hi.run_size, this]
      rfl
    · exact .inl rfl
  · rename_i ha
    split
    · rename_i x hx
      rw [T.get_spec ht.1] at hx
      refine .inr ⟨_, rfl, ht.2 x (List.mem_of_getElem? hx), ?_⟩
      have := hl off (x.val μ) (by simp [T.vals, hx])
      simp only [loadVar, Sem.run_bind, hi.run_agg, ha, Result.andThen_ok, Bool.false_eq_true, if_false]
      simp [load, Sem.run, this, GV.val]
    · exact .inl rfl

/-! ### stores -/
theorem setCell_setB {b i : Nat} {C : List Value} {ty : TypeId} {v : Value} (h : w.heap[b]? = some (.cells C.toArray ty (0, 0))) :
    w.setCell ⟨b, i, none⟩ v = setB w b (.cells (C.set i v).toArray ty (0, 0)) := by
  unfold World.setCell setB
  congr 1
  apply Array.ext_getElem?
  intro k
  rw [Array.getElem?_modify, Array.getElem?_setIfInBounds]
  by_cases hk : b = k
  · subst hk
    have hb : b < w.heap.size := (Array.getElem?_eq_some_iff.1 h).1
    have h' : w.heap[b] = .cells C.toArray ty (0, 0) := by rw [Array.getElem?_eq_getElem hb] at h; injection h
    simp [hb, h']
  · simp [hk]

theorem cell_row {b : Nat} {C : Array Value} {ty : TypeId} (h : w.heap[b]? = some (.cells C ty (0, 0))) (i : Nat) : w.cell? ⟨b, i, none⟩ = C[i]? := by
  simp [World.cell?, h]

theorem run_storeCells_row : ∀ (vs : List Value) (o i : Nat) (w : World) (b : Nat) (C : List Value) (ty : TypeId), w.heap[b]? = some (.cells C.toArray ty (0, 0)) → o + i + vs.length ≤ C.length →
    (∀ v ∈ vs, v.oneCell' = true) →
    (storeCells ⟨b, o, none⟩ vs i).run P w = .ok () (setB w b (.cells (C.take (o + i) ++ (vs ++ C.drop (o + i + vs.length))).toArray ty (0, 0)))
  | [], o, i, w, b, C, ty, h, _, _ => by
    simp only [storeCells, List.nil_append, List.length_nil, Nat.add_zero, List.take_append_drop]
    rw [setB_same h]; rfl
  | v :: vs, o, i, w, b, C, ty, h, hl, h1 => by
    simp only [List.length_cons] at hl
    have hv : v.oneCell' = true := h1 v (by simp)
    have hst : (store ((⟨b, o, none⟩ : Addr).add i) v).run P w = .ok () (setB w b (.cells (C.set (o + i) v).toArray ty (0, 0))) := by
      rw [run_store P w _ v _ hv, Addr.add_mid, cell_row h]
      have hf : w.frozen? ⟨b, o + i, none⟩ = false := by simp [World.frozen?, h]
      have hc : C.toArray[o + i]? = some C[o + i] := by simp [show o + i < C.length by omega]
      rw [hc, hf]
      simp only [Bool.false_eq_true, if_false]
      rw [setCell_setB h]
    have hb : b < w.heap.size := (Array.getElem?_eq_some_iff.1 h).1
    have ih := run_storeCells_row vs o (i + 1) (setB w b (.cells (C.set (o + i) v).toArray ty (0, 0))) b (C.set (o + i) v) ty (setB_get_same hb) (by simp; omega) (fun u hu => h1 u (by simp [hu]))
    simp only [storeCells, Sem.run_bind, hst, Result.andThen_ok]
    rw [ih, setB_setB]
    congr 3
    apply congrArg
    have hlen : o + i < C.length := by omega
    rw [show o + (i + 1) = o + i + 1 by omega, List.length_cons, show o + i + 1 + vs.length = o + i + (vs.length + 1) by omega]
    rw [List.drop_set_of_lt (by omega)]
    rw [List.take_set, List.take_succ_eq_append_getElem hlen]
    rw [List.set_append_right _ _ (by simp; omega)]
    simp [Nat.min_eq_left (show o + i ≤ C.length by omega)]

theorem layL_map {l x : List Sc} {off : Nat} (f : Sc → Value) : (layL l off x).map f = (l.map f).take off ++ (x.map f ++ (l.map f).drop (off + x.length)) := by
  simp [layL]

/-- Cells stored into a block of the call's own. -/
theorem MemR.storeCells (M : MemR P w0 D μ H w) {k : Nat} {ty : TypeId} {t : T} {op : Bool} (hk : H.get k = some (.c ty t op)) {x : T} (hx : x.ok D) {off : Nat} (hs : off + x.size ≤ t.size) {t' : T} (ht' : t'.wf)
    (hl : t'.list = layL t.list off x.list) (hH : ∀ j, H'.get j = if j = k then some (.c ty t' op) else H.get j) :
    ∃ w', (storeCells ⟨(μ k).1, (μ k).2.1 + off, none⟩ (x.vals μ)).run P w = .ok () w' ∧ MemR P w0 D μ H' w' := by
  obtain ⟨h1, pre, post, h2, h3, h4⟩ := M.ok k _ hk
  have hxl : (x.vals μ).length = x.size := T.vals_length hx.1
  have htl : (t.vals μ).length = t.size := T.vals_length h1.1
  have hst := run_storeCells_row (P := P) (x.vals μ) ((μ k).2.1 + off) 0 w (μ k).1 (pre ++ (t.vals μ ++ post)) ty h2 (by simp; omega) (fun v hv => by
    obtain ⟨y, hy, rfl⟩ := List.mem_map.1 hv
    exact Sc.one (hx.2 y hy))
  have hb : (μ k).1 < w.heap.size := M.lt k _ hk
  refine ⟨_, hst, M.write hk rfl hH ?_⟩
  refine ⟨⟨ht', fun y hy => ?_⟩, pre, post, ?_, h3, h4⟩
  · rw [hl] at hy; exact layL_ok h1.2 hx.2 y hy
  · rw [setB_get_same hb]
    congr 3
    rw [Nat.add_zero, ← h3]
    have e : t'.vals μ = (t.vals μ).take off ++ (x.vals μ ++ (t.vals μ).drop (off + x.size)) := by
      unfold T.vals; rw [hl, layL_map, T.length hx.1]
    rw [e, hxl]
    rw [List.take_append, List.take_of_length_le (by omega : pre.length ≤ pre.length + off), Nat.add_sub_cancel_left]
    rw [List.take_append_of_le_length (by omega)]
    rw [List.drop_append, List.drop_of_length_le (by omega : pre.length ≤ pre.length + off + x.size), show pre.length + off + x.size - pre.length = off + x.size by omega]
    rw [List.drop_append_of_le_length (by omega)]
    simp
end
end Go.Rn
