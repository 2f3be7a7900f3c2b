/-
  A part of a proved evaluator for closed runs. No conditions.
-/
import Derived.Test.YtemlpgeadepmcaaGreatDoorR2
namespace Go.Rn
open Go Go.RowKit

/-- Where a name lies: block, offset; how many more elements there is room for than is known. -/
abbrev Mu := Nat → Nat × Nat × Nat
abbrev Nm := Nat → Prop

def at_ (μ : Mu) (k off : Nat) : Addr := ⟨(μ k).1, (μ k).2.1 + off, none⟩

def Sc.val (μ : Mu) : Sc → Value
  | .v x => x
  | .p k off => .pointer (some (at_ μ k off))
  | .s k off len cap op => .slice (some (at_ μ k off)) len (if op then cap + (μ k).2.2 else cap)
  | .m k => .map (some (μ k).1)
  | .f fn cap => .func (.func fn) #[] (cap.map fun c => .pointer (some (at_ μ c.1 c.2))).toArray
  | .y l => .func (.yield (μ l).1) #[] #[]
  | .z k o1 o2 => .slice (some (at_ μ k (if (μ k).2.2 = 0 then o1 else o2))) 0 (μ k).2.2

def Sc.ok (D : Nm) : Sc → Prop
  | .v x => x.oneCell' = true
  | .p k _ => D k
  | .s k _ _ _ _ => D k
  | .m k => D k
  | .f _ cap => ∀ c ∈ cap, D c.1
  | .y l => D l
  | .z k _ _ => D k

theorem Sc.one {D : Nm} {μ : Mu} {x : Sc} (h : x.ok D) : (x.val μ).oneCell' = true := by
  cases x <;> first | exact h | rfl

def T.vals (μ : Mu) (t : T) : List Value := t.list.map (Sc.val μ)
def T.ok (D : Nm) (t : T) : Prop := t.wf ∧ ∀ x ∈ t.list, x.ok D

def GV.val (μ : Mu) : GV → Value
  | .s x => x.val μ
  | .a t => .agg (t.vals μ).toArray
def GV.ok (D : Nm) : GV → Prop
  | .s x => x.ok D
  | .a t => t.ok D
def GV.tree : GV → T
  | .s x => .lf x
  | .a t => t

def AV.un : AV := .tu []

def AVr (D : Nm) (μ : Mu) : AV → Value → Prop
  | .any, _ => True
  | .g x, v => v = x.val μ ∧ x.ok D
  | .tu xs, v => v = .tuple (xs.map (GV.val μ)).toArray ∧ ∀ x ∈ xs, x.ok D

def TmR (D : Nm) (μ : Mu) (tm : Tr AV) (a : Array Value) : Prop := ∀ t x, tm.get t = some x → AVr D μ x (a.getD t undef)

def Sees (D D' : Nm) (μ μ' : Mu) : Prop := ∀ k, D k → D' k ∧ μ' k = μ k
theorem Sees.refl (D : Nm) (μ : Mu) : Sees D D μ μ := fun _ h => ⟨h, rfl⟩
theorem Sees.trans {D1 D2 D3 : Nm} {m1 m2 m3 : Mu} (h : Sees D1 D2 m1 m2) (h' : Sees D2 D3 m2 m3) : Sees D1 D3 m1 m3 := fun k hk =>
  ⟨(h' k (h k hk).1).1, (h' k (h k hk).1).2.trans (h k hk).2⟩

section
variable {D D' : Nm} {μ μ' : Mu}

theorem Sees.at_ (h : Sees D D' μ μ') {k : Nat} (hk : D k) (off : Nat) : at_ μ' k off = at_ μ k off := by unfold Rn.at_; rw [(h k hk).2]

theorem Sc.sees (h : Sees D D' μ μ') {x : Sc} (hx : x.ok D) : x.ok D' ∧ x.val μ' = x.val μ := by
  cases x with
  | v x => exact ⟨hx, rfl⟩
  | p k off => exact ⟨(h k hx).1, by simp only [Sc.val]; rw [h.at_ hx]⟩
  | s k off len cap op => exact ⟨(h k hx).1, by simp only [Sc.val]; rw [h.at_ hx, (h k hx).2]⟩
  | m k => exact ⟨(h k hx).1, by simp only [Sc.val]; rw [(h k hx).2]⟩
  | f fn cap =>
    refine ⟨fun c hc => (h c.1 (hx c hc)).1, ?_⟩
    simp only [Sc.val]
    congr 2
    exact List.map_congr_left fun c hc => by rw [h.at_ (hx c hc)]
  | y l => exact ⟨(h l hx).1, by simp only [Sc.val]; rw [(h l hx).2]⟩
  | z k o1 o2 => exact ⟨(h k hx).1, by simp only [Sc.val]; rw [h.at_ hx, (h k hx).2]⟩

theorem T.sees (h : Sees D D' μ μ') {t : T} (ht : t.ok D) : t.ok D' ∧ t.vals μ' = t.vals μ :=
  ⟨⟨ht.1, fun x hx => (Sc.sees h (ht.2 x hx)).1⟩, List.map_congr_left fun x hx => (Sc.sees h (ht.2 x hx)).2⟩

theorem GV.sees (h : Sees D D' μ μ') {x : GV} (hx : x.ok D) : x.ok D' ∧ x.val μ' = x.val μ := by
  cases x with
  | s x => exact Sc.sees h hx
  | a t => have := T.sees h (t := t) hx; exact ⟨this.1, by simp only [GV.val]; rw [this.2]⟩

theorem AVr.sees (h : Sees D D' μ μ') {x : AV} {v : Value} (hx : AVr D μ x v) : AVr D' μ' x v := by
  cases x with
  | any => trivial
  | g x => exact ⟨by rw [(GV.sees h hx.2).2]; exact hx.1, (GV.sees h hx.2).1⟩
  | tu xs =>
    refine ⟨?_, fun x hm => (GV.sees h (hx.2 x hm)).1⟩
    rw [hx.1]; congr 2
    exact List.map_congr_left fun x hm => ((GV.sees h (hx.2 x hm)).2).symm

theorem TmR.sees (h : Sees D D' μ μ') {tm : Tr AV} {a : Array Value} (ht : TmR D μ tm a) : TmR D' μ' tm a := fun t x hx => (ht t x hx).sees h

theorem T.vals_length {t : T} (h : t.wf) : (t.vals μ).length = t.size := by simp [T.vals, T.length h]

theorem GV.tree_ok {x : GV} (h : x.ok D) : x.tree.ok D := by
  cases x with
  | s x => exact ⟨trivial, fun y hy => by simp [GV.tree, T.list] at hy; subst hy; exact h⟩
  | a t => exact h

theorem GV.cells_val {x : GV} (h : x.ok D) : (x.val μ).cells.toList = x.tree.vals μ := by
  cases x with
  | s x =>
    have h1 : (x.val μ).oneCell' = true := Sc.one h
    simp only [GV.val, GV.tree, T.vals, T.list, List.map_cons, List.map_nil]
    generalize x.val μ = v at *
    cases v <;> simp_all [Value.cells, Value.oneCell']
  | a t => simp [GV.val, GV.tree, Value.cells]
end

/-! ### blocks -/
def szT (P : Program) (T : TypeId) : Option Nat := match P.info? T with
  | some i => some i.size
  | none => none

def LoopR.obj (r : LoopR) (μ : Mu) (tmps : Array Value) : Obj :=
  .loop { state := r.st, pending := r.pend, fn := r.fn, tmps, params := r.ps, assign := r.asg, body := r.body, defers := (μ r.df).1 }

def HoldsB (P : Program) (D : Nm) (μ : Mu) (w : World) (p : Nat × Nat × Nat) : Blk → Prop
  | .c ty t op => t.ok D ∧ ∃ pre post, w.heap[p.1]? = some (.cells (pre ++ (t.vals μ ++ post)).toArray ty (0, 0)) ∧ pre.length = p.2.1 ∧ (op = true → ∃ sz, szT P ty = some sz ∧ p.2.2 * sz ≤ post.length)
  | .gl t => t.ok D ∧ ∀ (j : Nat) (v : Value), (t.vals μ)[j]? = some v → w.cell? ⟨p.1, p.2.1 + j, none⟩ = some v
  | .mp es clock => (∀ e ∈ es, e.1.ok D ∧ e.2.1.ok D) ∧ w.heap[p.1]? = some (.map (es.map fun e => (⟨e.1.val μ, e.2.1.val μ, e.2.2⟩ : MapEntry)).toArray clock)
  | .lp r => D r.df ∧ ∃ tmps, w.heap[p.1]? = some (r.obj μ tmps) ∧ tmps.size = r.nt ∧ TmR D μ r.tm tmps
  | .df b => w.heap[p.1]? = some (.deferred (if b then some [] else none))
  | .si s pos => w.heap[p.1]? = some (.stringIter s pos)

def Blk.own : Blk → Bool
  | .gl _ => false
  | _ => true

structure MemR (P : Program) (w0 : World) (D : Nm) (μ : Mu) (H : Tr Blk) (w : World) : Prop where
  nm : ∀ k b, H.get k = some b → D k
  lt : ∀ k b, H.get k = some b → (μ k).1 < w.heap.size
  ok : ∀ k b, H.get k = some b → HoldsB P D μ w (μ k) b
  own : ∀ k b, H.get k = some b → b.own = true → w0.heap.size ≤ (μ k).1
  inj : ∀ k j b b', H.get k = some b → H.get j = some b' → b.own = true → k ≠ j → (μ k).1 ≠ (μ j).1
  fr : Below w0.heap.size w0 w

section
variable {P : Program} {w0 w w' : World} {D D' : Nm} {μ μ' : Mu} {H H' : Tr Blk}

theorem HoldsB.sees (h : Sees D D' μ μ') {p : Nat × Nat × Nat} {b : Blk} (hw : w'.heap[p.1]? = w.heap[p.1]?) (hb : HoldsB P D μ w p b) : HoldsB P D' μ' w' p b := by
  cases b with
  | c ty t op =>
    obtain ⟨h1, pre, post, h2, h3, h4⟩ := hb
    have := T.sees h h1
    exact ⟨this.1, pre, post, by rw [hw, h2, this.2], h3, h4⟩
  | gl t =>
    obtain ⟨h1, h2⟩ := hb
    have := T.sees h h1
    exact ⟨this.1, fun j v hv => by rw [this.2] at hv; rw [World.cell?_of_block (w := w) hw]; exact h2 j v hv⟩
  | mp es clock =>
    obtain ⟨h1, h2⟩ := hb
    refine ⟨fun e he => ⟨(GV.sees h (h1 e he).1).1, (GV.sees h (h1 e he).2).1⟩, ?_⟩
    rw [hw, h2]
    congr 3
    exact List.map_congr_left fun e he => by rw [(GV.sees h (h1 e he).1).2, (GV.sees h (h1 e he).2).2]
  | lp r =>
    obtain ⟨h1, tmps, h2, h3, h4⟩ := hb
    exact ⟨(h _ h1).1, tmps, by rw [hw, h2]; simp only [LoopR.obj]; rw [(h _ h1).2], h3, h4.sees h⟩
  | df b => exact hw.trans hb
  | si s pos => exact hw.trans hb

/-- Blocks as they were; what they hold is seen as before. -/
theorem MemR.sees (M : MemR P w0 D μ H w) (h : Sees D D' μ μ') (hw : ∀ k b, H.get k = some b → w'.heap[(μ k).1]? = w.heap[(μ k).1]?) (hs : w.heap.size ≤ w'.heap.size) (hf : Below w0.heap.size w0 w') : MemR P w0 D' μ' H w' where
  nm k b hb := (h k (M.nm k b hb)).1
  lt k b hb := by rw [(h k (M.nm k b hb)).2]; exact Nat.lt_of_lt_of_le (M.lt k b hb) hs
  ok k b hb := by
    have := (h k (M.nm k b hb)).2
    rw [this]; exact (M.ok k b hb).sees h (hw k b hb)
  own k b hb ho := by rw [(h k (M.nm k b hb)).2]; exact M.own k b hb ho
  inj k j b b' hb hb' ho hkj := by rw [(h k (M.nm k b hb)).2, (h j (M.nm j b' hb')).2]; exact M.inj k j b b' hb hb' ho hkj
  fr := hf

theorem MemR.drew (M : MemR P w0 D μ H w) : MemR P w0 D μ H w.drew := M.sees (Sees.refl D μ) (fun _ _ _ => rfl) (Nat.le_refl _) M.fr.drew

/-- Fewer blocks. -/
theorem MemR.less (M : MemR P w0 D μ H w) (h : ∀ k b, H'.get k = some b → H.get k = some b) : MemR P w0 D μ H' w where
  nm k b hb := M.nm k b (h k b hb)
  lt k b hb := M.lt k b (h k b hb)
  ok k b hb := M.ok k b (h k b hb)
  own k b hb := M.own k b (h k b hb)
  inj k j b b' hb hb' := M.inj k j b b' (h k b hb) (h j b' hb')
  fr := M.fr

def setB (w : World) (b : Nat) (o : Obj) : World := { w with heap := w.heap.setIfInBounds b o }
theorem setB_get_same {b : Nat} {o : Obj} (h : b < w.heap.size) : (setB w b o).heap[b]? = some o := by simp [setB, h]
theorem setB_get_other {b k : Nat} {o : Obj} (h : k ≠ b) : (setB w b o).heap[k]? = w.heap[k]? := by simp [setB, Ne.symm h]
theorem setB_size {b : Nat} {o : Obj} : (setB w b o).heap.size = w.heap.size := by simp [setB]
theorem setB_same {b : Nat} {o : Obj} (h : w.heap[b]? = some o) : setB w b o = w := by
  obtain ⟨hb, hv⟩ := Array.getElem?_eq_some_iff.1 h
  have : w.heap.setIfInBounds b o = w.heap := by
    subst hv; simp [Array.setIfInBounds, hb]
  simp [setB, this]
theorem setB_setB {b : Nat} {o o' : Obj} : setB (setB w b o) b o' = setB w b o' := by simp [setB]

theorem Below.setB (h : Below w0.heap.size w0 w) {b : Nat} (hb : w0.heap.size ≤ b) (o : Obj) : Below w0.heap.size w0 (setB w b o) :=
  h.trans ⟨rfl, rfl, rfl, by rw [setB_size]; exact Nat.le_refl _, fun k hk => setB_get_other (by omega)⟩

/-- A block of the call's own is replaced. -/
theorem MemR.write (M : MemR P w0 D μ H w) {k : Nat} {b b' : Blk} (hk : H.get k = some b) (ho : b.own = true) {o : Obj} (hH : ∀ j, H'.get j = if j = k then some b' else H.get j)
    (hb : HoldsB P D μ (setB w (μ k).1 o) (μ k) b') : MemR P w0 D μ H' (setB w (μ k).1 o) := by
  have old : ∀ j c, j ≠ k → H'.get j = some c → H.get j = some c := fun j c hj h => by rw [hH, if_neg hj] at h; exact h
  have new : ∀ c, H'.get k = some c → c = b' := fun c h => by rw [hH, if_pos rfl] at h; injection h with h; exact h.symm
  have apart : ∀ j c, j ≠ k → H.get j = some c → (μ j).1 ≠ (μ k).1 := fun j c hj h => (M.inj k j b c hk h ho (Ne.symm hj)).symm
  constructor
  · intro j c h
    by_cases hj : j = k
    · subst hj; exact M.nm j b hk
    · exact M.nm j c (old j c hj h)
  · intro j c h
    rw [setB_size]
    by_cases hj : j = k
    · subst hj; exact M.lt j b hk
    · exact M.lt j c (old j c hj h)
  · intro j c h
    by_cases hj : j = k
    · subst hj; rw [new c h]; exact hb
    · exact (M.ok j c (old j c hj h)).sees (Sees.refl D μ) (setB_get_other (apart j c hj (old j c hj h)))
  · intro j c h hc
    by_cases hj : j = k
    · subst hj; exact M.own j b hk ho
    · exact M.own j c (old j c hj h) hc
  · intro i j c d hi hj hc hij
    by_cases h1 : i = k
    · subst h1
      exact M.inj i j b d hk (old j d (Ne.symm hij) hj) ho hij
    · by_cases h2 : j = k
      · subst h2; exact apart i c h1 (old i c h1 hi)
      · exact M.inj i j c d (old i c h1 hi) (old j d h2 hj) hc hij
  · exact Below.setB M.fr (M.own k b hk ho) o

def ext (μ : Mu) (n : Nat) (p : Nat × Nat × Nat) : Mu := fun k => if k = n then p else μ k
def withN (D : Nm) (n : Nat) : Nm := fun k => k = n ∨ D k
theorem Sees.ext {n : Nat} {p : Nat × Nat × Nat} (h : ¬ D n) : Sees D (withN D n) μ (ext μ n p) := fun k hk =>
  ⟨.inr hk, by unfold Rn.ext; rw [if_neg]; rintro rfl; exact h hk⟩
theorem ext_new {n : Nat} {p : Nat × Nat × Nat} : ext μ n p n = p := by simp [ext]

/-- A new name, for a block that no live name has. -/
theorem MemR.name (M : MemR P w0 D μ H w) {n : Nat} (hn : ¬ D n) {b : Blk} {p : Nat × Nat × Nat} (hp : p.1 < w.heap.size) (hp0 : b.own = true ∧ w0.heap.size ≤ p.1) (hfree : ∀ k c, H.get k = some c → (μ k).1 ≠ p.1)
    (hH : ∀ j, H'.get j = if j = n then some b else H.get j) (hb : HoldsB P (withN D n) (ext μ n p) w p b) : MemR P w0 (withN D n) (ext μ n p) H' w := by
  have S : Sees D (withN D n) μ (Rn.ext μ n p) := Sees.ext hn
  have M' := M.sees S (fun _ _ _ => rfl) (Nat.le_refl _) M.fr
  have old : ∀ j c, j ≠ n → H'.get j = some c → H.get j = some c := fun j c hj h => by rw [hH, if_neg hj] at h; exact h
  have new : ∀ c, H'.get n = some c → c = b := fun c h => by rw [hH, if_pos rfl] at h; injection h with h; exact h.symm
  have hne : ∀ k c, H.get k = some c → k ≠ n := fun k c h e => hn (e ▸ M.nm k c h)
  constructor
  · intro j c h
    by_cases hj : j = n
    · exact .inl hj
    · exact .inr (M.nm j c (old j c hj h))
  · intro j c h
    by_cases hj : j = n
    · subst hj; rw [ext_new]; exact hp
    · exact M'.lt j c (old j c hj h)
  · intro j c h
    by_cases hj : j = n
    · subst hj; rw [ext_new, new c h]; exact hb
    · exact M'.ok j c (old j c hj h)
  · intro j c h hc
    by_cases hj : j = n
    · subst hj; rw [ext_new]; exact hp0.2
    · exact M'.own j c (old j c hj h) hc
  · intro i j c d hi hj hc hij
    by_cases h1 : i = n
    · subst h1
      have hj' := old j d (Ne.symm hij) hj
      rw [ext_new, (S j (M.nm j d hj')).2]
      exact (hfree j d hj').symm
    · have hi' := old i c h1 hi
      by_cases h2 : j = n
      · subst h2
        rw [ext_new, (S i (M.nm i c hi')).2]
        exact hfree i c hi'
      · exact M'.inj i j c d hi' (old j d h2 hj) hc hij
  · exact M.fr

/-- A new block. -/
theorem MemR.alloc (M : MemR P w0 D μ H w) {n : Nat} (hn : ¬ D n) {b : Blk} {o : Obj} {x : Nat} (hown : b.own = true) (hH : ∀ j, H'.get j = if j = n then some b else H.get j)
    (hb : HoldsB P (withN D n) (ext μ n (w.heap.size, 0, x)) (w.alloc o) (w.heap.size, 0, x) b) : MemR P w0 (withN D n) (ext μ n (w.heap.size, 0, x)) H' (w.alloc o) := by
  have hsz : (w.alloc o).heap.size = w.heap.size + 1 := by simp
  have M1 : MemR P w0 D μ H (w.alloc o) := M.sees (Sees.refl D μ) (fun k c h => heap_alloc_old _ _ (M.lt k c h)) (by omega) (M.fr.alloc M.fr.size o)
  refine M1.name hn (by simp only; omega) ⟨hown, M.fr.size⟩ (fun k c h => ?_) hH hb
  have := M.lt k c h
  simp only; omega
end
end Go.Rn
