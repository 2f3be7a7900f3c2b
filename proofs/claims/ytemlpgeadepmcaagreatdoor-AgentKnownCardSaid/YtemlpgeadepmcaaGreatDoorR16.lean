/-
  A part of a proved evaluator for closed runs. No conditions.
-/
import Derived.Test.YtemlpgeadepmcaaGreatDoorR15
namespace Go.Rn
open Go Go.RowKit
set_option linter.unusedVariables false
set_option linter.unusedSimpArgs false

/-- What is so of a machine where it is so of the next one. -/
def Back (P : Program) (G : Machine → Prop) : Prop := ∀ m m', step P m = .next m' → G m' → G m

inductive AVL (D : Nm) (μ : Mu) : List AV → List Value → Prop
  | nil : AVL D μ [] []
  | cons {x : AV} {v : Value} {l : List AV} {m : List Value} : AVr D μ x v → AVL D μ l m → AVL D μ (x :: l) (v :: m)

theorem AVL.map {D : Nm} {μ : Mu} {α : Type} {u : α → AV} {f : α → Value} (h : ∀ x, AVr D μ (u x) (f x)) : ∀ l : List α, AVL D μ (l.map u) (l.map f)
  | [] => .nil
  | x :: l => .cons (h x) (AVL.map h l)
theorem AVL.append {D : Nm} {μ : Mu} {a b : List AV} {c d : List Value} (h : AVL D μ a c) (h' : AVL D μ b d) : AVL D μ (a ++ b) (c ++ d) := by
  induction h with
  | nil => exact h'
  | cons hx _ ih => exact .cons hx ih
theorem AVL.length {D : Nm} {μ : Mu} {a : List AV} {c : List Value} (h : AVL D μ a c) : a.length = c.length := by
  induction h with
  | nil => rfl
  | cons _ _ ih => simp [ih]
theorem AVL.sees {D D' : Nm} {μ μ' : Mu} (hs : Sees D D' μ μ') {a : List AV} {c : List Value} (h : AVL D μ a c) : AVL D' μ' a c := by
  induction h with
  | nil => exact .nil
  | cons hx _ ih => exact .cons (hx.sees hs) ih

theorem PsR.map {D : Nm} {μ : Mu} {u : Operand → AV} {f : Operand → Value} (h : ∀ x, AVr D μ (u x) (f x)) : ∀ l : List (Nat × Operand), PsR D μ (l.map fun q => (q.1, u q.2)) (l.map fun q => (q.1, f q.2))
  | [] => .nil
  | q :: l => .cons (h q.2) (PsR.map h l)

def TgtG (P : Program) (G : Machine → Prop) (μ : Mu) (t : Tgt) (vs : List Value) (c : Frame) (cs : List Frame) (w : World) : Prop := match t with
  | .fn f => (callFunc f vs.toArray).run P w = .ok (.enter f vs.toArray) w ∧ G (lone (Frame.enter P f vs.toArray .normal) (c :: cs) w)
  | .y l => ∃ f tmps asg body, (Instr.yield (μ l).1 vs.toArray).run P w = .ok (.round (μ l).1 f tmps asg body) w ∧ G (lone (Frame.round (μ l).1 f tmps asg body .normal) (c :: cs) w)

def Tgt.ok (D : Nm) : Tgt → Prop
  | .fn _ => True
  | .y l => D l

/-- Where the program's variables lie. -/
def GlobR (tb : Tab) (D : Nm) (μ : Mu) : Prop := ∀ g k, tb.gl g = some k → D k ∧ (μ k).1 = g ∧ (μ k).2.1 = 0
theorem GlobR.sees {tb : Tab} {D D' : Nm} {μ μ' : Mu} (h : GlobR tb D μ) (hs : Sees D D' μ μ') : GlobR tb D' μ' := fun g k hk => by
  obtain ⟨h1, h2, h3⟩ := h g k hk
  exact ⟨(hs k h1).1, by rw [(hs k h1).2]; exact h2, by rw [(hs k h1).2]; exact h3⟩

def CallOk (P : Program) (tb : Tab) (w0 : World) (call : CallF) : Prop :=
  ∀ t args K S out, runM (call t args K) S = some out → ∀ B D μ w, MemR P w0 D μ S.hp w → Fresh B D S.nx out.2.nx → GlobR tb D μ → t.ok D → ∀ vs, AVL D μ args vs → ∀ G, Back P G → ∀ (c : Frame) (cs : List Frame),
    (∀ v S' D' μ' v' w', runM (K v) S' = some out → MemR P w0 D' μ' S'.hp w' → Sees D D' μ μ' → AVr D' μ' v v' → Fresh B D' S'.nx out.2.nx → G (lone (c.finish v') cs w')) → TgtG P G μ t vs c cs w

section
variable {P : Program} {tb : Tab} {w0 w w' : World} {B D D' : Nm} {μ μ' : Mu} {S : St} {out : Out × St} {K : AV → M} {G : Machine → Prop}
variable {ops : Array Oper} {i : Nat} {rest : List Nat} {o : Oper} {b : Frame} {a : Act} {k : List Item} {cs : List Frame}

theorem finish_op (ho : ops[i]? = some o) (v : Value) : (b.atR a (.inRegion ops (i :: rest) :: k)).finish v = b.atR (a.put o.dst v) (.inRegion ops rest :: k) := by
  rw [Frame.finish_atR, ho]; rfl

theorem opG_value (hB : Back P G) (ho : ops[i]? = some o) (hw : Region.wanted o (yielded ops a.tmps) = true) (hd : ∀ c, o.op ≠ .defer c) {nx : Next} {v : Value} (hr : (execOp a.eval o).run P w = .ok nx w') (hnx : nx = .value v ∨ (nx = .skip ∧ v = undef))
    (hG : G (lone (b.atR (a.put o.dst v) (.inRegion ops rest :: k)) cs w')) : G (lone (b.atR a (.inRegion ops (i :: rest) :: k)) cs w) := by
  refine hB _ _ (step_lone_go ?_) hG
  rw [stepGR_op ho hw, Oper.semAt_eq _ _ _ hd, ← finish_op ho]
  rcases hnx with rfl | ⟨rfl, rfl⟩ <;> simp [stepG.apply, hr]

theorem opG_enter (hB : Back P G) (ho : ops[i]? = some o) (hw : Region.wanted o (yielded ops a.tmps) = true) (hd : ∀ c, o.op ≠ .defer c) {f : FuncId} {args : Array Value} (hr : (execOp a.eval o).run P w = .ok (.enter f args) w')
    (hG : G (lone (Frame.enter P f args .normal) (b.atR a (.inRegion ops (i :: rest) :: k) :: cs) w')) : G (lone (b.atR a (.inRegion ops (i :: rest) :: k)) cs w) := by
  refine hB _ _ (step_lone_go ?_) hG
  rw [stepGR_op ho hw, Oper.semAt_eq _ _ _ hd]
  simp [stepG.apply, hr, Frame.atR]

theorem opG_round (hB : Back P G) (ho : ops[i]? = some o) (hw : Region.wanted o (yielded ops a.tmps) = true) (hd : ∀ c, o.op ≠ .defer c) {l : Nat} {f : FuncId} {tmps : Array Value} {asg body : Code} (hr : (execOp a.eval o).run P w = .ok (.round l f tmps asg body) w')
    (hG : G (lone (Frame.round l f tmps asg body .normal) (b.atR a (.inRegion ops (i :: rest) :: k) :: cs) w')) : G (lone (b.atR a (.inRegion ops (i :: rest) :: k)) cs w) := by
  refine hB _ _ (step_lone_go ?_) hG
  rw [stepGR_op ho hw, Oper.semAt_eq _ _ _ hd]
  simp [stepG.apply, hr, Frame.atR]

/-- What follows an operation. -/
abbrev NextG (P : Program) (w0 : World) (out : Out × St) (K : AV → M) (B D : Nm) (μ : Mu) (G : Machine → Prop) (b : Frame) (a : Act) (dst : Option Tmp) (ops : Array Oper) (rest : List Nat) (k : List Item) (cs : List Frame) : Prop :=
  ∀ v S' D' μ' v' w', runM (K v) S' = some out → MemR P w0 D' μ' S'.hp w' → Sees D D' μ μ' → AVr D' μ' v v' → Fresh B D' S'.nx out.2.nx → G (lone (b.atR (a.put dst v') (.inRegion ops rest :: k)) cs w')

theorem opG_after (hB : Back P G) (ho : ops[i]? = some o) (hw : Region.wanted o (yielded ops a.tmps) = true) (hd : ∀ c, o.op ≠ .defer c) {s : Sem Value} (hs : After P w0 out B D μ K (s.run P w))
    (he : ∀ v w', s.run P w = .ok v w' → ∃ nx, (execOp a.eval o).run P w = .ok nx w' ∧ (nx = .value v ∨ (nx = .skip ∧ v = undef))) (hK : NextG P w0 out K B D μ G b a o.dst ops rest k cs) : G (lone (b.atR a (.inRegion ops (i :: rest) :: k)) cs w) := by
  obtain ⟨v, S', D', μ', v', w', h1, h2, h3, h4, h5, h6⟩ := hs
  obtain ⟨nx, e1, e2⟩ := he v' w' h1
  exact opG_value hB ho hw hd e1 e2 (hK v S' D' μ' v' w' h2 h3 h4 h5 h6)

theorem capAV_ok {cap : List (Nat × Nat)} (h : ∀ c ∈ cap, D c.1) : AVL D μ (cap.map capAV) (cap.map fun c => Value.pointer (some (at_ μ c.1 c.2))) := by
  induction cap with
  | nil => exact .nil
  | cons c cap ih => exact .cons ⟨rfl, h c (by simp)⟩ (ih fun x hx => h x (by simp [hx]))

theorem capsOf_spec : ∀ {l : List AV} {vs : List Value} {c : List (Nat × Nat)}, capsOf l = some c → AVL D μ l vs → vs = c.map (fun c => Value.pointer (some (at_ μ c.1 c.2))) ∧ ∀ x ∈ c, D x.1
  | [], _, c, h, .nil => by injection h with h; subst h; exact ⟨rfl, fun x hx => by cases hx⟩
  | x :: l, _, c, h, .cons hx hl => by
    cases x with
    | any => cases h
    | tu _ => cases h
    | g x => cases x with
      | a t => cases h
      | s x => cases x with
        | p k off =>
          simp only [capsOf] at h
          split at h
          · rename_i c' hc
            injection h with h; subst h
            obtain ⟨g1, g2⟩ := capsOf_spec hc hl
            obtain ⟨rfl, hk⟩ := hx
            refine ⟨by rw [g1]; rfl, fun y hy => ?_⟩
            rcases List.mem_cons.1 hy with rfl | hy
            · exact hk
            · exact g2 y hy
          · cases h
        | _ => cases h

theorem evOp_ok (hT : TabOk P tb) (h1 : ∀ t i, tb.ty t = some i → i.agg = false → i.sz = 1) {call : CallF} (hC : CallOk P tb w0 call) (hB : Back P G) (ho : ops[i]? = some o) (hw : Region.wanted o (yielded ops a.tmps) = true)
    {u : Operand → AV} (hu : ∀ x, AVr D μ (u x) (a.eval x)) (M : MemR P w0 D μ S.hp w) (F : Fresh B D S.nx out.2.nx) (hg : GlobR tb D μ) (h : runM (evOp P tb call u o.op K) S = some out) (hK : NextG P w0 out K B D μ G b a o.dst ops rest k cs) :
    G (lone (b.atR a (.inRegion ops (i :: rest) :: k)) cs w) := by
  have simple : ∀ {s : Sem Value}, After P w0 out B D μ K (s.run P w) → (∀ c, o.op ≠ .defer c) → (∀ v w', s.run P w = .ok v w' → ∃ nx, (execOp a.eval o).run P w = .ok nx w' ∧ (nx = .value v ∨ (nx = .skip ∧ v = undef))) → G (lone (b.atR a (.inRegion ops (i :: rest) :: k)) cs w) :=
    fun hs hd he => opG_after hB ho hw hd hs he hK
  unfold evOp at h
  split at h
  · rename_i x hop
    exact simple (s := pure (a.eval x)) (After.still M F h (hu x) rfl) (by rw [hop]; intro c hc; cases hc) (fun v w' hv => ⟨.value v, by simp [execOp, hop] at hv ⊢; exact hv, .inl rfl⟩)
  · rename_i x hop
    exact simple (s := pure (a.eval x)) (After.still M F h (hu x) rfl) (by rw [hop]; intro c hc; cases hc) (fun v w' hv => ⟨.value v, by simp [execOp, hop] at hv ⊢; exact hv, .inl rfl⟩)
  · rename_i c x y hop
    have hc := hu c
    split at h
    · rename_i hcu
      rw [hcu] at hc
      have hc1 : a.eval c = .bool true := hc.1
      exact simple (s := pure (a.eval x)) (After.still M F h (hu x) rfl) (by rw [hop]; intro c hc; cases hc) (fun v w' hv => ⟨.value v, by simp [execOp, hop, hc1, asBool] at hv ⊢; exact hv, .inl rfl⟩)
    · rename_i hcu
      rw [hcu] at hc
      have hc1 : a.eval c = .bool false := hc.1
      exact simple (s := pure (a.eval y)) (After.still M F h (hu y) rfl) (by rw [hop]; intro c hc; cases hc) (fun v w' hv => ⟨.value v, by simp [execOp, hop, hc1, asBool] at hv ⊢; exact hv, .inl rfl⟩)
    · exact (runM_fail h).elim
  · rename_i T hop
    exact simple (evAlloc_ok hT M F h) (by rw [hop]; intro c hc; cases hc) (fun v w' hv => ⟨.value v, by simp [execOp, hop, hv], .inl rfl⟩)
  · rename_i T x hop
    exact simple (evBox_ok M F (hu x) h) (by rw [hop]; intro c hc; cases hc) (fun v w' hv => ⟨.value v, by simp [execOp, hop, hv], .inl rfl⟩)
  · rename_i T ps hop
    refine simple (s := Instr.build T (ps.map fun q => (q.1, a.eval q.2))) (After.pure M F h (pBuild_spec hT ?_)) (by rw [hop]; intro c hc; cases hc) (fun v w' hv => ⟨.value v, by simp only [execOp, hop, Sem.run_bind]; rw [show (ps.map fun x => match x with | (i, x) => (i, a.eval x)) = ps.map fun q => (q.1, a.eval q.2) from rfl, hv]; rfl, .inl rfl⟩)
    rw [Array.toList_map]; exact PsR.map hu _
  · rename_i T n ps hop
    refine simple (s := Instr.buildSlice T n (ps.map fun q => (q.1, a.eval q.2))) (evBuildSlice_ok hT M F ?_ h) (by rw [hop]; intro c hc; cases hc) (fun v w' hv => ⟨.value v, by simp only [execOp, hop, Sem.run_bind]; rw [show (ps.map fun x => match x with | (i, x) => (i, a.eval x)) = ps.map fun q => (q.1, a.eval q.2) from rfl, hv]; rfl, .inl rfl⟩)
    rw [Array.toList_map]; exact PsR.map hu _
  · rename_i T x hop
    exact simple (evLoad_ok hT M F (hu x) h) (by rw [hop]; intro c hc; cases hc) (fun v w' hv => ⟨.value v, by simp [execOp, hop, hv], .inl rfl⟩)
  · rename_i T x y hop
    refine simple (evStore_ok hT M F (hu x) (hu y) h) (by rw [hop]; intro c hc; cases hc) (fun v w' hv => ⟨.skip, ?_, .inr ⟨rfl, ?_⟩⟩)
    · simp only [execOp, hop, Sem.run_bind] at hv ⊢
      cases hst : (Instr.storeAt T (a.eval x) (a.eval y)).run P w with
      | ok u w'' => rw [hst] at hv; simp at hv; simp [hv.2]
      | halt _ _ => rw [hst] at hv; simp at hv
    · simp only [Sem.run_bind] at hv
      cases hst : (Instr.storeAt T (a.eval x) (a.eval y)).run P w with
      | ok u w'' => rw [hst] at hv; simp at hv; exact hv.1.symm
      | halt _ _ => rw [hst] at hv; simp at hv
  · rename_i x hop
    unfold evNilCheck at h
    have hx := hu x
    split at h
    · rename_i k0 off hx0
      rw [hx0] at hx h
      refine simple (s := pure (a.eval x)) (After.still M F h hx rfl) (by rw [hop]; intro c hc; cases hc) (fun v w' hv => ⟨.value v, ?_, .inl rfl⟩)
      have hx1 : a.eval x = .pointer (some (at_ μ k0 off)) := hx.1
      rw [hx1] at hv
      simp [execOp, hop, hx1] at hv ⊢; exact hv
    · rename_i fn cap hx0
      rw [hx0] at hx h
      refine simple (s := pure (a.eval x)) (After.still M F h hx rfl) (by rw [hop]; intro c hc; cases hc) (fun v w' hv => ⟨.value v, ?_, .inl rfl⟩)
      have hx1 : a.eval x = .func (.func fn) #[] (cap.map fun c => Value.pointer (some (at_ μ c.1 c.2))).toArray := hx.1
      rw [hx1] at hv
      simp [execOp, hop, hx1] at hv ⊢; exact hv
    · rename_i l hx0
      rw [hx0] at hx h
      refine simple (s := pure (a.eval x)) (After.still M F h hx rfl) (by rw [hop]; intro c hc; cases hc) (fun v w' hv => ⟨.value v, ?_, .inl rfl⟩)
      have hx1 : a.eval x = .func (.yield (μ l).1) #[] #[] := hx.1
      rw [hx1] at hv
      simp [execOp, hop, hx1] at hv ⊢; exact hv
    · exact (runM_fail h).elim
  · rename_i op t x y t2 hop
    exact simple (After.pure M F h (pBin_spec hT h1 (xo := x) (yo := y) (hu x) (hu y))) (by rw [hop]; intro c hc; cases hc) (fun v w' hv => ⟨.value v, by simp only [semBin] at hv; simp only [execOp, hop, Sem.run_bind] at hv ⊢; rw [hv]; rfl, .inl rfl⟩)
  · rename_i op t x hop
    exact simple (After.pure M F h (pUn_spec (hu x))) (by rw [hop]; intro c hc; cases hc) (fun v w' hv => ⟨.value v, by simp [execOp, hop, hv], .inl rfl⟩)
  · rename_i s d x hop
    exact simple (After.pure M F h (pConv_spec hT (hu x))) (by rw [hop]; intro c hc; cases hc) (fun v w' hv => ⟨.value v, by simp [execOp, hop, hv], .inl rfl⟩)
  · rename_i f fi cap hop
    split at h
    · rename_i hfi
      split at h
      · rename_i l hl
        obtain ⟨g1, g2⟩ := capsOf_spec hl (AVL.map hu cap.toList)
        refine simple (s := pure (.func (.func f) #[] (l.map fun c => Value.pointer (some (at_ μ c.1 c.2))).toArray)) (After.still M F h ⟨rfl, g2⟩ rfl) (by rw [hop]; intro c hc; cases hc) (fun v w' hv => ⟨.value v, ?_, .inl rfl⟩)
        have hfi2 : fi.map a.eval = #[] := by
          have : fi = #[] := Array.eq_empty_of_size_eq_zero hfi
          rw [this]; simp
        have hcap : cap.map a.eval = (l.map fun c => Value.pointer (some (at_ μ c.1 c.2))).toArray := by
          rw [← g1]; apply Array.toList_inj.1; simp
        simp only [Sem.run_pure] at hv
        simp only [execOp, hop, Instr.makeFunc, hfi2, hcap, Sem.run_bind, Sem.run_pure, Result.andThen_ok]
        injection hv with hv1 hv2; subst hv1 hv2; rfl
      · exact (runM_fail h).elim
    · exact (runM_fail h).elim
  · rename_i T hop
    have hAfter : After P w0 out B D μ K ((Instr.makeMap T none).run P w) := by
      refine After.fresh M F (f := fun k => .g (.s (.m k))) (x := 0) h rfl (o := .map #[] 0) (v' := .map (some w.heap.size)) (fun D' μ' hs hm hd => ⟨fun e he => by (cases he), ?_⟩) (fun D' μ' hs hm hd => ⟨by simp [GV.val, Sc.val, hm], hd⟩) rfl
      rw [heap_alloc_new]; rfl
    exact simple hAfter (by rw [hop]; intro c hc; cases hc) (fun v w' hv => ⟨.value v, by simp [execOp, hop, hv], .inl rfl⟩)
  · rename_i T l c hop
    exact simple (evMakeSlice_ok hT M F (hu l) (hu c) h) (by rw [hop]; intro c hc; cases hc) (fun v w' hv => ⟨.value v, by simp [execOp, hop, hv], .inl rfl⟩)
  · rename_i T x lo hi mx hop
    exact simple (After.pure M F h (pSlice_spec hT (hu x) (OpR.map hu lo) (OpR.map hu hi) (OpR.map hu mx))) (by rw [hop]; intro c hc; cases hc) (fun v w' hv => ⟨.value v, by simp [execOp, hop, hv], .inl rfl⟩)
  · rename_i T x f hop
    exact simple (After.pure M F h (pFieldAddr_spec hT (hu x))) (by rw [hop]; intro c hc; cases hc) (fun v w' hv => ⟨.value v, by simp [execOp, hop, hv], .inl rfl⟩)
  · rename_i T x f hop
    exact simple (After.pure M F h (pField_spec hT (hu x))) (by rw [hop]; intro c hc; cases hc) (fun v w' hv => ⟨.value v, by simp [execOp, hop, hv], .inl rfl⟩)
  · rename_i T x y hop
    exact simple (After.pure M F h (pIndexAddr_spec hT (hu x) (hu y))) (by rw [hop]; intro c hc; cases hc) (fun v w' hv => ⟨.value v, by simp [execOp, hop, hv], .inl rfl⟩)
  · rename_i T x y hop
    exact simple (After.pure M F h (pIndex_spec hT (hu x) (hu y))) (by rw [hop]; intro c hc; cases hc) (fun v w' hv => ⟨.value v, by simp [execOp, hop, hv], .inl rfl⟩)
  · rename_i T x y ok hop
    exact simple (evLookup_ok hT M F (hu x) (hu y) h) (by rw [hop]; intro c hc; cases hc) (fun v w' hv => ⟨.value v, by simp [execOp, hop, hv], .inl rfl⟩)
  · rename_i T m x y hop
    refine simple (evMapUpdate_ok hT M F (hu m) (hu x) (hu y) h) (by rw [hop]; intro c hc; cases hc) (fun v w' hv => ⟨.skip, ?_, .inr ⟨rfl, ?_⟩⟩)
    · simp only [execOp, hop, Sem.run_bind] at hv ⊢
      cases hst : (Instr.mapUpdate T (a.eval m) (a.eval x) (a.eval y)).run P w with
      | ok u w'' => rw [hst] at hv; simp at hv; simp [hv.2]
      | halt _ _ => rw [hst] at hv; simp at hv
    · simp only [Sem.run_bind] at hv
      cases hst : (Instr.mapUpdate T (a.eval m) (a.eval x) (a.eval y)).run P w with
      | ok u w'' => rw [hst] at hv; simp at hv; exact hv.1.symm
      | halt _ _ => rw [hst] at hv; simp at hv
  · rename_i x n hop
    exact simple (After.pure M F h (pExtract_spec (hu x))) (by rw [hop]; intro c hc; cases hc) (fun v w' hv => ⟨.value v, by simp [execOp, hop, hv], .inl rfl⟩)
  · rename_i c hop
    have hnd : ∀ c, o.op ≠ .defer c := by rw [hop]; intro c hc; cases hc
    unfold evCall at h
    split at h
    · rename_i f hcal
      have hf := hu f
      split at h
      · rename_i fn cap hfu
        rw [hfu] at hf
        have hf1 : a.eval f = .func (.func fn) #[] (cap.map fun c => Value.pointer (some (at_ μ c.1 c.2))).toArray := hf.1
        have hargs := AVL.append (AVL.map hu c.args.toList) (capAV_ok (μ := μ) hf.2)
        obtain ⟨g1, g2⟩ := hC (.fn fn) _ _ _ _ h B D μ w M F hg trivial _ hargs G hB (b.atR a (.inRegion ops (i :: rest) :: k)) cs (fun v S' D' μ' v' w' q1 q2 q3 q4 q5 => by rw [finish_op ho]; exact hK v S' D' μ' v' w' q1 q2 q3 q4 q5)
        refine opG_enter hB ho hw hnd ?_ g2
        have harr : (c.args.map a.eval) ++ (cap.map fun c => Value.pointer (some (at_ μ c.1 c.2))).toArray = (c.args.toList.map a.eval ++ cap.map fun c => Value.pointer (some (at_ μ c.1 c.2))).toArray := by
          apply Array.toList_inj.1; simp
        simp only [execOp, hop, Sem.run_bind, resolve, hcal, hf1, Deferred.ofValue, Sem.run_pure, Result.andThen_ok, invoke, Array.empty_append]
        rw [harr]; exact g1
      · rename_i l hfu
        rw [hfu] at hf
        have hf1 : a.eval f = .func (.yield (μ l).1) #[] #[] := hf.1
        obtain ⟨fid, tmps, asg, body, g1, g2⟩ := hC (.y l) _ _ _ _ h B D μ w M F hg hf.2 _ (AVL.map hu c.args.toList) G hB (b.atR a (.inRegion ops (i :: rest) :: k)) cs (fun v S' D' μ' v' w' q1 q2 q3 q4 q5 => by rw [finish_op ho]; exact hK v S' D' μ' v' w' q1 q2 q3 q4 q5)
        refine opG_round hB ho hw hnd ?_ g2
        have harr : (c.args.map a.eval) = (c.args.toList.map a.eval).toArray := by
          apply Array.toList_inj.1; simp
        simp only [execOp, hop, Sem.run_bind, resolve, hcal, hf1, Deferred.ofValue, Sem.run_pure, Result.andThen_ok, invoke, Array.empty_append]
        rw [harr]; exact g1
      · exact (runM_fail h).elim
    · exact (runM_fail h).elim
    · rename_i bi hcal
      have hrun : ∀ {s : Sem Value}, (∀ (q : Array Bool), builtin bi c.argTypes o.type q (c.args.map a.eval) = (do pure (.value (← s)))) → ∀ v w', s.run P w = .ok v w' → ∃ nx, (execOp a.eval o).run P w = .ok nx w' ∧ (nx = .value v ∨ (nx = .skip ∧ v = undef)) := by
        intro s hs v w' hv
        refine ⟨.value v, ?_, .inl rfl⟩
        simp only [execOp, hop, Sem.run_bind, resolve, hcal, Sem.run_pure, Result.andThen_ok, invoke, hs, hv]
      have two : ∀ {x y : Operand}, c.args.toList = [x, y] → c.args.map a.eval = #[a.eval x, a.eval y] := fun hxy => by apply Array.toList_inj.1; simp [hxy]
      have one : ∀ {x : Operand}, c.args.toList = [x] → c.args.map a.eval = #[a.eval x] := fun hxy => by apply Array.toList_inj.1; simp [hxy]
      split at h
      · rename_i s x T U hargs hts
        have ht : c.argTypes = #[T, U] := by apply Array.toList_inj.1; simp [hts]
        exact simple (evAppend_ok hT M F (hu s) (hu x) o.type h) hnd (hrun fun q => by rw [two hargs, ht]; rfl)
      · rename_i d x T ts hargs hts
        have ht : c.argTypes[0]? = some T := by rw [← Array.getElem?_toList, hts]; rfl
        exact simple (evCopy_ok hT M F (hu d) (hu x) c.argTypes o.type h ht) hnd (hrun fun q => by rw [two hargs]; rfl)
      · rename_i x T hargs hts
        have ht : c.argTypes = #[T] := by apply Array.toList_inj.1; simp [hts]
        exact simple (evLen_ok hT M F (hu x) o.type h) hnd (hrun fun q => by rw [one hargs, ht]; rfl)
      · rename_i ts x y hargs
        exact simple (After.pure M F h (pMinMax_spec (b := .max) (s := c.argTypes) (t := o.type) (hu x) (hu y))) hnd (hrun fun q => by rw [two hargs]; rfl)
      · rename_i ts x y hargs
        exact simple (After.pure M F h (pMinMax_spec (b := .min) (s := c.argTypes) (t := o.type) (hu x) (hu y))) hnd (hrun fun q => by rw [two hargs]; rfl)
      · exact (runM_fail h).elim
  · exact (runM_fail h).elim
end
end Go.Rn
