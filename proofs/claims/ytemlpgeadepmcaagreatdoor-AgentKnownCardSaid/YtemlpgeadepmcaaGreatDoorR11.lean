/-
  A part of a proved evaluator for closed runs. No conditions.
-/
import Derived.Test.YtemlpgeadepmcaaGreatDoorR10
namespace Go.Rn
open Go Go.RowKit
set_option linter.unusedVariables false
set_option linter.unusedSimpArgs false

section
variable {P : Program} {tb : Tab} {w0 w w' : World} {B D D' : Nm} {μ μ' : Mu} {H H' : Tr Blk} {S : St} {out : Out × St} {K : AV → M}

theorem run_askRoom (n : Nat) (w : World) : (askRoom n).run P w = .ok () w := by
  unfold askRoom
  split <;> rfl

def repF (l : List Value) : Nat → List Value
  | 0 => []
  | n + 1 => l ++ repF l n

theorem repF_length (l : List Value) (n : Nat) : (repF l n).length = n * l.length := by
  induction n with
  | zero => simp [repF]
  | succ n ih => simp [repF, ih, Nat.succ_mul]; omega

theorem repF_add (l : List Value) (n m : Nat) : repF l (n + m) = repF l n ++ repF l m := by
  induction n with
  | zero => simp [repF]
  | succ n ih => rw [show n + 1 + m = (n + m) + 1 by omega]; simp [repF, ih]

theorem repF_get (l : List Value) : ∀ (n i : Nat), i < n * l.length → (repF l n)[i]? = l[i % l.length]?
  | 0, i, h => by omega
  | n + 1, i, h => by
    simp only [repF]
    by_cases hi : i < l.length
    · rw [List.getElem?_append_left hi, Nat.mod_eq_of_lt hi]
    · rw [List.getElem?_append_right (by omega), repF_get l n (i - l.length) (by rw [Nat.succ_mul] at h; omega)]
      congr 1
      rw [← Nat.mod_eq_sub_mod (by omega)]

theorem map_range_rep (l : List Value) (n : Nat) : (Array.range (n * l.length)).map (fun i => l.toArray[i % l.length]!) = (repF l n).toArray := by
  apply Array.ext_getElem?
  intro i
  simp only [Array.getElem?_map, Array.getElem?_range, List.getElem?_toArray]
  by_cases hi : i < n * l.length
  · rw [repF_get l n i hi, if_pos hi]
    have h0 : 0 < l.length := by
      rcases Nat.eq_zero_or_pos l.length with h | h
      · rw [h] at hi; omega
      · exact h
    have hm := Nat.mod_lt i h0
    simp [hm]
  · rw [if_neg hi, List.getElem?_eq_none (by rw [repF_length]; omega)]
    rfl

theorem T.repK_spec {β : Type} {bad : β} {t : Rn.T} (ht : t.ok D) : ∀ (f n : Nat) (K : Rn.T → β), Rn.T.repK bad f t n K = bad ∨ ∃ t', Rn.T.repK bad f t n K = K t' ∧ t'.ok D ∧ ∀ μ, t'.vals μ = repF (t.vals μ) n
  | 0, _, _ => .inl rfl
  | f + 1, 0, K => .inr ⟨.nl, rfl, ⟨trivial, fun x hx => by cases hx⟩, fun μ => rfl⟩
  | f + 1, n + 1, K => by
    rw [Rn.T.repK]
    have hcat : ∀ {a b : Rn.T}, a.ok D → b.ok D → (a.cat b).ok D ∧ ∀ μ, (a.cat b).vals μ = a.vals μ ++ b.vals μ := by
      intro a b ha hb
      have h := Rn.T.cat_spec ha.1 hb.1
      refine ⟨⟨h.2.1, fun x hx => ?_⟩, fun μ => by simp [Rn.T.vals, h.1]⟩
      rw [h.1] at hx
      rcases List.mem_append.1 hx with hx | hx
      · exact ha.2 x hx
      · exact hb.2 x hx
    split
    · rename_i hn
      rcases T.repK_spec ht f ((n + 1) / 2) (fun h => h.catK h K) with h | ⟨t', h1, h2, h3⟩
      · exact .inl h
      · refine .inr ⟨_, h1.trans (Rn.T.catK_eq _ _ _), (hcat h2 h2).1, fun μ => ?_⟩
        rw [(hcat h2 h2).2, h3, ← repF_add]; congr 1; omega
    · rename_i m hn
      rcases T.repK_spec ht f ((n + 1) / 2) (fun h => h.catK h fun g => g.catK t K) with h | ⟨t', h1, h2, h3⟩
      · exact .inl h
      · refine .inr ⟨(t'.cat t').cat t, h1.trans (by rw [Rn.T.catK_eq, Rn.T.catK_eq]), (hcat (hcat h2 h2).1 ht).1, fun μ => ?_⟩
        rw [(hcat (hcat h2 h2).1 ht).2, (hcat h2 h2).2, h3, ← repF_add]
        have : n + 1 = ((n + 1) / 2 + (n + 1) / 2) + 1 := by omega
        have e : repF (t.vals μ) (n + 1) = repF (t.vals μ) ((n + 1) / 2 + (n + 1) / 2) ++ repF (t.vals μ) 1 := by rw [← repF_add, ← this]
        rw [e]
        simp [repF]

theorem elemOf_spec (hT : TabOk P tb) {T e : TypeId} {j : TI} (h : elemOf tb T = some (e, j)) : P.underlying T = some (.slice e) ∧ tb.ty e = some j := by
  unfold elemOf at h
  split at h
  · rename_i i hi
    split at h
    · rename_i e' hd
      split at h
      · rename_i j' hj
        injection h with h; injection h with h1 h2; subst h1 h2
        exact ⟨by rw [(hT.ty T i hi).und, hd], hj⟩
      · cases h
    · cases h
  · cases h

theorem run_zeroCells (hT : TabOk P tb) {e : TypeId} {j : TI} (hj : tb.ty e = some j) (w : World) : ∃ z, (zeroValue e).run P w = .ok z w ∧ ∀ μ, z.cells = (j.zero.vals μ).toArray := by
  obtain ⟨z, h1, h2⟩ := (hT.ty e j hj).run_zero w
  exact ⟨z, h1, fun μ => by rw [← h2 μ]⟩

theorem zero_len (hT : TabOk P tb) {e : TypeId} {j : TI} (hj : tb.ty e = some j) : (j.zero.vals μ).length = j.sz := by
  rw [Rn.T.vals_length (hT.ty e j hj).zok.1, (hT.ty e j hj).zsz]

theorem evMakeSlice_ok (hT : TabOk P tb) (M : MemR P w0 D μ S.hp w) (F : Fresh B D S.nx out.2.nx) {T : TypeId} {x y : AV} {a b : Value} (hx : AVr D μ x a) (hy : AVr D μ y b) (h : runM (evMakeSlice tb T x y K) S = some out) : After P w0 out B D μ K ((Instr.makeSlice T a b).run P w) := by
  unfold evMakeSlice at h
  split at h
  rotate_left
  · exact (runM_fail h).elim
  rename_i e j l c he hl hc
  obtain ⟨hu, hj⟩ := elemOf_spec hT he
  have hok := hT.ty e j hj
  obtain ⟨k1, rfl⟩ := natOf_spec hl hx
  obtain ⟨k2, rfl⟩ := natOf_spec hc hy
  split at h
  rotate_left
  · exact (runM_fail h).elim
  rename_i hcond
  simp only [Bool.and_eq_true] at hcond
  have c1 := ble_iff.1 hcond.1.1
  have c2 := ble_iff.1 hcond.1.2
  have c3 := ble_iff.1 hcond.2
  rcases Rn.T.repK_spec (D := D) (bad := Rn.M.fail) hok.zok.ok 64 c (fun t => .new (.c e t false) fun k => K (.g (.s (.s k 0 l c false)))) with h1 | ⟨t', h1, h2, h3⟩
  · rw [h1] at h; exact (runM_fail h).elim
  rw [h1] at h
  refine After.fresh M F (f := fun k => .g (.s (.s k 0 l c false))) (x := 0) h rfl (o := .cells (t'.vals μ).toArray e) (v' := .slice (some ⟨w.heap.size, 0, none⟩) l c)
    (fun D' μ' hs _ _ => holds_new (Rn.T.sees hs h2).1 (by rw [(Rn.T.sees hs h2).2])) (fun D' μ' hs hm hd => ⟨by simp [GV.val, Sc.val, at_, hm], hd⟩) ?_
  obtain ⟨q, hq1, hq2⟩ := hok.run_bytes w
  obtain ⟨z, hz1, hz2⟩ := run_zeroCells hT hj w
  have hw1 : IntKind.i64.wrap (Int.ofNat l) = (l : Int) := IntWalk.i64_in _ (by simp only [Int.ofNat_eq_natCast]; omega)
  have hw2 : IntKind.i64.wrap (Int.ofNat c) = (c : Int) := IntWalk.i64_in _ (by simp only [Int.ofNat_eq_natCast]; omega)
  have hb : ¬ ((j.bytes : Int) * (c : Int) > 2 ^ 48) := by
    have h0 : (j.bytes : Int) * (c : Int) = ((c * j.bytes : Nat) : Int) := by rw [Int.natCast_mul, Int.mul_comm]
    rw [h0]
    generalize c * j.bytes = q at c2
    omega
  have hcells : ((Array.range (c * j.sz)).map fun i => z.cells[i % z.cells.size]!) = (t'.vals μ).toArray := by
    have hs : (j.zero.vals μ).toArray.size = j.sz := by rw [List.size_toArray, zero_len hT hj]
    rw [hz2 μ, h3 μ, ← map_range_rep, zero_len hT hj, hs]
  simp only [Instr.makeSlice, Sem.run_bind, run_underlying hu, Result.andThen_ok, asInt, asIntOf, Sem.run_pure, hq1, hq2, hw1, hw2]
  rw [if_neg (by simp; omega)]
  simp only [Sem.run_bind, Sem.run_pure, Result.andThen_ok, run_askRoom, hok.run_size, Int.toNat_natCast]
  by_cases hn : c * j.sz = 0
  · have ht0 : t'.vals μ = [] := by
      apply List.eq_nil_of_length_eq_zero
      rw [h3 μ, repF_length, zero_len hT hj]; exact hn
    have he0 : ∀ f : Nat → Value, (Array.range 0).map f = #[] := fun f => by simp
    rw [if_pos hn, hn, ht0]
    simp only [Sem.run_bind, Sem.run_pure, Result.andThen_ok, he0]
    rfl
  · rw [if_neg hn]
    simp only [Sem.run_bind, hz1, Result.andThen_ok, Sem.run_pure]
    rw [hcells]
    rfl

theorem evBuildSlice_ok (hT : TabOk P tb) (M : MemR P w0 D μ S.hp w) (F : Fresh B D S.nx out.2.nx) {T : TypeId} {len : Nat} {ps : List (Nat × AV)} {vs : Array (Nat × Value)} (hps : PsR D μ ps vs.toList) (h : runM (evBuildSlice tb T len ps K) S = some out) :
    After P w0 out B D μ K ((Instr.buildSlice T len vs).run P w) := by
  unfold evBuildSlice at h
  split at h
  rotate_left
  · exact (runM_fail h).elim
  rename_i e j he
  obtain ⟨hu, hj⟩ := elemOf_spec hT he
  have hok := hT.ty e j hj
  split at h
  rotate_left
  · exact (runM_fail h).elim
  rename_i hcond
  have c1 := ble_iff.1 hcond
  rcases Rn.T.repK_spec (D := D) (bad := Rn.M.fail) hok.zok.ok 64 len (fun z => layP .fail (fun n => some (n * j.sz, j.sz)) ps z fun t => .new (.c e t false) fun k => K (.g (.s (.s k 0 len len false)))) with h1 | ⟨t', h1, h2, h3⟩
  · rw [h1] at h; exact (runM_fail h).elim
  rw [h1] at h
  rcases layP_spec (bad := Rn.M.fail) (place := fun n => some (n * j.sz, j.sz)) hps h2 (fun t => .new (.c e t false) fun k => K (.g (.s (.s k 0 len len false)))) with g1 | ⟨t2, g1, g2, g3⟩
  · rw [g1] at h; exact (runM_fail h).elim
  rw [g1] at h
  refine After.fresh M F (f := fun k => .g (.s (.s k 0 len len false))) (x := 0) h rfl (o := .cells (t2.vals μ).toArray e) (v' := .slice (some ⟨w.heap.size, 0, none⟩) len len)
    (fun D' μ' hs _ _ => holds_new (Rn.T.sees hs g2).1 (by rw [(Rn.T.sees hs g2).2])) (fun D' μ' hs hm hd => ⟨by simp [GV.val, Sc.val, at_, hm], hd⟩) ?_
  obtain ⟨z, hz1, hz2⟩ := run_zeroCells hT hj w
  have hcells : ((Array.range (len * j.sz)).map fun i => z.cells[i % z.cells.size]!) = (t'.vals μ).toArray := by
    have hs : (j.zero.vals μ).toArray.size = j.sz := by rw [List.size_toArray, zero_len hT hj]
    rw [hz2 μ, h3 μ, ← map_range_rep, zero_len hT hj, hs]
  simp only [Instr.buildSlice, Sem.run_bind, run_underlying hu, Result.andThen_ok, hok.run_size]
  rw [if_neg (by omega)]
  by_cases hn : len * j.sz = 0
  · have ht0 : t'.vals μ = [] := by
      apply List.eq_nil_of_length_eq_zero
      rw [h3 μ, repF_length, zero_len hT hj]; exact hn
    rw [if_pos hn, hn]
    rw [ht0] at g3
    have he0 : ∀ f : Nat → Value, (Array.range 0).map f = #[] := fun f => by simp
    have g3' : Instr.fill (fun i => some (i * j.sz, j.sz)) #[] vs.toList = some (t2.vals μ).toArray := g3
    simp only [Sem.run_bind, Sem.run_pure, Result.andThen_ok, he0, g3']
    rfl
  · rw [if_neg hn]
    simp only [Sem.run_bind, hz1, Result.andThen_ok, Sem.run_pure]
    rw [hcells]
    have g3' : Instr.fill (fun i => some (i * j.sz, j.sz)) (t'.vals μ).toArray vs.toList = some (t2.vals μ).toArray := g3
    simp only [g3']
    rfl

/-! ### the cells of a slice -/
theorem cellsK_spec (M : MemR P w0 D μ S.hp w) {x : AV} {v : Value} (hx : AVr D μ x v) {sz n : Nat} {F : Rn.T → Rn.M} (h : runM (cellsK x sz n F) S = some out) :
    ∃ t lg', runM (F t) ⟨S.hp, S.nx, S.fl, lg'⟩ = some out ∧ t.ok D ∧ t.size = n * sz ∧ ∀ w1, (∀ b, b < w.heap.size → w1.heap[b]? = w.heap[b]?) → (Builtin.firstCells sz n v).run P w1 = .ok (t.vals μ).toArray w1 := by
  unfold cellsK at h
  split at h
  · split at h
    · obtain ⟨rfl, _⟩ := hx
      exact ⟨.nl, S.lg, h, ⟨trivial, fun x hx => by cases hx⟩, by simp [Rn.T.size], fun w1 _ => by simp [GV.val, Sc.val, Builtin.firstCells, Rn.T.vals, Rn.T.list]⟩
    · exact (runM_fail h).elim
  · split at h
    · obtain ⟨rfl, _⟩ := hx
      exact ⟨.nl, S.lg, h, ⟨trivial, fun x hx => by cases hx⟩, by simp [Rn.T.size], fun w1 _ => by simp [GV.val, Sc.val, Builtin.firstCells, Rn.T.vals, Rn.T.list, loadCells, loadCellsFrom]⟩
    · exact (runM_fail h).elim
  · rename_i k off len cap op
    obtain ⟨rfl, hok⟩ := hx
    obtain ⟨b, lg', hb, h⟩ := runM_rd h
    have key : ∀ t : Rn.T, (∃ ty op, b = .c ty t op) ∨ b = .gl t → runM (t.cutK off (n * sz) fun d => match Nat.beq d.size (n * sz) with | true => F d | false => .fail) ⟨S.hp, S.nx, S.fl, lg'⟩ = some out →
        ∃ t lg', runM (F t) ⟨S.hp, S.nx, S.fl, lg'⟩ = some out ∧ t.ok D ∧ t.size = n * sz ∧ ∀ w1, (∀ b, b < w.heap.size → w1.heap[b]? = w.heap[b]?) → (Builtin.firstCells sz n ((GV.s (Sc.s k off len cap op)).val μ)).run P w1 = .ok (t.vals μ).toArray w1 := by
      intro t ht h
      obtain ⟨hl, htok⟩ := Blk.lies M hb ht
      rw [Rn.T.cutK_eq] at h
      split at h
      · rename_i hs
        have hs := Nat.eq_of_beq_eq_true hs
        refine ⟨t.cut off (n * sz), lg', h, Rn.T.cut_ok htok off (n * sz), hs, fun w1 hw1 => ?_⟩
        have hl2 : Lies w1 (μ k).1 ((μ k).2.1 + off) ((t.cut off (n * sz)).vals μ) := by
          intro j v hv
          rw [Rn.T.vals_cut htok.1] at hv
          have := hl.sub off (n * sz) j v hv
          rw [World.cell?_of_block (w := w) (hw1 _ (M.lt k b hb))]
          exact this
        have hr := run_loadCells (P := P) hl2
        rw [Rn.T.vals_length (Rn.T.cut_spec htok.1 off (n * sz)).2, hs] at hr
        simp only [GV.val, Sc.val, Builtin.firstCells, at_]
        exact hr
      · exact (runM_fail h).elim
    split at h
    · exact key _ (.inl ⟨_, _, rfl⟩) h
    · exact key _ (.inr rfl) h
    · exact (runM_fail h).elim
  · exact (runM_fail h).elim

theorem lenS_spec {x : AV} {v : Value} (hx : AVr D μ x v) {n : Nat} (h : lenS x = some n) : ∃ a c, v = .slice a n c := by
  unfold lenS at h
  split at h
  · injection h with h; subst h; exact ⟨_, _, hx.1⟩
  · injection h with h; subst h; exact ⟨_, _, hx.1⟩
  · injection h with h; subst h; exact ⟨_, _, hx.1⟩
  · cases h
end
end Go.Rn
