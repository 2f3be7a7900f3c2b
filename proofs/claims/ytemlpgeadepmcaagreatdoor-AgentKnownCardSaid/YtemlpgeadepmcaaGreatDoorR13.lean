/-
  A part of a proved evaluator for closed runs. No conditions.
-/
import Derived.Test.YtemlpgeadepmcaaGreatDoorR12
namespace Go.Rn
open Go Go.RowKit
set_option linter.unusedVariables false
set_option linter.unusedSimpArgs false

section
variable {P : Program} {tb : Tab} {w0 w w' : World} {B D D' : Nm} {μ μ' : Mu} {H H' : Tr Blk} {S : St} {out : Out × St} {K : AV → M}

theorem run_append_nil0 (hT : TabOk P tb) {T U e : TypeId} {j : TI} (hu : P.underlying T = some (.slice e)) (hj : tb.ty e = some j) (hU : isIntT tb U = some false) {x : Value} (hx : ∃ a c, x = .slice a 0 c) (t : TypeId) (w : World) :
    (Builtin.append_ #[T, U] t #[.slice none 0 0, x]).run P w = .ok (.slice none 0 0) w := by
  obtain ⟨a, c, rfl⟩ := hx
  obtain ⟨d, hd, hd2⟩ := isIntT_spec hT hU
  have hok := hT.ty e j hj
  have hn : (Builtin.firstCells j.sz 0 (.slice a 0 c)).run P w = .ok #[] w := by cases a <;> simp [Builtin.firstCells, loadCells, loadCellsFrom]
  cases d <;> first
    | exact absurd rfl (hd2 _)
    | (simp only [Builtin.append_, Sem.run_bind, List.getElem?_toArray, List.getElem?_cons_zero, List.getElem?_cons_succ, Sem.run_pure, Result.andThen_ok, run_underlying hu, hok.run_size, run_underlying hd]
       simp [Builtin.lenOf, hn])

/-- A row that grows in place: a new name for it, the old one is gone. -/
theorem MemR.extend (M : MemR P w0 D μ H w) {k n : Nat} (hn : ¬ D n) {ty : TypeId} {t : Rn.T} (hk : H.get k = some (.c ty t true)) {sz : Nat} (hsz : szT P ty = some sz) {off : Nat} {old new : Rn.T} (hold : old.ok D) (hnew : new.ok D)
    (ho : old.vals μ = ((t.vals μ).drop off).take old.size) (hfit : off + old.size ≤ t.size) {x : Nat} (hroom : off + old.size + new.size + x * sz ≤ t.size + (μ k).2.2 * sz) (hend : t.size ≤ off + old.size + new.size)
    {H1 : Tr Blk} (hH1 : ∀ j, H1.get j = if j = k then none else H.get j) (hH : ∀ j, H'.get j = if j = n then some (.c ty (old.cat new) true) else H1.get j) :
    ∃ w', (Go.storeCells ⟨(μ k).1, (μ k).2.1 + (off + old.size), none⟩ (new.vals μ)).run P w = .ok () w' ∧ MemR P w0 (withN D n) (ext μ n ((μ k).1, (μ k).2.1 + off, x)) H' w' := by
  obtain ⟨h1, pre, post, h2, h3, h4⟩ := M.ok k _ hk
  obtain ⟨sz', hsz', hpost⟩ := h4 rfl
  rw [hsz] at hsz'; injection hsz' with hsz'; subst hsz'
  have hnl : (new.vals μ).length = new.size := Rn.T.vals_length hnew.1
  have htl : (t.vals μ).length = t.size := Rn.T.vals_length h1.1
  have hol : (old.vals μ).length = old.size := Rn.T.vals_length hold.1
  have hst := run_storeCells_row (P := P) (new.vals μ) ((μ k).2.1 + (off + old.size)) 0 w (μ k).1 (pre ++ (t.vals μ ++ post)) ty h2 (by simp; omega) (fun v hv => by
    obtain ⟨y, hy, rfl⟩ := List.mem_map.1 hv
    exact Sc.one (hnew.2 y hy))
  have hb : (μ k).1 < w.heap.size := M.lt k _ hk
  have hown := M.own k _ hk rfl
  have hkn : k ≠ n := fun e => hn (e ▸ M.nm k _ hk)
  refine ⟨_, hst, ?_⟩
  have hc := T.cat_ok hold hnew
  have cell : setB w (μ k).1 (.cells ((pre ++ (t.vals μ ++ post)).take ((μ k).2.1 + (off + old.size) + 0) ++ (new.vals μ ++ (pre ++ (t.vals μ ++ post)).drop ((μ k).2.1 + (off + old.size) + 0 + (new.vals μ).length))).toArray ty (0, 0)) =
      setB w (μ k).1 (.cells ((pre ++ (t.vals μ).take off) ++ ((old.cat new).vals μ ++ post.drop (off + old.size + new.size - t.size))).toArray ty (0, 0)) := by
    congr 3
    rw [Nat.add_zero, ← h3, hnl, hc.2.1]
    rw [List.take_append, List.take_of_length_le (by omega : pre.length ≤ pre.length + (off + old.size)), Nat.add_sub_cancel_left, List.take_append_of_le_length (by omega)]
    rw [List.drop_append, List.drop_of_length_le (by omega : pre.length ≤ pre.length + (off + old.size) + new.size), show pre.length + (off + old.size) + new.size - pre.length = off + old.size + new.size by omega]
    rw [List.drop_append, List.drop_of_length_le (by omega : (t.vals μ).length ≤ off + old.size + new.size), htl]
    rw [List.take_add, ho]
    simp
  rw [cell]
  -- the others are as they were
  have hM1 : ∀ o, MemR P w0 D μ H1 (setB w (μ k).1 o) := by
    intro o
    have hless : MemR P w0 D μ H1 w := M.less (fun j b hj => by rw [hH1] at hj; split at hj; cases hj; exact hj)
    refine hless.sees (Sees.refl _ _) (fun j b hj => setB_get_other ?_) (by rw [setB_size]; exact Nat.le_refl _) (Below.setB M.fr hown o)
    have hjk : j ≠ k := fun e => by rw [hH1, if_pos e] at hj; cases hj
    have hj' : H.get j = some b := by rw [hH1, if_neg hjk] at hj; exact hj
    exact (M.inj k j _ b hk hj' rfl (Ne.symm hjk)).symm
  have M1 := hM1 (.cells ((pre ++ (t.vals μ).take off) ++ ((old.cat new).vals μ ++ post.drop (off + old.size + new.size - t.size))).toArray ty (0, 0))
  refine M1.name hn (b := .c ty (old.cat new) true) (p := ((μ k).1, (μ k).2.1 + off, x)) (by rw [setB_size]; exact hb) ⟨rfl, hown⟩ (fun j c hj => ?_) hH ?_
  · have hjk : j ≠ k := fun e => by rw [hH1, if_pos e] at hj; cases hj
    have hj' : H.get j = some c := by rw [hH1, if_neg hjk] at hj; exact hj
    exact (M.inj k j _ c hk hj' rfl (Ne.symm hjk)).symm
  · have hs : Sees D (withN D n) μ (ext μ n ((μ k).1, (μ k).2.1 + off, x)) := Sees.ext hn
    have hcs := Rn.T.sees hs hc.1
    refine ⟨hcs.1, pre ++ (t.vals μ).take off, post.drop (off + old.size + new.size - t.size), ?_, ?_, fun _ => ⟨sz, hsz, ?_⟩⟩
    · rw [setB_get_same hb, hcs.2]
    · simp only [List.length_append, List.length_take, htl, h3]; omega
    · simp only [List.length_drop]; omega

theorem firstCells_zero {sz : Nat} {x : Value} (hx : ∃ a c, x = .slice a 0 c) (w : World) : (Builtin.firstCells sz 0 x).run P w = .ok #[] w := by
  obtain ⟨a, c, rfl⟩ := hx
  cases a <;> simp [Builtin.firstCells, loadCells, loadCellsFrom]

/-- What is open: grown in place, or made anew. -/
theorem append_open (hT : TabOk P tb) (M : MemR P w0 D μ S.hp w) (F : Fresh B D S.nx out.2.nx) {T U e : TypeId} {j : TI} (hu : P.underlying T = some (.slice e)) (hj : tb.ty e = some j) (hU : isIntT tb U = some false) {k : Nat} {t : Rn.T} (hk : S.hp.get k = some (.c e t true))
    {off cap len n : Nat} {x : Value} (hx : ∃ a c, x = .slice a n c) {old new : Rn.T} (hold : old.ok D) (hnew : new.ok D) (hos : old.size = len * j.sz) (hns : new.size = n * j.sz) (ho : old.vals μ = ((t.vals μ).drop off).take old.size) (hfit : off + cap * j.sz = t.size)
    (hlc : len ≤ cap) (hneed : cap < len + n) (hb : (len + n) * (j.bytes + 1) ≤ 1073741824) {base : Addr} {off2 : Nat} (hbase : cap + (μ k).2.2 ≥ len + n → base = at_ μ k off)
    (hfo : ∀ w1, (∀ b, b < w.heap.size → w1.heap[b]? = w.heap[b]?) → (Builtin.firstCells j.sz len (.slice (some base) len (cap + (μ k).2.2))).run P w1 = .ok (old.vals μ).toArray w1)
    (hfn : ∀ w1, (∀ b, b < w.heap.size → w1.heap[b]? = w.heap[b]?) → (Builtin.firstCells j.sz n x).run P w1 = .ok (new.vals μ).toArray w1)
    (h : runM (.wr k none (newRowK e old new (len + n) K)) S = some out) (ty : TypeId) :
    After P w0 out B D μ K ((Builtin.append_ #[T, U] ty #[.slice (some base) len (cap + (μ k).2.2), x]).run P w) := by
  obtain ⟨b0, hp', lg', _, hg, h⟩ := runM_wr h
  have hok := hT.ty e j hj
  have M' : MemR P w0 D μ hp' w := M.less (fun i b hi => by rw [hg] at hi; split at hi; cases hi; exact hi)
  by_cases hroom : len + n ≤ cap + (μ k).2.2
  · -- in place
    have hbase := hbase hroom
    subst hbase
    unfold newRowK at h
    simp only [Rn.T.catK_eq, forceN_eq] at h
    obtain ⟨hp2, lg2, hg2, hrun, hlt⟩ := runM_new h
    simp only at hg2 hrun hlt
    have hn := F.here hlt
    have hmul : (len + n) * j.sz + (cap + (μ k).2.2 - (len + n)) * j.sz = (cap + (μ k).2.2) * j.sz := by rw [← Nat.add_mul]; congr 1; omega
    have hmul2 : cap * j.sz ≤ (len + n) * j.sz := Nat.mul_le_mul_right _ (by omega)
    have hmul3 : len * j.sz ≤ cap * j.sz := Nat.mul_le_mul_right _ hlc
    obtain ⟨w', hw', MM⟩ := M.extend (n := S.nx) hn hk hok.size hold hnew ho (off := off) (by rw [hos]; omega) (x := cap + (μ k).2.2 - (len + n))
      (by rw [hos, hns]; rw [Nat.add_mul] at hmul; rw [Nat.add_mul cap] at hmul; omega) (by rw [hos, hns]; rw [Nat.add_mul] at hmul2; omega) hg hg2
    have hres := run_append_in hT hu hj hU (w' := w') (base := at_ μ k off) hx ty hroom (hfn w (fun _ _ => rfl)) (by rw [← hos, at_add]; exact hw')
    refine ⟨_, _, _, _, _, w', hres, hrun, MM, Sees.ext hn, ?_, F.next hlt⟩
    refine ⟨?_, .inl rfl⟩
    have hcap : len + n + (cap + (μ k).2.2 - (len + n)) = cap + (μ k).2.2 := by omega
    simp only [GV.val, Sc.val, at_, ext_new, if_true, hcap, Nat.add_zero]
  · obtain ⟨newCap, rest, r1, r2, r3⟩ := run_append_new hT hu hj hU (w0 := w) hx ty (base := some base) (sLen := len) (sCap := cap + (μ k).2.2) (by omega) hb hfo hfn
    refine newRow_after (S := ⟨hp', S.nx, S.fl, lg'⟩) hT M'.drew F hj hold hnew r1 h r2 r3
end
end Go.Rn
