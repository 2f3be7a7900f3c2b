/-
  A part of a proved evaluator for closed runs. No conditions.
-/
import Derived.Test.YtemlpgeadepmcaaGreatDoorR11
namespace Go.Rn
open Go Go.RowKit
set_option linter.unusedVariables false
set_option linter.unusedSimpArgs false

theorem growBy_le (n : Nat) : ∀ (r c : Nat), Builtin.growBy n r c ≤ max c (n + (n + 768) / 4)
  | 0, c => by simp [Builtin.growBy]; omega
  | r + 1, c => by
    simp only [Builtin.growBy]
    split
    · omega
    · have := growBy_le n r (c + (c + 768) / 4)
      omega

theorem nextcap_le {need old : Nat} (h : old < need) : Builtin.nextslicecap need old ≤ 2 * need + 192 := by
  unfold Builtin.nextslicecap
  split
  · omega
  · split
    · omega
    · have := growBy_le need 4 old
      omega

section
variable {P : Program} {tb : Tab} {w0 w w' : World} {B D D' : Nm} {μ μ' : Mu} {H H' : Tr Blk} {S : St} {out : Out × St} {K : AV → M}

theorem isIntT_spec (hT : TabOk P tb) {U : TypeId} (h : isIntT tb U = some false) : ∃ d, P.underlying U = some d ∧ ∀ k, d ≠ .int k := by
  unfold isIntT at h
  split at h
  · rename_i i hi
    refine ⟨i.desc, (hT.ty U i hi).und, ?_⟩
    split at h
    · cases h
    · rename_i hne
      exact fun k hk => hne k hk
  · cases h

/-- The cells of two rows. -/
theorem T.cat_ok {a b : Rn.T} (ha : a.ok D) (hb : b.ok D) : (a.cat b).ok D ∧ (∀ μ, (a.cat b).vals μ = a.vals μ ++ b.vals μ) ∧ (a.cat b).size = a.size + b.size := by
  have h := Rn.T.cat_spec ha.1 hb.1
  refine ⟨⟨h.2.1, fun x hx => ?_⟩, fun μ => by simp [Rn.T.vals, h.1], h.2.2⟩
  rw [h.1] at hx
  rcases List.mem_append.1 hx with hx | hx
  · exact ha.2 x hx
  · exact hb.2 x hx

theorem run_zeroRest (hT : TabOk P tb) {e : TypeId} {j : TI} (hj : tb.ty e = some j) (z : Value) (hz : ∀ μ, z.cells = (j.zero.vals μ).toArray) (n : Nat) : (Builtin.zeroCells z.cells n).size = n * j.sz := by
  have h0 : z.cells.size = j.sz := by rw [hz (fun _ => (0, 0, 0)), List.size_toArray, zero_len hT hj]
  simp [Builtin.zeroCells, h0]

/-- Realloc: what 'append' does where there is no room. -/
theorem newRow_after (hT : TabOk P tb) (M : MemR P w0 D μ S.hp w) (F : Fresh B D S.nx out.2.nx) {e : TypeId} {j : TI} (hj : tb.ty e = some j) {old new : Rn.T} (ho : old.ok D) (hn : new.ok D) {need newCap : Nat} (hle : need ≤ newCap)
    (h : runM (newRowK e old new need K) S = some out) {rest : Array Value} (hr : rest.size = (newCap - need) * j.sz) {r : Result Value}
    (hres : r = .ok (.slice (some ⟨w.heap.size, 0, none⟩) need newCap) (w.alloc (.cells ((old.vals μ).toArray ++ (new.vals μ).toArray ++ rest) e))) : After P w0 out B D μ K r := by
  unfold newRowK at h
  simp only [Rn.T.catK_eq, forceN_eq] at h
  have hc := T.cat_ok ho hn
  refine After.fresh M F (f := fun k => .g (.s (.s k 0 need need true))) (x := newCap - need) h rfl (fun D' μ' hs hm hd => ?_) (fun D' μ' hs hm hd => ?_) hres
  · have hcs := Rn.T.sees hs hc.1
    refine ⟨hcs.1, [], rest.toList, ?_, rfl, fun _ => ⟨j.sz, (hT.ty e j hj).size, ?_⟩⟩
    · rw [heap_alloc_new, hcs.2, hc.2.1]
      congr 2
      apply Array.toList_inj.1
      simp
    · simp only [Array.length_toList, hr]; exact Nat.le_refl _
  · refine ⟨?_, hd⟩
    simp only [GV.val, Sc.val, at_, hm, if_true]
    congr 1
    omega

theorem run_append_in (hT : TabOk P tb) {T U e : TypeId} {j : TI} (hu : P.underlying T = some (.slice e)) (hj : tb.ty e = some j) (hU : isIntT tb U = some false) {base : Addr} {sLen sCap n : Nat} {x : Value} (hx : ∃ a c, x = .slice a n c) (t : TypeId)
    (hle : sLen + n ≤ sCap) {new : List Value} (hn : (Builtin.firstCells j.sz n x).run P w = .ok new.toArray w) (hs : (storeCells (base.add (sLen * j.sz)) new).run P w = .ok () w') :
    (Builtin.append_ #[T, U] t #[.slice (some base) sLen sCap, x]).run P w = .ok (.slice (some base) (sLen + n) sCap) w' := by
  obtain ⟨a, c, rfl⟩ := hx
  obtain ⟨d, hd, hd2⟩ := isIntT_spec hT hU
  have hok := hT.ty e j hj
  cases d <;> first
    | exact absurd rfl (hd2 _)
    | (simp only [Builtin.append_, Sem.run_bind, List.getElem?_toArray, List.getElem?_cons_zero, List.getElem?_cons_succ, Sem.run_pure, Result.andThen_ok, run_underlying hu, hok.run_size, run_underlying hd]
       simp only [Bool.false_eq_true, if_false, Sem.run_bind, Builtin.lenOf, Sem.run_pure, Result.andThen_ok, if_pos hle, Bool.not_false, if_true, hn, hs])

theorem run_append_new (hT : TabOk P tb) {T U e : TypeId} {j : TI} (hu : P.underlying T = some (.slice e)) (hj : tb.ty e = some j) (hU : isIntT tb U = some false) {base : Option Addr} {sLen sCap n : Nat} {x : Value} (hx : ∃ a c, x = .slice a n c) (t : TypeId)
    (hlt : sCap < sLen + n) (hb : (sLen + n) * (j.bytes + 1) ≤ 1073741824) {old new : List Value} (ho : ∀ w, (∀ b, b < w0.heap.size → w.heap[b]? = w0.heap[b]?) → (Builtin.firstCells j.sz sLen (.slice base sLen sCap)).run P w = .ok old.toArray w)
    (hn : ∀ w, (∀ b, b < w0.heap.size → w.heap[b]? = w0.heap[b]?) → (Builtin.firstCells j.sz n x).run P w = .ok new.toArray w) :
    ∃ newCap rest, sLen + n ≤ newCap ∧ rest.size = (newCap - (sLen + n)) * j.sz ∧
      (Builtin.append_ #[T, U] t #[.slice base sLen sCap, x]).run P w0 = .ok (.slice (some ⟨w0.drew.heap.size, 0, none⟩) (sLen + n) newCap) (w0.drew.alloc (.cells (old.toArray ++ new.toArray ++ rest) e)) := by
  obtain ⟨a, c, rfl⟩ := hx
  obtain ⟨d, hd, hd2⟩ := isIntT_spec hT hU
  have hok := hT.ty e j hj
  obtain ⟨q, hq, hqb⟩ : ∃ q, (∀ w, (typeInfo e).run P w = .ok q w) ∧ q.bytes = j.bytes := by
    obtain ⟨q, h1, h2, h3, _⟩ := hok.info
    exact ⟨q, fun w => by simp [typeInfo, h1], h3⟩
  obtain ⟨z, hzr, hzc⟩ := hok.run_zero2
  have hzc2 : ∀ μ, z.cells = (j.zero.vals μ).toArray := by
    obtain ⟨z', hz1, hz2⟩ := run_zeroCells hT hj w0
    rw [hzr] at hz1; injection hz1 with hz1; rw [hz1]; exact hz2
  have hsmall : Builtin.nextslicecap (sLen + n) sCap * j.bytes ≤ 2 ^ 48 := by
    have h1 := nextcap_le hlt
    have h2 := Nat.mul_le_mul_right j.bytes h1
    have h3 : (2 * (sLen + n) + 192) * j.bytes ≤ 194 * ((sLen + n) * (j.bytes + 1)) := by
      have h4 : (2 * (sLen + n) + 192) ≤ 194 * (sLen + n) := by omega
      have h5 := Nat.mul_le_mul_right j.bytes h4
      have h6 : 194 * (sLen + n) * j.bytes ≤ 194 * (sLen + n) * (j.bytes + 1) := Nat.mul_le_mul_left _ (by omega)
      rw [Nat.mul_assoc 194] at h6
      rw [Nat.mul_assoc 194 (sLen + n) (j.bytes + 1)] at h6
      rw [Nat.mul_assoc 194] at h5
      omega
    omega
  have hneed : sLen + n ≤ 1073741824 := by
    have : (sLen + n) * 1 ≤ (sLen + n) * (j.bytes + 1) := Nat.mul_le_mul_left _ (by omega)
    omega
  refine ⟨(sLen + n) + (w0.tape w0.drawn (.appendCap (sLen + n) sCap e)) % (2 ^ 63 - (sLen + n)), Builtin.zeroCells z.cells _, by omega, run_zeroRest hT hj z hzc2 _, ?_⟩
  have hmax : ¬ (((sLen + n : Nat) : Int) > IntKind.i64.max) := by rw [IntKind.max_i64]; omega
  have hch : ∀ {α : Type} (k : Nat → World → Result α), ((choose (.appendCap (sLen + n) sCap e)).run P w0).andThen k = k ((sLen + n) + (w0.tape w0.drawn (.appendCap (sLen + n) sCap e)) % (2 ^ 63 - (sLen + n))) w0.drew := by
    intro α k
    rfl
  have h1 := ho w0.drew (fun b _ => rfl)
  have h2 := hn w0.drew (fun b _ => rfl)
  cases d <;> first
    | exact absurd rfl (hd2 _)
    | (simp only [Builtin.append_, Sem.run_bind, List.getElem?_toArray, List.getElem?_cons_zero, List.getElem?_cons_succ, Sem.run_pure, Result.andThen_ok, run_underlying hu, hok.run_size, run_underlying hd]
       simp only [Bool.false_eq_true, if_false, Sem.run_bind, Builtin.lenOf, Sem.run_pure, Result.andThen_ok, if_neg (Nat.not_le.2 hlt), hq, hqb]
       rw [if_neg (fun h => hmax h.1)]
       simp only [Sem.run_pure, Result.andThen_ok, Sem.run_bind, hq, hqb]
       rw [if_neg (Nat.not_lt.2 hsmall)]
       simp only [Sem.run_pure, Result.andThen_ok, Sem.run_bind]
       rw [hch]
       simp only [hq, hqb, Result.andThen_ok, run_askRoom, h1, Bool.not_false, if_true, h2, hzr]
       rfl)
end
end Go.Rn
