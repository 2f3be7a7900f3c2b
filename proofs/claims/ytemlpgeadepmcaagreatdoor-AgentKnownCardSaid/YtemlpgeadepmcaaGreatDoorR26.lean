/-
  A part of a proved evaluator for closed runs. No conditions.
-/
import Derived.Test.YtemlpgeadepmcaaGreatDoorR25
namespace Go.Rn
open Go Go.RowKit
set_option linter.unusedVariables false
set_option linter.unusedSimpArgs false

section
variable {P : Program}

/-! ### the tables are right -/
theorem plainT_of {t : T} {l : List Value} (hw : t.wf) (hl : t.list = l.map .v) (h : ∀ v ∈ l, v.oneCell' = true) : plainT t := ⟨hw, fun x hx => by
  rw [hl] at hx
  obtain ⟨v, hv, rfl⟩ := List.mem_map.1 hx
  exact h v hv⟩

theorem vals_of {t : T} {l : List Value} (hl : t.list = l.map .v) (μ : Mu) : t.vals μ = l := by
  unfold T.vals
  rw [hl, List.map_map]
  exact List.map_id l

theorem mkTI_ok {t : Nat} {i : TI} (h : mkTI P t = some i) : TyOk P t i ∧ (i.agg = false → i.sz = 1) := by
  unfold mkTI at h
  split at h
  rotate_left
  · cases h
  rename_i q d hq hd
  split at h
  · rename_i cs hz
    split at h
    rotate_left
    · cases h
    rename_i hc
    rw [Bool.and_eq_true] at hc
    rcases T.balK_spec (bad := none) 64 cs.toList.length (cs.toList.map .v) (fun z r => match r, Nat.beq z.size q.size with
        | [], true => some (⟨q.size, q.bytes, true, d, z⟩ : TI)
        | _, _ => none) with g | ⟨z, r, g, g1, g2, g3⟩
    · exact absurd (g.symm.trans h) (by simp)
    · have h := g.symm.trans h
      split at h
      · rename_i hs
        have hs := Nat.eq_of_beq_eq_true hs
        injection h with h; subst h
        have hone := allOne_spec hc.2
        have hl : z.list = cs.toList.map .v := by simpa using g1
        refine ⟨⟨⟨q, hq, rfl, rfl, .agg cs, hz, fun μ => ?_, fun _ μ => ?_, fun e => by cases e⟩, hd, hc.1.symm, hs, plainT_of g2 hl hone⟩, fun e => by cases e⟩
        · exact (vals_of hl μ).symm
        · show Value.agg cs = .agg (z.vals μ).toArray
          rw [vals_of hl μ]
      · cases h
  · rename_i v hne hz
    split at h
    rotate_left
    · cases h
    rename_i hc
    simp only [Bool.and_eq_true, Bool.not_eq_true'] at hc
    injection h with h; subst h
    have hl : (T.lf (.v v)).list = [v].map .v := rfl
    refine ⟨⟨⟨q, hq, Nat.eq_of_beq_eq_true hc.2, rfl, v, hz, fun μ => ?_, fun e => by (cases e), fun _ μ => vals_of hl μ⟩, hd, hc.1.1.symm, rfl, plainT_of trivial hl (by simpa using hc.1.2)⟩, fun _ => rfl⟩
    rw [vals_of hl μ]
    have := hc.1.2
    cases v <;> simp_all [Value.cells, Value.oneCell']
  · cases h

theorem mkFn_ok {f : FuncId} {fn : Func} (h : mkFn P f = some fn) : P.funcs[f]? = some fn ∧ fn.body.isSome = true ∧ ∀ args w, (callFunc f args).run P w = .ok (.enter f args) w := by
  unfold mkFn at h
  split at h
  rotate_left
  · cases h
  rename_i fn1 hf
  split at h
  rotate_left
  · cases h
  rename_i c hc
  split at h
  rotate_left
  · cases h
  rename_i hn
  injection h with h; subst h
  refine ⟨hf, by rw [hc]; rfl, fun args w => ?_⟩
  have hn' : ¬ fn1.name = "runtime.NumGoroutine" := by
    intro e; rw [e] at hn; simp at hn
  simp [callFunc, hf, hn', hc]

theorem tabOk (P : Program) (gl : Nat → Option Nat) : TabOk P ⟨fun t => mkTI P t, fun f => mkFn P f, gl⟩ :=
  ⟨fun _ _ h => (mkTI_ok h).1, fun _ _ h => mkFn_ok h⟩

/-! ### a call -/
theorem calls_of_run {tb : Tab} (hm : P.follows .mixedOrders = true) (hT : TabOk P tb) (h1 : ∀ t i, tb.ty t = some i → i.agg = false → i.sz = 1) {n : Nat} {f : FuncId} {args : List AV} {K : AV → M} {S : St} {out : Out × St}
    (h : runM (callN P tb n (.fn f) args K) S = some out) {w0 : World} {B D : Nm} {μ : Mu} {w : World} (M : MemR P w0 D μ S.hp w) (F : Fresh B D S.nx out.2.nx) (hg : GlobR tb D μ) {vs : List Value} (hvs : AVL D μ args vs) {R : Ending → World → Prop}
    (hK : ∀ v S' D' μ' v' w', runM (K v) S' = some out → MemR P w0 D' μ' S'.hp w' → Sees D D' μ μ' → AVr D' μ' v v' → Fresh B D' S'.nx out.2.nx → R (.returned v') w') : Calls P f vs.toArray w R := by
  intro cs
  cases n with
  | zero => exact (runM_fail h).elim
  | succ n =>
    refine (fn_ok hm hT h1 (callN_ok hm hT h1 n) h M F hg hvs (G := fun m => ∃ e w' fr, R e w' ∧ Comes P m (lone fr cs w') e ∧ fr.fn = f ∧ fr.leaving P w' e) ?_ (cs := cs) ?_).2
    · rintro m m' hs ⟨e, w', fr, a1, a2, a3, a4⟩
      exact ⟨e, w', fr, a1, Comes.of_steps (.one hs) a2, a3, a4⟩
    · intro v S' D' μ' v' w' fr a1 a2 a3 a4 a5 a6 a7
      exact ⟨.returned v', w', fr, hK v S' D' μ' v' w' a1 a2 a3 a4 a5, Steps.refl _ _, a6, a7⟩
end
end Go.Rn
