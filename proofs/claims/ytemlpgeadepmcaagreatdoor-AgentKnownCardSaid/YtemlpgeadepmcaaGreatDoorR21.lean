/-
  A part of a proved evaluator for closed runs. No conditions.
-/
import Derived.Test.YtemlpgeadepmcaaGreatDoorR20
namespace Go.Rn
open Go Go.RowKit
set_option linter.unusedVariables false
set_option linter.unusedSimpArgs false

section
variable {P : Program} {tb : Tab} {w0 : World} {call : CallF} {nt : Nat} {ops : Array Oper} {R : Nat → Rec} {G : Machine → Prop} {b : Frame} {k : List Item} {cs : List Frame} {df : List Deferred}

theorem looks_op {all : List Oper} {o : Oper} {t : Nat} (h : Operand.tmp t ∈ o.op.operands.toList) : t ∈ looksT all o := by
  unfold looksT
  refine List.mem_append_right _ (List.mem_filterMap.2 ⟨_, h, rfl⟩)

theorem draw_main (hT : TabOk P tb) (h1 : ∀ t i, tb.ty t = some i → i.agg = false → i.sz = 1) (hC : CallOk P tb w0 call) (hB : Back P G) (C : Canon P tb call nt ops R) {D0 : Nm} {μ0 : Mu} (hfree : ∀ k, (R 0).nx ≤ k → k < (R ops.size).nx → ¬ D0 k)
    (hK : ∀ D' μ' a' w', MemR P w0 D' μ' (R ops.size).hp w' → Sees D0 D' μ0 μ' → FrR nt D' μ' (R ops.size).tm a' → a'.defers = df → (∀ k, D' k → D0 k ∨ ((R 0).nx ≤ k ∧ k < (R ops.size).nx)) → G (lone (b.atR a' k) cs w')) :
    ∀ (σ : List Nat) (listed : Array Bool), Sched ops listed σ → listed.size = ops.size → (∀ m, m < ops.size → listed.getD m true = true → ∀ j, Fo ops j m → listed.getD j true = true) →
      ∀ (H : Tr Blk) (a : Act) (w : World) (D : Nm) (μ : Mu), MemR P w0 D μ H w → (∀ k b, mixed (heapS R) (wroteH R) (fun i => listed.getD i true) ops.size k = some b → H.get k = some b) →
        (∀ k, D k → D0 k ∨ ∃ j, j < ops.size ∧ listed.getD j true = true ∧ (R j).nx ≤ k ∧ k < (R (j + 1)).nx) → GlobR tb D μ → a.tmps.size = nt →
        (∀ t x, mixed (tmS R) (wroteT ops) (fun i => listed.getD i true) ops.size t = some x → AVr D μ x (a.tmps.getD t undef)) → a.defers = df → Sees D0 D μ0 μ → G (lone (b.atR a (.inRegion ops σ :: k)) cs w) := by
  intro σ
  induction σ with
  | nil =>
    intro listed hs hsz hcl H a w D μ M hH hD hg hnt hTm hdf hse
    have hall : ∀ i, i < ops.size → listed.getD i true = true := by cases hs; assumption
    refine hB _ _ stepR_region_end (hK D μ a w (M.less fun k b hb => hH k b ?_) hse ⟨hnt, fun t x hx => hTm t x ?_⟩ hdf ?_)
    · rw [mixed_all (fun i hi hw => C.keptH hi hw) (fun j hj hA => by rw [hall j hj] at hA; cases hA)]; exact hb
    · rw [mixed_all (fun i hi hw => C.keptT hi hw) (fun j hj hA => by rw [hall j hj] at hA; cases hA)]; exact hx
    · intro k hk
      rcases hD k hk with h | ⟨j, hj, _, h2, h3⟩
      · exact .inl h
      · refine .inr ⟨Nat.le_trans (C.nx_mono (Nat.zero_le j) (by omega)) h2, Nat.lt_of_lt_of_le h3 (C.nx_mono (by omega) (Nat.le_refl _))⟩
  | cons i σ ih =>
    intro listed hs hsz hcl H a w D μ M hH hD hg hnt hTm hdf hse
    cases hs with
    | step ho hli hed hs' =>
    rename_i o
    have hi : i < ops.size := (Array.getElem?_eq_some_iff.1 ho).1
    -- all that have to go ahead have gone
    have hdirect : ∀ e ∈ o.after, Region.binds .any e = true → listed.getD e.on true = true := by
      intro e he hb
      have hlt := C.edges i o ho e he hb
      have := hed e he hb
      have hsz2 : e.on < listed.size := by omega
      simpa [hsz2] using this
    have hpre : ∀ j, Fo ops j i → listed.getD j true = true := by
      intro j hf
      cases hf with
      | one ho' he hb => rw [ho] at ho'; injection ho' with ho'; subst ho'; exact hdirect _ he hb
      | more ho' he hb hf' =>
        rw [ho] at ho'; injection ho' with ho'; subst ho'
        exact hcl _ (by have := C.edges i o ho _ he hb; omega) (hdirect _ he hb) j hf'
    have hset : ∀ j, (listed.setIfInBounds i true).getD j true = addA (fun i => listed.getD i true) i j := by
      intro j
      unfold addA
      by_cases hj : j = i
      · subst hj
        rw [Array.getD_eq_getD_getElem?, Array.getElem?_setIfInBounds_self_of_lt (by omega)]
        simp
      · rw [Array.getD_eq_getD_getElem?, Array.getElem?_setIfInBounds_ne (Ne.symm hj), ← Array.getD_eq_getD_getElem?]
        simp [hj]
    have hset' : (fun j => (listed.setIfInBounds i true).getD j true) = addA (fun i => listed.getD i true) i := funext hset
    have hcl' : ∀ m, m < ops.size → (listed.setIfInBounds i true).getD m true = true → ∀ j, Fo ops j m → (listed.setIfInBounds i true).getD j true = true := by
      intro m hm hA j hf
      rw [hset] at hA ⊢
      simp only [addA, Bool.or_eq_true, decide_eq_true_eq] at hA ⊢
      rcases hA with rfl | hA
      · exact .inr (hpre j hf)
      · exact .inr (hcl m hm hA j hf)
    -- temporaries that are looked at
    have hlook : ∀ t x, t ∈ looksT ops.toList o → (R i).tm.get t = some x → AVr D μ x (a.tmps.getD t undef) := by
      intro t x ht hx
      have ha := C.apartT (A := fun i => listed.getD i true) ho hli hpre hcl (.inl ht)
      refine hTm t x ?_
      rw [mixed_here hi (fun m hm hw => C.keptT hm hw) ha.1 ha.2]
      exact hx
    have hstep := C.step i o ho
    -- the temporaries behind the operation
    have hTm' : ∀ (D' : Nm) (μ' : Mu) (v' : Value), Sees D D' μ μ' → AVr D' μ' (R i).v v' → ∀ t x, mixed (tmS R) (wroteT ops) (fun j => (listed.setIfInBounds i true).getD j true) ops.size t = some x → AVr D' μ' x ((a.put o.dst v').tmps.getD t undef) := by
      intro D' μ' v' hs2 hv t x hx
      rw [hset'] at hx
      by_cases hd : o.dst = some t
      · have hW : wroteT ops i t = true := by unfold wroteT; rw [ho]; simp [hd]
        have ha := C.apartT (A := fun i => listed.getD i true) ho hli hpre hcl (.inr hd)
        rw [mixed_add_here hi hW (fun j h2 h3 h4 => ha.2 j (by omega) h3 h4)] at hx
        unfold tmS at hx
        rw [hstep.tm, if_pos hd] at hx
        injection hx with hx; subst hx
        rw [hd]
        simp only [Act.put]
        have hlt : t < a.tmps.size := by rw [hnt]; exact hstep.dst t hd
        rw [Array.getD_eq_getD_getElem?, Array.getElem?_setIfInBounds_self_of_lt hlt]
        exact hv
      · have hW : wroteT ops i t = false := by unfold wroteT; rw [ho]; simp [hd]
        rw [mixed_add_other hW] at hx
        have := (hTm t x hx).sees hs2
        cases hdd : o.dst with
        | none => simpa [Act.put] using this
        | some d =>
          have hne : d ≠ t := fun e => hd (by rw [hdd, e])
          simp only [Act.put]
          rw [Array.getD_eq_getD_getElem?, Array.getElem?_setIfInBounds_ne hne, ← Array.getD_eq_getD_getElem?]
          exact this
    have hsize : ∀ v', (a.put o.dst v').tmps.size = nt := by intro v'; cases hdd : o.dst <;> simp [Act.put, hnt]
    rcases hstep.run with ⟨hon, hw, hnx, fl, hrun⟩ | ⟨hon, hw, e1, e2, e3, e4⟩
    · -- it is carried out
      have hwant := wants_spec' (ops := ops) hlook hw
      let u : Operand → AV := use tb (R i).tm
      let u' : Operand → AV := fun x => match x with
        | .tmp t => if t ∈ looksT ops.toList o then u x else .any
        | x => u x
      have hu' : ∀ x, AVr D μ (u' x) (a.eval x) := by
        intro x
        cases x with
        | tmp t =>
          simp only [u']
          split
          · rename_i ht
            simp only [u, use]
            split
            · rename_i y hy; exact hlook t y ht hy
            · trivial
          · trivial
        | const v => exact constAV_spec v
        | global g => exact use_spec (nt := a.tmps.size) (tm := .nl) hg ⟨rfl, fun t x hx => by simp [Tr.get_nl] at hx⟩ (.global g)
        | func f => exact use_spec (nt := a.tmps.size) (tm := .nl) hg ⟨rfl, fun t x hx => by simp [Tr.get_nl] at hx⟩ (.func f)
      have hcongr : evOp P tb call u o.op (fun v => .ret (.v v)) = evOp P tb call u' o.op fun v => .ret (.v v) := by
        refine evOp_congr fun x hx => ?_
        cases x with
        | tmp t => simp only [u']; rw [if_pos (looks_op hx)]
        | _ => rfl
      obtain ⟨g0, hlike⟩ := runM_like _ _ _ _ hrun hnx
      have hap := fun k hk => C.apart (A := fun i => listed.getD i true) hi hli hpre hcl (k := k) hk
      obtain ⟨R', r1, ⟨l1, l2, l3, l4⟩, r3⟩ := hlike ⟨H, (R i).nx, (R i).nx, .nl⟩ (R i).lg (LogLe.refl _) ⟨rfl, rfl, rfl, fun k b hk hb => by
        refine hH k b ?_
        rw [mixed_here hi (fun m hm hw => C.keptH hm hw) (hap k hk).1 (hap k hk).2]
        exact hb⟩
      simp only at l1 l2 l3 l4 r3
      have hr1 : runM (evOp P tb call u' o.op fun v => .ret (.v v)) ⟨H, (R i).nx, (R i).nx, .nl⟩ = some (.v (R i).v, R') := by rw [← hcongr]; exact r1
      have hF : Fresh (fun k => D k ∨ ((R i).nx ≤ k ∧ k < (R (i + 1)).nx)) D (R i).nx R'.nx := by
        rw [← l1]
        refine ⟨fun k q1 q2 hDk => ?_, fun k hk => .inl hk, fun k q1 q2 => .inr ⟨q1, q2⟩⟩
        rcases hD k hDk with h | ⟨j, hj, hAj, h2, h3⟩
        · exact hfree k (Nat.le_trans (C.nx_mono (Nat.zero_le i) (by omega)) q1) (Nat.lt_of_lt_of_le q2 (C.nx_mono (by omega) (Nat.le_refl _))) h
        · rcases Nat.lt_trichotomy j i with hji | hji | hji
          · have := C.nx_mono (i := j + 1) (m := i) (by omega) (by omega); omega
          · subst hji; rw [hli] at hAj; cases hAj
          · have := C.nx_mono (i := i + 1) (m := j) (by omega) (by omega); omega
      refine evOp_ok (S := ⟨H, (R i).nx, (R i).nx, .nl⟩) (out := (.v (R i).v, R')) hT h1 hC hB ho hwant hu' M hF hg hr1 ?_
      intro v S' D' μ' v' w' q1 q2 q3 q4 q5
      simp only [runM, Option.some.injEq, Prod.mk.injEq] at q1
      obtain ⟨q1, rfl⟩ := q1
      injection q1 with q1; subst q1
      refine ih _ hs' (by simp [hsz]) hcl' S'.hp _ w' D' μ' q2 ?_ ?_ (hg.sees q3) (hsize _) (hTm' D' μ' v' q3 q4) ((put_defers _ _).trans hdf) (hse.trans q3)
      · intro k b hb
        rw [hset'] at hb
        by_cases hW : wroteH R i k = true
        · have hlg := wroteH_iff.1 hW
          have hk : ((R i).lg.get k).isSome = true := by rw [hlg]; rfl
          rw [mixed_add_here hi hW (fun j h2 h3 h4 => (hap k hk).2 j (by omega) h3 h4)] at hb
          exact l4 k b hk hb
        · have hW : wroteH R i k = false := by simpa using hW
          rw [mixed_add_other hW] at hb
          rw [r3 k (fun h => by rw [wroteH_iff.2 h] at hW; cases hW)]
          exact hH k b hb
      · intro k hk
        rcases q5.inB k hk with h | h
        · rcases hD k h with h | ⟨j, hj, hAj, h2, h3⟩
          · exact .inl h
          · exact .inr ⟨j, hj, by rw [hset]; simp [addA, hAj], h2, h3⟩
        · exact .inr ⟨i, hi, by rw [hset]; simp [addA], h.1, h.2⟩
    · -- it is passed over
      have hwant := wants_spec' (ops := ops) hlook hw
      refine hB _ _ (stepR_op_skip (by simp [ho, hwant])) ?_
      rw [ho]
      refine ih _ hs' (by simp [hsz]) hcl' H _ w D μ M ?_ ?_ hg (hsize _) (hTm' D μ undef (Sees.refl _ _) (by rw [e4]; exact AVr_un)) ((put_defers _ _).trans hdf) hse
      · intro k b hb
        rw [hset'] at hb
        have hW : wroteH R i k = false := by unfold wroteH; rw [e3]; simp [Tr.get_nl]
        rw [mixed_add_other hW] at hb
        exact hH k b hb
      · intro k hk
        rcases hD k hk with h | ⟨j, hj, hAj, h2, h3⟩
        · exact .inl h
        · exact .inr ⟨j, hj, by rw [hset]; simp [addA, hAj], h2, h3⟩
end
end Go.Rn
