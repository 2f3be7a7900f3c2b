/-
  A part of a proved evaluator for closed runs. No conditions.
-/
import Derived.Test.YtemlpgeadepmcaaGreatDoorR9
namespace Go.Rn
open Go Go.RowKit
set_option linter.unusedVariables false
set_option linter.unusedSimpArgs false

section
variable {P : Program} {tb : Tab} {w0 w w' : World} {B D D' : Nm} {μ μ' : Mu} {H H' : Tr Blk} {S : St} {out : Out × St} {K : AV → M}

theorem natOf_spec {x : AV} {n : Nat} {v : Value} (h : natOf x = some n) (hx : AVr D μ x v) : ∃ k, v = .int k (.ofNat n) := by
  unfold natOf at h
  split at h
  · injection h with h; subst h
    exact ⟨_, hx.1⟩
  · cases h

/-- Optional operands. -/
inductive OpR (D : Nm) (μ : Mu) : Option AV → Option Value → Prop
  | none : OpR D μ none none
  | some {x : AV} {v : Value} : AVr D μ x v → OpR D μ (some x) (some v)

theorem OpR.map {u : Operand → AV} {f : Operand → Value} (h : ∀ x, AVr D μ (u x) (f x)) (o : Option Operand) : OpR D μ (o.map u) (o.map f) := by
  cases o with
  | none => exact .none
  | some x => exact .some (h x)

theorem run_sliceBound {k : IntKind} {n y : Nat} (h : n ≤ y) (c : BoundsCode) (w : World) : (Instr.sliceBound (.int k (n : Int)) y c).run P w = .ok n w := by
  simp only [Instr.sliceBound, asIntOf, Sem.run_bind, Sem.run_pure, Result.andThen_ok]
  rw [if_pos ⟨by omega, by omega⟩]
  simp

theorem boundsK_spec {β : Type} {bad : β} {len cap : Nat} {lo hi mx : Option AV} {lo' hi' mx' : Option Value} (hl : OpR D μ lo lo') (hh : OpR D μ hi hi') (hm : OpR D μ mx mx') (K : Nat → Nat → Nat → β) :
    boundsK bad len cap lo hi mx K = bad ∨ ∃ l h m, boundsK bad len cap lo hi mx K = K l h m ∧ l ≤ h ∧ h ≤ m ∧ m ≤ cap ∧ (mx = none → m = cap) ∧
      ∀ (b : Bool) (CAP : Nat), cap ≤ CAP → ∀ w, (Instr.sliceBounds b len CAP lo' hi' mx').run P w = .ok (l, h, orE mx CAP m) w := by
  unfold boundsK
  split
  · exact .inl rfl
  · rename_i hne
    split
    · rename_i m hm1
      split
      · rename_i hmc
        have hmc := ble_iff.1 hmc
        split
        · rename_i h hh1
          split
          · rename_i hhm
            have hhm := ble_iff.1 hhm
            split
            · rename_i l hl1
              split
              · rename_i hlh
                have hlh := ble_iff.1 hlh
                refine .inr ⟨l, h, m, rfl, hlh, hhm, hmc, ?_, ?_⟩
                · rintro rfl; simpa [natOr] using hm1.symm
                · intro b CAP hC w
                  cases hm with
                  | none =>
                    have hmm : m = cap := by simpa [natOr] using hm1.symm
                    subst hmm
                    cases hh with
                    | none =>
                      have hhh : h = len := by simpa [natOr] using hh1.symm
                      subst hhh
                      cases hl with
                      | none =>
                        have hll : l = 0 := by simpa [natOr] using hl1.symm
                        subst hll
                        simp [orE, Instr.sliceBounds]
                      | some hx =>
                        obtain ⟨k, rfl⟩ := natOf_spec hl1 hx
                        simp [orE, Instr.sliceBounds, run_sliceBound hlh]
                    | some hx2 =>
                      obtain ⟨k2, rfl⟩ := natOf_spec hh1 hx2
                      cases hl with
                      | none =>
                        have hll : l = 0 := by simpa [natOr] using hl1.symm
                        subst hll
                        simp [orE, Instr.sliceBounds, run_sliceBound (show h ≤ CAP by omega)]
                      | some hx =>
                        obtain ⟨k, rfl⟩ := natOf_spec hl1 hx
                        simp [orE, Instr.sliceBounds, run_sliceBound (show h ≤ CAP by omega), run_sliceBound hlh]
                  | some hx3 =>
                    obtain ⟨k3, rfl⟩ := natOf_spec hm1 hx3
                    cases hh with
                    | none => exact (hne _ rfl rfl).elim
                    | some hx2 =>
                      obtain ⟨k2, rfl⟩ := natOf_spec hh1 hx2
                      cases hl with
                      | none =>
                        have hll : l = 0 := by simpa [natOr] using hl1.symm
                        subst hll
                        simp [orE, Instr.sliceBounds, run_sliceBound (show m ≤ CAP by omega), run_sliceBound hhm]
                      | some hx =>
                        obtain ⟨k, rfl⟩ := natOf_spec hl1 hx
                        simp [orE, Instr.sliceBounds, run_sliceBound (show m ≤ CAP by omega), run_sliceBound hhm, run_sliceBound hlh]
              · exact .inl rfl
            · exact .inl rfl
          · exact .inl rfl
        · exact .inl rfl
      · exact .inl rfl
    · exact .inl rfl

theorem slK_eq {β : Type} (k off len cap : Nat) (op : Bool) (K : AV → β) : slK k off len cap op K = K (.g (.s (.s k off len cap op))) := by simp only [slK, forceN_eq]

theorem pSlice_spec {β : Type} {bad : β} {K : AV → β} (hT : TabOk P tb) {T : TypeId} {x : AV} {a : Value} {lo hi mx : Option AV} {lo' hi' mx' : Option Value} (hx : AVr D μ x a) (hl : OpR D μ lo lo') (hh : OpR D μ hi hi') (hm : OpR D μ mx mx') :
    Yl bad (pSlice tb bad T x lo hi mx K) K D μ P (Instr.sliceAt T a lo' hi' mx') := by
  unfold pSlice
  split
  rotate_left
  · exact .inl rfl
  rename_i i hi1
  have hu := (hT.ty T i hi1).und
  split
  · rename_i n e k off hd
    rw [hd] at hu
    obtain ⟨rfl, hok⟩ := hx
    split
    · rename_i j hj
      rcases boundsK_spec (P := P) (bad := bad) hl hh hm (len := n) (cap := n) (slA k off j.sz K) with hb | ⟨l, h, m, e1, e2, e3, e4, e5, e6⟩
      · exact .inl hb
      · rw [e1]
        have hmm : orE mx n m = m := by cases mx with | none => exact (e5 rfl).symm | some _ => rfl
        have hrun : ∀ w, (Instr.sliceAt T (.pointer (some (at_ μ k off))) lo' hi' mx').run P w = .ok (.slice (some (if m = l then at_ μ k off else (at_ μ k off).add (l * j.sz))) (h - l) (m - l)) w := by
          intro w
          have := e6 false n (Nat.le_refl _) w
          rw [hmm] at this
          simp only [Instr.sliceAt, Sem.run_bind, run_underlying hu, Result.andThen_ok, Instr.sureAddr, Sem.run_pure, this, (hT.ty e j hj).run_size]
        unfold slA
        cases hb : Nat.beq m l with
        | true =>
          have hb := Nat.eq_of_beq_eq_true hb
          refine .inr ⟨.g (.s (.s k off (h - l) (m - l) false)), _, by simp only [slK_eq], hrun, ?_, hok⟩
          simp [GV.val, Sc.val, hb]
        | false =>
          have hb : ¬ m = l := fun e => by subst e; rw [Nat.beq_refl] at hb; cases hb
          refine .inr ⟨.g (.s (.s k (off + l * j.sz) (h - l) (m - l) false)), _, by simp only [slK_eq], hrun, ?_, hok⟩
          simp [GV.val, Sc.val, hb, at_add]
    · exact .inl rfl
  · rename_i e k off len cap op hd
    rw [hd] at hu
    obtain ⟨rfl, hok⟩ := hx
    split
    rotate_left
    · exact .inl rfl
    rename_i j hj
    have hC : cap ≤ (if op then cap + (μ k).2.2 else cap) := by split <;> omega
    generalize hCAP : (if op then cap + (μ k).2.2 else cap) = CAP at hC
    generalize hF : slF k off j.sz cap op (isN mx) K = FF
    rcases boundsK_spec (P := P) (bad := bad) hl hh hm (len := len) (cap := cap) FF with hb | ⟨l, h, m, e1, e2, e3, e4, e5, e6⟩
    · exact .inl hb
    · rw [e1]
      have hrun : ∀ m', orE mx CAP m = m' → ∀ w, (Instr.sliceAt T (.slice (some (at_ μ k off)) len CAP) lo' hi' mx').run P w = .ok (.slice (if m' = l then some (at_ μ k off) else some ((at_ μ k off).add (l * j.sz))) (h - l) (m' - l)) w := by
        intro m' hm' w
        have := e6 true CAP hC w
        rw [hm'] at this
        simp only [Instr.sliceAt, Instr.slice, Sem.run_bind, run_underlying hu, Result.andThen_ok, Sem.run_pure, this, (hT.ty e j hj).run_size]
        rfl
      have hclosed : orE mx CAP m = m → Yl bad (slA k off j.sz K l h m) K D μ P (Instr.sliceAt T ((GV.s (Sc.s k off len cap op)).val μ) lo' hi' mx') := by
        intro hmm
        have hr := hrun m hmm
        unfold slA
        cases hb : Nat.beq m l with
        | true =>
          have hb := Nat.eq_of_beq_eq_true hb
          refine .inr ⟨.g (.s (.s k off (h - l) (m - l) false)), Value.slice (if m = l then some (at_ μ k off) else some ((at_ μ k off).add (l * j.sz))) (h - l) (m - l), by simp only [slK_eq], fun w => ?_, ?_, hok⟩
          · simp only [GV.val, Sc.val, hCAP]; exact hr w
          · simp [GV.val, Sc.val, hb]
        | false =>
          have hb : ¬ m = l := fun e => by subst e; rw [Nat.beq_refl] at hb; cases hb
          refine .inr ⟨.g (.s (.s k (off + l * j.sz) (h - l) (m - l) false)), Value.slice (if m = l then some (at_ μ k off) else some ((at_ μ k off).add (l * j.sz))) (h - l) (m - l), by simp only [slK_eq], fun w => ?_, ?_, hok⟩
          · simp only [GV.val, Sc.val, hCAP]; exact hr w
          · simp [GV.val, Sc.val, hb, at_add]
      cases op with
      | false =>
        subst hF
        refine hclosed ?_
        cases mx with
        | none => simp only [Bool.false_eq_true, if_false] at hCAP; rw [← hCAP]; simp [orE, e5 rfl]
        | some _ => rfl
      | true =>
        cases hm with
        | some hx3 => subst hF; exact hclosed rfl
        | none =>
          subst hF
          have hmc := e5 rfl
          subst hmc
          simp only [if_true] at hCAP
          have hr := hrun CAP rfl
          simp only [isN, slF, slB]
          cases hb : Nat.beq l m with
          | true =>
            have hb := Nat.eq_of_beq_eq_true hb
            have hlh : h = l := by omega
            refine .inr ⟨.g (.s (.z k off (off + l * j.sz))), Value.slice (if CAP = l then some (at_ μ k off) else some ((at_ μ k off).add (l * j.sz))) (h - l) (CAP - l), by simp only [forceN_eq], fun w => ?_, ?_, hok⟩
            · simp only [GV.val, Sc.val, if_true, hCAP]; exact hr w
            · simp only [GV.val, Sc.val, at_add]
              have h1 : CAP - l = (μ k).2.2 := by omega
              have h2 : h - l = 0 := by omega
              rw [h1, h2]
              by_cases h3 : (μ k).2.2 = 0
              · rw [if_pos (by omega), if_pos h3]
              · rw [if_neg (by omega), if_neg h3]
          | false =>
            have hb' : ¬ l = m := fun e => by subst e; rw [Nat.beq_refl] at hb; cases hb
            refine .inr ⟨.g (.s (.s k (off + l * j.sz) (h - l) (m - l) true)), Value.slice (if CAP = l then some (at_ μ k off) else some ((at_ μ k off).add (l * j.sz))) (h - l) (CAP - l), by simp only [slK_eq], fun w => ?_, ?_, hok⟩
            · simp only [GV.val, Sc.val, if_true, hCAP]; exact hr w
            · simp only [GV.val, Sc.val, at_add, if_true]
              rw [if_neg (by omega)]
              congr 1; omega
  · rename_i e k o1 o2 hd
    rw [hd] at hu
    obtain ⟨rfl, hok⟩ := hx
    split
    · rename_i j hj hn
      cases hm with
      | some _ => cases hn
      | none =>
        rcases boundsK_spec (P := P) (bad := bad) hl hh .none (len := 0) (cap := 0) (fun _ _ _ => K (.g (.s (.z k o1 o2)))) with hb | ⟨l, h, m, e1, e2, e3, e4, e5, e6⟩
        · exact .inl hb
        · rw [e1]
          have hl0 : l = 0 := by omega
          have hh0 : h = 0 := by omega
          subst hl0 hh0
          refine .inr ⟨_, _, rfl, fun w => ?_, rfl, hok⟩
          have := e6 true (μ k).2.2 (Nat.zero_le _) w
          simp only [GV.val, Sc.val, Instr.sliceAt, Instr.slice, Sem.run_bind, run_underlying hu, Result.andThen_ok, Sem.run_pure, this, (hT.ty e j hj).run_size]
          simp [at_add, orE]
    · exact .inl rfl
  · rename_i e hd
    rw [hd] at hu
    obtain ⟨rfl, hok⟩ := hx
    split
    · rename_i j hj
      rcases boundsK_spec (P := P) (bad := bad) hl hh hm (len := 0) (cap := 0) (fun _ _ _ => K (.sc (.slice none 0 0))) with hb | ⟨l, h, m, e1, e2, e3, e4, e5, e6⟩
      · exact .inl hb
      · rw [e1]
        have hl0 : l = 0 := by omega
        have hh0 : h = 0 := by omega
        have hm0 : m = 0 := by omega
        subst hl0 hh0 hm0
        refine .inr ⟨_, _, rfl, fun w => ?_, rfl, hok⟩
        have := e6 true 0 (Nat.zero_le _) w
        have hmm : orE mx 0 0 = 0 := by cases mx <;> rfl
        rw [hmm] at this
        simp only [GV.val, Sc.val, Instr.sliceAt, Instr.slice, Sem.run_bind, run_underlying hu, Result.andThen_ok, Sem.run_pure, this, (hT.ty e j hj).run_size]
        simp
    · exact .inl rfl
  · exact .inl rfl
end
end Go.Rn
