/-
  A part of a proved evaluator for closed runs. No conditions.
-/
import Derived.Test.YtemlpgeadepmcaaGreatDoorR19
namespace Go.Rn
open Go Go.RowKit
set_option linter.unusedVariables false
set_option linter.unusedSimpArgs false

/-! ### a sequence of which only some steps have been made -/
section seq
variable {κ ν : Type} (X : Nat → κ → Option ν) (W : Nat → κ → Bool) (A : Nat → Bool)

def mixed : Nat → κ → Option ν
  | 0, k => X 0 k
  | m + 1, k => match A m && W m k with
    | true => X (m + 1) k
    | false => mixed m k

variable {X W A}

/-- All steps that matter at a place have been made: it is as in the sequence. -/
theorem mixed_all {k : κ} : ∀ {m : Nat}, (∀ i, i < m → W i k = false → X (i + 1) k = X i k) → (∀ j, j < m → A j = false → W j k = false) → mixed X W A m k = X m k
  | 0, _, _ => rfl
  | m + 1, hX, h => by
    simp only [mixed]
    have ih := mixed_all (m := m) (fun i hi => hX i (by omega)) (fun j hj => h j (by omega))
    split
    · rfl
    · rename_i hc
      rw [ih]
      simp only [Bool.and_eq_false_iff] at hc
      have hw : W m k = false := by
        rcases hc with hc | hc
        · exact h m (by omega) hc
        · exact hc
      exact (hX m (by omega) hw).symm

/-- No later step that has been made matters at a place. -/
theorem mixed_later {k : κ} {i : Nat} : ∀ {m : Nat}, i ≤ m → (∀ j, i ≤ j → j < m → A j = true → W j k = false) → mixed X W A m k = mixed X W A i k
  | 0, hi, _ => by have : i = 0 := by omega
                   rw [this]
  | m + 1, hi, h => by
    by_cases hm : i = m + 1
    · rw [hm]
    · simp only [mixed]
      split
      · rename_i hc
        simp only [Bool.and_eq_true] at hc
        have := h m (by omega) (by omega) hc.1
        rw [this] at hc; exact absurd hc.2 (by simp)
      · exact mixed_later (by omega) (fun j h1 h2 => h j h1 (by omega))

theorem mixed_here {k : κ} {i n : Nat} (hi : i < n) (hX : ∀ m, m < n → W m k = false → X (m + 1) k = X m k) (h1 : ∀ j, j < i → A j = false → W j k = false) (h2 : ∀ j, i ≤ j → j < n → A j = true → W j k = false) : mixed X W A n k = X i k := by
  rw [mixed_later (Nat.le_of_lt hi) h2]
  exact mixed_all (fun j hj => hX j (by omega)) h1

def addA (A : Nat → Bool) (i : Nat) : Nat → Bool := fun j => decide (j = i) || A j

theorem mixed_add_other {k : κ} {i : Nat} (hW : W i k = false) : ∀ m, mixed X W (addA A i) m k = mixed X W A m k
  | 0 => rfl
  | m + 1 => by
    simp only [mixed]
    rw [mixed_add_other hW m]
    by_cases hm : m = i
    · subst hm; simp [addA, hW]
    · simp [addA, hm]

theorem mixed_add_here {k : κ} {i n : Nat} (hi : i < n) (hW : W i k = true) (h2 : ∀ j, i < j → j < n → A j = true → W j k = false) : mixed X W (addA A i) n k = X (i + 1) k := by
  rw [mixed_later (i := i + 1) (by omega) (fun j h1 h3 h4 => h2 j (by omega) h3 (by
    simp only [addA, Bool.or_eq_true, decide_eq_true_eq] at h4
    rcases h4 with h4 | h4
    · omega
    · exact h4))]
  simp [mixed, addA, hW]
end seq

structure Canon (P : Program) (tb : Tab) (call : CallF) (nt : Nat) (ops : Array Oper) (R : Nat → Rec) : Prop where
  step : ∀ i o, ops[i]? = some o → StepR P tb call nt ops.toList o (R i) (R (i + 1))
  logs : ∀ i j, i < ops.size → j < i → clash (R j).lg (R i).lg = true → Fo ops j i
  tms : ∀ i j a o, ops[i]? = some o → ops[j]? = some a → j < i → Fo ops j i ∨ tmClash ops.toList a o = false
  edges : ∀ i o, ops[i]? = some o → ∀ e ∈ o.after, Region.binds .any e = true → e.on < i

def wroteH (R : Nat → Rec) (m k : Nat) : Bool := match (R m).lg.get k with
  | some true => true
  | _ => false
def heapS (R : Nat → Rec) (m k : Nat) : Option Blk := (R m).hp.get k
def wroteT (ops : Array Oper) (m t : Nat) : Bool := match ops[m]? with
  | some o => decide (o.dst = some t)
  | none => false
def tmS (R : Nat → Rec) (m t : Nat) : Option AV := (R m).tm.get t

theorem wroteH_iff {R : Nat → Rec} {m k : Nat} : wroteH R m k = true ↔ (R m).lg.get k = some true := by
  unfold wroteH
  split
  · rename_i h; simp [h]
  · rename_i h; constructor
    · intro h'; cases h'
    · intro h'; exact absurd h' h

section
variable {P : Program} {tb : Tab} {call : CallF} {nt : Nat} {ops : Array Oper} {R : Nat → Rec}

theorem Canon.keptH (C : Canon P tb call nt ops R) {m : Nat} (hm : m < ops.size) {k : Nat} (hw : wroteH R m k = false) : heapS R (m + 1) k = heapS R m k := by
  have hlg : (R m).lg.get k ≠ some true := fun h => by rw [wroteH_iff.2 h] at hw; cases hw
  rcases (C.step m ops[m] (by simp [hm])).run with ⟨_, _, hnx, fl, hrun⟩ | ⟨_, _, h1, _⟩
  · obtain ⟨_, hR⟩ := runM_like _ _ _ _ hrun hnx
    obtain ⟨R', r1, _, r3⟩ := hR _ _ (LogLe.refl _) ⟨rfl, rfl, rfl, fun _ _ _ h => h⟩
    rw [hrun] at r1
    injection r1 with r1; injection r1 with _ r1
    subst r1
    exact r3 k hlg
  · unfold heapS; rw [h1]

theorem Canon.nx_le (C : Canon P tb call nt ops R) {m : Nat} (hm : m < ops.size) : (R m).nx ≤ (R (m + 1)).nx := by
  rcases (C.step m ops[m] (by simp [hm])).run with ⟨_, _, hnx, fl, hrun⟩ | ⟨_, _, _, h2, _⟩
  · exact runM_nx hrun
  · omega

theorem Canon.nx_mono (C : Canon P tb call nt ops R) {i : Nat} : ∀ {m : Nat}, i ≤ m → m ≤ ops.size → (R i).nx ≤ (R m).nx
  | 0, hi, _ => by have : i = 0 := by omega
                   rw [this]; exact Nat.le_refl _
  | m + 1, hi, hm => by
    by_cases h : i = m + 1
    · rw [h]; exact Nat.le_refl _
    · exact Nat.le_trans (C.nx_mono (m := m) (by omega) (by omega)) (C.nx_le (by omega))

theorem Canon.newW (C : Canon P tb call nt ops R) {m k : Nat} (hm : m < ops.size) (h1 : (R m).nx ≤ k) (h2 : k < (R (m + 1)).nx) : wroteH R m k = true := by
  rcases (C.step m ops[m] (by simp [hm])).run with ⟨_, _, hnx, fl, hrun⟩ | ⟨_, _, _, h3, _⟩
  · exact wroteH_iff.2 ((runM_like _ _ _ _ hrun hnx).1.2.2.2 k h1 h2)
  · omega

theorem Canon.keptT (C : Canon P tb call nt ops R) {m : Nat} (hm : m < ops.size) {t : Nat} (hw : wroteT ops m t = false) : tmS R (m + 1) t = tmS R m t := by
  have ho : ops[m]? = some ops[m] := by simp [hm]
  unfold wroteT at hw
  rw [ho] at hw
  simp only [decide_eq_false_iff_not] at hw
  unfold tmS
  rw [(C.step m _ ho).tm, if_neg hw]

/-- What an operation touched, no other one wrote that need not go ahead of it or behind it. -/
theorem Canon.apart (C : Canon P tb call nt ops R) {A : Nat → Bool} {i : Nat} (hi : i < ops.size) (hAi : A i = false) (hpre : ∀ j, Fo ops j i → A j = true) (hcl : ∀ m, m < ops.size → A m = true → ∀ j, Fo ops j m → A j = true) {k : Nat} (hk : ((R i).lg.get k).isSome = true) :
    (∀ j, j < i → A j = false → wroteH R j k = false) ∧ (∀ j, i ≤ j → j < ops.size → A j = true → wroteH R j k = false) := by
  constructor
  · intro j hj hAj
    cases hw : wroteH R j k with
    | false => rfl
    | true =>
      have hlg := wroteH_iff.1 hw
      cases hc : clash (R j).lg (R i).lg with
      | false => exact absurd ⟨hlg, hk⟩ (clash_spec hc k).1
      | true =>
        have := hpre j (C.logs i j hi hj hc)
        rw [hAj] at this; cases this
  · intro j hij hj hAj
    cases hw : wroteH R j k with
    | false => rfl
    | true =>
      have hlg := wroteH_iff.1 hw
      have hne : i ≠ j := fun e => by rw [← e, hAi] at hAj; cases hAj
      cases hc : clash (R i).lg (R j).lg with
      | false => exact absurd ⟨hk, hlg⟩ (clash_spec hc k).2
      | true =>
        have := hcl j hj hAj i (C.logs j i hj (by omega) hc)
        rw [hAi] at this; cases this

theorem Canon.apartT (C : Canon P tb call nt ops R) {A : Nat → Bool} {i : Nat} {o : Oper} (ho : ops[i]? = some o) (hAi : A i = false) (hpre : ∀ j, Fo ops j i → A j = true) (hcl : ∀ m, m < ops.size → A m = true → ∀ j, Fo ops j m → A j = true) {t : Nat}
    (ht : t ∈ looksT ops.toList o ∨ o.dst = some t) : (∀ j, j < i → A j = false → wroteT ops j t = false) ∧ (∀ j, i ≤ j → j < ops.size → A j = true → wroteT ops j t = false) := by
  constructor
  · intro j hj hAj
    have hjs : j < ops.size := by have := (Array.getElem?_eq_some_iff.1 ho).1; omega
    have hoj : ops[j]? = some ops[j] := by simp [hjs]
    unfold wroteT
    rw [hoj]
    simp only [decide_eq_false_iff_not]
    intro hd
    rcases C.tms i j ops[j] o ho hoj hj with h | h
    · have := hpre j h; rw [hAj] at this; cases this
    · obtain ⟨h1, h2, h3⟩ := tmClash_spec h
      rcases ht with ht | ht
      · exact h1 t hd ht
      · exact h3 t hd ht
  · intro j hij hj hAj
    have hoj : ops[j]? = some ops[j] := by simp [hj]
    have hne : i ≠ j := fun e => by rw [← e, hAi] at hAj; cases hAj
    unfold wroteT
    rw [hoj]
    simp only [decide_eq_false_iff_not]
    intro hd
    rcases C.tms j i o ops[j] hoj ho (by omega) with h | h
    · have := hcl j hj hAj i h; rw [hAi] at this; cases this
    · obtain ⟨h1, h2, h3⟩ := tmClash_spec h
      rcases ht with ht | ht
      · exact h2 t hd ht
      · exact h3 t ht hd
end
end Go.Rn
