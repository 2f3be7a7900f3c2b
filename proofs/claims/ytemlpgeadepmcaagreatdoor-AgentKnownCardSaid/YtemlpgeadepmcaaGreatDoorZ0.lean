/-
  A part of a proved evaluator for closed runs. No conditions.
-/
import Derived.Test.YtemlpgeadepmcaaGreatDoorR8
namespace Go.Rn
open Go Go.RowKit
set_option linter.unusedVariables false
set_option linter.unusedSimpArgs false

/-! ### the same run, in one thread: what is done to memory, as functions of the state -/
/-- What is asked of a whole run. -/
inductive Ans where
  | yes
  | no

abbrev Z := Tr Blk → Nat → Nat → Tr Bool → Ans

def forceZ {β : Type} (n : Nat) (K : Nat → β) : β := Nat.rec (K 0) (fun m _ => K m) (Nat.add n 1)
theorem forceZ_eq {β : Type} (n : Nat) (K : Nat → β) : forceZ n K = K n := rfl

def Tr.getK {α β : Type} : Tr α → Nat → (Option α → β) → β
  | .nl, _, K => K none
  | .nd v l r, k, K => match k with
    | 0 => K v
    | k + 1 => match Nat.mod k 2 with
      | 0 => l.getK (Nat.div k 2) K
      | _ + 1 => r.getK (Nat.div k 2) K

theorem Tr.getK_eq {α β : Type} : ∀ (t : Tr α) (k : Nat) (K : Option α → β), t.getK k K = K (t.get k)
  | .nl, _, _ => rfl
  | .nd v l r, 0, K => rfl
  | .nd v l r, k + 1, K => by
    simp only [Tr.getK, Tr.get]
    have e : Nat.mod k 2 = k % 2 := rfl
    have e2 : Nat.div k 2 = k / 2 := rfl
    rw [e, e2]
    cases k % 2 with
    | zero => exact Tr.getK_eq l (k / 2) K
    | succ _ => exact Tr.getK_eq r (k / 2) K

def failZ : Z := fun _ _ _ _ => .no

def rdZ (k : Nat) (f : Blk → Z) : Z := fun hp nx fl lg => hp.getK k fun o => match o with
  | some b => touchK .no fl lg k false fun lg => f b hp nx fl lg
  | none => .no
def wrZ (k : Nat) (b : Option Blk) (m : Z) : Z := fun hp nx fl lg => hp.getK k fun o => match o with
  | some _ => touchK .no fl lg k true fun lg => Tr.setK .no 64 hp k b fun hp => m hp nx fl lg
  | none => .no
def newZ (b : Blk) (f : Nat → Z) : Z := fun hp nx fl lg => Tr.setK .no 64 hp nx (some b) fun hp => forceZ (Nat.add nx 1) fun nx' => newLogK .no fl lg nx fun lg => f nx hp nx' fl lg
/-- Behind what was done with a log of its own. -/
def backZ (fl : Nat) (lg : Tr Bool) (f : AV → Tr Bool → Z) (x : AV) : Z := fun hp nx _ lg' => match fl with
  | 0 => f x lg' hp nx 0 lg
  | fl + 1 => unionK lg lg' fun lg => f x lg' hp nx (fl + 1) lg
def subZ (m : (AV → Z) → Z) (f : AV → Tr Bool → Z) : Z := fun hp nx fl lg => match nx with
  | 0 => .no
  | _ + 1 => m (backZ fl lg f) hp nx nx .nl
end Go.Rn
