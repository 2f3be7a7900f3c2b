/-
  A part of a proved evaluator for closed runs. No conditions.
-/
import Derived.Test.YtemlpgeadepmcaaGreatDoorKP
namespace Go.Proofs.YtemlpgeadepmcaaGreatDoor
open Go Go.ChangeShapes Go.WideShapes Go.ChangeAt Go.RowKit Go.Rn
set_option maxRecDepth 100000
set_option linter.unusedVariables false

theorem andT {a b : Bool} (ha : a = true) (hb : b = true) : (a && b) = true := by rw [ha, hb]; rfl

theorem row_named : Tryz.pinned.checked.prog.funcNamed Rows.agentKnownRow.func = some 9 := by kernel_rfl

set_option maxHeartbeats 0 in
theorem row_closed : joinedFacts Tryz.pinned.checked.prog 9 Tryz.f9 Rows.agentKnownSpec Rows.agentKnownRow = true := by
  unfold joinedFacts
  repeat' with_reducible refine andT ?_ ?_
  all_goals (as_aux_lemma => kernel_rfl)

theorem row_inst : Tryz.f9.isInstance Tryz.pinned.checked.prog Rows.agentKnownRow.origin Rows.agentKnownRow.targs := of_decide_eq_true (by kernel_rfl)

theorem row_wrap : Tryz.f9.isWrapper Tryz.pinned.checked.prog Rows.agentKnownRow.wrapper Rows.agentKnownRow.mainSum := by
  unfold Func.isWrapper
  first | (rw [if_pos (by decide +kernel)]; kernel_rfl) | (rw [if_neg (by decide +kernel)]; exact ⟨rfl, rfl⟩)

end Go.Proofs.YtemlpgeadepmcaaGreatDoor
