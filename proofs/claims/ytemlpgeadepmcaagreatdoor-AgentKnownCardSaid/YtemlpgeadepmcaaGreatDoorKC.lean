/-
  The tied card of stockade/stockadelaw26.AgentKnown holds: the law, which takes no arguments, returns true.
  Conditions: those of the card alone (the package-level variables insn.sizes and sha.k read as the program's text lays them). How: a closed run of the law, worked out by the kernel (KA), over an evaluator that is proved right for every order that a region may draw and for every capacity that an append may give (R1 to R26, Z0 to Z4).
-/
import Derived.Test.YtemlpgeadepmcaaGreatDoorKL
import Derived.Test.YtemlpgeadepmcaaGreatDoorKR
import Derived.Test.YtemlpgeadepmcaaGreatDoorCards
import Derived.Test.YtemlpgeadepmcaaGreatDoorTie
import Derived.SevenTiedAt
namespace Go.Proofs.YtemlpgeadepmcaaGreatDoor
open Go Go.ChangeShapes Go.WideShapes Go.ChangeAt Go.RowKit Go.Rn
set_option maxRecDepth 100000
set_option linter.unusedVariables false

theorem agentKnown_row : Rows.AgentKnownSaid :=
  OpenClaim.holds_of_wide 9 Tryz.f9 rfl rfl rfl rfl rfl rfl rfl ⟨rfl, rfl, rfl, rfl, rfl⟩ rfl rfl rfl rfl rfl row_named Tryz.func9 row_closed row_inst row_wrap
    (fun os started H enc _ => lifted os started H enc)

/-- The tied card of stockade/stockadelaw26.AgentKnown. -/
theorem agentKnown_card : Rows.AgentKnownCardSaid :=
  Claim7.holds_tied_plain_at .later [] [.data, .data] true (true, "47aaee493f375be6fabf8828f1073fd3702a7b0255618a9e9e55b19e04439886") false
    agentKnown_row (fun _ h => by cases h) (by as_aux_lemma => kernel_rfl) (fun _ h => by cases h) agentKnown_row_tie rfl ⟨rfl, rfl⟩ (by as_aux_lemma => kernel_rfl) rfl
    (fun f fn hf hfn => by
      obtain rfl : f = 9 := Option.some.inj ((show Tryz.prog.funcNamed "stockade/stockadelaw26.AgentKnown" = some 9 by as_aux_lemma => kernel_rfl).symm.trans hf) |>.symm
      obtain rfl : fn = Tryz.f9 := (Option.some.inj (Tryz.func9.symm.trans hfn)).symm
      exact ⟨by as_aux_lemma => kernel_rfl, fun j t ht => by
        rw [Tryz.params9] at ht
        exact absurd ht (by simp)⟩)
    (by as_aux_lemma => kernel_rfl)
#print axioms agentKnown_card
end Go.Proofs.YtemlpgeadepmcaaGreatDoor
