/-
  The tied card of stockade/stockadelaw26.AgentKnown holds: the law, which takes no arguments, returns true.
  Conditions: those of the card alone (the package-level variables insn.sizes and sha.k read as the program's text lays them). How: a closed run of the law, worked out by the kernel (KA), over an evaluator that is proved right for every order that a region may draw and for every capacity that an append may give (R1 to R26, Z0 to Z4).
-/
import Derived.Test.YtemlpgeadepmcaaGreatDoorKA
import Derived.Test.YtemlpgeadepmcaaGreatDoorCards
import Derived.Test.YtemlpgeadepmcaaGreatDoorTie
import Derived.SevenTiedAt
namespace Go.Proofs.YtemlpgeadepmcaaGreatDoor
open Go Go.ChangeShapes Go.WideShapes Go.ChangeAt Go.RowKit Go.Rn
set_option maxRecDepth 100000
set_option linter.unusedVariables false

theorem lifted (os : Os) (started : os.Started) (H : Type) (enc : TypeId × Value → H) :
    ReturnsInHanded {} Tryz.checked os 9 .any (fun w args => (Rows.agentKnownSpec.pre enc Tryz.prog Tryz.f9 [] false w args ∧ laidMetH Tryz.prog laid2 w) ∧ sizedMet enc Tryz.prog Tryz.f9 (OpenSpec.ofChange Rows.agentKnownSpec) false w args)
      (Rows.agentKnownSpec.post enc Tryz.prog Tryz.f9 false true false false) := by
  refine returnsInHanded_of_change_and (C := Tryz.checked) (X := fun w _ => laidMetH Tryz.prog laid2 w) (fun _ _ _ hh h => h.of_heap hh) own started (by kernel_rfl) Tryz.func9
    (ChangeSpec.witness_shaped (enc := enc) (C := Tryz.checked) (os := os) (X := fun w _ => laidMetH Tryz.prog laid2 w) false (World.doorLaid Tryz.prog 19 os) #[] 8 rfl (World.shaped_of_RefB (by kernel_rfl) (by kernel_rfl)) (by kernel_rfl) (by kernel_rfl) (by kernel_rfl) (door_met os _)) ?_
  intro W base args ds gs before hval0 hW _ _ hL _
  have hW' := hW
  obtain ⟨p, q, hA0, hV, rfl, hfz, hnd⟩ := hW
  have hA : DataW.TrodAll enc Tryz.prog W 0 (fun _ => true) true Tryz.f9.params.toList args.toList ds p := hA0
  rw [Tryz.params9] at hA
  obtain ⟨ha, rfl, rfl⟩ := trodAll_nil hA
  have ha : args = #[] := Array.toList_inj.1 ha
  subst ha
  obtain ⟨rfl, rfl⟩ := trodVars_none hV
  obtain ⟨l0, l1⟩ := of_laid hL
  refine (calls_true (true_of_z agent_yes) l0 l1).mono fun e W' ⟨he, hw⟩ => ?_
  subst he
  refine ⟨_, rfl, post_of_same2 (pa := []) (pv := []) hW' (fun _ _ _ => trodAll_mk1 (shut_bool Tryz.underlying4 _)) (fun _ _ => by rw [Tryz.params9]; exact trodAll_mk0) (fun _ _ => rfl) rfl hw (ok_one (by kernel_rfl) rfl (okWide_bool_mk Tryz.underlying4 _))⟩

theorem agentKnown_row : Rows.AgentKnownSaid :=
  OpenClaim.holds_of_wide 9 Tryz.f9 rfl rfl rfl rfl rfl rfl rfl ⟨rfl, rfl, rfl, rfl, rfl⟩ rfl rfl rfl rfl rfl (by kernel_rfl) Tryz.func9 (by kernel_rfl)
    (of_decide_eq_true (by kernel_rfl)) (by unfold Func.isWrapper; first | (rw [if_pos (by decide +kernel)]; kernel_rfl) | (rw [if_neg (by decide +kernel)]; exact ⟨rfl, rfl⟩))
    (fun os started H enc _ => lifted os started H enc)

/-- The tied card of stockade/stockadelaw26.AgentKnown. -/
theorem agentKnown_card : Rows.AgentKnownCardSaid :=
  Claim7.holds_tied_plain_at .later [] [.data, .data] true (true, "47aaee493f375be6fabf8828f1073fd3702a7b0255618a9e9e55b19e04439886") false
    agentKnown_row (fun _ h => by cases h) (by kernel_rfl) (fun _ h => by cases h) agentKnown_row_tie rfl ⟨rfl, rfl⟩ (by kernel_rfl) rfl
    (fun f fn hf hfn => by
      obtain rfl : f = 9 := Option.some.inj ((show Tryz.prog.funcNamed "stockade/stockadelaw26.AgentKnown" = some 9 by kernel_rfl).symm.trans hf) |>.symm
      obtain rfl : fn = Tryz.f9 := (Option.some.inj (Tryz.func9.symm.trans hfn)).symm
      exact ⟨by kernel_rfl, fun j t ht => by
        rw [Tryz.params9] at ht
        exact absurd ht (by simp)⟩)
    (by kernel_rfl)
#print axioms agentKnown_card
end Go.Proofs.YtemlpgeadepmcaaGreatDoor
