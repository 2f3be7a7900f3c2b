/-
  DERIVED. GIVEN WITH THE SEED: THE CARDS: each row of YtemlpgeadepmcaaGreatDoorRows.lean that lists a variable, with what it lists TIED to the program's text (the seventh form; the later family's looks); each row that meets fmt, with fmt's text TOLD by the authors' own Lean function (tested against real Go, not proved from fmt's source: count such statements apart). THE CARD IS WHAT COUNTS. Prove the row's statement (the work); the ties are given (YtemlpgeadepmcaaGreatDoorTie.lean); close each card by the builder's one call (the guide's Derived/Test/ToyasCard.lean, 'card_holds'). Laid BY PROGRAM, IN A SANDBOX (cutbox-door.mjs). By AI agents, Wed Nov 11 2026. No macro, syntax, notation, axiom, sorry.
-/
import Derived.Test.YtemlpgeadepmcaaGreatDoorRows
import GoSem.ClaimSeven
namespace Go.Proofs.YtemlpgeadepmcaaGreatDoor
namespace Rows

/-- THE TIED CARD OF 'stockadelaw15.CertHarmless'. -/
def certHarmlessCard : Claim7 := { stood := { row := certHarmlessRow, standIns := [], harness := (true, "47aaee493f375be6fabf8828f1073fd3702a7b0255618a9e9e55b19e04439886"), looks := false }, kinds := [], alts := [], laidByText := true, laidKinds := [.data], laidTests := true, laidLooks := .later }
def CertHarmlessCardSaid : Prop := Claim7.holds Tryz.pinned (.plain (OpenSpec.ofChange certHarmlessSpec)) certHarmlessCard

/-- THE TIED CARD OF 'stockadelaw14.VerifySound'. -/
def verifySoundCard : Claim7 := { stood := { row := verifySoundRow, standIns := [], harness := (true, "47aaee493f375be6fabf8828f1073fd3702a7b0255618a9e9e55b19e04439886"), looks := false }, kinds := [], alts := [], laidByText := true, laidKinds := [.data], laidTests := true, laidLooks := .later }
def VerifySoundCardSaid : Prop := Claim7.holds Tryz.pinned (.plain (OpenSpec.ofChange verifySoundSpec)) verifySoundCard

/-- THE TIED CARD OF 'stockadelaw14.VerifyCovers'. -/
def verifyCoversCard : Claim7 := { stood := { row := verifyCoversRow, standIns := [], harness := (true, "47aaee493f375be6fabf8828f1073fd3702a7b0255618a9e9e55b19e04439886"), looks := false }, kinds := [], alts := [], laidByText := true, laidKinds := [.data], laidTests := true, laidLooks := .later }
def VerifyCoversCardSaid : Prop := Claim7.holds Tryz.pinned (.plain (OpenSpec.ofChange verifyCoversSpec)) verifyCoversCard

/-- THE TIED CARD OF 'stockadelaw26.AgentAsks'. -/
def agentAsksCard : Claim7 := { stood := { row := agentAsksRow, standIns := [], harness := (true, "47aaee493f375be6fabf8828f1073fd3702a7b0255618a9e9e55b19e04439886"), looks := false }, kinds := [], alts := [], laidByText := true, laidKinds := [.data, .data], laidTests := true, laidLooks := .later }
def AgentAsksCardSaid : Prop := Claim7.holds Tryz.pinned (.plain (OpenSpec.ofChange agentAsksSpec)) agentAsksCard

/-- THE TIED CARD OF 'stockadelaw26.AgentLasts'. -/
def agentLastsCard : Claim7 := { stood := { row := agentLastsRow, standIns := [], harness := (true, "47aaee493f375be6fabf8828f1073fd3702a7b0255618a9e9e55b19e04439886"), looks := false }, kinds := [], alts := [], laidByText := true, laidKinds := [.data, .data], laidTests := true, laidLooks := .later }
def AgentLastsCardSaid : Prop := Claim7.holds Tryz.pinned (.plain (OpenSpec.ofChange agentLastsSpec)) agentLastsCard

/-- THE TIED CARD OF 'stockadelaw26.AgentHarmless'. -/
def agentHarmlessCard : Claim7 := { stood := { row := agentHarmlessRow, standIns := [], harness := (true, "47aaee493f375be6fabf8828f1073fd3702a7b0255618a9e9e55b19e04439886"), looks := false }, kinds := [], alts := [], laidByText := true, laidKinds := [.data, .data], laidTests := true, laidLooks := .later }
def AgentHarmlessCardSaid : Prop := Claim7.holds Tryz.pinned (.plain (OpenSpec.ofChange agentHarmlessSpec)) agentHarmlessCard

/-- THE TIED CARD OF 'stockadelaw26.AgentKnown'. -/
def agentKnownCard : Claim7 := { stood := { row := agentKnownRow, standIns := [], harness := (true, "47aaee493f375be6fabf8828f1073fd3702a7b0255618a9e9e55b19e04439886"), looks := false }, kinds := [], alts := [], laidByText := true, laidKinds := [.data, .data], laidTests := true, laidLooks := .later }
def AgentKnownCardSaid : Prop := Claim7.holds Tryz.pinned (.plain (OpenSpec.ofChange agentKnownSpec)) agentKnownCard

/-- THE SECOND FORM's CARD OF 'stockadelaw15.CertHarmless'. -/
def certHarmlessUptoCard : Claim7 := { stood := { row := certHarmlessUptoRow, standIns := [], harness := (true, "47aaee493f375be6fabf8828f1073fd3702a7b0255618a9e9e55b19e04439886"), looks := false }, kinds := [], alts := [], laidByText := true, laidKinds := [.data], laidTests := true, laidLooks := .later }
def CertHarmlessUptoCardSaid : Prop := Claim7.holds Tryz.pinned (.plain (OpenSpec.upto certHarmlessSpec)) certHarmlessUptoCard

/-- THE SECOND FORM's CARD OF 'stockadelaw14.VerifySound'. -/
def verifySoundUptoCard : Claim7 := { stood := { row := verifySoundUptoRow, standIns := [], harness := (true, "47aaee493f375be6fabf8828f1073fd3702a7b0255618a9e9e55b19e04439886"), looks := false }, kinds := [], alts := [], laidByText := true, laidKinds := [.data], laidTests := true, laidLooks := .later }
def VerifySoundUptoCardSaid : Prop := Claim7.holds Tryz.pinned (.plain (OpenSpec.upto verifySoundSpec)) verifySoundUptoCard

/-- THE SECOND FORM's CARD OF 'stockadelaw14.VerifyCovers'. -/
def verifyCoversUptoCard : Claim7 := { stood := { row := verifyCoversUptoRow, standIns := [], harness := (true, "47aaee493f375be6fabf8828f1073fd3702a7b0255618a9e9e55b19e04439886"), looks := false }, kinds := [], alts := [], laidByText := true, laidKinds := [.data], laidTests := true, laidLooks := .later }
def VerifyCoversUptoCardSaid : Prop := Claim7.holds Tryz.pinned (.plain (OpenSpec.upto verifyCoversSpec)) verifyCoversUptoCard

/-- THE SECOND FORM's CARD OF 'stockadelaw26.AgentAsks'. -/
def agentAsksUptoCard : Claim7 := { stood := { row := agentAsksUptoRow, standIns := [], harness := (true, "47aaee493f375be6fabf8828f1073fd3702a7b0255618a9e9e55b19e04439886"), looks := false }, kinds := [], alts := [], laidByText := true, laidKinds := [.data, .data], laidTests := true, laidLooks := .later }
def AgentAsksUptoCardSaid : Prop := Claim7.holds Tryz.pinned (.plain (OpenSpec.upto agentAsksSpec)) agentAsksUptoCard

/-- THE SECOND FORM's CARD OF 'stockadelaw26.AgentLasts'. -/
def agentLastsUptoCard : Claim7 := { stood := { row := agentLastsUptoRow, standIns := [], harness := (true, "47aaee493f375be6fabf8828f1073fd3702a7b0255618a9e9e55b19e04439886"), looks := false }, kinds := [], alts := [], laidByText := true, laidKinds := [.data, .data], laidTests := true, laidLooks := .later }
def AgentLastsUptoCardSaid : Prop := Claim7.holds Tryz.pinned (.plain (OpenSpec.upto agentLastsSpec)) agentLastsUptoCard

/-- THE SECOND FORM's CARD OF 'stockadelaw26.AgentHarmless'. -/
def agentHarmlessUptoCard : Claim7 := { stood := { row := agentHarmlessUptoRow, standIns := [], harness := (true, "47aaee493f375be6fabf8828f1073fd3702a7b0255618a9e9e55b19e04439886"), looks := false }, kinds := [], alts := [], laidByText := true, laidKinds := [.data, .data], laidTests := true, laidLooks := .later }
def AgentHarmlessUptoCardSaid : Prop := Claim7.holds Tryz.pinned (.plain (OpenSpec.upto agentHarmlessSpec)) agentHarmlessUptoCard

/-- THE SECOND FORM's CARD OF 'stockadelaw26.AgentKnown'. -/
def agentKnownUptoCard : Claim7 := { stood := { row := agentKnownUptoRow, standIns := [], harness := (true, "47aaee493f375be6fabf8828f1073fd3702a7b0255618a9e9e55b19e04439886"), looks := false }, kinds := [], alts := [], laidByText := true, laidKinds := [.data, .data], laidTests := true, laidLooks := .later }
def AgentKnownUptoCardSaid : Prop := Claim7.holds Tryz.pinned (.plain (OpenSpec.upto agentKnownSpec)) agentKnownUptoCard
end Rows
end Go.Proofs.YtemlpgeadepmcaaGreatDoor
