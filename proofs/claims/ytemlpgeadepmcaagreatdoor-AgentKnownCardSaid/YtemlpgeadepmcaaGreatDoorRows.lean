/-
  NARROWER THAN 'FOR EVERY INPUT', by the rows' own cells (each row's printed sentence says how): CertHarmless: laid · VerifySound: laid · VerifyCovers: laid · AgentAsks: laid · AgentLasts: laid · AgentHarmless: laid · AgentKnown: laid.
  DERIVED. THE GIVEN ROWS OF THIS SEAT. 7 by the template 'for every input the law returns true; each argument reads behind the call as it read before'; 0 by the template 'total and deterministic' (their statements: YtemlpgeadepmcaaGreatDoorTotals.lean).
  GIVEN WITH THE SEED: the statements are not yours to turn. If you find one false, say at which input.
  Laid BY PROGRAM, IN A SANDBOX (cutbox-rows.mjs): the forced cells as the released guide's own fill.sh prints them over the translation 12b2cb1d8b9e7bda… (all of the seat's roots in one cut). By AI agents, Wed Nov 11 2026. No macro, syntax, notation, axiom, sorry.
-/
import Derived.Test.YtemlpgeadepmcaaGreatDoorChecked
import GoSem.Claim
import GoSem.ClaimJoined
import GoSem.ClaimMapViews
import Derived.JoinedTies
import Derived.KernelRfl
namespace Go.Proofs.YtemlpgeadepmcaaGreatDoor
/- THE CELL 'sum', in the pinned program and in every row, IS THE sha256 OF THE DUMP (.gsa) THAT YtemlpgeadepmcaaGreatDoorProg.lean LOADS. Nothing in Lean hashes anything: it is a label: what it is worth is what the hold of that sum in a sandbox is worth. -/
noncomputable def Tryz.pinned : Pinned := { name := "ytemlpgeadepmcaagreatdoor", sum := "12b2cb1d8b9e7bda2502c86a7824e273e865c225b8dd54075f86f03c071a9bc8", checked := Tryz.checked }
namespace Rows
def none {H : Type} : Left H := { results := [], args := [] }

/- WHAT THE LISTED PACKAGE-LEVEL VARIABLES READ AS WHEN THE CALL BEGINS. Each datum BY PROGRAM (the guide's laid-datum.mjs) off the statement by which the dump's own 'gosem.cut.vars' lays the variable. In a bare row this is a premise. The card (YtemlpgeadepmcaaGreatDoorCards.lean) ties it to the program's text. -/
def laid_stockade_insn_sizes {H : Type} : DataW H := .agg [.lit (.int .i64 4), .lit (.int .i64 2), .lit (.int .i64 1), .lit (.int .i64 8)]
def laid_stockade_sha_k {H : Type} : DataW H := .agg [.lit (.int .u32 1116352408), .lit (.int .u32 1899447441), .lit (.int .u32 3049323471), .lit (.int .u32 3921009573), .lit (.int .u32 961987163), .lit (.int .u32 1508970993), .lit (.int .u32 2453635748), .lit (.int .u32 2870763221), .lit (.int .u32 3624381080), .lit (.int .u32 310598401), .lit (.int .u32 607225278), .lit (.int .u32 1426881987), .lit (.int .u32 1925078388), .lit (.int .u32 2162078206), .lit (.int .u32 2614888103), .lit (.int .u32 3248222580), .lit (.int .u32 3835390401), .lit (.int .u32 4022224774), .lit (.int .u32 264347078), .lit (.int .u32 604807628), .lit (.int .u32 770255983), .lit (.int .u32 1249150122), .lit (.int .u32 1555081692), .lit (.int .u32 1996064986), .lit (.int .u32 2554220882), .lit (.int .u32 2821834349), .lit (.int .u32 2952996808), .lit (.int .u32 3210313671), .lit (.int .u32 3336571891), .lit (.int .u32 3584528711), .lit (.int .u32 113926993), .lit (.int .u32 338241895), .lit (.int .u32 666307205), .lit (.int .u32 773529912), .lit (.int .u32 1294757372), .lit (.int .u32 1396182291), .lit (.int .u32 1695183700), .lit (.int .u32 1986661051), .lit (.int .u32 2177026350), .lit (.int .u32 2456956037), .lit (.int .u32 2730485921), .lit (.int .u32 2820302411), .lit (.int .u32 3259730800), .lit (.int .u32 3345764771), .lit (.int .u32 3516065817), .lit (.int .u32 3600352804), .lit (.int .u32 4094571909), .lit (.int .u32 275423344), .lit (.int .u32 430227734), .lit (.int .u32 506948616), .lit (.int .u32 659060556), .lit (.int .u32 883997877), .lit (.int .u32 958139571), .lit (.int .u32 1322822218), .lit (.int .u32 1537002063), .lit (.int .u32 1747873779), .lit (.int .u32 1955562222), .lit (.int .u32 2024104815), .lit (.int .u32 2227730452), .lit (.int .u32 2361852424), .lit (.int .u32 2428436474), .lit (.int .u32 2756734187), .lit (.int .u32 3204031479), .lit (.int .u32 3329325298)]

/-- 'stockadelaw15.CertHarmless': WHATEVER THE INPUT: true; the input reads as it did. -/
def certHarmlessSpec : ChangeSpec := { name := "certHarmless", fn := fun _ => fun
  | [d1, d2] => { results := [.lit (.bool true)], args := [d1, d2] }
  | _ => none }
def certHarmlessRow : OpenClaim := { program := "ytemlpgeadepmcaagreatdoor", sum := "12b2cb1d8b9e7bda2502c86a7824e273e865c225b8dd54075f86f03c071a9bc8", func := "stockade/stockadelaw15.CertHarmless", spec := "certHarmless", inPlace := ["math/bits.Add64", "math/bits.Sub64"], unfollowed := true, recurses := true, named := ["stockade/insn.sizes"], apart := false, laid := [("stockade/insn.sizes", laid_stockade_insn_sizes)] }
def CertHarmlessSaid : Prop := certHarmlessRow.holds Tryz.pinned (OpenSpec.ofChange certHarmlessSpec)

/-- ITS FALSE NEIGHBOUR: 'it returns false'. Refute it at one input. -/
def certHarmlessWrong : ChangeSpec := { name := "certHarmless", fn := fun _ => fun
  | [d1, d2] => { results := [.lit (.bool false)], args := [d1, d2] }
  | _ => none }
def CertHarmlessWrongFalsely : Prop := certHarmlessRow.holds Tryz.pinned (OpenSpec.ofChange certHarmlessWrong)

/-- 'stockadelaw14.VerifySound': WHATEVER THE INPUT: true; the input reads as it did. -/
def verifySoundSpec : ChangeSpec := { name := "verifySound", fn := fun _ => fun
  | [d] => { results := [.lit (.bool true)], args := [d] }
  | _ => none }
def verifySoundRow : OpenClaim := { program := "ytemlpgeadepmcaagreatdoor", sum := "12b2cb1d8b9e7bda2502c86a7824e273e865c225b8dd54075f86f03c071a9bc8", func := "stockade/stockadelaw14.VerifySound", spec := "verifySound", inPlace := ["slices.overlaps[int]", "math/bits.Add64", "math/bits.Sub64"], unfollowed := true, recurses := true, named := ["stockade/insn.sizes"], apart := false, laid := [("stockade/insn.sizes", laid_stockade_insn_sizes)] }
def VerifySoundSaid : Prop := verifySoundRow.holds Tryz.pinned (OpenSpec.ofChange verifySoundSpec)

/-- ITS FALSE NEIGHBOUR: 'it returns false'. Refute it at one input. -/
def verifySoundWrong : ChangeSpec := { name := "verifySound", fn := fun _ => fun
  | [d] => { results := [.lit (.bool false)], args := [d] }
  | _ => none }
def VerifySoundWrongFalsely : Prop := verifySoundRow.holds Tryz.pinned (OpenSpec.ofChange verifySoundWrong)

/-- 'stockadelaw14.VerifyCovers': WHATEVER THE INPUT: true; the input reads as it did. -/
def verifyCoversSpec : ChangeSpec := { name := "verifyCovers", fn := fun _ => fun
  | [d] => { results := [.lit (.bool true)], args := [d] }
  | _ => none }
def verifyCoversRow : OpenClaim := { program := "ytemlpgeadepmcaagreatdoor", sum := "12b2cb1d8b9e7bda2502c86a7824e273e865c225b8dd54075f86f03c071a9bc8", func := "stockade/stockadelaw14.VerifyCovers", spec := "verifyCovers", inPlace := ["slices.overlaps[int]", "math/bits.Add64", "math/bits.Sub64"], unfollowed := true, recurses := true, named := ["stockade/insn.sizes"], apart := false, laid := [("stockade/insn.sizes", laid_stockade_insn_sizes)] }
def VerifyCoversSaid : Prop := verifyCoversRow.holds Tryz.pinned (OpenSpec.ofChange verifyCoversSpec)

/-- ITS FALSE NEIGHBOUR: 'it returns false'. Refute it at one input. -/
def verifyCoversWrong : ChangeSpec := { name := "verifyCovers", fn := fun _ => fun
  | [d] => { results := [.lit (.bool false)], args := [d] }
  | _ => none }
def VerifyCoversWrongFalsely : Prop := verifyCoversRow.holds Tryz.pinned (OpenSpec.ofChange verifyCoversWrong)

/-- 'stockadelaw26.AgentAsks': WHATEVER THE INPUT: true; the input reads as it did. -/
def agentAsksSpec : ChangeSpec := { name := "agentAsks", fn := fun _ => fun
  | [d1, d2, d3] => { results := [.lit (.bool true)], args := [d1, d2, d3] }
  | _ => none }
def agentAsksRow : OpenClaim := { program := "ytemlpgeadepmcaagreatdoor", sum := "12b2cb1d8b9e7bda2502c86a7824e273e865c225b8dd54075f86f03c071a9bc8", func := "stockade/stockadelaw26.AgentAsks", spec := "agentAsks", inPlace := ["slices.overlaps[int]", "math/bits.Add64", "math/bits.Sub64"], unfollowed := true, recurses := true, named := ["stockade/insn.sizes", "stockade/sha.k"], apart := false, laid := [("stockade/insn.sizes", laid_stockade_insn_sizes), ("stockade/sha.k", laid_stockade_sha_k)] }
def AgentAsksSaid : Prop := agentAsksRow.holds Tryz.pinned (OpenSpec.ofChange agentAsksSpec)

/-- ITS FALSE NEIGHBOUR: 'it returns false'. Refute it at one input. -/
def agentAsksWrong : ChangeSpec := { name := "agentAsks", fn := fun _ => fun
  | [d1, d2, d3] => { results := [.lit (.bool false)], args := [d1, d2, d3] }
  | _ => none }
def AgentAsksWrongFalsely : Prop := agentAsksRow.holds Tryz.pinned (OpenSpec.ofChange agentAsksWrong)

/-- 'stockadelaw26.AgentLasts': WHATEVER THE INPUT: true; the input reads as it did. -/
def agentLastsSpec : ChangeSpec := { name := "agentLasts", fn := fun _ => fun
  | [d1, d2, d3] => { results := [.lit (.bool true)], args := [d1, d2, d3] }
  | _ => none }
def agentLastsRow : OpenClaim := { program := "ytemlpgeadepmcaagreatdoor", sum := "12b2cb1d8b9e7bda2502c86a7824e273e865c225b8dd54075f86f03c071a9bc8", func := "stockade/stockadelaw26.AgentLasts", spec := "agentLasts", inPlace := ["slices.overlaps[int]", "math/bits.Add64", "math/bits.Sub64"], unfollowed := true, recurses := true, named := ["stockade/insn.sizes", "stockade/sha.k"], apart := false, laid := [("stockade/insn.sizes", laid_stockade_insn_sizes), ("stockade/sha.k", laid_stockade_sha_k)] }
def AgentLastsSaid : Prop := agentLastsRow.holds Tryz.pinned (OpenSpec.ofChange agentLastsSpec)

/-- ITS FALSE NEIGHBOUR: 'it returns false'. Refute it at one input. -/
def agentLastsWrong : ChangeSpec := { name := "agentLasts", fn := fun _ => fun
  | [d1, d2, d3] => { results := [.lit (.bool false)], args := [d1, d2, d3] }
  | _ => none }
def AgentLastsWrongFalsely : Prop := agentLastsRow.holds Tryz.pinned (OpenSpec.ofChange agentLastsWrong)

/-- 'stockadelaw26.AgentHarmless': WHATEVER THE INPUT: true; the input reads as it did. -/
def agentHarmlessSpec : ChangeSpec := { name := "agentHarmless", fn := fun _ => fun
  | [d1, d2, d3] => { results := [.lit (.bool true)], args := [d1, d2, d3] }
  | _ => none }
def agentHarmlessRow : OpenClaim := { program := "ytemlpgeadepmcaagreatdoor", sum := "12b2cb1d8b9e7bda2502c86a7824e273e865c225b8dd54075f86f03c071a9bc8", func := "stockade/stockadelaw26.AgentHarmless", spec := "agentHarmless", inPlace := ["slices.overlaps[int]", "math/bits.Add64", "math/bits.Sub64"], unfollowed := true, recurses := true, named := ["stockade/insn.sizes", "stockade/sha.k"], apart := false, laid := [("stockade/insn.sizes", laid_stockade_insn_sizes), ("stockade/sha.k", laid_stockade_sha_k)] }
def AgentHarmlessSaid : Prop := agentHarmlessRow.holds Tryz.pinned (OpenSpec.ofChange agentHarmlessSpec)

/-- ITS FALSE NEIGHBOUR: 'it returns false'. Refute it at one input. -/
def agentHarmlessWrong : ChangeSpec := { name := "agentHarmless", fn := fun _ => fun
  | [d1, d2, d3] => { results := [.lit (.bool false)], args := [d1, d2, d3] }
  | _ => none }
def AgentHarmlessWrongFalsely : Prop := agentHarmlessRow.holds Tryz.pinned (OpenSpec.ofChange agentHarmlessWrong)

/-- 'stockadelaw26.AgentKnown': WHATEVER THE INPUT: true; the input reads as it did. -/
def agentKnownSpec : ChangeSpec := { name := "agentKnown", fn := fun _ => fun
  | [] => { results := [.lit (.bool true)], args := [] }
  | _ => none }
def agentKnownRow : OpenClaim := { program := "ytemlpgeadepmcaagreatdoor", sum := "12b2cb1d8b9e7bda2502c86a7824e273e865c225b8dd54075f86f03c071a9bc8", func := "stockade/stockadelaw26.AgentKnown", spec := "agentKnown", inPlace := ["slices.overlaps[int]", "math/bits.Add64", "math/bits.Sub64"], unfollowed := true, recurses := true, named := ["stockade/insn.sizes", "stockade/sha.k"], apart := false, laid := [("stockade/insn.sizes", laid_stockade_insn_sizes), ("stockade/sha.k", laid_stockade_sha_k)] }
def AgentKnownSaid : Prop := agentKnownRow.holds Tryz.pinned (OpenSpec.ofChange agentKnownSpec)

/-- ITS FALSE NEIGHBOUR: 'it returns false'. Refute it at one input. -/
def agentKnownWrong : ChangeSpec := { name := "agentKnown", fn := fun _ => fun
  | [] => { results := [.lit (.bool false)], args := [] }
  | _ => none }
def AgentKnownWrongFalsely : Prop := agentKnownRow.holds Tryz.pinned (OpenSpec.ofChange agentKnownWrong)

/- THE SECOND FORM. 'bulk': how many values and letters a reading holds, each counted each time it is reached (what is shared counts as often as it is met; a slice's spare places count too). A statement '..UptoSaid' is the law's where the arguments, and the package variables that the reading takes, are together of bulk at most 1048576: NARROWER than '..Said'. Prove '..Said' where nothing that the law and all that it calls make is longer than what came in: it says more and counts as full. Else prove '..UptoSaid'. A law counts once. -/
mutual
def uptoBulk {H : Type} : DataW H → Nat
  | .lit (.string bytes) => bytes.length + 1
  | .lit _ => 1
  | .nil => 1
  | .ptr d => uptoBulk d + 1
  | .slice elems spare => uptoBulkAll elems + uptoBulkAll spare + 1
  | .agg parts => uptoBulkAll parts + 1
  | .iface _ d => uptoBulk d + 1
  | .map entries => uptoBulkEntries entries + 1
  | .held _ => 1
def uptoBulkAll {H : Type} : List (DataW H) → Nat
  | [] => 0
  | d :: r => uptoBulk d + uptoBulkAll r
def uptoBulkEntries {H : Type} : List (Lit × DataW H) → Nat
  | [] => 0
  | x :: r => uptoBulkEntry x + uptoBulkEntries r
def uptoBulkEntry {H : Type} : Lit × DataW H → Nat
  | (.string bytes, d) => bytes.length + uptoBulk d + 1
  | (_, d) => uptoBulk d + 1
 end
def uptoSmall : (H : Type) → List (DataW H) → Bool := fun _ ds => decide (uptoBulkAll ds ≤ 1048576)
def OpenSpec.upto (s : _root_.Go.ChangeSpec) : _root_.Go.OpenSpec := { _root_.Go.OpenSpec.ofChange s with cond := some uptoSmall }

/-- 'stockadelaw15.CertHarmless', WHERE WHAT IT READS IS OF BULK AT MOST 1048576: true; the input reads as it did. -/
def certHarmlessUptoRow : OpenClaim := { program := "ytemlpgeadepmcaagreatdoor", sum := "12b2cb1d8b9e7bda2502c86a7824e273e865c225b8dd54075f86f03c071a9bc8", func := "stockade/stockadelaw15.CertHarmless", spec := "certHarmless", inPlace := ["math/bits.Add64", "math/bits.Sub64"], unfollowed := true, recurses := true, named := ["stockade/insn.sizes"], apart := false, laid := [("stockade/insn.sizes", laid_stockade_insn_sizes)], narrowed := true }
def CertHarmlessUptoSaid : Prop := certHarmlessUptoRow.holds Tryz.pinned (OpenSpec.upto certHarmlessSpec)

/-- 'stockadelaw14.VerifySound', WHERE WHAT IT READS IS OF BULK AT MOST 1048576: true; the input reads as it did. -/
def verifySoundUptoRow : OpenClaim := { program := "ytemlpgeadepmcaagreatdoor", sum := "12b2cb1d8b9e7bda2502c86a7824e273e865c225b8dd54075f86f03c071a9bc8", func := "stockade/stockadelaw14.VerifySound", spec := "verifySound", inPlace := ["slices.overlaps[int]", "math/bits.Add64", "math/bits.Sub64"], unfollowed := true, recurses := true, named := ["stockade/insn.sizes"], apart := false, laid := [("stockade/insn.sizes", laid_stockade_insn_sizes)], narrowed := true }
def VerifySoundUptoSaid : Prop := verifySoundUptoRow.holds Tryz.pinned (OpenSpec.upto verifySoundSpec)

/-- 'stockadelaw14.VerifyCovers', WHERE WHAT IT READS IS OF BULK AT MOST 1048576: true; the input reads as it did. -/
def verifyCoversUptoRow : OpenClaim := { program := "ytemlpgeadepmcaagreatdoor", sum := "12b2cb1d8b9e7bda2502c86a7824e273e865c225b8dd54075f86f03c071a9bc8", func := "stockade/stockadelaw14.VerifyCovers", spec := "verifyCovers", inPlace := ["slices.overlaps[int]", "math/bits.Add64", "math/bits.Sub64"], unfollowed := true, recurses := true, named := ["stockade/insn.sizes"], apart := false, laid := [("stockade/insn.sizes", laid_stockade_insn_sizes)], narrowed := true }
def VerifyCoversUptoSaid : Prop := verifyCoversUptoRow.holds Tryz.pinned (OpenSpec.upto verifyCoversSpec)

/-- 'stockadelaw26.AgentAsks', WHERE WHAT IT READS IS OF BULK AT MOST 1048576: true; the input reads as it did. -/
def agentAsksUptoRow : OpenClaim := { program := "ytemlpgeadepmcaagreatdoor", sum := "12b2cb1d8b9e7bda2502c86a7824e273e865c225b8dd54075f86f03c071a9bc8", func := "stockade/stockadelaw26.AgentAsks", spec := "agentAsks", inPlace := ["slices.overlaps[int]", "math/bits.Add64", "math/bits.Sub64"], unfollowed := true, recurses := true, named := ["stockade/insn.sizes", "stockade/sha.k"], apart := false, laid := [("stockade/insn.sizes", laid_stockade_insn_sizes), ("stockade/sha.k", laid_stockade_sha_k)], narrowed := true }
def AgentAsksUptoSaid : Prop := agentAsksUptoRow.holds Tryz.pinned (OpenSpec.upto agentAsksSpec)

/-- 'stockadelaw26.AgentLasts', WHERE WHAT IT READS IS OF BULK AT MOST 1048576: true; the input reads as it did. -/
def agentLastsUptoRow : OpenClaim := { program := "ytemlpgeadepmcaagreatdoor", sum := "12b2cb1d8b9e7bda2502c86a7824e273e865c225b8dd54075f86f03c071a9bc8", func := "stockade/stockadelaw26.AgentLasts", spec := "agentLasts", inPlace := ["slices.overlaps[int]", "math/bits.Add64", "math/bits.Sub64"], unfollowed := true, recurses := true, named := ["stockade/insn.sizes", "stockade/sha.k"], apart := false, laid := [("stockade/insn.sizes", laid_stockade_insn_sizes), ("stockade/sha.k", laid_stockade_sha_k)], narrowed := true }
def AgentLastsUptoSaid : Prop := agentLastsUptoRow.holds Tryz.pinned (OpenSpec.upto agentLastsSpec)

/-- 'stockadelaw26.AgentHarmless', WHERE WHAT IT READS IS OF BULK AT MOST 1048576: true; the input reads as it did. -/
def agentHarmlessUptoRow : OpenClaim := { program := "ytemlpgeadepmcaagreatdoor", sum := "12b2cb1d8b9e7bda2502c86a7824e273e865c225b8dd54075f86f03c071a9bc8", func := "stockade/stockadelaw26.AgentHarmless", spec := "agentHarmless", inPlace := ["slices.overlaps[int]", "math/bits.Add64", "math/bits.Sub64"], unfollowed := true, recurses := true, named := ["stockade/insn.sizes", "stockade/sha.k"], apart := false, laid := [("stockade/insn.sizes", laid_stockade_insn_sizes), ("stockade/sha.k", laid_stockade_sha_k)], narrowed := true }
def AgentHarmlessUptoSaid : Prop := agentHarmlessUptoRow.holds Tryz.pinned (OpenSpec.upto agentHarmlessSpec)

/-- 'stockadelaw26.AgentKnown', WHERE WHAT IT READS IS OF BULK AT MOST 1048576: true; the input reads as it did. -/
def agentKnownUptoRow : OpenClaim := { program := "ytemlpgeadepmcaagreatdoor", sum := "12b2cb1d8b9e7bda2502c86a7824e273e865c225b8dd54075f86f03c071a9bc8", func := "stockade/stockadelaw26.AgentKnown", spec := "agentKnown", inPlace := ["slices.overlaps[int]", "math/bits.Add64", "math/bits.Sub64"], unfollowed := true, recurses := true, named := ["stockade/insn.sizes", "stockade/sha.k"], apart := false, laid := [("stockade/insn.sizes", laid_stockade_insn_sizes), ("stockade/sha.k", laid_stockade_sha_k)], narrowed := true }
def AgentKnownUptoSaid : Prop := agentKnownUptoRow.holds Tryz.pinned (OpenSpec.upto agentKnownSpec)

end Rows
end Go.Proofs.YtemlpgeadepmcaaGreatDoor
