/-
  A part of a proved evaluator for closed runs. No conditions.
-/
import Derived.Test.YtemlpgeadepmcaaGreatDoorK1
import Derived.Test.YtemlpgeadepmcaaGreatDoorZ4
import Derived.Test.YtemlpgeadepmcaaGreatDoorRows
import Derived.ProofKit
import Derived.LaidMore
import Derived.OpenShut
import Derived.Stop.Joined
import Derived.Stop.LaidErr
import Derived.Lib.LaidTab
namespace Go.Rn
open Go Go.RowKit Go.Proofs
set_option linter.unusedVariables false
set_option linter.unusedSimpArgs false

/-! ### the memory at the start -/
theorem nums_vals {k : IntKind} {l : List Int} {μ : Mu} {j : Nat} {v : Value} (h : ((nums k l).vals μ)[j]? = some v) : j < l.length ∧ v = .int k (l.getD j 0) := by
  unfold nums at h
  rcases T.balK_spec (bad := T.nl) 64 l.length (l.map fun n => Sc.v (.int k n)) (fun t _ => t) with g | ⟨t, r, g, g1, g2, g3⟩
  · rw [g] at h; simp [T.vals, T.list] at h
  · rw [g] at h
    have hl : t.list.length = l.length := by
      have := T.vals_length (μ := μ) g2
      unfold T.vals at this
      rw [List.length_map] at this
      rw [this, g3]
    have hr : r = [] := by
      have := congrArg List.length g1
      simp only [List.length_append, List.length_map, hl] at this
      exact List.length_eq_zero_iff.1 (by omega)
    rw [hr, List.append_nil] at g1
    simp only [T.vals, g1, List.map_map, List.getElem?_map, Option.map_eq_some_iff] at h
    obtain ⟨n, hn, rfl⟩ := h
    refine ⟨(List.getElem?_eq_some_iff.1 hn).1, ?_⟩
    simp [Sc.val, List.getD, hn]

theorem nums_ok {k : IntKind} {l : List Int} {D : Nm} : (nums k l).ok D := by
  unfold nums
  rcases T.balK_spec (bad := T.nl) 64 l.length (l.map fun n => Sc.v (.int k n)) (fun t _ => t) with g | ⟨t, r, g, g1, g2, g3⟩
  · rw [g]; exact ⟨trivial, fun x hx => by simp [T.list] at hx⟩
  · rw [g]
    refine ⟨g2, fun x hx => ?_⟩
    have : x ∈ t.list ++ r := List.mem_append_left _ hx
    rw [g1] at this
    obtain ⟨n, _, rfl⟩ := List.mem_map.1 this
    rfl

def lsizes : List Int := [4, 2, 1, 8]
def lshak : List Int := [0x428a2f98, 0x71374491, 0xb5c0fbcf, 0xe9b5dba5, 0x3956c25b, 0x59f111f1, 0x923f82a4, 0xab1c5ed5, 0xd807aa98, 0x12835b01, 0x243185be, 0x550c7dc3, 0x72be5d74, 0x80deb1fe, 0x9bdc06a7, 0xc19bf174,
 0xe49b69c1, 0xefbe4786, 0x0fc19dc6, 0x240ca1cc, 0x2de92c6f, 0x4a7484aa, 0x5cb0a9dc, 0x76f988da, 0x983e5152, 0xa831c66d, 0xb00327c8, 0xbf597fc7, 0xc6e00bf3, 0xd5a79147, 0x06ca6351, 0x14292967,
 0x27b70a85, 0x2e1b2138, 0x4d2c6dfc, 0x53380d13, 0x650a7354, 0x766a0abb, 0x81c2c92e, 0x92722c85, 0xa2bfe8a1, 0xa81a664b, 0xc24b8b70, 0xc76c51a3, 0xd192e819, 0xd6990624, 0xf40e3585, 0x106aa070,
 0x19a4c116, 0x1e376c08, 0x2748774c, 0x34b0bcb5, 0x391c0cb3, 0x4ed8aa4a, 0x5b9cca4f, 0x682e6ff3, 0x748f82ee, 0x78a5636f, 0x84c87814, 0x8cc70208, 0x90befffa, 0xa4506ceb, 0xbef9a3f7, 0xc67178f2]

theorem hp0_get (j : Nat) : hp0.get j = if j = 1 then some (.gl gshak) else if j = 0 then some (.gl gsizes) else none := by
  unfold hp0
  rw [Tr.get_upd _ _ _ _ (by rfl), Tr.get_upd _ _ _ _ (by rfl), Tr.get_nl]

def D0 : Nm := fun k => k < 2
def μ0 : Mu := fun k => (k, 0, 0)

theorem mem0 {w : World} (h0 : ∀ i, i < lsizes.length → w.cell? ⟨0, i, none⟩ = some (.int .i64 (lsizes.getD i 0))) (h1 : ∀ i, i < lshak.length → w.cell? ⟨1, i, none⟩ = some (.int .u32 (lshak.getD i 0))) : MemR PP w D0 μ0 hp0 w := by
  have hz0 : 0 < w.heap.size := by
    have := h0 0 (by decide)
    by_cases hh : 0 < w.heap.size
    · exact hh
    · have e : w.heap[0]? = none := Array.getElem?_eq_none (by omega)
      simp [World.cell?, e] at this
  have hz1 : 1 < w.heap.size := by
    have := h1 0 (by decide)
    by_cases hh : 1 < w.heap.size
    · exact hh
    · have e : w.heap[1]? = none := Array.getElem?_eq_none (by omega)
      simp [World.cell?, e] at this
  have key : ∀ k b, hp0.get k = some b → (k = 1 ∧ b = .gl gshak) ∨ (k = 0 ∧ b = .gl gsizes) := by
    intro k b h
    rw [hp0_get] at h
    split at h
    · rename_i hk; injection h with h; exact .inl ⟨hk, h.symm⟩
    · split at h
      · rename_i hk; injection h with h; exact .inr ⟨hk, h.symm⟩
      · cases h
  refine ⟨fun k b h => ?_, fun k b h => ?_, fun k b h => ?_, fun k b h ho => ?_, fun k j b b' h _ ho _ => ?_, Below.refl _ _⟩
  · rcases key k b h with ⟨rfl, rfl⟩ | ⟨rfl, rfl⟩
    · show 1 < 2; omega
    · show 0 < 2; omega
  · rcases key k b h with ⟨rfl, rfl⟩ | ⟨rfl, rfl⟩
    · exact hz1
    · exact hz0
  · rcases key k b h with ⟨rfl, rfl⟩ | ⟨rfl, rfl⟩
    · refine ⟨nums_ok, fun j v hv => ?_⟩
      obtain ⟨a1, a2⟩ := nums_vals (l := lshak) hv
      rw [a2, ← h1 j a1]; show w.cell? ⟨1, 0 + j, none⟩ = _; rw [Nat.zero_add]
    · refine ⟨nums_ok, fun j v hv => ?_⟩
      obtain ⟨a1, a2⟩ := nums_vals (l := lsizes) hv
      rw [a2, ← h0 j a1]; show w.cell? ⟨0, 0 + j, none⟩ = _; rw [Nat.zero_add]
  · rcases key k b h with ⟨rfl, rfl⟩ | ⟨rfl, rfl⟩ <;> cases ho
  · rcases key k b h with ⟨rfl, rfl⟩ | ⟨rfl, rfl⟩ <;> cases ho

theorem fresh0 (N : Nat) : Fresh (fun _ => True) D0 2 N := ⟨fun k h _ hk => by have : k < 2 := hk; omega, fun _ _ => trivial, fun _ _ _ => trivial⟩

theorem globR0 : GlobR tbb D0 μ0 := by
  intro g k h
  match g, h with
  | 0, h => injection h with h; subst h; exact ⟨show (0:Nat) < 2 by omega, rfl, rfl⟩
  | 1, h => injection h with h; subst h; exact ⟨show (1:Nat) < 2 by omega, rfl, rfl⟩
  | g + 2, h => cases h

theorem mixedP : PP.follows .mixedOrders = true := by kernel_rfl

theorem tab_one (P : Program) (gl : Nat → Option Nat) : ∀ t i, (⟨fun t => mkTI P t, fun f => mkFn P f, gl⟩ : Tab).ty t = some i → i.agg = false → i.sz = 1 := fun _ _ h => (mkTI_ok h).2

theorem tbb_ok : TabOk PP tbb := tabOk PP _

theorem isTrue_spec {o : Option (Out × St)} (h : isTrue o = true) : ∃ S, o = some (.v (.g (.s (.v (.bool true)))), S) := by
  unfold isTrue at h
  split at h
  · exact ⟨_, rfl⟩
  · cases h

/-- The answer that is asked for. -/
def okT (v : AV) : Z := match v with
  | .g (.s (.v (.bool true))) => fun _ _ _ _ => .yes
  | _ => failZ

theorem okT_yes {v : AV} {hp : Tr Blk} {nx fl : Nat} {lg : Tr Bool} (h : okT v hp nx fl lg = .yes) : v = .g (.s (.v (.bool true))) := by
  unfold okT at h
  split at h
  · rfl
  · cases h

theorem true_of_z {f : FuncId} (h : callNZ PP tbb 60 (.fn f) [] okT hp0 2 0 .nl = .yes) : isTrue (runF f) = true := by
  obtain ⟨v, S, h1, h2⟩ := run_of_z h
  rw [okT_yes h2] at h1
  unfold runF
  rw [h1]
  rfl

/-- A law of no arguments whose run answers true. -/
theorem calls_true {f : FuncId} (h : isTrue (runF f) = true) {w : World} (h0 : ∀ i, i < lsizes.length → w.cell? ⟨0, i, none⟩ = some (.int .i64 (lsizes.getD i 0))) (h1 : ∀ i, i < lshak.length → w.cell? ⟨1, i, none⟩ = some (.int .u32 (lshak.getD i 0))) :
    Calls Tryz.prog f #[] w fun e w' => e = .returned (.bool true) ∧ Below w.heap.size w w' := by
  obtain ⟨S, hS⟩ := isTrue_spec h
  unfold runF at hS
  have hp : (PP : Program) = Tryz.prog := rfl
  rw [← hp]
  have ho : ∀ t i, tbb.ty t = some i → i.agg = false → i.sz = 1 := tab_one PP _
  generalize (60 : Nat) = n at hS
  refine calls_of_run (vs := []) mixedP tbb_ok ho hS (mem0 h0 h1) (fresh0 _) globR0 .nil ?_
  intro v S' D' μ' v' w' a1 a2 _ a4 _
  simp only [runM, Option.some.injEq, Prod.mk.injEq, Out.v.injEq] at a1
  obtain ⟨rfl, rfl⟩ := a1
  refine ⟨?_, a2.fr⟩
  obtain ⟨e, _⟩ := a4
  rw [e]; rfl
end Go.Rn
namespace Go.Proofs.YtemlpgeadepmcaaGreatDoor
open Go Go.ChangeShapes Go.WideShapes Go.ChangeAt Go.RowKit Go.Rn
set_option maxRecDepth 100000

theorem own : ownKnob Tryz.prog.godebug = none := by kernel_rfl
theorem gSizes : Tryz.prog.globalNamed "stockade/insn.sizes" = some 0 := by kernel_rfl
theorem gShak : Tryz.prog.globalNamed "stockade/sha.k" = some 1 := by kernel_rfl

abbrev laid2 : List (String × DataW Unit) := [("stockade/insn.sizes", Rows.laid_stockade_insn_sizes), ("stockade/sha.k", Rows.laid_stockade_sha_k)]

theorem post_of_same2 {H : Type} {enc : TypeId × Value → H} {P : Program} {f : Func} {s : ChangeSpec} {apart fresh handsOn again : Bool} {W W' : World} {args : Array Value} {v : Value} {ds gs : List (DataW H)} {before pa pv : List MemPlace}
    (hW : DataW.Whole enc P f.params.toList s.vars apart W args.toList ds gs before)
    (hres : ∀ (b : Nat) (sp : Nat → Bool) (hd : Bool), DataW.TrodAll enc P W' b sp hd f.resultTypes.toList (v.resultList f.resultTypes.size) (s.fn H (ds ++ gs)).results [])
    (hargs : ∀ sp : Nat → Bool, (∀ p ∈ before, sp p.block = true) → DataW.TrodAll enc P W' 0 sp true f.params.toList args.toList (s.fn H (ds ++ gs)).args pa)
    (hvars : ∀ sp : Nat → Bool, (∀ p ∈ before, sp p.block = true) → DataW.TrodVars enc P W' sp s.vars (s.fn H (ds ++ gs)).vars pv)
    (hps : before = pa ++ pv) (hB : Below W.heap.size W W')
    (hok : ∀ (j : Nat) (t : TypeId) (r : Value), f.resultTypes[j]? = some t → (v.resultList f.resultTypes.size)[j]? = some r → Value.okWide P W' .any 0 t r) :
    s.post enc P f apart fresh handsOn again W args v W' := by
  have hold : ∀ p ∈ before, (fun b => decide (b < W.heap.size)) p.block = true := fun p hp => by simpa using hW.lt p hp
  have hlt := hW.lt
  refine ⟨ds, gs, before, [], pa, pv, hW, hres _ _ _, hargs _ hold, hvars _ hold, World.keptBut_mono (fun p hp => ⟨hp, ?_⟩) (hB.frame (· ∈ before)), fun _ => ?_⟩
  · rw [hps, List.mem_append] at hp
    exact Or.inr hp
  · obtain ⟨_, _, _, _, _, hz, hn⟩ := hW
    refine ⟨hok, _, _, ([] ++ pa) ++ pv, ⟨[] ++ pa, pv, trodAll_append (hargs _ (fun _ _ => rfl)) (hres _ _ _), hvars _ (fun _ _ => rfl), rfl, ?_, ?_⟩, ?_⟩
    · intro b off hp
      have hp' : MemPlace.cell b off ∈ before := by rw [hps]; simpa using hp
      rw [hB.frozen (hlt _ hp')]
      exact hz b off hp'
    · intro ha
      have := hn ha
      rw [hps] at this
      simpa using this
    · intro p hp _
      rw [hps]
      simpa using hp

theorem of_laid {W : World} (h : laidMetH Tryz.prog laid2 W) : (∀ i, i < lsizes.length → W.cell? ⟨0, i, none⟩ = some (.int .i64 (lsizes.getD i 0))) ∧ (∀ i, i < lshak.length → W.cell? ⟨1, i, none⟩ = some (.int .u32 (lshak.getD i 0))) := by
  rw [MakeChecks.laidMetH_plain _ _ _ (by kernel_rfl)] at h
  have t0 : Lib.TabIs Tryz.prog W "stockade/insn.sizes" .i64 lsizes := Lib.tabIs_of_head (g := 0) gSizes (t := 327) (e := 3) (n := 4) (by kernel_rfl) (by kernel_rfl) (by kernel_rfl) (by kernel_rfl) (by kernel_rfl) h
  have t1 : Lib.TabIs Tryz.prog W "stockade/sha.k" .u32 lshak := Lib.tabIs_of_head (g := 1) gShak (t := 340) (e := 28) (n := 64) (by kernel_rfl) (by kernel_rfl) (by kernel_rfl) (by kernel_rfl) (by kernel_rfl) h.tail
  exact ⟨fun i hi => t0.cell gSizes i hi, fun i hi => t1.cell gShak i hi⟩

theorem door_met (os : Os) (args : Array Value) : laidMetH Tryz.prog laid2 ((World.doorLaid Tryz.prog 19 os).forCall (fun _ _ => 0) ⟨#[], args, []⟩).memory :=
  laidMetH_of_parts3 (fuel := 8) (laidMet_of_run' 8 (by kernel_rfl) (by kernel_rfl)) (by kernel_rfl) (by kernel_rfl)
end Go.Proofs.YtemlpgeadepmcaaGreatDoor
