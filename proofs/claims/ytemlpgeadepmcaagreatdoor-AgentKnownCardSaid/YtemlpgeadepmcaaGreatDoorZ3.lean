/-
  A part of a proved evaluator for closed runs. No conditions.
-/
import Derived.Test.YtemlpgeadepmcaaGreatDoorZ2
namespace Go.Rn
open Go Go.RowKit
set_option linter.unusedVariables false
set_option linter.unusedSimpArgs false

section
variable {κ : Out → Z}

theorem evAlloc_z (tb : Tab) (T : TypeId) (K : AV → M) : (evAlloc tb T K).z κ = evAllocZ tb T fun v => (K v).z κ := by
  unfold evAlloc evAllocZ
  cases tb.ty T <;> rfl
theorem evBox_z (T : TypeId) (x : AV) (K : AV → M) : (evBox T x K).z κ = evBoxZ T x fun v => (K v).z κ := by
  unfold evBox evBoxZ
  cases x <;> rfl
theorem evLoad_z (tb : Tab) (T : TypeId) (x : AV) (K : AV → M) : (evLoad tb T x K).z κ = evLoadZ tb T x fun v => (K v).z κ := by
  unfold evLoad evLoadZ
  cases x with
  | any => rfl
  | tu _ => rfl
  | g x => cases x with
    | a _ => rfl
    | s x => cases x with
      | p k off =>
        simp only
        cases tb.ty T with
        | none => rfl
        | some i =>
          simp only
          rw [z_rd]
          congr 1
          funext b
          cases b with
          | c ty t op => exact ldT_nat (M.z κ) _ _ _ _ _
          | gl t => exact ldT_nat (M.z κ) _ _ _ _ _
          | _ => rfl
      | _ => rfl
theorem evStore_z (tb : Tab) (T : TypeId) (x y : AV) (K : AV → M) : (evStore tb T x y K).z κ = evStoreZ tb T x y fun v => (K v).z κ := by
  unfold evStore evStoreZ
  cases x with
  | any => rfl
  | tu _ => rfl
  | g x => cases x with
    | a _ => rfl
    | s x => cases x with
      | p k off => cases y with
        | any => rfl
        | tu _ => rfl
        | g y =>
          simp only
          cases tb.ty T with
          | none => rfl
          | some i =>
            simp only
            cases Nat.beq y.tree.size i.sz with
            | false => rfl
            | true =>
              simp only
              rw [z_rd]
              congr 1
              funext b
              cases b with
              | c ty t op =>
                simp only
                cases Nat.ble (off + y.tree.size) t.size with
                | true => exact layK_nat (M.z κ) _ _ _ _
                | false => rfl
              | _ => rfl
      | _ => rfl
theorem evBuildSlice_z (tb : Tab) (T : TypeId) (len : Nat) (ps : List (Nat × AV)) (K : AV → M) : (evBuildSlice tb T len ps K).z κ = evBuildSliceZ tb T len ps fun v => (K v).z κ := by
  unfold evBuildSlice evBuildSliceZ
  split
  · split
    · rw [repK_nat (M.z κ)]
      congr 1
      funext z
      exact layP_nat (M.z κ) _ _ _ _ _
    · rfl
  · rfl
theorem evMakeSlice_z (tb : Tab) (T : TypeId) (len cap : AV) (K : AV → M) : (evMakeSlice tb T len cap K).z κ = evMakeSliceZ tb T len cap fun v => (K v).z κ := by
  unfold evMakeSlice evMakeSliceZ
  split
  · split
    · exact repK_nat (M.z κ) _ _ _ _ _
    · rfl
  · rfl
theorem cellsK_z (x : AV) (sz n : Nat) (K : T → M) : (cellsK x sz n K).z κ = cellsKZ x sz n fun v => (K v).z κ := by
  unfold cellsK cellsKZ
  split
  · split <;> rfl
  · split <;> rfl
  · rw [z_rd]
    congr 1
    funext b
    simp only [T.cutK_eq]
    split
    · split <;> rfl
    · split <;> rfl
    · rfl
  · rfl
theorem newRowK_z (e : TypeId) (old new : T) (need : Nat) (K : AV → M) : (newRowK e old new need K).z κ = newRowKZ e old new need fun v => (K v).z κ := by
  unfold newRowK newRowKZ
  simp only [T.catK_eq, z_new, forceN_eq]
theorem evAppend_z (tb : Tab) (T U : TypeId) (s x : AV) (K : AV → M) : (evAppend tb T U s x K).z κ = evAppendZ tb T U s x fun v => (K v).z κ := by
  unfold evAppend evAppendZ
  split
  · split
    · split
      · rfl
      · split <;> rfl
      · rfl
      · rfl
    · rw [cellsK_z]
      congr 1
      funext new
      split
      · split
        · exact newRowK_z _ _ _ _ _
        · rfl
      · split
        · rw [z_rd]
          congr 1
          funext b
          split
          · split
            · rw [z_wr, newRowK_z]
            · rfl
          · rfl
        · rfl
      · simp only [forceN_eq]
        split
        · rw [z_rd]
          congr 1
          funext b
          split
          · split
            · rw [layK_nat (M.z κ)]
              congr 1
              funext t'
              rw [z_wr]
              simp only [slK_eq]
            · rfl
          · rfl
        · split
          · rw [cellsK_z]
            congr 1
            funext old
            split
            · exact newRowK_z _ _ _ _ _
            · rw [z_rd]
              congr 1
              funext b
              split
              · split
                · rw [z_wr, newRowK_z]
                · rfl
              · rfl
          · rfl
      · rfl
  · rfl
theorem evCopy_z (tb : Tab) (T : TypeId) (d x : AV) (K : AV → M) : (evCopy tb T d x K).z κ = evCopyZ tb T d x fun v => (K v).z κ := by
  unfold evCopy evCopyZ
  split
  · simp only [forceN_eq]
    split
    · rfl
    · rw [cellsK_z]
      congr 1
      funext new
      split
      · rw [z_rd]
        congr 1
        funext b
        split
        · split
          · exact layK_nat (M.z κ) _ _ _ _
          · rfl
        · rfl
      · rfl
  · rfl
theorem evLen_z (tb : Tab) (T : TypeId) (x : AV) (K : AV → M) : (evLen tb T x K).z κ = evLenZ tb T x fun v => (K v).z κ := by
  unfold evLen evLenZ
  split
  · split
    · split <;> rfl
    · rfl
    · simp only [forceN_eq]
    · rfl
    · rw [z_rd]
      congr 1
      funext b
      split
      · simp only [forceN_eq]
      · rfl
    · rfl
  · rfl
theorem finLk_z (j : TI) (ok : Bool) (K : AV → M) (r : Option (Nat × GV)) : (finLk j ok K r).z κ = finLkZ j ok (fun v => (K v).z κ) r := by
  unfold finLk finLkZ
  split
  · split <;> rfl
  · split
    · split <;> rfl
    · rfl
theorem evLookup_z (tb : Tab) (T : TypeId) (x ix : AV) (ok : Bool) (K : AV → M) : (evLookup tb T x ix ok K).z κ = evLookupZ tb T x ix ok fun v => (K v).z κ := by
  unfold evLookup evLookupZ
  split
  · split
    · exact finLk_z _ _ _ _
    · rw [z_rd]
      congr 1
      funext b
      split
      · split
        · exact finLk_z _ _ _ _
        · rfl
      · rfl
    · rfl
  · rfl
theorem evMapUpdate_z (tb : Tab) (T : TypeId) (m key v : AV) (K : AV → M) : (evMapUpdate tb T m key v K).z κ = evMapUpdateZ tb T m key v fun v => (K v).z κ := by
  unfold evMapUpdate evMapUpdateZ
  split
  · rw [z_rd]
    congr 1
    funext b
    split
    · split
      · rfl
      · simp only [forceN_eq, z_wr]
      · rfl
    · rfl
  · rfl
theorem putK_z (nt : Nat) (tm : Tr AV) (d : Option Nat) (v : AV) (K : Tr AV → M) : (putK nt tm d v K).z κ = putKZ nt tm d v fun v => (K v).z κ := by
  unfold putK putKZ
  split
  · rfl
  · split
    · exact setK_nat (M.z κ) _ _ _ _ _ _
    · rfl
theorem putAll_z : ∀ (ts : List Tmp) (vs : List AV) (nt : Nat) (tm : Tr AV) (K : Tr AV → M), (putAll ts vs nt tm K).z κ = putAllZ ts vs nt tm fun v => (K v).z κ
  | [], [], nt, tm, K => rfl
  | [], _ :: _, nt, tm, K => rfl
  | _ :: _, [], nt, tm, K => rfl
  | t :: ts, v :: vs, nt, tm, K => by
    simp only [putAll, putAllZ]
    rw [putK_z]
    congr 1
    funext tm
    exact putAll_z ts vs nt tm K
theorem loopM_z {b : Tr AV → List Nat → (Ex → Tr AV → List Nat → M) → M} {bz : Tr AV → List Nat → (Ex → Tr AV → List Nat → Z) → Z} (hb : ∀ tm df K, (b tm df K).z κ = bz tm df fun e tm df => (K e tm df).z κ) :
    ∀ (n : Nat) (tm : Tr AV) (df : List Nat) (K : Ex → Tr AV → List Nat → M), (loopM n b tm df K).z κ = loopMZ n bz tm df fun e tm df => (K e tm df).z κ
  | 0, tm, df, K => rfl
  | n + 1, tm, df, K => by
    simp only [loopM, loopMZ]
    rw [hb]
    congr 1
    funext e tm df
    cases e with
    | norm => exact loopM_z hb n tm df K
    | ret => rfl
    | out i => rfl
theorem endLoopM_z (l : Nat) (tm : Tr AV) (df : List Nat) (K : Ex → Tr AV → List Nat → M) : (endLoopM l tm df K).z κ = endLoopMZ l tm df fun e tm df => (K e tm df).z κ := by
  unfold endLoopM endLoopMZ
  rw [z_rd]
  congr 1
  funext b
  split
  · split
    · rfl
    · rw [z_wr]
      congr 1
      split <;> rfl
  · rfl
theorem leaveM_z : ∀ (l : List Nat) (m : M), (leaveM l m).z κ = leaveMZ l (m.z κ)
  | [], m => rfl
  | r :: l, m => by
    simp only [leaveM, leaveMZ]
    rw [z_rd]
    congr 1
    funext b
    split
    · rw [z_wr, leaveM_z l m]
    · rfl
theorem resM_z (tb : Tab) (tm : Tr AV) : ∀ (l : List ResultVar) (K : List GV → M), (resM tb tm l K).z κ = resMZ tb tm l fun v => (K v).z κ
  | [], K => rfl
  | .tmp t :: r, K => by
    simp only [resM, resMZ]
    split
    · exact resM_z tb tm r _
    · rfl
  | .cell t T :: r, K => by
    simp only [resM, resMZ]
    split
    · rw [z_rd]
      congr 1
      funext b
      split
      · rw [ldT_nat (M.z κ)]
        congr 1
        funext x
        exact resM_z tb tm r _
      · rfl
    · rfl
theorem endRoundM_z (l : Nat) (e : Ex) (K : AV → M) : (endRoundM l e K).z κ = endRoundMZ l e fun v => (K v).z κ := by
  unfold endRoundM endRoundMZ
  rw [z_rd]
  congr 1
  funext b
  split
  · split <;> rfl
  · rfl
end

theorem useZ_eq (tb : Tab) (tm : Tr AV) (x : Operand) (K : AV → Z) : useZ tb tm x K = K (use tb tm x) := by
  cases x with
  | tmp t => simp only [useZ, use, Tr.getK_eq]; split <;> rfl
  | const v => rfl
  | global g => simp only [useZ, use]; split <;> rfl
  | func f => rfl

section
variable {u : UseZ} {u0 : Operand → AV} (hu : ∀ x K, u x K = K (u0 x))
include hu
theorem pairsZ_eq : ∀ (l : List (Nat × Operand)) (K : List (Nat × AV) → Z), pairsZ u l K = K (l.map fun q => (q.1, u0 q.2))
  | [], K => rfl
  | q :: r, K => by simp only [pairsZ, hu, pairsZ_eq r]; rfl
theorem argsZ_eq : ∀ (l : List Operand) (K : List AV → Z), argsZ u l K = K (l.map u0)
  | [], K => rfl
  | q :: r, K => by simp only [argsZ, hu, argsZ_eq r]; rfl
theorem optZ_eq (x : Option Operand) (K : Option AV → Z) : optZ u x K = K (x.map u0) := by
  cases x with
  | none => rfl
  | some x => simp only [optZ, hu]; rfl
end

section
variable {κ : Out → Z} {call : CallF} {callz : CallZ} (hc : ∀ κ t args K, (call t args K).z κ = callz t args fun v => (K v).z κ)
variable {u : UseZ} {u0 : Operand → AV} (hu : ∀ x K, u x K = K (u0 x))
include hc hu

theorem evCall_z (tb : Tab) (c : Call) (K : AV → M) : (evCall tb call u0 c K).z κ = evCallZ tb callz u c fun v => (K v).z κ := by
  unfold evCall evCallZ
  split
  · simp only [hu, argsZ_eq hu]
    split
    · exact hc κ _ _ _
    · exact hc κ _ _ _
    · rfl
  · rfl
  · unfold callBZ
    split
    · simp only [hu]; exact evAppend_z _ _ _ _ _ _
    · simp only [hu]; exact evCopy_z _ _ _ _ _
    · simp only [hu]; exact evLen_z _ _ _ _
    · simp only [hu]; exact pMinMax_nat (M.z κ) _ _ _ _ _
    · simp only [hu]; exact pMinMax_nat (M.z κ) _ _ _ _ _
    · rfl

theorem evOp_z (P : Program) (tb : Tab) (op : Op) (K : AV → M) : (evOp P tb call u0 op K).z κ = evOpZ P tb callz u op fun v => (K v).z κ := by
  unfold evOp evOpZ
  split
  · simp only [hu]
  · simp only [hu]
  · simp only [hu, pickZ]
    split <;> rfl
  · exact evAlloc_z _ _ _
  · simp only [hu]; exact evBox_z _ _ _
  · simp only [pairsZ_eq hu]; exact pBuild_nat (M.z κ) _ _ _ _ _
  · simp only [pairsZ_eq hu]; exact evBuildSlice_z _ _ _ _ _
  · simp only [hu]; exact evLoad_z _ _ _ _
  · simp only [hu]; exact evStore_z _ _ _ _ _
  · simp only [hu]; exact evNilCheck_nat (M.z κ) _ _ _
  · simp only [hu]; exact pBin_nat (M.z κ) _ _ _ _ _ _ _ _
  · simp only [hu]; exact pUn_nat (M.z κ) _ _ _ _
  · simp only [hu]; exact pConv_nat (M.z κ) _ _ _ _ _ _
  · simp only [makeFZ, argsZ_eq hu]
    split
    · split <;> rfl
    · rfl
  · rfl
  · simp only [hu]; exact evMakeSlice_z _ _ _ _ _
  · simp only [hu, optZ_eq hu]; exact pSlice_nat (M.z κ) _ _ _ _ _ _ _ _
  · simp only [hu]; exact pFieldAddr_nat (M.z κ) _ _ _ _ _ _
  · simp only [hu]; exact pField_nat (M.z κ) _ _ _ _ _ _
  · simp only [hu]; exact pIndexAddr_nat (M.z κ) _ _ _ _ _ _
  · simp only [hu]; exact pIndex_nat (M.z κ) _ _ _ _ _ _
  · simp only [hu]; exact evLookup_z _ _ _ _ _ _
  · simp only [hu]; exact evMapUpdate_z _ _ _ _ _ _
  · simp only [hu]; exact pExtract_nat (M.z κ) _ _ _ _
  · exact evCall_z hc hu _ _ _
  · rfl
end
end Go.Rn
