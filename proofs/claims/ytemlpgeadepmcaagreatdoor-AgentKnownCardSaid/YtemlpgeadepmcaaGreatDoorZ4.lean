/-
  A part of a proved evaluator for closed runs. No conditions.
-/
import Derived.Test.YtemlpgeadepmcaaGreatDoorZ3
namespace Go.Rn
open Go Go.RowKit
set_option linter.unusedVariables false
set_option linter.unusedSimpArgs false

theorem z_subZ {κ : Out → Z} (m : M) (f : AV → Tr Bool → M) {mz : (AV → Z) → Z} (hm : ∀ κ' : Out → Z, m.z κ' = mz fun v => κ' (.v v)) : (M.sub m f).z κ = subZ mz fun x lg => (f x lg).z κ := by
  rw [z_sub]
  unfold subZ
  funext hp nx fl lg
  cases nx with
  | zero => rfl
  | succ nx => simp only [hm]

section
variable {κ : Out → Z} {P : Program} {tb : Tab} {call : CallF} {callz : CallZ} (hc : ∀ κ t args K, (call t args K).z κ = callz t args fun v => (K v).z κ)
include hc

theorem evOps_z (nt : Nat) (all : List Oper) : ∀ (l : List Oper) (tm : Tr AV) (K : Tr AV → M), (evOps P tb call nt all l tm K).z κ = evOpsZ P tb callz nt all l tm fun tm => (K tm).z κ
  | [], tm, K => rfl
  | o :: l, tm, K => by
    simp only [evOps, evOpsZ]
    split
    · rw [evOp_z hc (useZ_eq tb tm)]
      congr 1
      funext v
      rw [putK_z]
      congr 1
      funext tm
      exact evOps_z nt all l tm K
    · rw [putK_z]
      congr 1
      funext tm
      exact evOps_z nt all l tm K
    · rfl

theorem evDraw_z (nt : Nat) (all : List Oper) : ∀ (l : List Oper) (bs : List Nat) (i : Nat) (lgs : List (Tr Bool)) (tm : Tr AV) (K : Tr AV → M), (evDraw P tb call nt all l bs i lgs tm K).z κ = evDrawZ P tb callz nt all l bs i lgs tm fun tm => (K tm).z κ
  | [], bs, i, lgs, tm, K => rfl
  | o :: l, [], i, lgs, tm, K => rfl
  | o :: l, b :: bs, i, lgs, tm, K => by
    simp only [evDraw, evDrawZ]
    split
    · rw [z_subZ (mz := evOpZ P tb callz (useZ tb tm) o.op) _ _ (fun κ' => evOp_z hc (useZ_eq tb tm) P tb o.op _)]
      congr 1
      funext v lg
      split
      · rw [putK_z]
        congr 1
        funext tm
        exact evDraw_z nt all l bs (i + 1) (lg :: lgs) tm K
      · rfl
    · rw [putK_z]
      congr 1
      funext tm
      exact evDraw_z nt all l bs (i + 1) (.nl :: lgs) tm K
    · rfl

theorem ev_z (fid nt : Nat) (ro : Option Nat) : ∀ (c : Code) (κ : Out → Z) (tm : Tr AV) (df : List Nat) (K : Ex → Tr AV → List Nat → M), (ev P tb call fid nt ro c tm df K).z κ = evZ P tb callz fid nt ro c tm df fun e tm df => (K e tm df).z κ := by
  intro c
  induction c with
  | skip => intro κ tm df K; rfl
  | label l => intro κ tm df K; rfl
  | region id ops draw =>
    intro κ tm df K
    simp only [ev, evZ]
    split
    · exact evOps_z hc _ _ _ _ _
    · split
      · exact evDraw_z hc _ _ _ _ _ _ _ _
      · rfl
  | seq x y ihx ihy =>
    intro κ tm df K
    simp only [ev, evZ]
    rw [ihx]
    congr 1
    funext e tm df
    cases e with
    | norm => exact ihy κ tm df K
    | ret => rfl
    | out i => rfl
  | cond cd x y ihx ihy =>
    intro κ tm df K
    simp only [ev, evZ, useZ_eq, condZ]
    split
    · exact ihx κ tm df K
    · exact ihy κ tm df K
    · rfl
  | block id c ih =>
    intro κ tm df K
    simp only [ev, evZ]
    rw [ih]
    congr 1
    funext e tm df
    cases e with
    | norm => rfl
    | ret => rfl
    | out i => simp only; split <;> rfl
  | loop c ih =>
    intro κ tm df K
    simp only [ev, evZ]
    exact loopM_z (fun tm df K => ih κ tm df K) _ _ _ _
  | rangeFunc f ps x y ihx ihy =>
    intro κ tm df K
    simp only [ev, evZ, useZ_eq, rangeZ]
    split
    · cases ro with
      | none =>
        simp only [z_new, hc, endLoopM_z]
      | some l0 =>
        simp only
        rw [z_rd]
        congr 1
        funext b
        split
        · simp only [z_new, hc, endLoopM_z]
        · rfl
    · rfl
  | exit i => intro κ tm df K; rfl
  | scope c ih =>
    intro κ tm df K
    simp only [ev, evZ]
    exact ih κ tm df K
  | goto l => intro κ tm df K; rfl
  | ret => intro κ tm df K; rfl
  | refuse s => intro κ tm df K; rfl

theorem roundM_z (l : Nat) (args : List AV) (K : AV → M) : (roundM P tb call l args K).z κ = roundMZ P tb callz l args fun v => (K v).z κ := by
  unfold roundM roundMZ
  rw [z_rd]
  congr 1
  funext b
  split
  · rw [putAll_z]
    congr 1
    funext tm
    rw [ev_z hc]
    congr 1
    funext e tm df
    split
    · split
      · rw [z_rd]
        congr 1
        funext b
        split
        · split
          · rw [z_wr, ev_z hc]
            simp only [endRoundM_z]
          · rfl
        · rfl
      · rfl
    · rfl
  · rfl
end

theorem callN_z (P : Program) (tb : Tab) : ∀ (n : Nat) (κ : Out → Z) (t : Tgt) (args : List AV) (K : AV → M), (callN P tb n t args K).z κ = callNZ P tb n t args fun v => (K v).z κ
  | 0, κ, t, args, K => rfl
  | n + 1, κ, .fn f, args, K => by
    simp only [callN, callNZ]
    split
    · split
      · rw [putAll_z]
        congr 1
        funext tm
        rw [ev_z (callN_z P tb n)]
        congr 1
        funext e tm df
        cases e with
        | out i => rfl
        | norm => simp only [leaveM_z, resM_z]
        | ret => simp only [leaveM_z, resM_z]
      · rfl
    · rfl
  | n + 1, κ, .y l, args, K => roundM_z (callN_z P tb n) l args K

/-- What a run in one thread tells. -/
theorem run_of_z {P : Program} {tb : Tab} {n : Nat} {t : Tgt} {args : List AV} {KZ : AV → Z} {hp : Tr Blk} {nx : Nat} (h : callNZ P tb n t args KZ hp nx 0 .nl = .yes) :
    ∃ v S, runM (callN P tb n t args fun v => .ret (.v v)) ⟨hp, nx, 0, .nl⟩ = some (.v v, S) ∧ KZ v S.hp S.nx S.fl S.lg = .yes := by
  have e := z_run (callN P tb n t args fun v => .ret (.v v)) (fun o => match o with | .v v => KZ v | _ => failZ) hp nx 0 .nl
  rw [callN_z] at e
  have e2 : callNZ P tb n t args KZ hp nx 0 .nl = denO (fun o => match o with | .v v => KZ v | _ => failZ) (runM (callN P tb n t args fun v => .ret (.v v)) ⟨hp, nx, 0, .nl⟩) := e
  rw [h] at e2
  cases hr : runM (callN P tb n t args fun v => .ret (.v v)) ⟨hp, nx, 0, .nl⟩ with
  | none => rw [hr] at e2; cases e2
  | some r =>
    obtain ⟨o, S⟩ := r
    rw [hr] at e2
    cases o with
    | x _ _ => cases e2
    | v x => exact ⟨x, S, rfl, e2.symm⟩
end Go.Rn
