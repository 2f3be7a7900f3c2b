/-
  A part of a proved evaluator for closed runs. No conditions.
-/
import Derived.Test.YtemlpgeadepmcaaGreatDoorR16
namespace Go.Rn
open Go Go.RowKit
set_option linter.unusedVariables false
set_option linter.unusedSimpArgs false

structure FrR (nt : Nat) (D : Nm) (μ : Mu) (tm : Tr AV) (a : Act) : Prop where
  size : a.tmps.size = nt
  tm : TmR D μ tm a.tmps

section
variable {P : Program} {tb : Tab} {w0 w w' : World} {B D D' : Nm} {μ μ' : Mu} {S : St} {out : Out × St} {G : Machine → Prop}
variable {ops : Array Oper} {b : Frame} {a : Act} {k : List Item} {cs : List Frame} {nt : Nat} {tm : Tr AV}

theorem FrR.sees (h : FrR nt D μ tm a) (hs : Sees D D' μ μ') : FrR nt D' μ' tm a := ⟨h.size, h.tm.sees hs⟩

theorem allOne_spec {l : List Value} (h : allOne l = true) : ∀ v ∈ l, v.oneCell' = true := by
  induction l with
  | nil => intro v hv; cases hv
  | cons u l ih =>
    simp only [allOne, Bool.and_eq_true] at h
    intro v hv
    rcases List.mem_cons.1 hv with rfl | hv
    · exact h.1
    · exact ih h.2 v hv

theorem constAV_spec (v : Value) : AVr D μ (constAV v) v := by
  unfold constAV
  split
  · rename_i h; exact ⟨rfl, h⟩
  · split
    · rename_i cs _
      split
      · rename_i h
        rcases T.balK_spec (bad := AV.any) 64 cs.toList.length (cs.toList.map .v) (fun t _ => .g (.a t)) with e | ⟨t, r, e, h1, h2, h3⟩
        · rw [e]; trivial
        · rw [e]
          have hr : r = [] := by
            have := congrArg List.length h1
            simp only [List.length_append, List.length_map, Rn.T.length h2, h3] at this
            exact List.eq_nil_of_length_eq_zero (by omega)
          rw [hr, List.append_nil] at h1
          refine ⟨?_, h2, fun x hx => ?_⟩
          · simp only [GV.val, Rn.T.vals, h1, List.map_map]
            have hid : (Sc.val μ ∘ Sc.v) = id := rfl
            rw [hid, List.map_id]
          · rw [h1] at hx
            obtain ⟨v, hv, rfl⟩ := List.mem_map.1 hx
            exact allOne_spec h v hv
      · trivial
    · trivial

theorem use_spec (hg : GlobR tb D μ) (h : FrR nt D μ tm a) (x : Operand) : AVr D μ (use tb tm x) (a.eval x) := by
  cases x with
  | tmp t =>
    simp only [use]
    split
    · rename_i x hx; exact h.tm t x hx
    · trivial
  | const v => exact constAV_spec v
  | global g =>
    simp only [use]
    split
    · rename_i k hk
      obtain ⟨h1, h2, h3⟩ := hg g k hk
      exact ⟨by simp [Act.eval, GV.val, Sc.val, at_, h2, h3], h1⟩
    · trivial
  | func f => exact ⟨by simp [Act.eval, GV.val, Sc.val], fun c hc => by cases hc⟩

theorem wants_spec' {o : Oper} (h : ∀ t x, t ∈ looksT ops.toList o → tm.get t = some x → AVr D μ x (a.tmps.getD t undef)) {r : Bool} (hw : wants ops.toList tm o.guard = some r) : Region.wanted o (yielded ops a.tmps) = r := by
  unfold wants at hw
  unfold Region.wanted
  split at hw
  · rename_i hg; injection hw with hw; subst hw; rw [hg]
  · rename_i j want hg
    rw [hg]
    simp only
    split at hw
    · rename_i oj hj
      rw [nth_eq] at hj
      have hj' : ops[j]? = some oj := by simpa using hj
      split at hw
      · rename_i d hd
        have hm : d ∈ looksT ops.toList o := by
          unfold looksT
          refine List.mem_append_left _ ?_
          rw [hg, ]
          simp only [nth_eq, hj, hd, List.mem_singleton]
        unfold yielded
        rw [hj', Option.bind_some, hd, Option.bind_some]
        split at hw
        · rename_i ht
          injection hw with hw; subst hw
          have := (h d _ hm ht).1
          simp only [GV.val, Sc.val] at this
          have hsz : a.tmps[d]? = some (.bool true) := by
            rw [Array.getD_eq_getD_getElem?] at this
            cases hq : a.tmps[d]? with
            | none => simp [hq, undef] at this
            | some v => simpa [hq] using this
          rw [hsz]; cases want <;> rfl
        · rename_i ht
          have := (h d _ hm ht).1
          simp only [GV.val, Sc.val] at this
          have hsz : a.tmps[d]? = some (.bool false) := by
            rw [Array.getD_eq_getD_getElem?] at this
            cases hq : a.tmps[d]? with
            | none => simp [hq, undef] at this
            | some v => simpa [hq] using this
          rw [hsz]; injection hw with hw; subst hw; cases want <;> rfl
        · rename_i xs ht
          injection hw with hw; subst hw
          have := (h d _ hm ht).1
          have hsz : ∀ c, a.tmps[d]? ≠ some (.bool c) := by
            intro c hc
            rw [Array.getD_eq_getD_getElem?, hc] at this
            simp at this
          cases hq : a.tmps[d]? with
          | none => simp
          | some v => cases v <;> first | exact absurd hq (hsz _) | rfl
        · cases hw
      · cases hw
    · cases hw

theorem wants_spec (h : FrR nt D μ tm a) {o : Oper} {r : Bool} (hw : wants ops.toList tm o.guard = some r) : Region.wanted o (yielded ops a.tmps) = r := wants_spec' (fun t x _ hx => h.tm t x hx) hw

theorem putK_spec {d : Option Nat} {v : AV} {K : Tr AV → M} (hK : runM (putK nt tm d v K) S = some out) : ∃ tm', runM (K tm') S = some out ∧ (∀ t, tm'.get t = if d = some t then some v else tm.get t) ∧ ∀ t, d = some t → t < nt := by
  unfold putK at hK
  split at hK
  · exact ⟨tm, hK, fun t => by simp, fun t h => by cases h⟩
  · rename_i d
    split at hK
    · rename_i hlt
      cases hf : fits 64 d with
      | false => rw [Tr.setK_bad _ _ _ _ _ hf] at hK; exact (runM_fail hK).elim
      | true =>
        rw [Tr.setK_good _ _ _ _ _ hf] at hK
        refine ⟨_, hK, fun t => ?_, fun t h => by injection h with h; subst h; exact blt_iff.1 hlt⟩
        rw [Tr.get_upd _ _ _ _ hf]
        by_cases h : t = d
        · subst h; simp
        · have : ¬ some d = some t := fun e => h (by injection e with e; exact e.symm)
          simp [h, this]
    · exact (runM_fail hK).elim

theorem FrR.put (h : FrR nt D μ tm a) {d : Option Nat} {v : AV} {v' : Value} (hv : AVr D μ v v') {tm' : Tr AV} (ht : ∀ t, tm'.get t = if d = some t then some v else tm.get t) (hd : ∀ t, d = some t → t < nt) : FrR nt D μ tm' (a.put d v') := by
  refine ⟨?_, ?_⟩
  · cases d with
    | none => exact h.size
    | some d => simp [Act.put, h.size]
  · intro t x hx
    rw [ht] at hx
    cases d with
    | none => exact h.tm t x (by simpa using hx)
    | some d =>
      simp only [Act.put]
      by_cases hdt : d = t
      · subst hdt
        simp only [if_true, Option.some.injEq] at hx
        subst hx
        have hlt : d < a.tmps.size := by rw [h.size]; exact hd d rfl
        rw [Array.getD_eq_getD_getElem?, Array.getElem?_setIfInBounds_self_of_lt hlt]
        exact hv
      · have hne : ¬ some d = some t := fun e => hdt (by injection e)
        rw [if_neg hne] at hx
        rw [Array.getD_eq_getD_getElem?, Array.getElem?_setIfInBounds_ne hdt, ← Array.getD_eq_getD_getElem?]
        exact h.tm t x hx

theorem put_defers (d : Option Nat) (v : Value) : (a.put d v).defers = a.defers := by cases d <;> rfl

/-- What follows a piece of code that ends where it stands. -/
abbrev RegG (P : Program) (w0 : World) (out : Out × St) (K : Tr AV → M) (nt : Nat) (B D : Nm) (μ : Mu) (G : Machine → Prop) (b : Frame) (df : List Deferred) (k : List Item) (cs : List Frame) : Prop :=
  ∀ tm' S' D' μ' a' w', runM (K tm') S' = some out → MemR P w0 D' μ' S'.hp w' → Sees D D' μ μ' → FrR nt D' μ' tm' a' → a'.defers = df → Fresh B D' S'.nx out.2.nx → G (lone (b.atR a' k) cs w')

theorem evOps_ok (hT : TabOk P tb) (h1 : ∀ t i, tb.ty t = some i → i.agg = false → i.sz = 1) {call : CallF} (hC : CallOk P tb w0 call) (hB : Back P G) {K : Tr AV → M} :
    ∀ (l : List Oper) (i : Nat), ops.toList.drop i = l → ∀ (tm : Tr AV) (S : St) (a : Act) (w : World) (B D : Nm) (μ : Mu), runM (evOps P tb call nt ops.toList l tm K) S = some out → MemR P w0 D μ S.hp w → Fresh B D S.nx out.2.nx → GlobR tb D μ → FrR nt D μ tm a →
      RegG P w0 out K nt B D μ G b a.defers k cs → G (lone (b.atR a (.inRegion ops (List.range' i l.length) :: k)) cs w)
  | [], i, hl, tm, S, a, w, B, D, μ, h, M, F, hg, R, hK => by
    exact hB _ _ stepR_region_end (hK tm S D μ a w h M (Sees.refl _ _) R rfl F)
  | o :: l, i, hl, tm, S, a, w, B, D, μ, h, M, F, hg, R, hK => by
    have ho : ops[i]? = some o := by
      have := congrArg (·[0]?) hl
      simpa using this
    have hl' : ops.toList.drop (i + 1) = l := by
      have := congrArg (List.drop 1) hl
      simpa [List.drop_drop, Nat.add_comm] using this
    simp only [evOps] at h
    rw [List.length_cons, List.range'_succ]
    split at h
    · rename_i hw
      have hw' := wants_spec R hw
      refine evOp_ok hT h1 hC hB ho hw' (use_spec hg R) M F hg h ?_
      intro v S' D' μ' v' w' e1 e2 e3 e4 e5
      obtain ⟨tm', e6, e7, e8⟩ := putK_spec e1
      refine evOps_ok hT h1 hC hB l (i + 1) hl' tm' S' (a.put o.dst v') w' B D' μ' e6 e2 e5 (hg.sees e3) ((R.sees e3).put e4 e7 e8) ?_
      intro tm2 S2 D2 μ2 a2 w2 q1 q2 q3 q4 q5 q6
      exact hK tm2 S2 D2 μ2 a2 w2 q1 q2 (e3.trans q3) q4 (q5.trans (put_defers _ _)) q6
    · rename_i hw
      have hw' := wants_spec R hw
      obtain ⟨tm', e6, e7, e8⟩ := putK_spec h
      refine hB _ _ (stepR_op_skip (by simp [ho, hw'])) ?_
      rw [ho]
      refine evOps_ok hT h1 hC hB l (i + 1) hl' tm' S (a.put o.dst undef) w B D μ e6 M F hg (R.put AVr_un e7 e8) ?_
      intro tm2 S2 D2 μ2 a2 w2 q1 q2 q3 q4 q5 q6
      exact hK tm2 S2 D2 μ2 a2 w2 q1 q2 q3 q4 (q5.trans (put_defers _ _)) q6
    · exact (runM_fail h).elim
end
end Go.Rn
