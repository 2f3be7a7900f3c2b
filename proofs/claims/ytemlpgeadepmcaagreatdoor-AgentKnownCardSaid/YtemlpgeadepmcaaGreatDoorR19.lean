/-
  A part of a proved evaluator for closed runs. No conditions.
-/
import Derived.Test.YtemlpgeadepmcaaGreatDoorR18
namespace Go.Rn
open Go Go.RowKit
set_option linter.unusedVariables false
set_option linter.unusedSimpArgs false

theorem opt_map_congr {u u' : Operand → AV} {o : Option Operand} (h : ∀ x, o = some x → u x = u' x) : o.map u = o.map u' := by
  cases o with
  | none => rfl
  | some x => simp [h x rfl]

theorem evCall_congr {tb : Tab} {call : CallF} {u u' : Operand → AV} {c : Call} {K : AV → M} (h : ∀ x ∈ c.operands.toList, u x = u' x) : evCall tb call u c K = evCall tb call u' c K := by
  have hargs : c.args.toList.map u = c.args.toList.map u' := List.map_congr_left fun x hx => h x (by simp only [Call.operands]; rw [Array.toList_append]; exact List.mem_append_right _ hx)
  unfold evCall
  cases hc : c.callee with
  | value f =>
    have hf : u f = u' f := h f (by simp [Call.operands, hc])
    simp only [hf, hargs]
  | invoke r m => rfl
  | builtin b =>
    simp only
    have ha : ∀ x, x ∈ c.args.toList → u x = u' x := fun x hx => h x (by simp only [Call.operands]; rw [Array.toList_append]; exact List.mem_append_right _ hx)
    split
    · rename_i s x T U h1 h2; rw [ha s (by simp [h1]), ha x (by simp [h1])]
    · rename_i s x T U h1 h2; rw [ha s (by simp [h1]), ha x (by simp [h1])]
    · rename_i x T h1 h2; rw [ha x (by simp [h1])]
    · rename_i ts x y h1; rw [ha x (by simp [h1]), ha y (by simp [h1])]
    · rename_i ts x y h1; rw [ha x (by simp [h1]), ha y (by simp [h1])]
    · rfl

theorem evOp_congr {P : Program} {tb : Tab} {call : CallF} {u u' : Operand → AV} {op : Op} {K : AV → M} (h : ∀ x ∈ op.operands.toList, u x = u' x) : evOp P tb call u op K = evOp P tb call u' op K := by
  have hps : ∀ ps : Array (Nat × Operand), (∀ x ∈ ((ps.toList.map (·.2)).toArray).toList, u x = u' x) → (ps.toList.map fun q => (q.1, u q.2)) = ps.toList.map fun q => (q.1, u' q.2) := fun ps hp =>
    List.map_congr_left fun q hq => by rw [hp q.2 (by simp; exact ⟨q.1, by simpa using hq⟩)]
  cases op <;> simp only [evOp]
  case move x => rw [h x (by simp [Op.operands])]
  case assign x => rw [h x (by simp [Op.operands])]
  case pick c x y => rw [h c (by simp [Op.operands]), h x (by simp [Op.operands]), h y (by simp [Op.operands])]
  case box T x => rw [h x (by simp [Op.operands])]
  case build T ps => rw [hps ps h]
  case buildSlice T n ps => rw [hps ps h]
  case load T x => rw [h x (by simp [Op.operands])]
  case store T x y => rw [h x (by simp [Op.operands]), h y (by simp [Op.operands])]
  case nilCheck x => rw [h x (by simp [Op.operands])]
  case binOp op t x y t2 => rw [h x (by simp [Op.operands]), h y (by simp [Op.operands])]
  case unOp op t x => rw [h x (by simp [Op.operands])]
  case convert s d x => rw [h x (by simp [Op.operands])]
  case makeFunc fn fi cap =>
    cases fn with
    | func f =>
      have : cap.toList.map u = cap.toList.map u' := List.map_congr_left fun x hx => h x (by simp only [Op.operands]; rw [Array.toList_append]; exact List.mem_append_right _ hx)
      simp only [evOp, this]
    | _ => rfl
  case makeMap T r => cases r <;> rfl
  case makeSlice T l c => rw [h l (by simp [Op.operands]), h c (by simp [Op.operands])]
  case slice T x lo hi mx =>
    rw [h x (by simp [Op.operands]), opt_map_congr (o := lo) fun y hy => h y (by simp [Op.operands, hy]), opt_map_congr (o := hi) fun y hy => h y (by simp [Op.operands, hy]), opt_map_congr (o := mx) fun y hy => h y (by simp [Op.operands, hy])]
  case fieldAddr T x f => rw [h x (by simp [Op.operands])]
  case field T x f => rw [h x (by simp [Op.operands])]
  case indexAddr T x y => rw [h x (by simp [Op.operands]), h y (by simp [Op.operands])]
  case index T x y => rw [h x (by simp [Op.operands]), h y (by simp [Op.operands])]
  case lookup T x y ok => rw [h x (by simp [Op.operands]), h y (by simp [Op.operands])]
  case mapUpdate T m k x => rw [h m (by simp [Op.operands]), h k (by simp [Op.operands]), h x (by simp [Op.operands])]
  case extract x n => rw [h x (by simp [Op.operands])]
  case call c => exact evCall_congr h

/-! ### what an evaluation in text order leaves written down -/
structure Rec where
  hp : Tr Blk
  nx : Nat
  tm : Tr AV
  lg : Tr Bool
  v : AV
  on : Bool

section
variable (P : Program) (tb : Tab) (call : CallF) (nt : Nat) (all : List Oper)

structure StepR (o : Oper) (r r' : Rec) : Prop where
  run : (r.on = true ∧ wants all r.tm o.guard = some true ∧ r.nx ≠ 0 ∧ ∃ fl, runM (evOp P tb call (use tb r.tm) o.op fun v => .ret (.v v)) ⟨r.hp, r.nx, r.nx, .nl⟩ = some (.v r.v, ⟨r'.hp, r'.nx, fl, r.lg⟩)) ∨
    (r.on = false ∧ wants all r.tm o.guard = some false ∧ r'.hp = r.hp ∧ r'.nx = r.nx ∧ r.lg = .nl ∧ r.v = .un)
  tm : ∀ t, r'.tm.get t = if o.dst = some t then some r.v else r.tm.get t
  dst : ∀ t, o.dst = some t → t < nt

inductive Chain : List Oper → List Nat → Nat → List (Tr Bool) → Rec → List Rec → Rec → Prop
  | nil {bs : List Nat} {i : Nat} {lgs : List (Tr Bool)} {r : Rec} : Chain [] bs i lgs r [] r
  | cons {o : Oper} {l : List Oper} {b : Nat} {bs : List Nat} {i : Nat} {lgs : List (Tr Bool)} {r r' r2 : Rec} {rs : List Rec} : StepR P tb call nt all o r r' → (r.on = true → logsOk r.lg b lgs i = true) → Chain l bs (i + 1) (r.lg :: lgs) r' rs r2 →
      Chain (o :: l) (b :: bs) i lgs r (r :: rs) r2
end

section
variable {P : Program} {tb : Tab} {call : CallF} {nt : Nat} {all : List Oper} {out : Out × St}

theorem runM_sub {m : M} {f : AV → Tr Bool → M} {S : St} (h : runM (.sub m f) S = some out) : S.nx ≠ 0 ∧ ∃ x hp nx fl lg fl2 lg2, runM m ⟨S.hp, S.nx, S.nx, .nl⟩ = some (.v x, ⟨hp, nx, fl, lg⟩) ∧ runM (f x lg) ⟨hp, nx, fl2, lg2⟩ = some out := by
  obtain ⟨hp, nx, fl, lg⟩ := S
  cases nx with
  | zero => cases h
  | succ nxp =>
  simp only [runM] at h
  refine ⟨by simp, ?_⟩
  split at h
  · rename_i x hp1 nx1 fl1 lg1 hm
    cases fl with
    | zero => simp only at h; exact ⟨x, hp1, nx1, fl1, lg1, _, _, hm, h⟩
    | succ fl =>
      simp only at h
      obtain ⟨c, hc, _⟩ := unionK_spec (β := Option (Out × St)) lg lg1
      rw [hc] at h
      exact ⟨x, hp1, nx1, fl1, lg1, _, _, hm, h⟩
  · cases h

theorem evDraw_chain {K : Tr AV → M} : ∀ (l : List Oper) (bs : List Nat) (i : Nat) (lgs : List (Tr Bool)) (tm : Tr AV) (S : St), runM (evDraw P tb call nt all l bs i lgs tm K) S = some out →
    ∃ r rs r2 fl lg, r.hp = S.hp ∧ r.nx = S.nx ∧ r.tm = tm ∧ Chain P tb call nt all l bs i lgs r rs r2 ∧ runM (K r2.tm) ⟨r2.hp, r2.nx, fl, lg⟩ = some out
  | [], bs, i, lgs, tm, S, h => ⟨⟨S.hp, S.nx, tm, .nl, .un, false⟩, [], _, S.fl, S.lg, rfl, rfl, rfl, .nil, h⟩
  | o :: l, bs, i, lgs, tm, S, h => by
    simp only [evDraw] at h
    split at h
    · exact (runM_fail h).elim
    · rename_i b bs'
      split at h
      · rename_i hw
        obtain ⟨hnx, x, hp1, nx1, fl1, lg1, fl2, lg2, hm, h⟩ := runM_sub h
        split at h
        · rename_i hlog
          obtain ⟨tm', e1, e2, e3⟩ := putK_spec h
          obtain ⟨r, rs, r2, fl, lg, q1, q2, q3, q4, q5⟩ := evDraw_chain l bs' (i + 1) (lg1 :: lgs) tm' _ e1
          simp only at q1 q2
          refine ⟨⟨S.hp, S.nx, tm, lg1, x, true⟩, _ :: rs, r2, fl, lg, rfl, rfl, rfl, .cons ⟨.inl ⟨rfl, hw, hnx, fl1, by rw [q1, q2]; exact hm⟩, fun t => by rw [q3]; exact e2 t, e3⟩ (fun _ => hlog) q4, q5⟩
        · exact (runM_fail h).elim
      · rename_i hw
        obtain ⟨tm', e1, e2, e3⟩ := putK_spec h
        obtain ⟨r, rs, r2, fl, lg, q1, q2, q3, q4, q5⟩ := evDraw_chain l bs' (i + 1) (.nl :: lgs) tm' _ e1
        exact ⟨⟨S.hp, S.nx, tm, .nl, .un, false⟩, _ :: rs, r2, fl, lg, rfl, rfl, rfl, .cons ⟨.inr ⟨rfl, hw, q1, q2, rfl, rfl⟩, fun t => by rw [q3]; exact e2 t, e3⟩ (fun h => by cases h) q4, q5⟩
      · exact (runM_fail h).elim

/-- The records, by number. -/
theorem chain_step {l : List Oper} {bs : List Nat} {i : Nat} {lgs : List (Tr Bool)} {r r2 : Rec} {rs : List Rec} (h : Chain P tb call nt all l bs i lgs r rs r2) : rs.length = l.length ∧ (rs ++ [r2])[0]? = some r ∧
    (∀ p o, l[p]? = some o → ∃ a b, (rs ++ [r2])[p]? = some a ∧ (rs ++ [r2])[p + 1]? = some b ∧ StepR P tb call nt all o a b) ∧
    (lgs.length = i → ∀ p a, rs[p]? = some a → a.on = true → ∃ b, bs[p]? = some b ∧ ∀ j lj, j < i + p → (rs.map (·.lg)).reverse[rs.length + i - 1 - j]? = some lj ∨ (j < i ∧ lgs[i - 1 - j]? = some lj) ∨ (i ≤ j ∧ (rs[j - i]?).map (·.lg) = some lj) → (j < i → lgs[i - 1 - j]? = some lj) → (i ≤ j → (rs[j - i]?).map (·.lg) = some lj) → clash lj a.lg = true → b.testBit j = true) := by
  induction h with
  | nil => exact ⟨rfl, rfl, fun p o h => by simp at h, fun _ p a h => by simp at h⟩
  | cons hs hlog hc ih =>
    rename_i o l b bs i lgs r r' r2 rs
    obtain ⟨g1, g2, g3, g4⟩ := ih
    refine ⟨by simp [g1], by simp, ?_, ?_⟩
    · intro p o' hp
      cases p with
      | zero =>
        simp at hp; subst hp
        exact ⟨r, r', by simp, by simpa using g2, hs⟩
      | succ p =>
        obtain ⟨a, b, h1, h2, h3⟩ := g3 p o' (by simpa using hp)
        exact ⟨a, b, by simpa using h1, by simpa using h2, h3⟩
    · intro hl p a hp hon
      cases p with
      | zero =>
        simp at hp; subst hp
        refine ⟨b, by simp, fun j lj hj _ h2 _ hcl => ?_⟩
        exact logsOk_spec hl (hlog hon) j lj (by omega) (h2 (by omega)) hcl
      | succ p =>
        obtain ⟨b', h1, h2⟩ := g4 (by simp [hl]) p a (by simpa using hp) hon
        refine ⟨b', by simpa using h1, fun j lj hj _ hlt hge hcl => ?_⟩
        have hlt' : j < i + 1 → (r.lg :: lgs)[i + 1 - 1 - j]? = some lj := by
          intro hji
          by_cases hje : j = i
          · subst hje
            have := hge (Nat.le_refl _)
            simp at this
            simp [this]
          · have := hlt (by omega)
            rw [show i + 1 - 1 - j = (i - 1 - j) + 1 by omega]
            simpa using this
        have hge' : i + 1 ≤ j → (rs[j - (i + 1)]?).map (·.lg) = some lj := by
          intro hij
          have := hge (by omega)
          rw [show j - i = (j - (i + 1)) + 1 by omega] at this
          simpa using this
        refine h2 j lj (by omega) ?_ hlt' hge' hcl
        by_cases hji : j < i + 1
        · exact .inr (.inl ⟨hji, hlt' hji⟩)
        · exact .inr (.inr ⟨by omega, hge' (by omega)⟩)
end
end Go.Rn
