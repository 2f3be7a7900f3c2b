/-
  A part of a proved evaluator for closed runs. No conditions.
-/
import Derived.Test.YtemlpgeadepmcaaGreatDoorR1
namespace Go.Rn
open Go Go.RowKit

/-- Set one cell. -/
def T.setK {β : Type} : T → Nat → Sc → (T → β) → β
  | .nl, _, _, K => K .nl
  | .lf y, i, x, K => match i with
    | 0 => K (.lf x)
    | _ + 1 => K (.lf y)
  | .nd s a b, i, x, K => match Nat.blt i a.size with
    | true => a.setK i x fun a' => K (.nd s a' b)
    | false => b.setK (i - a.size) x fun b' => K (.nd s a b')

theorem T.setK_spec {β : Type} : ∀ {t : T} (_ : t.wf) (i : Nat) (x : Sc) (K : T → β), ∃ t', t.setK i x K = K t' ∧ t'.list = t.list.set i x ∧ t'.wf ∧ t'.size = t.size
  | .nl, _, i, x, K => ⟨.nl, rfl, by simp [T.list], trivial, rfl⟩
  | .lf y, _, i, x, K => by
    cases i with
    | zero => exact ⟨.lf x, rfl, by simp [T.list], trivial, rfl⟩
    | succ i => exact ⟨.lf y, rfl, by simp [T.list], trivial, rfl⟩
  | .nd s a b, h, i, x, K => by
    have hl := T.length h.2.1
    simp only [T.setK]
    split
    · rename_i hi
      obtain ⟨a', h1, h2, h3, h4⟩ := T.setK_spec h.2.1 i x (fun a' => K (.nd s a' b))
      refine ⟨_, h1, ?_, ⟨by rw [h4]; exact h.1, h3, h.2.2⟩, rfl⟩
      simp only [T.list]
      rw [h2, List.set_append_left _ _ (by rw [hl]; exact blt_iff.1 hi)]
    · rename_i hi
      obtain ⟨b', h1, h2, h3, h4⟩ := T.setK_spec h.2.2 (i - a.size) x (fun b' => K (.nd s a b'))
      refine ⟨_, h1, ?_, ⟨by rw [h4]; exact h.1, h.2.1, h3⟩, rfl⟩
      simp only [T.list]
      rw [h2, List.set_append_right _ _ (by rw [hl]; exact blt_false hi), hl]

inductive GV where
  | s (x : Sc)
  | a (t : T)

inductive AV where
  | any
  | g (x : GV)
  | tu (xs : List GV)

structure LoopR where
  st : LoopState
  pend : Option Code
  fn : FuncId
  tm : Tr AV
  nt : Nat
  ps : Array Tmp
  asg : Code
  body : Code
  df : Nat

inductive Blk where
  | c (ty : TypeId) (t : T) (op : Bool)
  | gl (t : T)
  | mp (es : List (GV × GV × Nat)) (clock : Nat)
  | lp (r : LoopR)
  | df (b : Bool)
  | si (s : ByteArray) (pos : Nat)

inductive Ex where
  | norm
  | ret
  | out (id : Nat)

inductive Out where
  | v (x : AV)
  | x (e : Ex) (tm : Tr AV)

/-- What is done to memory. -/
inductive M where
  | ret (o : Out)
  | fail
  | rd (k : Nat) (f : Blk → M)
  | wr (k : Nat) (b : Option Blk) (m : M)
  | new (b : Blk) (f : Nat → M)
  | sub (m : M) (f : AV → Tr Bool → M)

structure St where
  hp : Tr Blk
  nx : Nat
  fl : Nat
  lg : Tr Bool

/-- What was touched; true: written. -/
def markK {β : Type} (bad : β) (lg : Tr Bool) (k : Nat) (wr : Bool) (K : Tr Bool → β) : β := match lg.get k, wr with
  | some true, _ => K lg
  | some false, false => K lg
  | _, wr => Tr.setK bad 64 lg k (some wr) K

def touchK {β : Type} (bad : β) (fl : Nat) (lg : Tr Bool) (k : Nat) (wr : Bool) (K : Tr Bool → β) : β := match fl with
  | 0 => K lg
  | _ + 1 => markK bad lg k wr K

def orO : Option Bool → Option Bool → Option Bool
  | none, b => b
  | some a, none => some a
  | some a, some b => some (a || b)

def unionK {β : Type} : Tr Bool → Tr Bool → (Tr Bool → β) → β
  | .nl, b, K => K b
  | .nd v l r, b, K => match b with
    | .nl => K (.nd v l r)
    | .nd v' l' r' => unionK l l' fun x => unionK r r' fun y => K (.nd (orO v v') x y)

theorem unionK_spec {β : Type} : ∀ (a b : Tr Bool), ∃ c, (∀ K : Tr Bool → β, unionK a b K = K c) ∧ ∀ k, c.get k = orO (a.get k) (b.get k)
  | .nl, b => ⟨b, fun _ => rfl, fun k => by simp [Tr.get, orO]⟩
  | .nd v l r, .nl => ⟨_, fun _ => rfl, fun k => by cases (Tr.nd v l r).get k <;> simp [Tr.get_nl, orO]⟩
  | .nd v l r, .nd v' l' r' => by
    obtain ⟨x, hx, hx'⟩ := unionK_spec (β := β) l l'
    obtain ⟨y, hy, hy'⟩ := unionK_spec (β := β) r r'
    refine ⟨.nd (orO v v') x y, fun K => by simp only [unionK]; rw [hx, hy], fun k => ?_⟩
    cases k with
    | zero => rfl
    | succ k =>
      simp only [Tr.get]
      split
      · exact hx' _
      · exact hy' _

/-- A new name is one that was written, where there is a log. -/
def newLogK {β : Type} (bad : β) (fl : Nat) (lg : Tr Bool) (nx : Nat) (K : Tr Bool → β) : β := match fl with
  | 0 => K lg
  | _ + 1 => markK bad lg nx true K

def runM : M → St → Option (Out × St)
  | .ret o, S => some (o, S)
  | .fail, _ => none
  | .rd k f, ⟨hp, nx, fl, lg⟩ => match hp.get k with
    | some b => touchK none fl lg k false fun lg => runM (f b) ⟨hp, nx, fl, lg⟩
    | none => none
  | .wr k b m, ⟨hp, nx, fl, lg⟩ => match hp.get k with
    | some _ => touchK none fl lg k true fun lg => Tr.setK none 64 hp k b fun hp => runM m ⟨hp, nx, fl, lg⟩
    | none => none
  | .new b f, ⟨hp, nx, fl, lg⟩ => Tr.setK none 64 hp nx (some b) fun hp => forceN (nx + 1) fun nx' => newLogK none fl lg nx fun lg => runM (f nx) ⟨hp, nx', fl, lg⟩
  | .sub m f, ⟨hp, nx, fl, lg⟩ => match nx with
    | 0 => none
    | _ + 1 => match runM m ⟨hp, nx, nx, .nl⟩ with
      | some (.v x, ⟨hp, nx, _, lg'⟩) => match fl with
        | 0 => runM (f x lg') ⟨hp, nx, 0, lg⟩
        | fl + 1 => unionK lg lg' fun lg => runM (f x lg') ⟨hp, nx, fl + 1, lg⟩
      | _ => none

/-- Is a log within another one? -/
def LogLe (a b : Tr Bool) : Prop := ∀ j x, a.get j = some x → ∃ y, b.get j = some y ∧ (x = true → y = true)
theorem LogLe.refl (a : Tr Bool) : LogLe a a := fun j x h => ⟨x, h, id⟩
theorem LogLe.trans {a b c : Tr Bool} (h : LogLe a b) (h' : LogLe b c) : LogLe a c := fun j x hx => by
  obtain ⟨y, hy, hxy⟩ := h j x hx
  obtain ⟨z, hz, hyz⟩ := h' j y hy
  exact ⟨z, hz, fun h => hyz (hxy h)⟩

/-- Either it fails, or it goes on with something. -/
def Goes {α β : Type} (bad : β) (f : (α → β) → β) (p : α → Prop) : Prop := (∀ K, f K = bad) ∨ ∃ x, (∀ K, f K = K x) ∧ p x

theorem markK_spec {β : Type} (bad : β) (lg : Tr Bool) (k : Nat) (wr : Bool) :
    Goes bad (markK bad lg k wr) fun lg' => (∃ b, lg'.get k = some b ∧ (wr = true → b = true)) ∧ LogLe lg lg' := by
  unfold markK
  split
  · rename_i h; exact .inr ⟨lg, fun _ => rfl, ⟨true, h, fun _ => rfl⟩, .refl _⟩
  · rename_i h; exact .inr ⟨lg, fun _ => rfl, ⟨false, h, fun h => by cases h⟩, .refl _⟩
  · rename_i wr _ _ h1 h2
    cases hf : fits 64 k with
    | false => exact .inl fun K => Tr.setK_bad 64 lg k (some wr) K hf
    | true =>
      refine .inr ⟨_, fun K => Tr.setK_good 64 lg k (some wr) K hf, ⟨wr, by simp [Tr.get_upd _ _ _ _ hf], id⟩, fun j b hb => ?_⟩
      by_cases hj : j = k
      · subst hj
        refine ⟨wr, by simp [Tr.get_upd _ _ _ _ hf], fun hbt => ?_⟩
        subst hbt
        exact (h1 hb).elim
      · exact ⟨b, by simp [Tr.get_upd _ _ _ _ hf, hj, hb], id⟩

theorem touchK_spec {β : Type} (bad : β) (fl : Nat) (lg : Tr Bool) (k : Nat) (wr : Bool) :
    Goes bad (touchK bad fl lg k wr) fun lg' => (fl ≠ 0 → ∃ b, lg'.get k = some b ∧ (wr = true → b = true)) ∧ LogLe lg lg' := by
  unfold touchK
  split
  · exact .inr ⟨lg, fun _ => rfl, fun hk => absurd rfl hk, LogLe.refl lg⟩
  · rcases markK_spec bad lg k wr with h1 | ⟨lg', h1, h2, h3⟩
    · exact .inl h1
    · exact .inr ⟨lg', h1, fun _ => h2, h3⟩

theorem newLogK_spec {β : Type} (bad : β) (fl : Nat) (lg : Tr Bool) (nx : Nat) : Goes bad (newLogK bad fl lg nx) fun lg' => LogLe lg lg' ∧ (fl ≠ 0 → lg'.get nx = some true) := by
  unfold newLogK
  split
  · exact .inr ⟨lg, fun _ => rfl, .refl _, fun h => absurd rfl h⟩
  · rcases markK_spec bad lg nx true with h1 | ⟨lg', h1, ⟨b, h2, h3⟩, h4⟩
    · exact .inl h1
    · exact .inr ⟨lg', h1, h4, fun _ => by rw [h2, h3 rfl]⟩

theorem orO_left {a b : Tr Bool} {c : Tr Bool} (h : ∀ k, c.get k = orO (a.get k) (b.get k)) : LogLe a c := fun j x hx => by
  rw [h, hx]
  cases b.get j with
  | none => exact ⟨x, rfl, id⟩
  | some y => exact ⟨x || y, rfl, fun h => by simp [h]⟩
theorem orO_right {a b : Tr Bool} {c : Tr Bool} (h : ∀ k, c.get k = orO (a.get k) (b.get k)) : LogLe b c := fun j x hx => by
  rw [h, hx]
  cases a.get j with
  | none => exact ⟨x, rfl, id⟩
  | some y => exact ⟨y || x, rfl, fun h => by simp [h]⟩

/-- A state that holds the same where a run looks. -/
def Like (L : Tr Bool) (S R : St) : Prop := S.nx = R.nx ∧ S.fl = R.fl ∧ S.lg = R.lg ∧ ∀ k b, (L.get k).isSome = true → S.hp.get k = some b → R.hp.get k = some b

/-- What a run leaves as it was. -/
def Kept (L : Tr Bool) (R R' : Tr Blk) : Prop := ∀ k, L.get k ≠ some true → R'.get k = R.get k

theorem Kept.trans {L : Tr Bool} {a b c : Tr Blk} (h : Kept L a b) (h' : Kept L b c) : Kept L a c := fun k h1 => by
  rw [h' k h1, h k h1]

theorem runM_like : ∀ (m : M) (S : St) (o : Out) (S' : St), runM m S = some (o, S') → S.fl ≠ 0 → (S'.fl = S.fl ∧ S.nx ≤ S'.nx ∧ LogLe S.lg S'.lg ∧ ∀ k, S.nx ≤ k → k < S'.nx → S'.lg.get k = some true) ∧
    ∀ (R : St) (L : Tr Bool), LogLe S'.lg L → Like L S R → ∃ R', runM m R = some (o, R') ∧ Like L S' R' ∧ Kept L R.hp R'.hp := by
  intro m
  induction m with
  | ret o =>
    intro S o' S' h hfl
    simp only [runM, Option.some.injEq, Prod.mk.injEq] at h
    obtain ⟨rfl, rfl⟩ := h
    exact ⟨⟨rfl, Nat.le_refl _, LogLe.refl _, fun k h1 h2 => by omega⟩, fun R L _ hl => ⟨R, rfl, hl, fun _ _ => rfl⟩⟩
  | fail => intro S o' S' h; cases h
  | rd k f ih =>
    rintro ⟨hp, nx, fl, lg⟩ o S' h hfl
    simp only [runM] at h
    split at h
    · rename_i b hb
      rcases touchK_spec (none : Option (Out × St)) fl lg k false with h1 | ⟨lg', h1, h2, h3⟩
      · rw [h1] at h; cases h
      · rw [h1] at h
        obtain ⟨⟨g1, g2, g3, g4⟩, hR⟩ := ih b _ _ _ h hfl
        refine ⟨⟨g1, g2, h3.trans g3, g4⟩, ?_⟩
        rintro ⟨rhp, rnx, rfl', rlg⟩ L hL ⟨e1, e2, e3, e4⟩
        simp only at e1 e2 e3 e4
        subst e1 e2 e3
        have hk : rhp.get k = some b := e4 k b (by
          obtain ⟨x, hx, _⟩ := h2 hfl
          obtain ⟨y, hy, _⟩ := g3 k x hx
          obtain ⟨z, hz, _⟩ := hL k y hy
          simp [hz]) hb
        obtain ⟨R', r1, r2, r3⟩ := hR ⟨rhp, nx, fl, lg'⟩ L hL ⟨rfl, rfl, rfl, e4⟩
        exact ⟨R', by simp only [runM, hk]; rw [h1]; exact r1, r2, r3⟩
    · cases h
  | wr k b m ih =>
    rintro ⟨hp, nx, fl, lg⟩ o S' h hfl
    simp only [runM] at h
    split at h
    · rename_i b0 hb0
      rcases touchK_spec (none : Option (Out × St)) fl lg k true with h1 | ⟨lg', h1, h2, h3⟩
      · rw [h1] at h; cases h
      · rw [h1] at h
        cases hf : fits 64 k with
        | false => rw [Tr.setK_bad _ _ _ _ _ hf] at h; cases h
        | true =>
          rw [Tr.setK_good _ _ _ _ _ hf] at h
          obtain ⟨⟨g1, g2, g3, g4⟩, hR⟩ := ih _ _ _ h hfl
          refine ⟨⟨g1, g2, h3.trans g3, g4⟩, ?_⟩
          rintro ⟨rhp, rnx, rfl', rlg⟩ L hL ⟨e1, e2, e3, e4⟩
          simp only at e1 e2 e3 e4
          subst e1 e2 e3
          have hlog : L.get k = some true := by
            obtain ⟨x, hx, hxt⟩ := h2 hfl
            obtain ⟨y, hy, hyt⟩ := g3 k x hx
            obtain ⟨z, hz, hzt⟩ := hL k y hy
            rw [hz, hzt (hyt (hxt rfl))]
          have hk : rhp.get k = some b0 := e4 k b0 (by simp [hlog]) hb0
          obtain ⟨R', r1, r2, r3⟩ := hR ⟨Tr.upd 64 rhp k b, nx, fl, lg'⟩ L hL ⟨rfl, rfl, rfl, fun j x hj hx => by
            simp only at hj hx ⊢
            rw [Tr.get_upd _ _ _ _ hf] at hx ⊢
            split
            · rename_i he; rw [if_pos he] at hx; exact hx
            · rename_i he; rw [if_neg he] at hx; exact e4 j x hj hx⟩
          refine ⟨R', by simp only [runM, hk]; rw [h1, Tr.setK_good _ _ _ _ _ hf]; exact r1, r2, Kept.trans ?_ r3⟩
          intro j hj1
          rw [Tr.get_upd _ _ _ _ hf, if_neg]
          rintro rfl
          exact hj1 hlog
    · cases h
  | new b f ih =>
    rintro ⟨hp, nx, fl, lg⟩ o S' h hfl
    simp only [runM] at h
    cases hf : fits 64 nx with
    | false => rw [Tr.setK_bad _ _ _ _ _ hf] at h; cases h
    | true =>
      rw [Tr.setK_good _ _ _ _ _ hf, forceN_eq] at h
      rcases newLogK_spec (none : Option (Out × St)) fl lg nx with hl | ⟨lg', hl, hl2, hl3⟩
      · rw [hl] at h; cases h
      rw [hl] at h
      obtain ⟨⟨g1, g2, g3, g4⟩, hR⟩ := ih nx _ _ _ h hfl
      simp only at g2 g3
      have hnew : S'.lg.get nx = some true := by
        obtain ⟨y, hy, hyt⟩ := g3 nx true (hl3 hfl)
        rw [hy, hyt rfl]
      refine ⟨⟨g1, by simp only; omega, hl2.trans g3, fun k h1 h2 => ?_⟩, ?_⟩
      · by_cases hk : k = nx
        · subst hk; exact hnew
        · exact g4 k (by simp only at h1 ⊢; omega) h2
      rintro ⟨rhp, rnx, rfl', rlg⟩ L hL ⟨e1, e2, e3, e4⟩
      simp only at e1 e2 e3 e4
      subst e1 e2 e3
      obtain ⟨R', r1, r2, r3⟩ := hR ⟨Tr.upd 64 rhp nx (some b), nx + 1, fl, lg'⟩ L hL ⟨rfl, rfl, rfl, fun j x hj hx => by
        simp only at hj hx ⊢
        rw [Tr.get_upd _ _ _ _ hf] at hx ⊢
        split
        · rename_i he; rw [if_pos he] at hx; exact hx
        · rename_i he; rw [if_neg he] at hx; exact e4 j x hj hx⟩
      refine ⟨R', by simp only [runM]; rw [Tr.setK_good _ _ _ _ _ hf, forceN_eq, hl]; exact r1, r2, Kept.trans ?_ r3⟩
      intro j hj1
      rw [Tr.get_upd _ _ _ _ hf, if_neg]
      rintro rfl
      obtain ⟨z, hz, hzt⟩ := hL j true hnew
      exact hj1 (by rw [hz, hzt rfl])
  | sub m f ihm ihf =>
    rintro ⟨hp, nx0, fl, lg⟩ o S' h hfl
    cases nx0 with
    | zero => cases h
    | succ nxp =>
    simp only [runM] at h
    simp only [Nat.succ_eq_add_one] at h
    have hnz : nxp + 1 ≠ 0 := by omega
    generalize hnx : nxp + 1 = nx at h hnz
    split at h
    · rename_i x hp1 nx1 fl1 lg1 hm
      obtain ⟨⟨a1, a2, a3, a4⟩, hRm⟩ := ihm _ _ _ hm hnz
      simp only at a1 a2 a4
      have a1 := a1.symm
      subst a1
      obtain ⟨S0, s1, _, s3⟩ := hRm ⟨hp, nx, nx, .nl⟩ lg1 (LogLe.refl _) ⟨rfl, rfl, rfl, fun _ _ _ h => h⟩
      rw [hm] at s1
      simp only [Option.some.injEq, Prod.mk.injEq, true_and] at s1
      subst s1
      simp only at s3
      cases fl with
      | zero => exact absurd rfl hfl
      | succ fl =>
        simp only at h
        obtain ⟨c, hc, hc'⟩ := unionK_spec (β := Option (Out × St)) lg lg1
        rw [hc] at h
        have hle2 := orO_right hc'
        obtain ⟨⟨b1, b2, b3, b4⟩, hRf⟩ := ihf x lg1 _ _ _ h hfl
        simp only at b1 b2 b3 b4
        refine ⟨⟨b1, Nat.le_trans a2 b2, (orO_left hc').trans b3, fun k h1 h2 => ?_⟩, ?_⟩
        · by_cases hk : k < nx1
          · obtain ⟨y, hy, hyt⟩ := (hle2.trans b3) k true (a4 k h1 hk)
            rw [hy, hyt rfl]
          · exact b4 k (by omega) h2
        rintro ⟨rhp, rnx, rfl', rlg⟩ L hL ⟨e1, e2, e3, e4⟩
        simp only at e1 e2 e3 e4
        subst e1 e2 e3
        have hin := (hle2.trans b3).trans hL
        obtain ⟨R1, r1, ⟨l1, l2, l3, l4⟩, r3⟩ := hRm ⟨rhp, nx, nx, .nl⟩ lg1 (LogLe.refl _) ⟨rfl, rfl, rfl, fun k b hk hb => e4 k b (by
          cases hg : lg1.get k with
          | none => simp [hg] at hk
          | some y => obtain ⟨z, hz, _⟩ := hin k y hg; simp [hz]) hb⟩
        simp only at l1 l2 l3 l4 r3
        obtain ⟨R', r1', r2', r3'⟩ := hRf ⟨R1.hp, nx1, fl + 1, c⟩ L hL ⟨rfl, rfl, rfl, fun k b hk hb => by
          simp only at hk hb ⊢
          cases hg : lg1.get k with
          | some y => exact l4 k b (by simp [hg]) hb
          | none =>
            rw [s3 k (by simp [hg])] at hb
            rw [r3 k (by simp [hg])]
            exact e4 k b hk hb⟩
        obtain ⟨q1, q2, q3, q4⟩ := R1
        simp only at l1 l3 r1' r3 r3'
        subst l1 l3
        refine ⟨R', by rw [← hnx]; simp only [runM, Nat.succ_eq_add_one]; rw [hnx, r1]; simp only; rw [hc]; exact r1', r2', Kept.trans (fun k hk => ?_) r3'⟩
        refine r3 k fun hct => hk ?_
        obtain ⟨z, hz, hzt⟩ := hin k true hct
        rw [hz, hzt rfl]
    · cases h
end Go.Rn
