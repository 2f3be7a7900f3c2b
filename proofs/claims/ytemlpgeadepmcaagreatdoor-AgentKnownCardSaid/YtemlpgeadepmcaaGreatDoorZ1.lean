/-
  A part of a proved evaluator for closed runs. No conditions.
-/
import Derived.Test.YtemlpgeadepmcaaGreatDoorR26
namespace Go.Rn
open Go Go.RowKit
set_option linter.unusedVariables false
set_option linter.unusedSimpArgs false

noncomputable def M.z (κ : Out → Z) : M → Z := fun m => M.rec (motive := fun _ => (Out → Z) → Z) (fun o κ => κ o) (fun _ => failZ) (fun k _ ih κ => rdZ k fun b => ih b κ) (fun k b _ ih κ => wrZ k b (ih κ)) (fun b _ ih κ => newZ b fun k => ih k κ)
  (fun _ _ ih1 ih2 κ => fun hp nx fl lg => match nx with
    | 0 => .no
    | _ + 1 => ih1 (fun o => match o with
      | .v x => backZ fl lg (fun x lg' => ih2 x lg' κ) x
      | _ => failZ) hp nx nx .nl) m κ

section
variable {κ : Out → Z}
theorem z_ret (o : Out) : (M.ret o).z κ = κ o := rfl
theorem z_fail : (M.fail).z κ = failZ := rfl
theorem z_rd (k : Nat) (f : Blk → M) : (M.rd k f).z κ = rdZ k fun b => (f b).z κ := rfl
theorem z_wr (k : Nat) (b : Option Blk) (m : M) : (M.wr k b m).z κ = wrZ k b (m.z κ) := rfl
theorem z_new (b : Blk) (f : Nat → M) : (M.new b f).z κ = newZ b fun k => (f k).z κ := rfl

theorem z_sub (m : M) (f : AV → Tr Bool → M) : (M.sub m f).z κ = fun hp nx fl lg => match nx with
    | 0 => .no
    | _ + 1 => m.z (fun o => match o with
      | .v x => backZ fl lg (fun x lg' => (f x lg').z κ) x
      | _ => failZ) hp nx nx .nl := rfl

/-! each of the small runs hands on what comes behind -/
theorem setK_nat {α β γ : Type} (φ : β → γ) (bad : β) (n : Nat) (t : Tr α) (k : Nat) (v : Option α) (K : Tr α → β) : φ (Tr.setK bad n t k v K) = Tr.setK (φ bad) n t k v fun x => φ (K x) := by
  cases h : fits n k with
  | true => rw [Tr.setK_good _ _ _ _ _ h, Tr.setK_good _ _ _ _ _ h]
  | false => rw [Tr.setK_bad _ _ _ _ _ h, Tr.setK_bad _ _ _ _ _ h]

theorem markK_nat {β γ : Type} (φ : β → γ) (bad : β) (lg : Tr Bool) (k : Nat) (wr : Bool) (K : Tr Bool → β) : φ (markK bad lg k wr K) = markK (φ bad) lg k wr fun x => φ (K x) := by
  unfold markK
  split
  · rfl
  · rfl
  · exact setK_nat φ _ _ _ _ _ _

theorem touchK_nat {β γ : Type} (φ : β → γ) (bad : β) (fl : Nat) (lg : Tr Bool) (k : Nat) (wr : Bool) (K : Tr Bool → β) : φ (touchK bad fl lg k wr K) = touchK (φ bad) fl lg k wr fun x => φ (K x) := by
  unfold touchK
  cases fl with
  | zero => rfl
  | succ _ => exact markK_nat φ _ _ _ _ _
theorem newLogK_nat {β γ : Type} (φ : β → γ) (bad : β) (fl : Nat) (lg : Tr Bool) (k : Nat) (K : Tr Bool → β) : φ (newLogK bad fl lg k K) = newLogK (φ bad) fl lg k fun x => φ (K x) := by
  unfold newLogK
  cases fl with
  | zero => rfl
  | succ _ => exact markK_nat φ _ _ _ _ _
theorem unionK_nat {β γ : Type} (φ : β → γ) (a b : Tr Bool) (K : Tr Bool → β) : φ (unionK a b K) = unionK a b fun x => φ (K x) := by
  have : ∀ (a b : Tr Bool), ∃ c, (∀ K : Tr Bool → β, unionK a b K = K c) ∧ (∀ K : Tr Bool → γ, unionK a b K = K c) := by
    intro a
    induction a with
    | nl => intro b; exact ⟨b, fun _ => rfl, fun _ => rfl⟩
    | nd v l r ihl ihr =>
      intro b
      cases b with
      | nl => exact ⟨_, fun _ => rfl, fun _ => rfl⟩
      | nd v' l' r' =>
        obtain ⟨x, x1, x2⟩ := ihl l'
        obtain ⟨y, y1, y2⟩ := ihr r'
        exact ⟨.nd (orO v v') x y, fun K => by simp only [unionK]; rw [x1, y1], fun K => by simp only [unionK]; rw [x2, y2]⟩
  obtain ⟨c, h1, h2⟩ := this a b
  rw [h1, h2]

def denO (κ : Out → Z) : Option (Out × St) → Ans
  | some (o, S) => κ o S.hp S.nx S.fl S.lg
  | none => .no

theorem z_run : ∀ (m : M) (κ : Out → Z) (hp : Tr Blk) (nx fl : Nat) (lg : Tr Bool), m.z κ hp nx fl lg = denO κ (runM m ⟨hp, nx, fl, lg⟩) := by
  intro m
  induction m with
  | ret o => intro κ hp nx fl lg; rfl
  | fail => intro κ hp nx fl lg; rfl
  | rd k f ih =>
    intro κ hp nx fl lg
    rw [z_rd]
    simp only [rdZ, Tr.getK_eq, runM]
    cases hp.get k with
    | none => rfl
    | some b =>
      simp only
      rw [touchK_nat (denO κ)]
      simp only [ih]
      rfl
  | wr k b m ih =>
    intro κ hp nx fl lg
    rw [z_wr]
    simp only [wrZ, Tr.getK_eq, runM]
    cases hp.get k with
    | none => rfl
    | some b =>
      simp only
      rw [touchK_nat (denO κ)]
      simp only [setK_nat (denO κ), ih]
      rfl
  | new b f ih =>
    intro κ hp nx fl lg
    rw [z_new]
    simp only [newZ, runM, setK_nat (denO κ), forceN_eq, forceZ_eq, newLogK_nat (denO κ), ih]
    rfl
  | sub m f ihm ihf =>
    intro κ hp nx fl lg
    rw [z_sub]
    cases nx with
    | zero => simp only [runM]; rfl
    | succ nx =>
      simp only [ihm, runM]
      cases hr : runM m ⟨hp, nx + 1, nx + 1, .nl⟩ with
      | none => rfl
      | some r =>
        obtain ⟨o, hp', nx', fl', lg'⟩ := r
        cases o with
        | x _ _ => rfl
        | v x =>
          simp only [denO, backZ]
          cases fl with
          | zero => simp only [ihf]; rfl
          | succ fl => simp only [ihf]; rw [← unionK_nat (denO κ)]; rfl
end
end Go.Rn
