/-
  A part of a proved evaluator for closed runs. No conditions.
-/
import Derived.Test.YtemlpgeadepmcaaGreatDoorZ1
namespace Go.Rn
open Go Go.RowKit
set_option linter.unusedVariables false
set_option linter.unusedSimpArgs false

section
variable {β γ : Type} (φ : β → γ)

theorem tsetK_nat : ∀ (t : T) (i : Nat) (x : Sc) (K : T → β), φ (t.setK i x K) = t.setK i x fun x => φ (K x)
  | .nl, i, x, K => rfl
  | .lf y, i, x, K => by cases i <;> rfl
  | .nd s a b, i, x, K => by
    simp only [T.setK]
    split
    · exact tsetK_nat a i x _
    · exact tsetK_nat b _ x _

theorem setL_nat : ∀ (l : List Sc) (t : T) (i : Nat) (K : T → β), φ (setL l t i K) = setL l t i fun x => φ (K x)
  | [], t, i, K => rfl
  | x :: l, t, i, K => by
    simp only [setL]
    rw [tsetK_nat φ]
    congr 1
    funext t'
    exact setL_nat l t' (i + 1) K

theorem layK_nat (t : T) (off : Nat) (x : T) (K : T → β) : φ (t.layK off x K) = t.layK off x fun x => φ (K x) := by
  unfold T.layK
  split
  · rfl
  · split
    · exact setL_nat φ _ _ _ _
    · simp only [T.takeK_eq, T.dropK_eq, T.catK_eq]

theorem ldT_nat (bad : β) (i : TI) (t : T) (off : Nat) (K : GV → β) : φ (ldT bad i t off K) = ldT (φ bad) i t off fun x => φ (K x) := by
  unfold ldT
  split
  · simp only [T.cutK_eq]
    split <;> rfl
  · split <;> rfl

theorem ofO_nat (bad : β) (o : Option Value) (K : AV → β) : φ (ofO bad o K) = ofO (φ bad) o fun x => φ (K x) := by
  unfold ofO
  split
  · simp only [forceV_eq]
  · rfl

theorem pBin_nat (P : Program) (tb : Tab) (bad : β) (op : BinOp) (t : TypeId) (x y : AV) (K : AV → β) : φ (pBin P tb bad op t x y K) = pBin P tb (φ bad) op t x y fun x => φ (K x) := by
  unfold pBin
  split
  · split
    · exact ofO_nat φ _ _ _
    · split
      · exact ofO_nat φ _ _ _
      · rfl
  · split
    · rfl
    · split
      · split
        · split
          · split
            · exact ofO_nat φ _ _ _
            · rfl
          · rfl
        · rfl
      · rfl
  · split
    · split
      · exact ofO_nat φ _ _ _
      · rfl
    · rfl
  · rfl

theorem pUn_nat (bad : β) (op : UnOp) (x : AV) (K : AV → β) : φ (pUn bad op x K) = pUn (φ bad) op x fun x => φ (K x) := by
  unfold pUn
  split <;> first | rfl | simp only [forceI_eq]

theorem pConv_nat (tb : Tab) (bad : β) (s d : TypeId) (x : AV) (K : AV → β) : φ (pConv tb bad s d x K) = pConv tb (φ bad) s d x fun x => φ (K x) := by
  unfold pConv
  split
  · split <;> first | rfl | simp only [forceI_eq]
  · rfl

theorem pField_nat (tb : Tab) (bad : β) (T : TypeId) (f : Nat) (x : AV) (K : AV → β) : φ (pField tb bad T f x K) = pField tb (φ bad) T f x fun x => φ (K x) := by
  unfold pField
  split
  · exact ldT_nat φ _ _ _ _ _
  · rfl

theorem pIndex_nat (tb : Tab) (bad : β) (T : TypeId) (x ix : AV) (K : AV → β) : φ (pIndex tb bad T x ix K) = pIndex tb (φ bad) T x ix fun x => φ (K x) := by
  unfold pIndex
  split
  · split
    · split
      · split
        · exact ldT_nat φ _ _ _ _ _
        · rfl
      · rfl
    · rfl
  · split
    · split
      · simp only [forceN_eq]
      · rfl
    · rfl
  · rfl

theorem pExtract_nat (bad : β) (x : AV) (n : Nat) (K : AV → β) : φ (pExtract bad x n K) = pExtract (φ bad) x n fun x => φ (K x) := by
  unfold pExtract
  split
  · split <;> rfl
  · rfl

theorem layP_nat (bad : β) (place : Nat → Option (Nat × Nat)) : ∀ (l : List (Nat × AV)) (t : T) (K : T → β), φ (layP bad place l t K) = layP (φ bad) place l t fun x => φ (K x)
  | [], t, K => rfl
  | (i, .any) :: r, t, K => rfl
  | (i, .tu _) :: r, t, K => rfl
  | (i, .g x) :: r, t, K => by
    simp only [layP]
    split
    · split
      · rw [layK_nat φ]
        congr 1
        funext t'
        exact layP_nat bad place r t' K
      · rfl
    · rfl

theorem pBuild_nat (tb : Tab) (bad : β) (T : TypeId) (ps : List (Nat × AV)) (K : AV → β) : φ (pBuild tb bad T ps K) = pBuild tb (φ bad) T ps fun x => φ (K x) := by
  unfold pBuild
  split
  · split
    · split
      · exact layP_nat φ _ _ _ _ _
      · rfl
    · split
      · exact layP_nat φ _ _ _ _ _
      · rfl
    · rfl
  · rfl

theorem pMinMax_nat (bad : β) (b : Builtin) (x y : AV) (K : AV → β) : φ (pMinMax bad b x y K) = pMinMax (φ bad) b x y fun x => φ (K x) := by
  unfold pMinMax
  split
  · split <;> rfl
  · split <;> rfl
  · rfl

theorem boundsK_nat (bad : β) (len cap : Nat) (lo hi mx : Option AV) (K : Nat → Nat → Nat → β) : φ (boundsK bad len cap lo hi mx K) = boundsK (φ bad) len cap lo hi mx fun a b c => φ (K a b c) := by
  unfold boundsK
  split
  · rfl
  · split
    · split
      · split
        · split
          · split
            · split <;> rfl
            · rfl
          · rfl
        · rfl
      · rfl
    · rfl

theorem slA_nat (k off sz : Nat) (K : AV → β) (l h m : Nat) : φ (slA k off sz K l h m) = slA k off sz (fun x => φ (K x)) l h m := by
  unfold slA
  split <;> simp only [slK_eq]
theorem slB_nat (k off sz cap : Nat) (K : AV → β) (l h m : Nat) : φ (slB k off sz cap K l h m) = slB k off sz cap (fun x => φ (K x)) l h m := by
  unfold slB
  split <;> simp only [slK_eq, forceN_eq]
theorem slF_nat (k off sz cap : Nat) (op n : Bool) (K : AV → β) (l h m : Nat) : φ (slF k off sz cap op n K l h m) = slF k off sz cap op n (fun x => φ (K x)) l h m := by
  unfold slF
  split
  · exact slB_nat φ _ _ _ _ _ _ _ _
  · exact slA_nat φ _ _ _ _ _ _ _

theorem pSlice_nat (tb : Tab) (bad : β) (T : TypeId) (x : AV) (lo hi mx : Option AV) (K : AV → β) : φ (pSlice tb bad T x lo hi mx K) = pSlice tb (φ bad) T x lo hi mx fun x => φ (K x) := by
  unfold pSlice
  split
  · split
    · split
      · rw [boundsK_nat φ]; congr 1; funext a b c; exact slA_nat φ _ _ _ _ _ _ _
      · rfl
    · split
      · rw [boundsK_nat φ]; congr 1; funext a b c; exact slF_nat φ _ _ _ _ _ _ _ _ _ _
      · rfl
    · split
      · rw [boundsK_nat φ]
      · rfl
    · split
      · rw [boundsK_nat φ]
      · rfl
    · rfl
  · rfl

theorem repK_nat (bad : β) : ∀ (f : Nat) (t : T) (n : Nat) (K : T → β), φ (T.repK bad f t n K) = T.repK (φ bad) f t n fun x => φ (K x)
  | 0, t, n, K => rfl
  | f + 1, t, 0, K => rfl
  | f + 1, t, n + 1, K => by
    simp only [T.repK, T.catK_eq]
    split
    · exact repK_nat bad f t _ _
    · exact repK_nat bad f t _ _

theorem pFieldAddr_nat (tb : Tab) (bad : β) (T : TypeId) (x : AV) (f : Nat) (K : AV → β) : φ (pFieldAddr tb bad T x f K) = pFieldAddr tb (φ bad) T x f fun x => φ (K x) := by
  unfold pFieldAddr
  split
  · split
    · rfl
    · simp only [forceN_eq]
  · rfl

theorem pIndexAddr_nat (tb : Tab) (bad : β) (T : TypeId) (x ix : AV) (K : AV → β) : φ (pIndexAddr tb bad T x ix K) = pIndexAddr tb (φ bad) T x ix fun x => φ (K x) := by
  unfold pIndexAddr
  split
  · split
    · split
      · split
        · simp only [forceN_eq]
        · rfl
      · rfl
    · split
      · split
        · simp only [forceN_eq]
        · rfl
      · rfl
    · rfl
  · rfl

theorem evNilCheck_nat (bad : β) (x : AV) (K : AV → β) : φ (evNilCheck bad x K) = evNilCheck (φ bad) x fun x => φ (K x) := by
  unfold evNilCheck
  split <;> rfl
end
end Go.Rn
