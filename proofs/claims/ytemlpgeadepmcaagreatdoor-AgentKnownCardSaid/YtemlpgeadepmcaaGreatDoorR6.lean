/-
  A part of a proved evaluator for closed runs. No conditions.
-/
import Derived.Test.YtemlpgeadepmcaaGreatDoorR5
namespace Go.Rn
open Go Go.RowKit
set_option linter.unusedVariables false
set_option linter.unusedSimpArgs false

abbrev AV.sc (v : Value) : AV := .g (.s (.v v))
abbrev AV.i (k : IntKind) (n : Int) : AV := .g (.s (.v (.int k n)))
abbrev AV.b (b : Bool) : AV := .g (.s (.v (.bool b)))

/-- A value, its numbers worked out. -/
def forceV {β : Type} (v : Value) (K : Value → β) : β := match v with
  | .int k n => forceI n fun n => K (.int k n)
  | .bool b => forceB b fun b => K (.bool b)
  | v => K v
theorem forceV_eq {β : Type} (v : Value) (K : Value → β) : forceV v K = K v := by
  cases v <;> simp [forceV, forceI_eq, forceB_eq]

/-- Either it fails or it yields what the operation does. -/
def Yl {β : Type} (bad e : β) (K : AV → β) (D : Nm) (μ : Mu) (P : Program) (s : Sem Value) : Prop :=
  e = bad ∨ ∃ v v', e = K v ∧ (∀ w, s.run P w = .ok v' w) ∧ AVr D μ v v'

def eqK (a b : IntKind) : Bool := match a, b with
  | .i8, .i8 | .i16, .i16 | .i32, .i32 | .i64, .i64 | .u8, .u8 | .u16, .u16 | .u32, .u32 | .u64, .u64 => true
  | _, _ => false
theorem eqK_eq {a b : IntKind} (h : eqK a b = true) : a = b := by cases a <;> cases b <;> first | rfl | cases h

def nilF (d : TypeDesc) (x y : Sc) : Option Bool := match d, x, y with
  | .pointer _, .v (.pointer none), .v (.pointer none) => some true
  | .pointer _, .p _ _, .v (.pointer none) => some false
  | .pointer _, .v (.pointer none), .p _ _ => some false
  | .slice _, .v (.slice none _ _), .v (.slice none _ _) => some true
  | .slice _, .s _ _ _ _ _, .v (.slice none _ _) => some false
  | .slice _, .v (.slice none _ _), .s _ _ _ _ _ => some false
  | .map _ _, .v (.map none), .v (.map none) => some true
  | .map _ _, .m _, .v (.map none) => some false
  | .map _ _, .v (.map none), .m _ => some false
  | .func _ _ _, .v .nilFunc, .v .nilFunc => some true
  | .func _ _ _, .f _ _, .v .nilFunc => some false
  | .func _ _ _, .v .nilFunc, .f _ _ => some false
  | .bool, .v (.bool a), .v (.bool b) => some (match a, b with | true, true => true | false, false => true | _, _ => false)
  | _, _, _ => none

theorem nilF_spec {P : Program} {μ : Mu} {d : TypeDesc} {x y : Sc} {r : Bool} (h : nilF d x y = some r) {t : TypeId} (hu : P.underlying t = some d) (n : Nat) (w : World) :
    (Op.equalIn (n + 1) t (x.val μ) (y.val μ)).run P w = .ok r w ∧ ∀ op a b, (eqGuard op t a b (x.val μ) (y.val μ)).run P w = .ok () w := by
  unfold nilF at h
  split at h <;> first
    | (cases h; done)
    | (injection h with h; subst h
       refine ⟨by first | (simp [Op.equalIn, run_underlying hu, Sc.val]; done) | (rename_i a b; cases a <;> cases b <;> simp [Op.equalIn, run_underlying hu, Sc.val]), fun op a b => ?_⟩
       cases op <;> simp [eqGuard, Sc.val])

/-! ### structs and arrays held against each other -/
def eqCells : List Bool → List Sc → List Sc → Option Bool
  | [], [], [] => some true
  | true :: s, .v (.int k a) :: xs, .v (.int k' b) :: ys => match eqK k k' with
    | true => match eqF a b with
      | true => eqCells s xs ys
      | false => some false
    | false => none
  | false :: s, .v (.bool true) :: xs, .v (.bool true) :: ys => eqCells s xs ys
  | false :: s, .v (.bool false) :: xs, .v (.bool false) :: ys => eqCells s xs ys
  | false :: _, .v (.bool true) :: _, .v (.bool false) :: _ => some false
  | false :: _, .v (.bool false) :: _, .v (.bool true) :: _ => some false
  | _, _, _ => none

def repL (s : List Bool) : Nat → List Bool
  | 0 => []
  | n + 1 => s ++ repL s n

theorem repL_length (s : List Bool) (n : Nat) : (repL s n).length = n * s.length := by
  induction n with
  | zero => simp [repL]
  | succ m ih => simp [repL, ih, Nat.succ_mul]; omega

def plainFs (sub : TypeId → Option (List Bool)) : List Field → Nat → Option (List Bool)
  | [], _ => some []
  | f :: fs, n => match decide (f.name = "_") || !(Nat.beq f.offset n) with
    | true => none
    | false => match sub f.type with
      | some k => match plainFs sub fs (n + k.length) with
        | some l => some (k ++ l)
        | none => none
      | none => none

/-- The cells of a type's values, where they are held against each other one by one: numbers and Booleans. -/
def plainE (P : Program) (tb : Tab) : Nat → TypeId → Option (List Bool)
  | 0, _ => none
  | d + 1, t => match tb.ty t with
    | some i => match i.desc with
      | .bool => some [false]
      | .int _ => some [true]
      | .struct fs => match P.stoodInHeld t with
        | true => none
        | false => match plainFs (plainE P tb d) fs.toList 0 with
          | some s => match Nat.beq s.length i.sz with
            | true => some s
            | false => none
          | none => none
      | .array len e => match plainE P tb d e with
        | some n => match Nat.beq (len * n.length) i.sz with
          | true => some (repL n len)
          | false => none
        | none => none
      | _ => none
    | none => none

def wrapV (agg : Bool) (l : List Value) : Value := match agg with
  | true => .agg l.toArray
  | false => l.headD undef

theorem eqCells_append : ∀ {s s' : List Bool} {a b c d : List Sc} {r : Bool}, a.length = s.length → c.length = s.length → eqCells (s ++ s') (a ++ b) (c ++ d) = some r → (eqCells s a c = some true ∧ eqCells s' b d = some r) ∨ (eqCells s a c = some false ∧ r = false) := by
  intro s
  induction s with
  | nil =>
    intro s' a b c d r ha hc h
    have : a = [] := by simpa using ha
    have : c = [] := by simpa using hc
    subst a c
    exact .inl ⟨rfl, h⟩
  | cons x s ih =>
    intro s' a b c d r ha hc h
    match a, c, ha, hc with
    | y :: a, z :: c, ha, hc =>
      have ha' : a.length = s.length := by simpa using ha
      have hc' : c.length = s.length := by simpa using hc
      simp only [List.cons_append] at h
      revert h
      rw [eqCells.eq_def (x :: s)]
      rw [eqCells.eq_def (x :: (s ++ s'))]
      cases x with
      | true =>
        cases y with
        | v y => cases y with
          | int k m => cases z with
            | v z => cases z with
              | int k' n =>
                simp only
                cases eqK k k' with
                | true =>
                  simp only
                  cases eqF m n with
                  | true => exact ih ha' hc'
                  | false => intro h; injection h with h; exact .inr ⟨rfl, h.symm⟩
                | false => intro h; cases h
              | _ => intro h; cases h
            | _ => intro h; cases h
          | _ => intro h; cases h
        | _ => intro h; cases h
      | false =>
        cases y with
        | v y => cases y with
          | bool m => cases z with
            | v z => cases z with
              | bool n =>
                cases m <;> cases n <;> simp only
                · exact ih ha' hc'
                · intro h; injection h with h; exact .inr ⟨trivial, h.symm⟩
                · intro h; injection h with h; exact .inr ⟨trivial, h.symm⟩
                · exact ih ha' hc'
              | _ => intro h; cases m <;> cases h
            | _ => intro h; cases m <;> cases h
          | _ => intro h; cases h
        | _ => intro h; cases h

theorem eqCells_bool {x y : Sc} {r : Bool} (h : eqCells [false] [x] [y] = some r) : ∃ a b, x = .v (.bool a) ∧ y = .v (.bool b) ∧ r = (a == b) := by
  cases x with
  | v x => cases x with
    | bool a => cases y with
      | v y => cases y with
        | bool b => refine ⟨a, b, rfl, rfl, ?_⟩; cases a <;> cases b <;> (simp [eqCells] at h; simp [← h])
        | _ => cases a <;> cases h
      | _ => cases a <;> cases h
    | _ => cases h
  | _ => cases h

theorem eqCells_int {x y : Sc} {r : Bool} (h : eqCells [true] [x] [y] = some r) : ∃ k a b, x = .v (.int k a) ∧ y = .v (.int k b) ∧ r = (a == b) := by
  cases x with
  | v x => cases x with
    | int k a => cases y with
      | v y => cases y with
        | int k' b =>
          simp only [eqCells] at h
          split at h
          · rename_i hk
            have := eqK_eq hk; subst this
            refine ⟨_, _, _, rfl, rfl, ?_⟩
            rw [← eqF_eq]
            cases he : eqF a b <;> (rw [he] at h; simpa using h.symm)
          · cases h
        | _ => cases h
      | _ => cases h
    | _ => cases h
  | _ => cases h

section
variable {P : Program} {tb : Tab} {μ : Mu}

theorem part_spec (hT : TabOk P tb) {t : TypeId} {i : TI} (ht : tb.ty t = some i) (hsz : i.agg = false → i.sz = 1) {l : List Value} {off : Nat} (h : off + i.sz ≤ l.length) (w : World) :
    (part t l.toArray off).run P w = .ok (wrapV i.agg ((l.drop off).take i.sz)) w := by
  have hi := hT.ty t i ht
  unfold part
  simp only [Sem.run_bind, hi.run_agg, Result.andThen_ok]
  cases ha : i.agg with
  | true =>
    simp only [if_true, Sem.run_bind, hi.run_size, Result.andThen_ok, Sem.run_pure, wrapV]
    congr 2
    apply Array.ext_getElem?
    intro j
    simp only [Array.getElem?_extract, List.size_toArray, List.getElem?_toArray, List.getElem?_take, List.getElem?_drop, Nat.min_eq_left h]
    by_cases hj : j < i.sz
    · rw [if_pos hj, if_pos (by omega)]
    · rw [if_neg hj, if_neg (by omega)]
  | false =>
    have := hsz ha
    simp only [Bool.false_eq_true, if_false]
    have hlt : off < l.length := by omega
    simp only [List.getElem?_toArray, List.getElem?_eq_getElem hlt, Sem.run_pure, wrapV, this]
    rw [List.drop_eq_getElem_cons hlt]
    rfl

theorem plainE_ty (d : Nat) {t : TypeId} {s : List Bool} (hT : TabOk P tb) (h1 : ∀ t i, tb.ty t = some i → i.agg = false → i.sz = 1) (h : plainE P tb d t = some s) : ∃ i, tb.ty t = some i ∧ s.length = i.sz := by
  cases d with
  | zero => cases h
  | succ d =>
    simp only [plainE] at h
    split at h
    · rename_i i hi
      have hok := hT.ty t i hi
      refine ⟨i, hi, ?_⟩
      have h2 := h1 t i hi
      rw [hok.agg] at h2
      split at h
      · rename_i hd; injection h with h; rw [hd] at h2; rw [h2 rfl, ← h]; rfl
      · rename_i hd; injection h with h; rw [hd] at h2; rw [h2 rfl, ← h]; rfl
      · split at h
        · cases h
        · split at h
          · split at h
            · rename_i hb; injection h with h; rw [← h]; exact Nat.eq_of_beq_eq_true hb
            · cases h
          · cases h
      · split at h
        · rename_i n _
          split at h
          · rename_i len e _ _ _ _ hb
            injection h with h; rw [← h, ← Nat.eq_of_beq_eq_true hb]
            exact repL_length _ _
          · cases h
        · cases h
      · cases h
    · cases h

theorem eqA_spec (hT : TabOk P tb) (h1 : ∀ t i, tb.ty t = some i → i.agg = false → i.sz = 1) {e : TypeId} {i : TI} (hi : tb.ty e = some i) {s : List Bool} (hs : s.length = i.sz) {d : Nat}
    (hsub : ∀ xs ys r, xs.length = s.length → ys.length = s.length → eqCells s xs ys = some r → ∀ w, (Op.equalIn d e (wrapV i.agg (xs.map (Sc.val μ))) (wrapV i.agg (ys.map (Sc.val μ)))).run P w = .ok r w) :
    ∀ (n j : Nat) (xs ys : List Sc) (r : Bool), xs.length = (j + n) * s.length → ys.length = (j + n) * s.length → eqCells (repL s n) (xs.drop (j * s.length)) (ys.drop (j * s.length)) = some r → ∀ w,
      (forIn (m := Sem) (List.range' j n) ((none, ()) : Option Bool × Unit) (fun k _ => do
        if (!(← Op.equalIn d e (← part e (xs.map (Sc.val μ)).toArray (k * i.sz)) (← part e (ys.map (Sc.val μ)).toArray (k * i.sz)))) = true then pure (ForInStep.done (some false, ())) else pure (ForInStep.yield (none, ())))).run P w =
      .ok (if r then (none, ()) else (some false, ())) w
  | 0, j, xs, ys, r, hx, hy, h, w => by
    have : xs.drop (j * s.length) = [] := List.drop_of_length_le (by rw [hx]; simp)
    have h2 : ys.drop (j * s.length) = [] := List.drop_of_length_le (by rw [hy]; simp)
    rw [this, h2] at h
    simp only [repL, eqCells, Option.some.injEq] at h
    subst h
    simp
  | n + 1, j, xs, ys, r, hx, hy, h, w => by
    have hle : j * s.length + s.length ≤ (j + (n + 1)) * s.length := by
      have := Nat.mul_le_mul_right s.length (show j + 1 ≤ j + (n + 1) by omega)
      rw [Nat.succ_mul] at this; exact this
    have hlx : ((xs.drop (j * s.length)).take s.length).length = s.length := by rw [List.length_take, List.length_drop]; omega
    have hly : ((ys.drop (j * s.length)).take s.length).length = s.length := by rw [List.length_take, List.length_drop]; omega
    simp only [repL] at h
    rw [← List.take_append_drop s.length (xs.drop (j * s.length)), ← List.take_append_drop s.length (ys.drop (j * s.length)), List.drop_drop, List.drop_drop] at h
    have hp := eqCells_append hlx hly h
    have px : ∀ w, (part e (xs.map (Sc.val μ)).toArray (j * i.sz)).run P w = .ok (wrapV i.agg (((xs.drop (j * s.length)).take s.length).map (Sc.val μ))) w := fun w => by
      rw [part_spec hT hi (h1 e i hi) (by simp; rw [← hs]; omega), ← hs, ← List.map_drop, ← List.map_take]
    have py : ∀ w, (part e (ys.map (Sc.val μ)).toArray (j * i.sz)).run P w = .ok (wrapV i.agg (((ys.drop (j * s.length)).take s.length).map (Sc.val μ))) w := fun w => by
      rw [part_spec hT hi (h1 e i hi) (by simp; rw [← hs]; omega), ← hs, ← List.map_drop, ← List.map_take]
    simp only [List.range'_succ, List.forIn_cons, Sem.run_bind, px, py, Result.andThen_ok]
    rcases hp with ⟨he, hr⟩ | ⟨he, rfl⟩
    · rw [hsub _ _ _ hlx hly he]
      simp only [Result.andThen_ok, Bool.not_true, Bool.false_eq_true, if_false, Sem.run_pure]
      have := eqA_spec hT h1 hi hs hsub n (j + 1) xs ys r (by rw [hx]; congr 1; omega) (by rw [hy]; congr 1; omega) (by rw [Nat.succ_mul]; exact hr) w
      exact this
    · rw [hsub _ _ _ hlx hly he]
      simp

theorem eqFs_spec (hT : TabOk P tb) (h1 : ∀ t i, tb.ty t = some i → i.agg = false → i.sz = 1) {sub : TypeId → Option (List Bool)} {d : Nat}
    (hty : ∀ t s, sub t = some s → ∃ i, tb.ty t = some i ∧ s.length = i.sz)
    (hsub : ∀ t s, sub t = some s → ∀ i, tb.ty t = some i → ∀ xs ys r, xs.length = s.length → ys.length = s.length → eqCells s xs ys = some r → ∀ w, (Op.equalIn d t (wrapV i.agg (xs.map (Sc.val μ))) (wrapV i.agg (ys.map (Sc.val μ)))).run P w = .ok r w) :
    ∀ (fs : List Field) (n : Nat) (s : List Bool), plainFs sub fs n = some s → ∀ (xs ys : List Sc) (r : Bool), xs.length = n + s.length → ys.length = n + s.length → eqCells s (xs.drop n) (ys.drop n) = some r → ∀ w,
      (Op.eqFields d (xs.map (Sc.val μ)).toArray (ys.map (Sc.val μ)).toArray fs).run P w = .ok r w
  | [], n, s, hp, xs, ys, r, hx, hy, h, w => by
    injection hp with hp; subst hp
    have : xs.drop n = [] := List.drop_of_length_le (by rw [hx]; simp)
    have h2 : ys.drop n = [] := List.drop_of_length_le (by rw [hy]; simp)
    rw [this, h2] at h
    simp only [eqCells, Option.some.injEq] at h
    subst h
    simp [Op.eqFields]
  | f :: fs, n, s, hp, xs, ys, r, hx, hy, h, w => by
    simp only [plainFs] at hp
    split at hp
    · cases hp
    · rename_i hcond
      simp only [Bool.or_eq_false_iff, decide_eq_false_iff_not, Bool.not_eq_false'] at hcond
      have hoff := Nat.eq_of_beq_eq_true hcond.2
      split at hp
      · rename_i k hk
        split at hp
        · rename_i l hl
          injection hp with hp; subst hp
          obtain ⟨i, hi, hsz⟩ := hty f.type k hk
          rw [List.length_append] at hx hy
          have hlx : ((xs.drop n).take k.length).length = k.length := by rw [List.length_take, List.length_drop]; omega
          have hly : ((ys.drop n).take k.length).length = k.length := by rw [List.length_take, List.length_drop]; omega
          rw [← List.take_append_drop k.length (xs.drop n), ← List.take_append_drop k.length (ys.drop n), List.drop_drop, List.drop_drop] at h
          have hcase := eqCells_append hlx hly h
          have px : ∀ w, (part f.type (xs.map (Sc.val μ)).toArray f.offset).run P w = .ok (wrapV i.agg (((xs.drop n).take k.length).map (Sc.val μ))) w := fun w => by
            rw [hoff, part_spec hT hi (h1 _ i hi) (by simp; rw [← hsz]; omega), ← hsz, ← List.map_drop, ← List.map_take]
          have py : ∀ w, (part f.type (ys.map (Sc.val μ)).toArray f.offset).run P w = .ok (wrapV i.agg (((ys.drop n).take k.length).map (Sc.val μ))) w := fun w => by
            rw [hoff, part_spec hT hi (h1 _ i hi) (by simp; rw [← hsz]; omega), ← hsz, ← List.map_drop, ← List.map_take]
          simp only [Op.eqFields, if_pos (show f.name ≠ "_" from hcond.1), Sem.run_bind, px, py, Result.andThen_ok]
          rcases hcase with ⟨he, hr⟩ | ⟨he, rfl⟩
          · rw [hsub _ _ hk i hi _ _ _ hlx hly he]
            simp only [Result.andThen_ok]
            have ih := eqFs_spec hT h1 hty hsub fs (n + k.length) l hl xs ys r (by omega) (by omega) hr w
            simp [ih]
          · rw [hsub _ _ hk i hi _ _ _ hlx hly he]
            simp
        · cases hp
      · cases hp

theorem eqCells_spec (hT : TabOk P tb) (h1 : ∀ t i, tb.ty t = some i → i.agg = false → i.sz = 1) (m : Nat) : ∀ (d : Nat) (t : TypeId) (s : List Bool), plainE P tb d t = some s → ∀ (i : TI), tb.ty t = some i → ∀ (xs ys : List Sc) (r : Bool), xs.length = s.length → ys.length = s.length → eqCells s xs ys = some r →
    ∀ w, (Op.equalIn (d + m) t (wrapV i.agg (xs.map (Sc.val μ))) (wrapV i.agg (ys.map (Sc.val μ)))).run P w = .ok r w
  | 0, _, _, h, _, _, _, _, _, _, _, _, _ => by cases h
  | d + 1, t, s, h, i, hi, xs, ys, r, hx, hy, hr, w => by
    rw [show d + 1 + m = d + m + 1 by omega]
    have hok := hT.ty t i hi
    have hu := hok.und
    simp only [plainE, hi] at h
    split at h
    · rename_i hd
      injection h with h; subst h
      rw [hd] at hu
      have ha : i.agg = false := by rw [hok.agg, hd]; rfl
      match xs, ys, hx, hy with
      | [x], [y], _, _ =>
        obtain ⟨a, b, rfl, rfl, rfl⟩ := eqCells_bool hr
        simp [ha, wrapV, Sc.val, Op.equalIn, run_underlying hu]
    · rename_i k hd
      injection h with h; subst h
      rw [hd] at hu
      have ha : i.agg = false := by rw [hok.agg, hd]; rfl
      match xs, ys, hx, hy with
      | [x], [y], _, _ =>
        obtain ⟨q, a, b, rfl, rfl, rfl⟩ := eqCells_int hr
        simp [ha, wrapV, Sc.val, Op.equalIn, run_underlying hu]
    · rename_i fs hd
      rw [hd] at hu
      have ha : i.agg = true := by rw [hok.agg, hd]; rfl
      split at h
      · cases h
      · rename_i hst
        split at h
        · rename_i s' hs'
          split at h
          · injection h with h; subst h
            have hf : P.fieldsOf t = fs := by simp [Program.fieldsOf, hu]
            rw [ha]
            simp only [wrapV]
            rw [run_equalIn_struct w (d + m) t _ _ (by rw [hf]; exact hu) hst, hf]
            exact eqFs_spec hT h1 (fun t s h => plainE_ty d hT h1 h) (fun t s h i hi xs ys r a b c w => eqCells_spec hT h1 m d t s h i hi xs ys r a b c w) fs.toList 0 s' hs' xs ys r (by omega) (by omega) hr w
          · cases h
        · cases h
    · rename_i len e hd
      rw [hd] at hu
      have ha : i.agg = true := by rw [hok.agg, hd]; rfl
      split at h
      · rename_i n hn
        split at h
        · rename_i hb
          injection h with h; subst h
          obtain ⟨j, hj, hjs⟩ := plainE_ty d hT h1 hn
          have hlen := repL_length n len
          rw [hlen] at hx hy
          have := eqA_spec (P := P) (μ := μ) hT h1 hj hjs (d := d + m) (fun xs ys r a b c w => eqCells_spec hT h1 m d e n hn j hj xs ys r a b c w) len 0 xs ys r (by rw [hx]; simp) (by rw [hy]; simp) (by simpa using hr) w
          rw [ha]
          simp only [wrapV]
          simp only [Op.equalIn, Sem.run_bind, run_underlying hu, Result.andThen_ok, (hT.ty e j hj).run_size]
          rw [Std.Legacy.Range.forIn_eq_forIn_range']
          simp only [Std.Legacy.Range.size, Nat.sub_zero, Nat.add_sub_cancel, Nat.div_one]
          rw [this]
          cases r <;> simp
        · cases h
      · cases h
    · cases h
end
end Go.Rn
