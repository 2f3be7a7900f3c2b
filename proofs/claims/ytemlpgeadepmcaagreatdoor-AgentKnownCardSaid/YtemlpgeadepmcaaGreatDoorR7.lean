/-
  A part of a proved evaluator for closed runs. No conditions.
-/
import Derived.Test.YtemlpgeadepmcaaGreatDoorR6
namespace Go.Rn
open Go Go.RowKit
set_option linter.unusedVariables false
set_option linter.unusedSimpArgs false

section
variable {β : Type} (P : Program) (tb : Tab)

def ofO (bad : β) (o : Option Value) (K : AV → β) : β := match o with
  | some v => forceV v fun v => K (.sc v)
  | none => bad

def eqOp (op : BinOp) (b : Bool) : Option Value := match op with
  | .eql => some (.bool b)
  | .neq => some (.bool (match b with | true => false | false => true))
  | _ => none

def pBin (bad : β) (op : BinOp) (t : TypeId) (x y : AV) (K : AV → β) : β :=
  match x, y with
  | .g (.s (.v (.int k a))), .g (.s (.v (.int k' b))) => match isSh op with
    | true => ofO bad (shF op k a b) K
    | false => match eqK k k' with
      | true => ofO bad (binF op k a b) K
      | false => bad
  | .g (.a x), .g (.a y) => match P.eqGuardType P.depth t with
    | true => bad
    | false => match plainE P tb 12 t with
      | some s => match tb.ty t with
        | some i => match i.agg && (Nat.beq x.size s.length && Nat.beq y.size s.length) with
          | true => match eqCells s x.list y.list with
            | some b => ofO bad (eqOp op b) K
            | none => bad
          | false => bad
        | none => bad
      | none => bad
  | .g (.s x), .g (.s y) => match tb.ty t with
    | some i => match nilF i.desc x y with
      | some b => ofO bad (eqOp op b) K
      | none => bad
    | none => bad
  | _, _ => bad

def pUn (bad : β) (op : UnOp) (x : AV) (K : AV → β) : β :=
  match op, x with
  | .not, .g (.s (.v (.bool true))) => K (.b false)
  | .not, .g (.s (.v (.bool false))) => K (.b true)
  | .neg, .g (.s (.v (.int k n))) => forceI (wrapF k (0 - n)) fun n => K (.i k n)
  | .xor, .g (.s (.v (.int k n))) => forceI (back k (twoTo k - 1 - modN (twoTo k) n)) fun n => K (.i k n)
  | _, _ => bad

def pConv (bad : β) (s d : TypeId) (x : AV) (K : AV → β) : β :=
  match tb.ty s, tb.ty d with
  | some i, some j => match i.desc, j.desc, x with
    | .int _, .int k, .g (.s (.v (.int _ n))) => forceI (wrapF k n) fun n => K (.i k n)
    | _, _, _ => bad
  | _, _ => bad

def nth {α : Type} : List α → Nat → Option α
  | [], _ => none
  | x :: l, n => match n with
    | 0 => some x
    | n + 1 => nth l n

theorem nth_eq {α : Type} : ∀ (l : List α) (n : Nat), nth l n = l[n]?
  | [], n => by simp [nth]
  | x :: l, 0 => rfl
  | x :: l, n + 1 => by simp [nth, nth_eq l n]

def fieldOf (T : TypeId) (f : Nat) : Option (Field × TI) := match tb.ty T with
  | some i => match i.desc with
    | .struct fs => match nth fs.toList f with
      | some fl => match tb.ty fl.type with
        | some j => some (fl, j)
        | none => none
      | none => none
    | _ => none
  | none => none

def pField (bad : β) (T : TypeId) (f : Nat) (x : AV) (K : AV → β) : β :=
  match fieldOf tb T f, x with
  | some (fl, j), .g (.a t) => ldT bad j t fl.offset fun g => K (.g g)
  | _, _ => bad

def pIndex (bad : β) (T : TypeId) (x ix : AV) (K : AV → β) : β :=
  match tb.ty T, x, ix with
  | some i, .g (.a t), .g (.s (.v (.int _ (.ofNat n)))) => match i.desc with
    | .array len e => match tb.ty e with
      | some j => match Nat.blt n len with
        | true => ldT bad j t (n * j.sz) fun g => K (.g g)
        | false => bad
      | none => bad
    | _ => bad
  | some i, .g (.s (.v (.string s))), .g (.s (.v (.int _ (.ofNat n)))) => match i.desc with
    | .string => match nth s.data.toList n with
      | some b => forceN b.toNat fun m => K (.i .u8 (.ofNat m))
      | none => bad
    | _ => bad
  | _, _, _ => bad

def pExtract (bad : β) (x : AV) (n : Nat) (K : AV → β) : β :=
  match x with
  | .tu xs => match nth xs n with
    | some g => K (.g g)
    | none => bad
  | _ => bad

def layP (bad : β) (place : Nat → Option (Nat × Nat)) : List (Nat × AV) → T → (T → β) → β
  | [], t, K => K t
  | (i, .g x) :: r, t, K => match place i with
    | some (off, sz) => match Nat.beq x.tree.size sz && Nat.ble (off + sz) t.size with
      | true => t.layK off x.tree fun t' => layP bad place r t' K
      | false => bad
    | none => bad
  | _, _, _ => bad

def placeS (fs : List Field) (n : Nat) : Option (Nat × Nat) := match nth fs n with
  | some f => match tb.ty f.type with
    | some j => some (f.offset, j.sz)
    | none => none
  | none => none

def allTy : List Field → Bool
  | [] => true
  | f :: fs => match tb.ty f.type with
    | some _ => allTy fs
    | none => false

def pBuild (bad : β) (T : TypeId) (ps : List (Nat × AV)) (K : AV → β) : β :=
  match tb.ty T with
  | some i => match i.desc with
    | .struct fs => match allTy tb fs.toList with
      | true => layP bad (placeS tb fs.toList) ps i.zero fun t => K (.g (.a t))
      | false => bad
    | .array _ e => match tb.ty e with
      | some j => layP bad (fun n => some (n * j.sz, j.sz)) ps i.zero fun t => K (.g (.a t))
      | none => bad
    | _ => bad
  | none => bad

def pMinMax (bad : β) (b : Builtin) (x y : AV) (K : AV → β) : β :=
  match b, x, y with
  | .max, .g (.s (.v (.int k a))), .g (.s (.v (.int k' b))) => match eqK k k' with
    | true => K (.i k (match ltF a b with | true => b | false => a))
    | false => bad
  | .min, .g (.s (.v (.int k a))), .g (.s (.v (.int k' b))) => match eqK k k' with
    | true => K (.i k (match ltF b a with | true => b | false => a))
    | false => bad
  | _, _, _ => bad
end

section
variable {β : Type} {bad : β} {P : Program} {tb : Tab} {D : Nm} {μ : Mu}

theorem ofO_spec {o : Option Value} {K : AV → β} {s : Sem Value} (h : ∀ v, o = some v → v.oneCell' = true ∧ ∀ w, s.run P w = .ok v w) : Yl bad (ofO bad o K) K D μ P s := by
  cases o with
  | none => exact .inl rfl
  | some v => exact .inr ⟨.sc v, v, by simp only [ofO, forceV_eq], (h v rfl).2, rfl, (h v rfl).1⟩

theorem binF_one {op : BinOp} {k : IntKind} {a b : Int} {v : Value} (h : binF op k a b = some v) : v.oneCell' = true := by
  cases op <;> simp only [binF] at h <;> first
    | (cases h; done)
    | (injection h with h; subst h; rfl)
    | (split at h <;> first | (cases h; done) | (injection h with h; subst h; rfl))
theorem shF_one {op : BinOp} {k : IntKind} {a b : Int} {v : Value} (h : shF op k a b = some v) : v.oneCell' = true := by
  unfold shF at h
  split at h
  · cases h
  · split at h <;> first
      | (cases h; done)
      | (injection h with h; subst h; rfl)

theorem eqOp_spec {op : BinOp} {b : Bool} {v : Value} (h : eqOp op b = some v) : v.oneCell' = true ∧ ((op = .eql ∧ v = .bool b) ∨ (op = .neq ∧ v = .bool (!b))) := by
  unfold eqOp at h
  split at h
  · injection h with h; subst h; exact ⟨rfl, .inl ⟨rfl, rfl⟩⟩
  · injection h with h; subst h; exact ⟨rfl, .inr ⟨rfl, by cases b <;> rfl⟩⟩
  · cases h

/-- The semantics of a binary operation, with its guard. -/
abbrev semBin (op : BinOp) (t : TypeId) (x y : Operand) (a b : Value) : Sem Value := do eqGuard op t x y a b; binOp op t a b

theorem eqGuard_int (op : BinOp) (t : TypeId) (x y : Operand) (k k' : IntKind) (a b : Int) (w : World) : (eqGuard op t x y (.int k a) (.int k' b)).run P w = .ok () w := by
  cases op <;> simp [eqGuard]

theorem run_binOp_eq (op : BinOp) (t : TypeId) (x y : Sc) (d : TypeDesc) {r : Bool} (h : nilF d x y = some r) {v : Value} (hv : (op = .eql ∧ v = .bool r) ∨ (op = .neq ∧ v = .bool (!r))) (hu : P.underlying t = some d) (w : World) :
    (binOp op t (x.val μ) (y.val μ)).run P w = .ok v w := by
  have hs := (nilF_spec (P := P) (μ := μ) h hu 9999 w).1
  unfold nilF at h
  split at h <;> first
    | (cases h; done)
    | (rcases hv with ⟨rfl, rfl⟩ | ⟨rfl, rfl⟩ <;> simp [binOp, Op.equal, Op.maxDepth, Sc.val] at hs ⊢ <;> simp [hs])

theorem pBin_spec (hT : TabOk P tb) (h1 : ∀ t i, tb.ty t = some i → i.agg = false → i.sz = 1) {op : BinOp} {t : TypeId} {xo yo : Operand} {x y : AV} {a b : Value} {K : AV → β} (hx : AVr D μ x a) (hy : AVr D μ y b) : Yl bad (pBin P tb bad op t x y K) K D μ P (semBin op t xo yo a b) := by
  unfold pBin
  split
  · rename_i k m k' n
    obtain ⟨rfl, _⟩ := hx
    obtain ⟨rfl, _⟩ := hy
    simp only [GV.val, Sc.val]
    split
    · exact ofO_spec fun v hv => ⟨shF_one hv, fun w => by simp only [semBin, Sem.run_bind, eqGuard_int, Result.andThen_ok]; exact shF_spec hv t⟩
    · split
      · rename_i hk
        have := eqK_eq hk; subst this
        exact ofO_spec fun v hv => ⟨binF_one hv, fun w => by simp only [semBin, Sem.run_bind, eqGuard_int, Result.andThen_ok]; exact binF_spec hv t⟩
      · exact .inl rfl
  · rename_i p q
    obtain ⟨rfl, hp⟩ := hx
    obtain ⟨rfl, hq⟩ := hy
    have hp : p.ok D := hp
    have hq : q.ok D := hq
    split
    · exact .inl rfl
    · rename_i hg
      split
      · rename_i s hs
        split
        rotate_left
        · exact .inl rfl
        rename_i i hi
        split
        · rename_i hl
          simp only [Bool.and_eq_true] at hl
          have hl1 := Nat.eq_of_beq_eq_true hl.2.1
          have hl2 := Nat.eq_of_beq_eq_true hl.2.2
          split
          · rename_i r hr
            refine ofO_spec fun v hv => ?_
            obtain ⟨o1, o2⟩ := eqOp_spec hv
            refine ⟨o1, fun w => ?_⟩
            have ha : i.agg = true := hl.1
            have hlx : p.list.length = s.length := by rw [T.length hp.1]; exact hl1
            have hly : q.list.length = s.length := by rw [T.length hq.1]; exact hl2
            have he := eqCells_spec (μ := μ) hT h1 9988 12 t s hs i hi p.list q.list r hlx hly hr w
            simp only [ha, wrapV] at he
            simp only [semBin, Sem.run_bind, GV.val, run_eqGuard_agg w op t xo yo _ _ hg, Result.andThen_ok]
            rcases o2 with ⟨rfl, rfl⟩ | ⟨rfl, rfl⟩
            · rw [run_eql_struct]
              have : (12 + 9988 : Nat) = 10000 := rfl
              rw [this] at he
              simp only [T.vals, he, Result.andThen_ok]
            · rw [run_neq_struct]
              have : (12 + 9988 : Nat) = 10000 := rfl
              rw [this] at he
              simp only [T.vals, he, Result.andThen_ok]
          · exact .inl rfl
        · exact .inl rfl
      · exact .inl rfl
  · rename_i p q hne1
    obtain ⟨rfl, hp⟩ := hx
    obtain ⟨rfl, hq⟩ := hy
    split
    · rename_i i hi
      have hok := hT.ty t i hi
      split
      · rename_i r hr
        refine ofO_spec fun v hv => ?_
        obtain ⟨o1, o2⟩ := eqOp_spec hv
        refine ⟨o1, fun w => ?_⟩
        simp only [semBin, Sem.run_bind, GV.val, (nilF_spec (P := P) (μ := μ) hr hok.und 0 w).2, Result.andThen_ok]
        exact run_binOp_eq op t p q i.desc hr o2 hok.und w
      · exact .inl rfl
    · exact .inl rfl
  · exact .inl rfl

theorem pUn_spec {op : UnOp} {x : AV} {a : Value} {K : AV → β} (hx : AVr D μ x a) : Yl bad (pUn bad op x K) K D μ P (Op.unary op a) := by
  unfold pUn
  split
  · obtain ⟨rfl, _⟩ := hx
    exact .inr ⟨.b false, .bool false, rfl, fun w => by simp [Op.unary, GV.val, Sc.val], rfl, rfl⟩
  · obtain ⟨rfl, _⟩ := hx
    exact .inr ⟨.b true, .bool true, rfl, fun w => by simp [Op.unary, GV.val, Sc.val], rfl, rfl⟩
  · rename_i k n
    obtain ⟨rfl, _⟩ := hx
    exact .inr ⟨.i k (wrapF k (0 - n)), .int k (wrapF k (0 - n)), by rw [forceI_eq], fun w => by simp [Op.unary, GV.val, Sc.val, Op.intArith, wrapF_eq], rfl, rfl⟩
  · rename_i k n
    obtain ⟨rfl, _⟩ := hx
    have hlt : twoTo k - 1 - modN (twoTo k) n < twoTo k := by have := twoTo_pos k; omega
    refine .inr ⟨.i k (back k (twoTo k - 1 - modN (twoTo k) n)), .int k (back k (twoTo k - 1 - modN (twoTo k) n)), by rw [forceI_eq], fun w => ?_, rfl, rfl⟩
    rw [back_eq k hlt]
    simp only [Op.unary, GV.val, Sc.val, Op.intBits, Sem.run_pure]
    congr 4
    have h1 : (BitVec.ofInt k.bits (if k.signed then -1 else k.max)) = BitVec.allOnes k.bits := by
      cases k <;> decide
    rw [h1, BitVec.allOnes_xor, BitVec.toNat_not, bits_modN, ← twoTo_pow]
  · exact .inl rfl

theorem pConv_spec (hT : TabOk P tb) {s d : TypeId} {x : AV} {a : Value} {K : AV → β} (hx : AVr D μ x a) : Yl bad (pConv tb bad s d x K) K D μ P (convert s d a) := by
  unfold pConv
  split
  · rename_i i j hi hj
    have hs := (hT.ty s i hi).und
    have hd := (hT.ty d j hj).und
    split
    · rename_i k0 k k1 n h1 h2
      obtain ⟨rfl, _⟩ := hx
      rw [h1] at hs
      rw [h2] at hd
      exact .inr ⟨.i k (wrapF k n), .int k (wrapF k n), by rw [forceI_eq], fun w => by simp [convert, GV.val, Sc.val, run_underlying hs, run_underlying hd, Conv.intToInt, wrapF_eq], rfl, rfl⟩
    · exact .inl rfl
  · exact .inl rfl

theorem fieldOf_spec (hT : TabOk P tb) {T : TypeId} {f : Nat} {fl : Field} {j : TI} (h : fieldOf tb T f = some (fl, j)) : ∃ fs, P.underlying T = some (.struct fs) ∧ fs[f]? = some fl ∧ tb.ty fl.type = some j := by
  unfold fieldOf at h
  split at h
  · rename_i i hi
    split at h
    · rename_i fs hd
      split at h
      · rename_i fl' hf
        split at h
        · rename_i j' hj
          injection h with h; injection h with h1 h2; subst h1 h2
          exact ⟨fs, by rw [(hT.ty T i hi).und, hd], by rw [nth_eq] at hf; simpa using hf, hj⟩
        · cases h
      · cases h
    · cases h
  · cases h

/-- A part of a value. -/
theorem ldT_part (hT : TabOk P tb) {ty : TypeId} {i : TI} (hi : tb.ty ty = some i) {t : T} (ht : t.ok D) {off : Nat} (K : GV → β) :
    ldT bad i t off K = bad ∨ ∃ x : GV, ldT bad i t off K = K x ∧ x.ok D ∧ ∀ w, (part ty (t.vals μ).toArray off).run P w = .ok (x.val μ) w := by
  have hok := hT.ty ty i hi
  unfold ldT
  split
  · rename_i ha
    rw [T.cutK_eq]
    split
    · rename_i hs
      have hs := Nat.eq_of_beq_eq_true hs
      refine .inr ⟨_, rfl, T.cut_ok ht off i.sz, fun w => ?_⟩
      simp only [part, Sem.run_bind, hok.run_agg, ha, Result.andThen_ok, if_true, hok.run_size, Sem.run_pure, GV.val]
      congr 2
      rw [T.vals_cut ht.1]
      apply Array.ext_getElem?
      intro j
      have hlen : ((t.vals μ).drop off).take i.sz = ((t.cut off i.sz).vals μ) := (T.vals_cut ht.1 off i.sz).symm
      have hl : (((t.vals μ).drop off).take i.sz).length = i.sz := by rw [hlen, T.vals_length (T.cut_spec ht.1 off i.sz).2, hs]
      rw [List.length_take, List.length_drop] at hl
      simp only [Array.getElem?_extract, List.size_toArray, List.getElem?_toArray, List.getElem?_take, List.getElem?_drop]
      by_cases hj : j < i.sz
      · rw [if_pos hj, if_pos (by omega)]
      · rw [if_neg hj, if_neg (by omega)]
    · exact .inl rfl
  · rename_i ha
    split
    · rename_i x hx
      rw [T.get_spec ht.1] at hx
      refine .inr ⟨_, rfl, ht.2 x (List.mem_of_getElem? hx), fun w => ?_⟩
      simp only [part, Sem.run_bind, hok.run_agg, ha, Result.andThen_ok, Bool.false_eq_true, if_false]
      simp [T.vals, hx, GV.val]
    · exact .inl rfl

theorem pField_spec (hT : TabOk P tb) {T : TypeId} {f : Nat} {x : AV} {a : Value} {K : AV → β} (hx : AVr D μ x a) : Yl bad (pField tb bad T f x K) K D μ P (Instr.field T a f) := by
  unfold pField
  split
  · rename_i fl j t hf
    obtain ⟨fs, hu, hfl, hj⟩ := fieldOf_spec hT hf
    obtain ⟨rfl, ht⟩ := hx
    rcases ldT_part (bad := bad) (μ := μ) hT hj (t := t) ht (off := fl.offset) (fun g => K (.g g)) with h | ⟨g, h1, h2, h3⟩
    · exact .inl h
    · refine .inr ⟨.g g, g.val μ, h1, fun w => ?_, rfl, h2⟩
      show (Instr.field T (.agg (t.vals μ).toArray) f).run P w = .ok (g.val μ) w
      simp only [Instr.field, Sem.run_bind, run_underlying hu, Result.andThen_ok, hfl, asAgg, Sem.run_pure, h3]
  · exact .inl rfl

theorem pIndex_spec (hT : TabOk P tb) {T : TypeId} {x ix : AV} {a b : Value} {K : AV → β} (hx : AVr D μ x a) (hy : AVr D μ ix b) : Yl bad (pIndex tb bad T x ix K) K D μ P (Instr.index T a b) := by
  unfold pIndex
  split
  · rename_i i t q n hi
    obtain ⟨rfl, ht⟩ := hx
    obtain ⟨rfl, _⟩ := hy
    have hok := hT.ty T i hi
    have hu := hok.und
    split
    · rename_i len e hd
      rw [hd] at hu
      split
      · rename_i j hj
        split
        · rename_i hlt
          have hlt := blt_iff.1 hlt
          rcases ldT_part (bad := bad) (μ := μ) hT hj (t := t) ht (off := n * j.sz) (fun g => K (.g g)) with h | ⟨g, h1, h2, h3⟩
          · exact .inl h
          · refine .inr ⟨.g g, g.val μ, h1, fun w => ?_, rfl, h2⟩
            show (Instr.index T (.agg (t.vals μ).toArray) (.int q (.ofNat n))).run P w = .ok (g.val μ) w
            simp only [Instr.index, Sem.run_bind, asIntOf, Sem.run_pure, Result.andThen_ok, run_underlying hu]
            rw [if_pos ⟨by simp, by simp only [Int.ofNat_eq_natCast]; omega⟩]
            simp only [Sem.run_bind, (hT.ty e j hj).run_size, Result.andThen_ok, Int.ofNat_eq_natCast, Int.toNat_natCast, h3]
        · exact .inl rfl
      · exact .inl rfl
    · exact .inl rfl
  · rename_i i s q n hi
    obtain ⟨rfl, ht⟩ := hx
    obtain ⟨rfl, _⟩ := hy
    have hok := hT.ty T i hi
    have hu := hok.und
    split
    · rename_i hd
      rw [hd] at hu
      split
      · rename_i c hc
        rw [nth_eq] at hc
        refine .inr ⟨.i .u8 (.ofNat c.toNat), _, by rw [forceN_eq], fun w => ?_, rfl, rfl⟩
        simp only [Instr.index, Sem.run_bind, GV.val, Sc.val, asIntOf, Sem.run_pure, Result.andThen_ok, run_underlying hu]
        have hs : s[n]? = some c := by
          rw [Array.getElem?_toList] at hc
          obtain ⟨h1, h2⟩ := Array.getElem?_eq_some_iff.1 hc
          have h3 : n < s.size := h1
          rw [getElem?_pos s n h3]
          exact congrArg some h2
        simp [hs]
      · exact .inl rfl
    · exact .inl rfl
  · exact .inl rfl

theorem pExtract_spec {x : AV} {n : Nat} {a : Value} {K : AV → β} (hx : AVr D μ x a) : Yl bad (pExtract bad x n K) K D μ P (Instr.extract a n) := by
  unfold pExtract
  split
  · rename_i xs
    obtain ⟨rfl, h⟩ := hx
    split
    · rename_i g hg
      rw [nth_eq] at hg
      exact .inr ⟨.g g, g.val μ, rfl, fun w => by simp [Instr.extract, hg], rfl, h g (List.mem_of_getElem? hg)⟩
    · exact .inl rfl
  · exact .inl rfl

theorem pMinMax_spec {b : Builtin} {x y : AV} {p q : Value} {K : AV → β} (hx : AVr D μ x p) (hy : AVr D μ y q) {s : Array TypeId} {t : TypeId} :
    Yl bad (pMinMax bad b x y K) K D μ P (match b with | .max => Builtin.max_ s t #[p, q] | _ => Builtin.min_ s t #[p, q]) := by
  unfold pMinMax
  split
  · rename_i k m k' n
    obtain ⟨rfl, _⟩ := hx
    obtain ⟨rfl, _⟩ := hy
    split
    · rename_i hk
      have := eqK_eq hk; subst this
      refine .inr ⟨_, .int k (if n > m then n else m), rfl, fun w => by simp [Builtin.max_, Builtin.max2, GV.val, Sc.val], ?_, rfl⟩
      rw [ltF_eq]
      by_cases h : m < n <;> simp [h, GV.val, Sc.val]
    · exact .inl rfl
  · rename_i k m k' n
    obtain ⟨rfl, _⟩ := hx
    obtain ⟨rfl, _⟩ := hy
    split
    · rename_i hk
      have := eqK_eq hk; subst this
      refine .inr ⟨_, .int k (if n < m then n else m), rfl, fun w => by simp [Builtin.min_, Builtin.min2, GV.val, Sc.val], ?_, rfl⟩
      rw [ltF_eq]
      by_cases h : n < m <;> simp [h, GV.val, Sc.val]
    · exact .inl rfl
  · exact .inl rfl

/-! ### build -/
theorem setCells_fold (v : List Value) : ∀ (off : Nat) (j : Nat) (cs : List Value), off + j + v.length ≤ cs.length →
    ((v.zipIdx j).foldl (fun (cs : Array Value) (q : Value × Nat) => cs.setIfInBounds (off + q.2) q.1) cs.toArray) = (cs.take (off + j) ++ (v ++ cs.drop (off + j + v.length))).toArray := by
  induction v with
  | nil => intro off j cs _; simp
  | cons x v ih =>
    intro off j cs h
    simp only [List.length_cons] at h
    simp only [List.zipIdx_cons, List.foldl_cons]
    rw [List.setIfInBounds_toArray, ih off (j + 1) (cs.set (off + j) x) (by simp; omega)]
    congr 1
    have hlen : off + j < cs.length := by omega
    rw [show off + (j + 1) = off + j + 1 by omega, List.length_cons, show off + j + 1 + v.length = off + j + (v.length + 1) by omega]
    rw [List.drop_set_of_lt (by omega), List.take_set, List.take_succ_eq_append_getElem hlen, List.set_append_right _ _ (by simp; omega)]
    simp [Nat.min_eq_left (show off + j ≤ cs.length by omega)]

/-- The operands of parts. -/
inductive PsR (D : Nm) (μ : Mu) : List (Nat × AV) → List (Nat × Value) → Prop
  | nil : PsR D μ [] []
  | cons {i : Nat} {x : AV} {v : Value} {l : List (Nat × AV)} {m : List (Nat × Value)} : AVr D μ x v → PsR D μ l m → PsR D μ ((i, x) :: l) ((i, v) :: m)

theorem layP_spec {place : Nat → Option (Nat × Nat)} : ∀ {ps : List (Nat × AV)} {vs : List (Nat × Value)}, PsR D μ ps vs → ∀ {t : T}, t.ok D → ∀ (K : T → β),
    layP bad place ps t K = bad ∨ ∃ t', layP bad place ps t K = K t' ∧ t'.ok D ∧ Instr.fill place (t.vals μ).toArray vs = some (t'.vals μ).toArray
  | _, _, .nil, t, ht, K => .inr ⟨t, rfl, ht, rfl⟩
  | _, _, .cons (i := i) (x := x) (v := v) (l := l) (m := m) hx hl, t, ht, K => by
    cases x with
    | any => exact .inl rfl
    | tu _ => exact .inl rfl
    | g x =>
      obtain ⟨rfl, hok⟩ := hx
      simp only [layP]
      split
      · rename_i off sz hp
        split
        · rename_i hc
          simp only [Bool.and_eq_true] at hc
          have hsz := Nat.eq_of_beq_eq_true hc.1
          have hle := ble_iff.1 hc.2
          have htr := GV.tree_ok hok
          obtain ⟨t1, h1, h2, h3, h4⟩ := T.layK_spec (β := β) ht.1 htr.1 (off := off) (by rw [hsz]; exact hle)
          rw [h1]
          have ht1 : t1.ok D := ⟨h3, fun y hy => by rw [h2] at hy; exact layL_ok ht.2 htr.2 y hy⟩
          rcases layP_spec hl ht1 K with h | ⟨t2, g1, g2, g3⟩
          · exact .inl h
          · refine .inr ⟨t2, g1, g2, ?_⟩
            have hcells := GV.cells_val (μ := μ) hok
            have hlen : (x.tree.vals μ).length = x.tree.size := T.vals_length htr.1
            have hsize : (x.val μ).cells.size = sz := by rw [← hsz, ← hlen, ← hcells]; simp
            have htl : (t.vals μ).length = t.size := T.vals_length ht.1
            simp only [Instr.fill, hp, hsize, ne_eq, not_true_eq_false, decide_false, Bool.false_or]
            have hb : ¬ (off + sz > (t.vals μ).toArray.size) := by simp; omega
            simp only [decide_eq_true_eq, hb, if_false]
            have hf := setCells_fold (x.val μ).cells.toList off 0 (t.vals μ) (by rw [hcells]; omega)
            simp only [Nat.add_zero] at hf
            rw [hcells, hlen] at hf
            have e : t1.vals μ = (t.vals μ).take off ++ (x.tree.vals μ ++ (t.vals μ).drop (off + x.tree.size)) := by
              unfold T.vals; rw [h2, layL_map, T.length htr.1]
            have he : Array.foldl (fun (cs : Array Value) (q : Value × Nat) => cs.setIfInBounds (off + q.2) q.1) (t.vals μ).toArray (x.val μ).cells.zipIdx = (t1.vals μ).toArray := by
              rw [← Array.foldl_toList, Array.toList_zipIdx, hcells, e]
              exact hf
            rw [← g3, ← he]
        · exact .inl rfl
      · exact .inl rfl

theorem mapM_places {f : Field → Nat × Nat} {fs : List Field} (h : ∀ x ∈ fs, ∀ w, (do pure (x.offset, ← sizeOf x.type) : Sem (Nat × Nat)).run P w = .ok (f x) w) (w : World) :
    (fs.mapM (m := Sem) fun x => do pure (x.offset, ← sizeOf x.type)).run P w = .ok (fs.map f) w := by
  induction fs with
  | nil => simp
  | cons x fs ih =>
    rw [List.mapM_cons]
    simp only [Sem.run_bind]
    have h1 := h x (by simp) w
    simp only [Sem.run_bind] at h1
    rw [h1]
    simp only [Result.andThen_ok]
    rw [ih (fun y hy => h y (by simp [hy]))]
    simp

theorem allTy_spec : ∀ {fs : List Field}, allTy tb fs = true → ∀ f ∈ fs, ∃ j, tb.ty f.type = some j
  | [], _, f, hf => by cases hf
  | g :: fs, h, f, hf => by
    simp only [allTy] at h
    split at h
    · rename_i j hj
      rcases List.mem_cons.1 hf with rfl | hf
      · exact ⟨j, hj⟩
      · exact allTy_spec h f hf
    · cases h

theorem pBuild_spec (hT : TabOk P tb) {T : TypeId} {ps : List (Nat × AV)} {vs : Array (Nat × Value)} {K : AV → β} (hps : PsR D μ ps vs.toList) : Yl bad (pBuild tb bad T ps K) K D μ P (Instr.build T vs) := by
  unfold pBuild
  split
  · rename_i i hi
    have hok := hT.ty T i hi
    have hu := hok.und
    split
    · rename_i fs hd
      rw [hd] at hu
      split
      · rename_i hall
        rcases layP_spec (bad := bad) (place := placeS tb fs.toList) hps (t := i.zero) hok.zok.ok (fun t => K (.g (.a t))) with h | ⟨t', h1, h2, h3⟩
        · exact .inl h
        · refine .inr ⟨.g (.a t'), _, h1, fun w => ?_, rfl, h2⟩
          obtain ⟨z, hz, hzc⟩ := hok.run_zero w
          have hcells : z.cells = (i.zero.vals μ).toArray := by rw [← hzc]
          have hplaces : ∀ x ∈ fs.toList, ∀ w, (do pure (x.offset, ← sizeOf x.type) : Sem (Nat × Nat)).run P w = .ok (x.offset, ((tb.ty x.type).map (·.sz)).getD 0) w := by
            intro x hx w
            obtain ⟨j, hj⟩ := allTy_spec hall x hx
            simp [(hT.ty _ j hj).run_size, hj]
          have hmap := mapM_places (P := P) hplaces w
          have hpl : (fun (n : Nat) => (fs.toList.map fun x => (x.offset, ((tb.ty x.type).map (·.sz)).getD 0)).toArray[n]?) = placeS tb fs.toList := by
            funext n
            unfold placeS
            rw [nth_eq]
            simp only [List.getElem?_toArray, List.getElem?_map]
            cases hf : fs.toList[n]? with
            | none => rfl
            | some fl =>
              obtain ⟨j, hj⟩ := allTy_spec hall fl (List.mem_of_getElem? hf)
              simp [hj]
          simp only [Instr.build, Sem.run_bind, hz, Result.andThen_ok, run_underlying hu, hcells]
          rw [Array.mapM_eq_mapM_toList]
          simp only [Sem.run_map, hmap, Result.andThen_ok, Sem.run_pure]
          rw [hpl, h3]
          simp [GV.val]
      · exact .inl rfl
    · rename_i n e hd
      rw [hd] at hu
      split
      · rename_i j hj
        rcases layP_spec (bad := bad) (place := fun n => some (n * j.sz, j.sz)) hps (t := i.zero) hok.zok.ok (fun t => K (.g (.a t))) with h | ⟨t', h1, h2, h3⟩
        · exact .inl h
        · refine .inr ⟨.g (.a t'), _, h1, fun w => ?_, rfl, h2⟩
          obtain ⟨z, hz, hzc⟩ := hok.run_zero w
          have hcells : z.cells = (i.zero.vals μ).toArray := by rw [← hzc]
          simp only [Instr.build, Sem.run_bind, hz, Result.andThen_ok, run_underlying hu, hcells, (hT.ty e j hj).run_size]
          rw [h3]
          simp [GV.val]
      · exact .inl rfl
    · exact .inl rfl
  · exact .inl rfl
end
end Go.Rn
