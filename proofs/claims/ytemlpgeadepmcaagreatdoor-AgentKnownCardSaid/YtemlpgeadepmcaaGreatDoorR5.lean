/-
  A part of a proved evaluator for closed runs. No conditions.
-/
import Derived.Test.YtemlpgeadepmcaaGreatDoorR4
namespace Go.Rn
open Go Go.RowKit
set_option linter.unusedVariables false

/-! ### whole numbers, so that the kernel reckons fast -/
def twoTo : IntKind → Nat
  | .i8 | .u8 => 256
  | .i16 | .u16 => 65536
  | .i32 | .u32 => 4294967296
  | .i64 | .u64 => 18446744073709551616

def modN (m : Nat) : Int → Nat
  | .ofNat n => n % m
  | .negSucc n => m - 1 - n % m

theorem modN_eq {m : Nat} (hm : 0 < m) (n : Int) : (modN m n : Int) = n % (m : Int) := by
  cases n with
  | ofNat n => simp [modN]
  | negSucc n =>
    simp only [modN]
    have h1 : n % m < m := Nat.mod_lt _ hm
    rw [Int.negSucc_emod _ (by omega)]
    omega

def back (k : IntKind) (r : Nat) : Int := match k with
  | .i8 => match Nat.blt r 128 with
    | true => .ofNat r
    | false => .negSucc (255 - r)
  | .i16 => match Nat.blt r 32768 with
    | true => .ofNat r
    | false => .negSucc (65535 - r)
  | .i32 => match Nat.blt r 2147483648 with
    | true => .ofNat r
    | false => .negSucc (4294967295 - r)
  | .i64 => match Nat.blt r 9223372036854775808 with
    | true => .ofNat r
    | false => .negSucc (18446744073709551615 - r)
  | _ => .ofNat r

def wrapF (k : IntKind) (n : Int) : Int := back k (modN (twoTo k) n)

theorem twoTo_eq (k : IntKind) : ((twoTo k : Nat) : Int) = 2 ^ k.bits := by cases k <;> rfl
theorem twoTo_pos (k : IntKind) : 0 < twoTo k := by cases k <;> decide

theorem negSucc_sub {a r : Nat} (h : r ≤ a) : Int.negSucc (a - r) = (r : Int) - (a + 1) := by rw [Int.negSucc_eq]; omega

theorem back_eq (k : IntKind) {r : Nat} (h : r < twoTo k) : back k r = k.wrap (r : Int) := by
  cases k <;> simp only [twoTo] at h
  case i8 =>
    have e : IntKind.wrap .i8 (r : Int) = (if (128 : Int) ≤ (r : Int) % 256 then (r : Int) % 256 - 256 else (r : Int) % 256) := by simp [IntKind.wrap, IntKind.bits, IntKind.signed]
    rw [e]
    simp only [back]
    cases hb : Nat.blt r 128 with
    | true => have := blt_iff.1 hb; simp only; rw [if_neg (by omega)]; simp only [Int.ofNat_eq_natCast]; omega
    | false => have := blt_false hb; simp only; rw [if_pos (by omega), negSucc_sub (by omega)]; omega
  case i16 =>
    have e : IntKind.wrap .i16 (r : Int) = (if (32768 : Int) ≤ (r : Int) % 65536 then (r : Int) % 65536 - 65536 else (r : Int) % 65536) := by simp [IntKind.wrap, IntKind.bits, IntKind.signed]
    rw [e]
    simp only [back]
    cases hb : Nat.blt r 32768 with
    | true => have := blt_iff.1 hb; simp only; rw [if_neg (by omega)]; simp only [Int.ofNat_eq_natCast]; omega
    | false => have := blt_false hb; simp only; rw [if_pos (by omega), negSucc_sub (by omega)]; omega
  case i32 =>
    have e : IntKind.wrap .i32 (r : Int) = (if (2147483648 : Int) ≤ (r : Int) % 4294967296 then (r : Int) % 4294967296 - 4294967296 else (r : Int) % 4294967296) := by simp [IntKind.wrap, IntKind.bits, IntKind.signed]
    rw [e]
    simp only [back]
    cases hb : Nat.blt r 2147483648 with
    | true => have := blt_iff.1 hb; simp only; rw [if_neg (by omega)]; simp only [Int.ofNat_eq_natCast]; omega
    | false => have := blt_false hb; simp only; rw [if_pos (by omega), negSucc_sub (by omega)]; omega
  case i64 =>
    have e : IntKind.wrap .i64 (r : Int) = (if (9223372036854775808 : Int) ≤ (r : Int) % 18446744073709551616 then (r : Int) % 18446744073709551616 - 18446744073709551616 else (r : Int) % 18446744073709551616) := by simp [IntKind.wrap, IntKind.bits, IntKind.signed]
    rw [e]
    simp only [back]
    cases hb : Nat.blt r 9223372036854775808 with
    | true => have := blt_iff.1 hb; simp only; rw [if_neg (by omega)]; simp only [Int.ofNat_eq_natCast]; omega
    | false => have := blt_false hb; simp only; rw [if_pos (by omega), negSucc_sub (by omega)]; omega
  all_goals
    simp [back, IntKind.wrap, IntKind.bits, IntKind.signed]
    omega

theorem wrap_mod (k : IntKind) (n : Int) : k.wrap (n % (twoTo k : Int)) = k.wrap n := by
  unfold IntKind.wrap
  rw [twoTo_eq, Int.emod_emod]

theorem wrapF_eq (k : IntKind) (n : Int) : wrapF k n = k.wrap n := by
  have h := modN_eq (twoTo_pos k) n
  have hlt : modN (twoTo k) n < twoTo k := by
    have := Int.emod_lt_of_pos n (show (0 : Int) < (twoTo k : Int) by have := twoTo_pos k; omega)
    omega
  rw [wrapF, back_eq k hlt, h, wrap_mod]

def eqF : Int → Int → Bool
  | .ofNat a, .ofNat b => Nat.beq a b
  | .negSucc a, .negSucc b => Nat.beq a b
  | _, _ => false
theorem eqF_eq (a b : Int) : eqF a b = (a == b) := by
  cases a with
  | ofNat a => cases b with
    | ofNat b => simp only [eqF]; rw [Bool.eq_iff_iff]; simp; omega
    | negSucc b => simp only [eqF]; rw [Bool.eq_iff_iff]; simp
  | negSucc a => cases b with
    | ofNat b => simp only [eqF]; rw [Bool.eq_iff_iff]; simp
    | negSucc b => simp only [eqF]; rw [Bool.eq_iff_iff]; simp

def ltF : Int → Int → Bool
  | .ofNat a, .ofNat b => Nat.blt a b
  | .negSucc a, .negSucc b => Nat.blt b a
  | .negSucc _, .ofNat _ => true
  | .ofNat _, .negSucc _ => false
theorem ltF_eq (a b : Int) : ltF a b = decide (a < b) := by
  rw [Bool.eq_iff_iff, decide_eq_true_eq]
  cases a with
  | ofNat a => cases b with
    | ofNat b => simp only [ltF, blt_iff]; exact Int.ofNat_lt.symm
    | negSucc b => simp only [ltF]; constructor
                   · intro h; cases h
                   · intro h; simp only [Int.ofNat_eq_natCast, Int.negSucc_eq] at h; omega
  | negSucc a => cases b with
    | ofNat b => simp only [ltF, true_iff, Int.ofNat_eq_natCast, Int.negSucc_eq]; omega
    | negSucc b => simp only [ltF, blt_iff, Int.negSucc_eq]; omega

theorem bits_modN (k : IntKind) (x : Int) : (BitVec.ofInt k.bits x).toNat = modN (twoTo k) x := by
  rw [BitVec.toNat_ofInt]
  have h := modN_eq (twoTo_pos k) x
  have h2 : ((2 ^ k.bits : Nat) : Int) = (twoTo k : Int) := by rw [twoTo_eq]; simp
  rw [h2]
  omega

theorem modN_lt (k : IntKind) (x : Int) : modN (twoTo k) x < twoTo k := by
  have h := modN_eq (twoTo_pos k) x
  have := Int.emod_lt_of_pos x (show (0 : Int) < (twoTo k : Int) by have := twoTo_pos k; omega)
  omega

theorem twoTo_pow (k : IntKind) : twoTo k = 2 ^ k.bits := by cases k <;> rfl

def isSh : BinOp → Bool
  | .shl | .shr => true
  | _ => false

/-- Two integers of one kind. -/
def binF (op : BinOp) (k : IntKind) (a b : Int) : Option Value :=
  match op with
  | .add => some (.int k (wrapF k (a + b)))
  | .sub => some (.int k (wrapF k (a - b)))
  | .mul => some (.int k (wrapF k (a * b)))
  | .quo => match eqF b 0 with
    | true => none
    | false => some (.int k (wrapF k (a.tdiv b)))
  | .rem => match eqF b 0 with
    | true => none
    | false => some (.int k (a.tmod b))
  | .and => some (.int k (back k (Nat.land (modN (twoTo k) a) (modN (twoTo k) b))))
  | .or => some (.int k (back k (Nat.lor (modN (twoTo k) a) (modN (twoTo k) b))))
  | .xor => some (.int k (back k (Nat.xor (modN (twoTo k) a) (modN (twoTo k) b))))
  | .andNot => some (.int k (back k (Nat.land (modN (twoTo k) a) (twoTo k - 1 - modN (twoTo k) b))))
  | .eql => some (.bool (eqF a b))
  | .neq => some (.bool (!(eqF a b)))
  | .lss => some (.bool (ltF a b))
  | .leq => some (.bool (!(ltF b a)))
  | .gtr => some (.bool (ltF b a))
  | .geq => some (.bool (!(ltF a b)))
  | _ => none

def shrN : Int → Nat → Int
  | .ofNat m, s => .ofNat (Nat.shiftRight m s)
  | .negSucc m, s => .negSucc (Nat.shiftRight m s)

theorem shrN_eq (a : Int) (s : Nat) : shrN a s = a.fdiv (2 ^ s) := by
  have h2 : (2 : Int) ^ s = ((2 ^ s : Nat) : Int) := by simp
  have hp : 0 < 2 ^ s := Nat.two_pow_pos s
  rw [h2]
  cases a with
  | ofNat m =>
    simp only [shrN]
    rw [show Nat.shiftRight m s = m / 2 ^ s from Nat.shiftRight_eq_div_pow m s]
    rw [Int.fdiv_eq_ediv_of_nonneg _ (by omega)]
    simp
  | negSucc m =>
    simp only [shrN]
    rw [show Nat.shiftRight m s = m / 2 ^ s from Nat.shiftRight_eq_div_pow m s]
    rw [Int.fdiv_eq_ediv_of_nonneg _ (by omega), Int.negSucc_ediv _ (by omega)]
    rw [Int.negSucc_eq]
    simp
    try rfl

def shF (op : BinOp) (k : IntKind) (a : Int) (b : Int) : Option Value :=
  match b with
  | .negSucc _ => none
  | .ofNat s => match op with
    | .shl => some (.int k (wrapF k (a * .ofNat (Nat.pow 2 (min s k.bits)))))
    | .shr => some (.int k (shrN a (min s k.bits)))
    | _ => none

section
variable {P : Program} {w : World}

theorem back_land (k : IntKind) (x y : Nat) (hx : x < twoTo k) : Nat.land x y < twoTo k := Nat.lt_of_le_of_lt Nat.and_le_left hx

theorem binF_spec {op : BinOp} {k : IntKind} {a b : Int} {v : Value} (h : binF op k a b = some v) (t : TypeId) :
    (binOp op t (.int k a) (.int k b)).run P w = .ok v w := by
  cases op <;> simp only [binF] at h
  case quo =>
    split at h
    · cases h
    · rename_i hb
      injection h with h; subst h
      rw [eqF_eq] at hb
      have : ¬ b = 0 := by simpa using hb
      simp [binOp, Op.intDiv, this, wrapF_eq]
  case rem =>
    split at h
    · cases h
    · rename_i hb
      injection h with h; subst h
      rw [eqF_eq] at hb
      have : ¬ b = 0 := by simpa using hb
      simp [binOp, Op.intDiv, this]
  case and =>
    injection h with h; subst h
    have hl : Nat.land (modN (twoTo k) a) (modN (twoTo k) b) < twoTo k := back_land k _ _ (modN_lt k a)
    rw [back_eq k hl]
    simp only [binOp, Op.intBits]
    simp only [ne_eq, not_true_eq_false, if_false, Sem.run_pure, BitVec.toNat_and, bits_modN]
    rfl
  case or =>
    injection h with h; subst h
    have hl : Nat.lor (modN (twoTo k) a) (modN (twoTo k) b) < twoTo k := by
      have h1 := modN_lt k a; have h2 := modN_lt k b
      rw [twoTo_pow] at *
      exact Nat.or_lt_two_pow h1 h2
    rw [back_eq k hl]
    simp only [binOp, Op.intBits]
    simp only [ne_eq, not_true_eq_false, if_false, Sem.run_pure, BitVec.toNat_or, bits_modN]
    rfl
  case xor =>
    injection h with h; subst h
    have hl : Nat.xor (modN (twoTo k) a) (modN (twoTo k) b) < twoTo k := by
      have h1 := modN_lt k a; have h2 := modN_lt k b
      rw [twoTo_pow] at *
      exact Nat.xor_lt_two_pow h1 h2
    rw [back_eq k hl]
    simp only [binOp, Op.intBits]
    simp only [ne_eq, not_true_eq_false, if_false, Sem.run_pure, BitVec.toNat_xor, bits_modN]
    rfl
  case andNot =>
    injection h with h; subst h
    have hl : Nat.land (modN (twoTo k) a) (twoTo k - 1 - modN (twoTo k) b) < twoTo k := back_land k _ _ (modN_lt k a)
    rw [back_eq k hl]
    simp only [binOp, Op.intBits]
    simp only [ne_eq, not_true_eq_false, if_false, Sem.run_pure, BitVec.toNat_and, BitVec.toNat_not, bits_modN, ← twoTo_pow]
    rfl
  all_goals first
    | (cases h; done)
    | (injection h with h; subst h
       simp [binOp, Op.intArith, Op.intCmp, wrapF_eq, eqF_eq, ltF_eq, bne]
       try (first | done | (rw [Bool.eq_iff_iff, Bool.not_eq_true', decide_eq_true_eq, decide_eq_false_iff_not]; omega)))

theorem shF_spec {op : BinOp} {k : IntKind} {a b : Int} {yk : IntKind} {v : Value} (h : shF op k a b = some v) (t : TypeId) :
    (binOp op t (.int k a) (.int yk b)).run P w = .ok v w := by
  unfold shF at h
  split at h
  · cases h
  · rename_i s
    have h2 : ∀ m : Nat, Int.ofNat (Nat.pow 2 m) = (2 : Int) ^ m := fun m => by simp [show Nat.pow 2 m = 2 ^ m from rfl]
    have h0 : ¬ (Int.ofNat s) < 0 := by simp
    split at h
    · injection h with h; subst h
      simp only [binOp, Op.shift, if_neg h0, wrapF_eq, h2]
      rfl
    · injection h with h; subst h
      simp only [binOp, Op.shift, if_neg h0, shrN_eq]
      rfl
    · cases h
end
end Go.Rn
