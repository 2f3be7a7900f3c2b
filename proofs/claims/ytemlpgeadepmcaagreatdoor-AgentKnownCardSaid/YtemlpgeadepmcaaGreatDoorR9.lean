/-
  A part of a proved evaluator for closed runs. No conditions.
-/
import Derived.Test.YtemlpgeadepmcaaGreatDoorZ0
namespace Go.Rn
open Go Go.RowKit
set_option linter.unusedVariables false

/-! ### slices, maps, functions: the evaluation -/
def natOf : AV → Option Nat
  | .g (.s (.v (.int _ (.ofNat n)))) => some n
  | _ => none

def natOr (d : Nat) : Option AV → Option Nat
  | none => some d
  | some x => natOf x

/-- Bounds: a length, what a bound may be at most, whether there may be more. -/
def boundsK {β : Type} (bad : β) (len cap : Nat) (lo hi mx : Option AV) (K : Nat → Nat → Nat → β) : β :=
  match hi, mx with
  | none, some _ => bad
  | _, _ => match natOr cap mx with
    | some m => match Nat.ble m cap with
      | true => match natOr len hi with
        | some h => match Nat.ble h m with
          | true => match natOr 0 lo with
            | some l => match Nat.ble l h with
              | true => K l h m
              | false => bad
            | none => bad
          | false => bad
        | none => bad
      | false => bad
    | none => bad

def slK {β : Type} (k off len cap : Nat) (op : Bool) (K : AV → β) : β := forceN off fun off => forceN len fun len => forceN cap fun cap => K (.g (.s (.s k off len cap op)))

def isN {α : Type} : Option α → Bool
  | none => true
  | some _ => false

def slA {β : Type} (k off sz : Nat) (K : AV → β) (l h m : Nat) : β := match Nat.beq m l with
  | true => slK k off (h - l) (m - l) false K
  | false => slK k (off + l * sz) (h - l) (m - l) false K

def slB {β : Type} (k off sz cap : Nat) (K : AV → β) (l h m : Nat) : β := match Nat.beq l cap with
  | true => forceN (off + l * sz) fun o => K (.g (.s (.z k off o)))
  | false => slK k (off + l * sz) (h - l) (m - l) true K

def slF {β : Type} (k off sz cap : Nat) (op n : Bool) (K : AV → β) : Nat → Nat → Nat → β := match op, n with
  | true, true => slB k off sz cap K
  | _, _ => slA k off sz K

def orE (mx : Option AV) (a b : Nat) : Nat := match mx with
  | none => a
  | some _ => b

def pSlice {β : Type} (tb : Tab) (bad : β) (T : TypeId) (x : AV) (lo hi mx : Option AV) (K : AV → β) : β := match tb.ty T with
  | some i => match i.desc, x with
    | .array n e, .g (.s (.p k off)) => match tb.ty e with
      | some j => boundsK bad n n lo hi mx (slA k off j.sz K)
      | none => bad
    | .slice e, .g (.s (.s k off len cap op)) => match tb.ty e with
      | some j => boundsK bad len cap lo hi mx (slF k off j.sz cap op (isN mx) K)
      | none => bad
    | .slice e, .g (.s (.z k o1 o2)) => match tb.ty e, isN mx with
      | some j, true => boundsK bad 0 0 lo hi mx fun _ _ _ => K (.g (.s (.z k o1 o2)))
      | _, _ => bad
    | .slice e, .g (.s (.v (.slice none 0 0))) => match tb.ty e with
      | some j => boundsK bad 0 0 lo hi mx fun _ _ _ => K (.sc (.slice none 0 0))
      | none => bad
    | _, _ => bad
  | none => bad

/-- So many times a row. -/
def T.repK {β : Type} (bad : β) : Nat → T → Nat → (T → β) → β
  | 0, _, _, _ => bad
  | f + 1, t, n, K => match n with
    | 0 => K .nl
    | n + 1 => match (n + 1) % 2 with
      | 0 => T.repK bad f t ((n + 1) / 2) fun h => h.catK h K
      | _ + 1 => T.repK bad f t ((n + 1) / 2) fun h => h.catK h fun g => g.catK t K

def elemOf (tb : Tab) (T : TypeId) : Option (TypeId × TI) := match tb.ty T with
  | some i => match i.desc with
    | .slice e => match tb.ty e with
      | some j => some (e, j)
      | none => none
    | _ => none
  | none => none

def evBuildSlice (tb : Tab) (T : TypeId) (len : Nat) (ps : List (Nat × AV)) (K : AV → M) : M := match elemOf tb T with
  | some (e, j) => match Nat.ble (len * j.sz) 65536 with
    | true => Rn.T.repK .fail 64 j.zero len fun z => layP .fail (fun n => some (n * j.sz, j.sz)) ps z fun t => .new (.c e t false) fun k => K (.g (.s (.s k 0 len len false)))
    | false => .fail
  | none => .fail

def evMakeSlice (tb : Tab) (T : TypeId) (len cap : AV) (K : AV → M) : M := match elemOf tb T, natOf len, natOf cap with
  | some (e, j), some l, some c => match Nat.ble l c && Nat.ble (c * j.bytes) 281474976710656 && Nat.ble c 9223372036854775807 with
    | true => Rn.T.repK .fail 64 j.zero c fun t => .new (.c e t false) fun k => K (.g (.s (.s k 0 l c false)))
    | false => .fail
  | _, _, _ => .fail

/-- The cells of a slice. -/
def cellsK (x : AV) (sz n : Nat) (K : T → M) : M := match x with
  | .g (.s (.v (.slice none 0 0))) => match n with
    | 0 => K .nl
    | _ + 1 => .fail
  | .g (.s (.z _ _ _)) => match n with
    | 0 => K .nl
    | _ + 1 => .fail
  | .g (.s (.s k off _ _ _)) => .rd k fun b => match b with
    | .c _ t _ => t.cutK off (n * sz) fun d => match Nat.beq d.size (n * sz) with
      | true => K d
      | false => .fail
    | .gl t => t.cutK off (n * sz) fun d => match Nat.beq d.size (n * sz) with
      | true => K d
      | false => .fail
    | _ => .fail
  | _ => .fail

def lenS : AV → Option Nat
  | .g (.s (.v (.slice none 0 0))) => some 0
  | .g (.s (.z _ _ _)) => some 0
  | .g (.s (.s _ _ len _ _)) => some len
  | _ => none

def isIntT (tb : Tab) (T : TypeId) : Option Bool := match tb.ty T with
  | some i => match i.desc with
    | .int _ => some true
    | _ => some false
  | none => none

/-- A new row for what is appended to. -/
def newRowK (e : TypeId) (old new : T) (need : Nat) (K : AV → M) : M := old.catK new fun t => .new (.c e t true) fun k => forceN need fun need => K (.g (.s (.s k 0 need need true)))

def evAppend (tb : Tab) (T U : TypeId) (s x : AV) (K : AV → M) : M := match elemOf tb T, isIntT tb U, lenS x with
  | some (e, j), some false, some n => match n with
    | 0 => match s with
      | .g (.s (.v (.slice none 0 0))) => K s
      | .g (.s (.s _ _ len cap _)) => match Nat.ble len cap with
        | true => K s
        | false => .fail
      | .g (.s (.z _ _ _)) => K s
      | _ => .fail
    | n1 + 1 => cellsK x j.sz (n1 + 1) fun new => match s with
      | .g (.s (.v (.slice none 0 0))) => match Nat.ble ((n1 + 1) * (j.bytes + 1)) 1073741824 with
        | true => newRowK e .nl new (n1 + 1) K
        | false => .fail
      | .g (.s (.z k _ o2)) => match Nat.ble ((n1 + 1) * (j.bytes + 1)) 1073741824 with
        | true => .rd k fun b => match b with
          | .c ty t true => match Nat.beq ty e && Nat.beq o2 t.size with
            | true => .wr k none (newRowK e .nl new (n1 + 1) K)
            | false => .fail
          | _ => .fail
        | false => .fail
      | .g (.s (.s k off len cap op)) => forceN (len + (n1 + 1)) fun need => match Nat.ble need cap with
        | true => .rd k fun b => match b with
          | .c ty t o => match Nat.ble (off + len * j.sz + new.size) t.size with
            | true => t.layK (off + len * j.sz) new fun t' => .wr k (some (.c ty t' o)) (slK k off need cap op K)
            | false => .fail
          | _ => .fail
        | false => match Nat.ble (need * (j.bytes + 1)) 1073741824 with
          | true => cellsK s j.sz len fun old => match op with
            | false => newRowK e old new need K
            | true => .rd k fun b => match b with
              | .c ty t true => match Nat.beq ty e && (Nat.beq (off + cap * j.sz) t.size && Nat.ble len cap) with
                | true => .wr k none (newRowK e old new need K)
                | false => .fail
              | _ => .fail
          | false => .fail
      | _ => .fail
  | _, _, _ => .fail

def evCopy (tb : Tab) (T : TypeId) (d x : AV) (K : AV → M) : M := match elemOf tb T, lenS d, lenS x with
  | some (e, j), some m, some n => forceN (min n m) fun c => match c with
    | 0 => K (.i .i64 (.ofNat 0))
    | c + 1 => cellsK x j.sz (c + 1) fun new => match d with
      | .g (.s (.s k off _ _ _)) => .rd k fun b => match b with
        | .c ty t o => match Nat.ble (off + new.size) t.size with
          | true => t.layK off new fun t' => .wr k (some (.c ty t' o)) (K (.i .i64 (.ofNat (c + 1))))
          | false => .fail
        | _ => .fail
      | _ => .fail
  | _, _, _ => .fail

def evLen (tb : Tab) (T : TypeId) (x : AV) (K : AV → M) : M := match tb.ty T with
  | some i => match i.desc, x with
    | .slice _, x => match lenS x with
      | some n => K (.i .i64 (.ofNat n))
      | none => .fail
    | .array n _, _ => K (.i .i64 (.ofNat n))
    | .string, .g (.s (.v (.string s))) => forceN s.data.toList.length fun n => K (.i .i64 (.ofNat n))
    | .map _ _, .g (.s (.v (.map none))) => K (.i .i64 (.ofNat 0))
    | .map _ _, .g (.s (.m k)) => .rd k fun b => match b with
      | .mp es _ => forceN es.length fun n => K (.i .i64 (.ofNat n))
      | _ => .fail
    | _, _ => .fail
  | none => .fail

/-! maps by whole numbers -/
def keyTy (tb : Tab) (T : TypeId) : Option TI := match tb.ty T with
  | some i => match i.desc with
    | .map k e => match tb.ty k, tb.ty e with
      | some kd, some j => match kd.desc with
        | .int _ => some j
        | _ => none
      | _, _ => none
    | _ => none
  | none => none

def findI (q : IntKind) (n : Int) : List (GV × GV × Nat) → Nat → Option (Option (Nat × GV))
  | [], _ => some none
  | (.s (.v (.int q' m)), v, _) :: es, i => match eqK q q' with
    | true => match eqF n m with
      | true => some (some (i, v))
      | false => findI q n es (i + 1)
    | false => none
  | _, _ => none

def zeroG (j : TI) : Option GV := match j.agg with
  | true => some (.a j.zero)
  | false => match j.zero with
    | .lf x => some (.s x)
    | _ => none

def finLk (j : TI) (ok : Bool) (K : AV → M) (r : Option (Nat × GV)) : M := match r with
  | some (_, v) => match ok with
    | true => K (.tu [v, .s (.v (.bool true))])
    | false => K (.g v)
  | none => match zeroG j with
    | some z => match ok with
      | true => K (.tu [z, .s (.v (.bool false))])
      | false => K (.g z)
    | none => .fail

def evLookup (tb : Tab) (T : TypeId) (x ix : AV) (ok : Bool) (K : AV → M) : M := match keyTy tb T, ix with
  | some j, .g (.s (.v (.int q n))) => match x with
    | .g (.s (.v (.map none))) => finLk j ok K none
    | .g (.s (.m k)) => .rd k fun b => match b with
      | .mp es _ => match findI q n es 0 with
        | some r => finLk j ok K r
        | none => .fail
      | _ => .fail
    | _ => .fail
  | _, _ => .fail

def setNth {α : Type} : List α → Nat → (α → α) → List α
  | [], _, _ => []
  | x :: l, n, f => match n with
    | 0 => f x :: l
    | n + 1 => x :: setNth l n f

def evMapUpdate (tb : Tab) (T : TypeId) (m key v : AV) (K : AV → M) : M := match keyTy tb T, m, key, v with
  | some j, .g (.s (.m k)), .g (.s (.v (.int q n))), .g v => .rd k fun b => match b with
    | .mp es clock => match findI q n es 0 with
      | some (some (i, _)) => .wr k (some (.mp (setNth es i fun e => (e.1, v, e.2.2)) clock)) (K .un)
      | some none => forceN (clock + 1) fun c => .wr k (some (.mp (es ++ [(.s (.v (.int q n)), v, clock)]) c)) (K .un)
      | none => .fail
    | _ => .fail
  | _, _, _, _ => .fail

def capsOf : List AV → Option (List (Nat × Nat))
  | [] => some []
  | .g (.s (.p k off)) :: r => match capsOf r with
    | some l => some ((k, off) :: l)
    | none => none
  | _ => none

def evNilCheck {β : Type} (bad : β) (x : AV) (K : AV → β) : β := match x with
  | .g (.s (.p k off)) => K x
  | .g (.s (.f _ _)) => K x
  | .g (.s (.y _)) => K x
  | _ => bad

inductive Tgt where
  | fn (f : FuncId)
  | y (l : Nat)

abbrev CallF := Tgt → List AV → (AV → M) → M

def capAV (c : Nat × Nat) : AV := .p c.1 c.2

def evCall (tb : Tab) (call : CallF) (u : Operand → AV) (c : Call) (K : AV → M) : M := match c.callee with
  | .value f => match u f with
    | .g (.s (.f fn cap)) => call (.fn fn) (c.args.toList.map u ++ cap.map capAV) K
    | .g (.s (.y l)) => call (.y l) (c.args.toList.map u) K
    | _ => .fail
  | .invoke _ _ => .fail
  | .builtin b => match b, c.args.toList, c.argTypes.toList with
    | .append, [s, x], [T, U] => evAppend tb T U (u s) (u x) K
    | .copy, [d, x], T :: _ => evCopy tb T (u d) (u x) K
    | .len, [x], [T] => evLen tb T (u x) K
    | .max, [x, y], _ => pMinMax .fail .max (u x) (u y) K
    | .min, [x, y], _ => pMinMax .fail .min (u x) (u y) K
    | _, _, _ => .fail

def evOp (P : Program) (tb : Tab) (call : CallF) (u : Operand → AV) (op : Op) (K : AV → M) : M := match op with
  | .move x => K (u x)
  | .assign x => K (u x)
  | .pick c a b => match u c with
    | .g (.s (.v (.bool true))) => K (u a)
    | .g (.s (.v (.bool false))) => K (u b)
    | _ => .fail
  | .alloc T => evAlloc tb T K
  | .box T x => evBox T (u x) K
  | .build T ps => pBuild tb .fail T (ps.toList.map fun q => (q.1, u q.2)) K
  | .buildSlice T n ps => evBuildSlice tb T n (ps.toList.map fun q => (q.1, u q.2)) K
  | .load T x => evLoad tb T (u x) K
  | .store T x y => evStore tb T (u x) (u y) K
  | .nilCheck x => evNilCheck .fail (u x) K
  | .binOp op t x y _ => pBin P tb .fail op t (u x) (u y) K
  | .unOp op _ x => pUn .fail op (u x) K
  | .convert s d x => pConv tb .fail s d (u x) K
  | .makeFunc (.func f) fi cap => match fi.size with
    | 0 => match capsOf (cap.toList.map u) with
      | some l => K (.g (.s (.f f l)))
      | none => .fail
    | _ + 1 => .fail
  | .makeMap T none => .new (.mp [] 0) fun k => K (.g (.s (.m k)))
  | .makeSlice T l c => evMakeSlice tb T (u l) (u c) K
  | .slice T x lo hi mx => pSlice tb .fail T (u x) (lo.map u) (hi.map u) (mx.map u) K
  | .fieldAddr T x f => pFieldAddr tb .fail T (u x) f K
  | .field T x f => pField tb .fail T f (u x) K
  | .indexAddr T x i => pIndexAddr tb .fail T (u x) (u i) K
  | .index T x i => pIndex tb .fail T (u x) (u i) K
  | .lookup T x i ok => evLookup tb T (u x) (u i) ok K
  | .mapUpdate T m k x => evMapUpdate tb T (u m) (u k) (u x) K
  | .extract x i => pExtract .fail (u x) i K
  | .call c => evCall tb call u c K
  | _ => .fail

/-! ### frames -/
def allOne : List Value → Bool
  | [] => true
  | v :: l => v.oneCell' && allOne l

def constAV (v : Value) : AV := match v.oneCell' with
  | true => .sc v
  | false => match v with
    | .agg cs => match allOne cs.toList with
      | true => T.balK .any 64 cs.toList.length (cs.toList.map .v) fun t _ => .g (.a t)
      | false => .any
    | _ => .any

def use (tb : Tab) (tm : Tr AV) : Operand → AV
  | .tmp t => match tm.get t with
    | some x => x
    | none => .any
  | .const v => constAV v
  | .global g => match tb.gl g with
    | some k => .p k 0
    | none => .any
  | .func f => .g (.s (.f f []))

def putK (nt : Nat) (tm : Tr AV) (d : Option Nat) (v : AV) (K : Tr AV → M) : M := match d with
  | none => K tm
  | some d => match Nat.blt d nt with
    | true => Tr.setK .fail 64 tm d (some v) K
    | false => .fail

/-- Is an operation carried out? -/
def wants (all : List Oper) (tm : Tr AV) (g : Option (Nat × Bool)) : Option Bool := match g with
  | none => some true
  | some (j, want) => match nth all j with
    | some o => match o.dst with
      | some d => match tm.get d with
        | some (.g (.s (.v (.bool true)))) => some want
        | some (.g (.s (.v (.bool false)))) => some (match want with | true => false | false => true)
        | some (.tu _) => some false
        | _ => none
      | none => none
    | none => none

section
variable (P : Program) (tb : Tab) (call : CallF) (nt : Nat)

def evOps (all : List Oper) : List Oper → Tr AV → (Tr AV → M) → M
  | [], tm, K => K tm
  | o :: l, tm, K => match wants all tm o.guard with
    | some true => evOp P tb call (use tb tm) o.op fun v => putK nt tm o.dst v fun tm => evOps all l tm K
    | some false => putK nt tm o.dst .un fun tm => evOps all l tm K
    | none => .fail

/-! regions that draw their order -/
def clash : Tr Bool → Tr Bool → Bool
  | .nl, _ => false
  | .nd v l r, b => match b with
    | .nl => false
    | .nd v' l' r' => match v, v' with
      | some true, some _ => true
      | some _, some true => true
      | _, _ => match clash l l' with
        | true => true
        | false => clash r r'

/-- Those that go ahead of each, as bits. -/
def bitsOf (acc : List Nat) (n : Nat) : List Edge → Nat → Nat
  | [], s => s
  | e :: l, s => match Region.binds .any e && Nat.blt e.on n with
    | true => bitsOf acc n l (Nat.lor s (Nat.lor (Nat.pow 2 e.on) (match nth acc (n - 1 - e.on) with | some m => m | none => 0)))
    | false => bitsOf acc n l s

def befL : List Oper → Nat → List Nat → List Nat
  | [], _, acc => acc
  | o :: l, n, acc => forceN (bitsOf acc n o.after.toList 0) fun b => befL l (n + 1) (b :: acc)

def edgesOk1 (i : Nat) : List Edge → Bool
  | [] => true
  | e :: l => match Region.binds .any e with
    | true => Nat.blt e.on i && edgesOk1 i l
    | false => edgesOk1 i l

def edgesOk : List Oper → Nat → Bool
  | [], _ => true
  | o :: l, i => edgesOk1 i o.after.toList && edgesOk l (i + 1)

/-- The logs so far, the last first; none clashes with the new one but where it has to go ahead. -/
def logsOk (lg : Tr Bool) (bef : Nat) : List (Tr Bool) → Nat → Bool
  | [], _ => true
  | l :: ls, j => match clash l lg with
    | true => match Nat.testBit bef (j - 1) with
      | true => logsOk lg bef ls (j - 1)
      | false => false
    | false => logsOk lg bef ls (j - 1)

def looksT (all : List Oper) (o : Oper) : List Nat :=
  (match o.guard with
    | some (j, _) => match nth all j with
      | some g => match g.dst with
        | some d => [d]
        | none => []
      | none => []
    | none => []) ++ o.op.operands.toList.filterMap fun x => match x with
      | .tmp t => some t
      | _ => none

def memN (x : Nat) : List Nat → Bool
  | [] => false
  | y :: l => match Nat.beq x y with
    | true => true
    | false => memN x l

def dstIn (d : Option Nat) (l : List Nat) : Bool := match d with
  | none => false
  | some d => memN d l

def tmClash (all : List Oper) (a b : Oper) : Bool := dstIn a.dst (looksT all b) || dstIn b.dst (looksT all a) || (match a.dst, b.dst with | some x, some y => Nat.beq x y | _, _ => false)

def tmOk1 (all : List Oper) (o : Oper) (bef i : Nat) : List Oper → Nat → Bool
  | [], _ => true
  | a :: l, j => match Nat.blt j i with
    | false => true
    | true => match Nat.testBit bef j with
      | true => tmOk1 all o bef i l (j + 1)
      | false => match tmClash all a o with
        | true => false
        | false => tmOk1 all o bef i l (j + 1)

/-- Temporaries: whoever sets one goes ahead of, or behind, whoever looks at it. -/
def tmOk (all : List Oper) : List Oper → List Nat → Nat → Bool
  | [], _, _ => true
  | o :: rest, bs, i => match bs with
    | [] => false
    | b :: bs => tmOk1 all o b i all 0 && tmOk all rest bs (i + 1)

def befs (all : List Oper) : List Nat := (befL all 0 []).reverse

def drawSt (all : List Oper) : Bool := edgesOk all 0 && tmOk all all (befs all) 0

def evDraw (all : List Oper) : List Oper → List Nat → Nat → List (Tr Bool) → Tr AV → (Tr AV → M) → M
  | [], _, _, _, tm, K => K tm
  | o :: l, bs, i, lgs, tm, K => match bs with
    | [] => .fail
    | b :: bs => match wants all tm o.guard with
      | some true => .sub (evOp P tb call (use tb tm) o.op fun v => .ret (.v v)) fun v lg => match logsOk lg b lgs i with
        | true => putK nt tm o.dst v fun tm => evDraw all l bs (i + 1) (lg :: lgs) tm K
        | false => .fail
      | some false => putK nt tm o.dst .un fun tm => evDraw all l bs (i + 1) (.nl :: lgs) tm K
      | none => .fail
end

def loopM : Nat → (Tr AV → List Nat → (Ex → Tr AV → List Nat → M) → M) → Tr AV → List Nat → (Ex → Tr AV → List Nat → M) → M
  | 0, _, _, _, _ => .fail
  | n + 1, b, tm, df, K => b tm df fun e tm df => match e with
    | .norm => loopM n b tm df K
    | e => K e tm df

def putAll : List Tmp → List AV → Nat → Tr AV → (Tr AV → M) → M
  | [], [], _, tm, K => K tm
  | t :: ts, v :: vs, nt, tm, K => putK nt tm (some t) v fun tm => putAll ts vs nt tm K
  | _, _, _, _, _ => .fail

/-- The end of a loop over a function. -/
def endLoopM (l : Nat) (tm : Tr AV) (df : List Nat) (K : Ex → Tr AV → List Nat → M) : M := .rd l fun b => match b with
  | .lp r => match r.st with
    | .busy => .fail
    | _ => .wr l (some (.lp { r with st := .exhausted })) (match r.pend with
      | none => K .norm tm df
      | some .ret => K .ret tm df
      | some (.exit id) => K (.out id) tm df
      | _ => .fail)
  | _ => .fail

def ev (P : Program) (tb : Tab) (call : CallF) (fid nt : Nat) (ro : Option Nat) : Code → Tr AV → List Nat → (Ex → Tr AV → List Nat → M) → M
  | .skip, tm, df, K => K .norm tm df
  | .label _, tm, df, K => K .norm tm df
  | .region _ ops draw, tm, df, K => match draw with
    | false => evOps P tb call nt ops.toList ops.toList tm fun tm => K .norm tm df
    | true => match drawSt ops.toList with
      | true => evDraw P tb call nt ops.toList ops.toList (befs ops.toList) 0 [] tm fun tm => K .norm tm df
      | false => .fail
  | .seq a b, tm, df, K => ev P tb call fid nt ro a tm df fun e tm df => match e with
    | .norm => ev P tb call fid nt ro b tm df K
    | e => K e tm df
  | .cond c a b, tm, df, K => match use tb tm c with
    | .g (.s (.v (.bool true))) => ev P tb call fid nt ro a tm df K
    | .g (.s (.v (.bool false))) => ev P tb call fid nt ro b tm df K
    | _ => .fail
  | .block id c, tm, df, K => ev P tb call fid nt ro c tm df fun e tm df => match e with
    | .out i => match Nat.beq i id with
      | true => K .norm tm df
      | false => K (.out i) tm df
    | e => K e tm df
  | .loop c, tm, df, K => loopM 1000000 (ev P tb call fid nt ro c) tm df K
  | .rangeFunc f ps a b, tm, df, K => match use tb tm f with
    | .g (.s (.f fn cap)) =>
      let go : Nat → List Nat → M := fun r df => .new (.lp ⟨.ready, none, fid, tm, nt, ps, a, b, r⟩) fun l => call (.fn fn) (.g (.s (.y l)) :: cap.map capAV) fun _ => endLoopM l tm df K
      match ro with
      | none => .new (.df true) fun r => go r (r :: df)
      | some l0 => .rd l0 fun b => match b with
        | .lp r => go r.df df
        | _ => .fail
    | _ => .fail
  | .exit i, tm, df, K => K (.out i) tm df
  | .scope c, tm, df, K => ev P tb call fid nt ro c tm df K
  | .ret, tm, df, K => K .ret tm df
  | _, _, _, _ => .fail

/-- The calls that were put off: none. -/
def leaveM : List Nat → M → M
  | [], m => m
  | r :: l, m => .rd r fun b => match b with
    | .df true => .wr r (some (.df false)) (leaveM l m)
    | _ => .fail

def resM (tb : Tab) (tm : Tr AV) : List ResultVar → (List GV → M) → M
  | [], K => K []
  | .tmp t :: r, K => match tm.get t with
    | some (.g x) => resM tb tm r fun l => K (x :: l)
    | _ => .fail
  | .cell t T :: r, K => match tm.get t, tb.ty T with
    | some (.g (.s (.p k off))), some i => .rd k fun b => match b with
      | .c _ t _ => ldT .fail i t off fun x => resM tb tm r fun l => K (x :: l)
      | _ => .fail
    | _, _ => .fail

def resAV : List GV → AV
  | [x] => .g x
  | l => .tu l

/-- How a round ends. -/
def endRoundM (l : Nat) (e : Ex) (K : AV → M) : M := .rd l fun b => match b with
  | .lp r => match e with
    | .norm => .wr l (some (.lp { r with st := .ready, pend := none })) (K (.b true))
    | .ret => .wr l (some (.lp { r with st := .done, pend := some .ret })) (K (.b false))
    | .out id => .wr l (some (.lp { r with st := .done, pend := some (.exit id) })) (K (.b false))
  | _ => .fail

/-- A round of a loop over a function. -/
def roundM (P : Program) (tb : Tab) (call : CallF) (l : Nat) (args : List AV) (K : AV → M) : M := .rd l fun b => match b with
  | .lp r => putAll r.ps.toList args r.nt r.tm fun tm => ev P tb call r.fn r.nt (some l) r.asg tm [] fun e tm df => match e with
    | .norm => match df with
      | [] => .rd l fun b => match b with
        | .lp r1 => match r1.st with
          | .ready => .wr l (some (.lp { r1 with st := .busy })) (ev P tb call r.fn r.nt (some l) r.body tm [] fun e _ _ => endRoundM l e K)
          | _ => .fail
        | _ => .fail
      | _ => .fail
    | _ => .fail
  | _ => .fail

def callN (P : Program) (tb : Tab) : Nat → CallF
  | 0, _, _, _ => .fail
  | n + 1, .fn f, args, K => match tb.fn f with
    | some fn => match fn.body with
      | some c => putAll (List.range args.length) args fn.ntmps .nl fun tm => ev P tb (callN P tb n) f fn.ntmps none c tm [] fun e tm df => match e with
        | .out _ => .fail
        | _ => leaveM df (resM tb tm fn.results.toList fun l => K (resAV l))
      | none => .fail
    | none => .fail
  | n + 1, .y l, args, K => roundM P tb (callN P tb n) l args K

/-! ### the evaluation, in one thread -/
abbrev CallZ := Tgt → List AV → (AV → Z) → Z

def evAllocZ (tb : Tab) (T : TypeId) (K : AV → Z) : Z := match tb.ty T with
  | some i => newZ (.c T i.zero false) fun k => K (.p k 0)
  | none => failZ

def evBoxZ (T : TypeId) (x : AV) (K : AV → Z) : Z := match x with
  | .g x => newZ (.c T x.tree false) fun k => K (.p k 0)
  | _ => failZ

def evLoadZ (tb : Tab) (T : TypeId) (x : AV) (K : AV → Z) : Z := match x with
  | .g (.s (.p k off)) => match tb.ty T with
    | some i => rdZ k fun b => match b with
      | .c _ t _ => ldT failZ i t off fun x => K (.g x)
      | .gl t => ldT failZ i t off fun x => K (.g x)
      | _ => failZ
    | none => failZ
  | _ => failZ

def evStoreZ (tb : Tab) (T : TypeId) (x y : AV) (K : AV → Z) : Z := match x, y with
  | .g (.s (.p k off)), .g y => match tb.ty T with
    | some i => match Nat.beq y.tree.size i.sz with
      | true => rdZ k fun b => match b with
        | .c ty t op => match Nat.ble (off + y.tree.size) t.size with
          | true => t.layK off y.tree fun t' => wrZ k (some (.c ty t' op)) (K .un)
          | false => failZ
        | _ => failZ
      | false => failZ
    | none => failZ
  | _, _ => failZ

def evBuildSliceZ (tb : Tab) (T : TypeId) (len : Nat) (ps : List (Nat × AV)) (K : AV → Z) : Z := match elemOf tb T with
  | some (e, j) => match Nat.ble (len * j.sz) 65536 with
    | true => Rn.T.repK failZ 64 j.zero len fun z => layP failZ (fun n => some (n * j.sz, j.sz)) ps z fun t => newZ (.c e t false) fun k => K (.g (.s (.s k 0 len len false)))
    | false => failZ
  | none => failZ

def evMakeSliceZ (tb : Tab) (T : TypeId) (len cap : AV) (K : AV → Z) : Z := match elemOf tb T, natOf len, natOf cap with
  | some (e, j), some l, some c => match Nat.ble l c && Nat.ble (c * j.bytes) 281474976710656 && Nat.ble c 9223372036854775807 with
    | true => Rn.T.repK failZ 64 j.zero c fun t => newZ (.c e t false) fun k => K (.g (.s (.s k 0 l c false)))
    | false => failZ
  | _, _, _ => failZ

def cellsKZ (x : AV) (sz n : Nat) (K : T → Z) : Z := match x with
  | .g (.s (.v (.slice none 0 0))) => match n with
    | 0 => K .nl
    | _ + 1 => failZ
  | .g (.s (.z _ _ _)) => match n with
    | 0 => K .nl
    | _ + 1 => failZ
  | .g (.s (.s k off _ _ _)) => rdZ k fun b => match b with
    | .c _ t _ => t.cutK off (n * sz) fun d => match Nat.beq d.size (n * sz) with
      | true => K d
      | false => failZ
    | .gl t => t.cutK off (n * sz) fun d => match Nat.beq d.size (n * sz) with
      | true => K d
      | false => failZ
    | _ => failZ
  | _ => failZ

def newRowKZ (e : TypeId) (old new : T) (need : Nat) (K : AV → Z) : Z := old.catK new fun t => newZ (.c e t true) fun k => forceN need fun need => K (.g (.s (.s k 0 need need true)))

def evAppendZ (tb : Tab) (T U : TypeId) (s x : AV) (K : AV → Z) : Z := match elemOf tb T, isIntT tb U, lenS x with
  | some (e, j), some false, some n => match n with
    | 0 => match s with
      | .g (.s (.v (.slice none 0 0))) => K s
      | .g (.s (.s _ _ len cap _)) => match Nat.ble len cap with
        | true => K s
        | false => failZ
      | .g (.s (.z _ _ _)) => K s
      | _ => failZ
    | n1 + 1 => cellsKZ x j.sz (n1 + 1) fun new => match s with
      | .g (.s (.v (.slice none 0 0))) => match Nat.ble ((n1 + 1) * (j.bytes + 1)) 1073741824 with
        | true => newRowKZ e .nl new (n1 + 1) K
        | false => failZ
      | .g (.s (.z k _ o2)) => match Nat.ble ((n1 + 1) * (j.bytes + 1)) 1073741824 with
        | true => rdZ k fun b => match b with
          | .c ty t true => match Nat.beq ty e && Nat.beq o2 t.size with
            | true => wrZ k none (newRowKZ e .nl new (n1 + 1) K)
            | false => failZ
          | _ => failZ
        | false => failZ
      | .g (.s (.s k off len cap op)) => forceN (len + (n1 + 1)) fun need => match Nat.ble need cap with
        | true => rdZ k fun b => match b with
          | .c ty t o => match Nat.ble (off + len * j.sz + new.size) t.size with
            | true => t.layK (off + len * j.sz) new fun t' => wrZ k (some (.c ty t' o)) (slK k off need cap op K)
            | false => failZ
          | _ => failZ
        | false => match Nat.ble (need * (j.bytes + 1)) 1073741824 with
          | true => cellsKZ s j.sz len fun old => match op with
            | false => newRowKZ e old new need K
            | true => rdZ k fun b => match b with
              | .c ty t true => match Nat.beq ty e && (Nat.beq (off + cap * j.sz) t.size && Nat.ble len cap) with
                | true => wrZ k none (newRowKZ e old new need K)
                | false => failZ
              | _ => failZ
          | false => failZ
      | _ => failZ
  | _, _, _ => failZ

def evCopyZ (tb : Tab) (T : TypeId) (d x : AV) (K : AV → Z) : Z := match elemOf tb T, lenS d, lenS x with
  | some (e, j), some m, some n => forceN (min n m) fun c => match c with
    | 0 => K (.i .i64 (.ofNat 0))
    | c + 1 => cellsKZ x j.sz (c + 1) fun new => match d with
      | .g (.s (.s k off _ _ _)) => rdZ k fun b => match b with
        | .c ty t o => match Nat.ble (off + new.size) t.size with
          | true => t.layK off new fun t' => wrZ k (some (.c ty t' o)) (K (.i .i64 (.ofNat (c + 1))))
          | false => failZ
        | _ => failZ
      | _ => failZ
  | _, _, _ => failZ

def evLenZ (tb : Tab) (T : TypeId) (x : AV) (K : AV → Z) : Z := match tb.ty T with
  | some i => match i.desc, x with
    | .slice _, x => match lenS x with
      | some n => K (.i .i64 (.ofNat n))
      | none => failZ
    | .array n _, _ => K (.i .i64 (.ofNat n))
    | .string, .g (.s (.v (.string s))) => forceN s.data.toList.length fun n => K (.i .i64 (.ofNat n))
    | .map _ _, .g (.s (.v (.map none))) => K (.i .i64 (.ofNat 0))
    | .map _ _, .g (.s (.m k)) => rdZ k fun b => match b with
      | .mp es _ => forceN es.length fun n => K (.i .i64 (.ofNat n))
      | _ => failZ
    | _, _ => failZ
  | none => failZ

def finLkZ (j : TI) (ok : Bool) (K : AV → Z) (r : Option (Nat × GV)) : Z := match r with
  | some (_, v) => match ok with
    | true => K (.tu [v, .s (.v (.bool true))])
    | false => K (.g v)
  | none => match zeroG j with
    | some z => match ok with
      | true => K (.tu [z, .s (.v (.bool false))])
      | false => K (.g z)
    | none => failZ

def evLookupZ (tb : Tab) (T : TypeId) (x ix : AV) (ok : Bool) (K : AV → Z) : Z := match keyTy tb T, ix with
  | some j, .g (.s (.v (.int q n))) => match x with
    | .g (.s (.v (.map none))) => finLkZ j ok K none
    | .g (.s (.m k)) => rdZ k fun b => match b with
      | .mp es _ => match findI q n es 0 with
        | some r => finLkZ j ok K r
        | none => failZ
      | _ => failZ
    | _ => failZ
  | _, _ => failZ

def evMapUpdateZ (tb : Tab) (T : TypeId) (m key v : AV) (K : AV → Z) : Z := match keyTy tb T, m, key, v with
  | some j, .g (.s (.m k)), .g (.s (.v (.int q n))), .g v => rdZ k fun b => match b with
    | .mp es clock => match findI q n es 0 with
      | some (some (i, _)) => wrZ k (some (.mp (setNth es i fun e => (e.1, v, e.2.2)) clock)) (K .un)
      | some none => forceN (clock + 1) fun c => wrZ k (some (.mp (es ++ [(.s (.v (.int q n)), v, clock)]) c)) (K .un)
      | none => failZ
    | _ => failZ
  | _, _, _, _ => failZ

def putKZ (nt : Nat) (tm : Tr AV) (d : Option Nat) (v : AV) (K : Tr AV → Z) : Z := match d with
  | none => K tm
  | some d => match Nat.blt d nt with
    | true => Tr.setK failZ 64 tm d (some v) K
    | false => failZ

def loopMZ : Nat → (Tr AV → List Nat → (Ex → Tr AV → List Nat → Z) → Z) → Tr AV → List Nat → (Ex → Tr AV → List Nat → Z) → Z
  | 0, _, _, _, _ => failZ
  | n + 1, b, tm, df, K => b tm df fun e tm df => match e with
    | .norm => loopMZ n b tm df K
    | e => K e tm df

def putAllZ : List Tmp → List AV → Nat → Tr AV → (Tr AV → Z) → Z
  | [], [], _, tm, K => K tm
  | t :: ts, v :: vs, nt, tm, K => putKZ nt tm (some t) v fun tm => putAllZ ts vs nt tm K
  | _, _, _, _, _ => failZ

def endLoopMZ (l : Nat) (tm : Tr AV) (df : List Nat) (K : Ex → Tr AV → List Nat → Z) : Z := rdZ l fun b => match b with
  | .lp r => match r.st with
    | .busy => failZ
    | _ => wrZ l (some (.lp { r with st := .exhausted })) (match r.pend with
      | none => K .norm tm df
      | some .ret => K .ret tm df
      | some (.exit id) => K (.out id) tm df
      | _ => failZ)
  | _ => failZ

def leaveMZ : List Nat → Z → Z
  | [], m => m
  | r :: l, m => rdZ r fun b => match b with
    | .df true => wrZ r (some (.df false)) (leaveMZ l m)
    | _ => failZ

def resMZ (tb : Tab) (tm : Tr AV) : List ResultVar → (List GV → Z) → Z
  | [], K => K []
  | .tmp t :: r, K => match tm.get t with
    | some (.g x) => resMZ tb tm r fun l => K (x :: l)
    | _ => failZ
  | .cell t T :: r, K => match tm.get t, tb.ty T with
    | some (.g (.s (.p k off))), some i => rdZ k fun b => match b with
      | .c _ t _ => ldT failZ i t off fun x => resMZ tb tm r fun l => K (x :: l)
      | _ => failZ
    | _, _ => failZ

def endRoundMZ (l : Nat) (e : Ex) (K : AV → Z) : Z := rdZ l fun b => match b with
  | .lp r => match e with
    | .norm => wrZ l (some (.lp { r with st := .ready, pend := none })) (K (.b true))
    | .ret => wrZ l (some (.lp { r with st := .done, pend := some .ret })) (K (.b false))
    | .out id => wrZ l (some (.lp { r with st := .done, pend := some (.exit id) })) (K (.b false))
  | _ => failZ

/-! operands, one behind the other -/
abbrev UseZ := Operand → (AV → Z) → Z

def useZ (tb : Tab) (tm : Tr AV) (x : Operand) (K : AV → Z) : Z := match x with
  | .tmp t => tm.getK t fun o => match o with
    | some x => K x
    | none => K .any
  | .const v => K (constAV v)
  | .global g => match tb.gl g with
    | some k => K (.p k 0)
    | none => K .any
  | .func f => K (.g (.s (.f f [])))

def pairsZ (u : UseZ) : List (Nat × Operand) → (List (Nat × AV) → Z) → Z
  | [], K => K []
  | q :: r, K => u q.2 fun v => pairsZ u r fun l => K ((q.1, v) :: l)
def argsZ (u : UseZ) : List Operand → (List AV → Z) → Z
  | [], K => K []
  | x :: r, K => u x fun v => argsZ u r fun l => K (v :: l)
def optZ (u : UseZ) (x : Option Operand) (K : Option AV → Z) : Z := match x with
  | none => K none
  | some x => u x fun v => K (some v)

def callBZ (tb : Tab) (u : UseZ) (b : Builtin) (as : List Operand) (ts : List TypeId) (K : AV → Z) : Z := match b, as, ts with
  | .append, [s, x], [T, U] => u s fun s => u x fun x => evAppendZ tb T U s x K
  | .copy, [d, x], T :: _ => u d fun d => u x fun x => evCopyZ tb T d x K
  | .len, [x], [T] => u x fun x => evLenZ tb T x K
  | .max, [x, y], _ => u x fun x => u y fun y => pMinMax failZ .max x y K
  | .min, [x, y], _ => u x fun x => u y fun y => pMinMax failZ .min x y K
  | _, _, _ => failZ

def evCallZ (tb : Tab) (call : CallZ) (u : UseZ) (c : Call) (K : AV → Z) : Z := match c.callee with
  | .value f => u f fun f => match f with
    | .g (.s (.f fn cap)) => argsZ u c.args.toList fun l => call (.fn fn) (l ++ cap.map capAV) K
    | .g (.s (.y y)) => argsZ u c.args.toList fun l => call (.y y) l K
    | _ => failZ
  | .invoke _ _ => failZ
  | .builtin b => callBZ tb u b c.args.toList c.argTypes.toList K

def pickZ (u : UseZ) (a b : Operand) (K : AV → Z) (c : AV) : Z := match c with
  | .g (.s (.v (.bool true))) => u a K
  | .g (.s (.v (.bool false))) => u b K
  | _ => failZ

def makeFZ (u : UseZ) (f : FuncId) (n : Nat) (cap : List Operand) (K : AV → Z) : Z := match n with
  | 0 => argsZ u cap fun l => match capsOf l with
    | some l => K (.g (.s (.f f l)))
    | none => failZ
  | _ + 1 => failZ

def evOpZ (P : Program) (tb : Tab) (call : CallZ) (u : UseZ) (op : Op) (K : AV → Z) : Z := match op with
  | .move x => u x K
  | .assign x => u x K
  | .pick c a b => u c (pickZ u a b K)
  | .alloc T => evAllocZ tb T K
  | .box T x => u x fun x => evBoxZ T x K
  | .build T ps => pairsZ u ps.toList fun l => pBuild tb failZ T l K
  | .buildSlice T n ps => pairsZ u ps.toList fun l => evBuildSliceZ tb T n l K
  | .load T x => u x fun x => evLoadZ tb T x K
  | .store T x y => u x fun x => u y fun y => evStoreZ tb T x y K
  | .nilCheck x => u x fun x => evNilCheck failZ x K
  | .binOp op t x y _ => u x fun x => u y fun y => pBin P tb failZ op t x y K
  | .unOp op _ x => u x fun x => pUn failZ op x K
  | .convert s d x => u x fun x => pConv tb failZ s d x K
  | .makeFunc (.func f) fi cap => makeFZ u f fi.size cap.toList K
  | .makeMap T none => newZ (.mp [] 0) fun k => K (.g (.s (.m k)))
  | .makeSlice T l c => u l fun l => u c fun c => evMakeSliceZ tb T l c K
  | .slice T x lo hi mx => u x fun x => optZ u lo fun lo => optZ u hi fun hi => optZ u mx fun mx => pSlice tb failZ T x lo hi mx K
  | .fieldAddr T x f => u x fun x => pFieldAddr tb failZ T x f K
  | .field T x f => u x fun x => pField tb failZ T f x K
  | .indexAddr T x i => u x fun x => u i fun i => pIndexAddr tb failZ T x i K
  | .index T x i => u x fun x => u i fun i => pIndex tb failZ T x i K
  | .lookup T x i ok => u x fun x => u i fun i => evLookupZ tb T x i ok K
  | .mapUpdate T m k x => u m fun m => u k fun k => u x fun x => evMapUpdateZ tb T m k x K
  | .extract x i => u x fun x => pExtract failZ x i K
  | .call c => evCallZ tb call u c K
  | _ => failZ


section
variable (P : Program) (tb : Tab) (call : CallZ) (nt : Nat)

def evOpsZ (all : List Oper) : List Oper → Tr AV → (Tr AV → Z) → Z
  | [], tm, K => K tm
  | o :: l, tm, K => match wants all tm o.guard with
    | some true => evOpZ P tb call (useZ tb tm) o.op fun v => putKZ nt tm o.dst v fun tm => evOpsZ all l tm K
    | some false => putKZ nt tm o.dst .un fun tm => evOpsZ all l tm K
    | none => failZ

def evDrawZ (all : List Oper) : List Oper → List Nat → Nat → List (Tr Bool) → Tr AV → (Tr AV → Z) → Z
  | [], _, _, _, tm, K => K tm
  | o :: l, bs, i, lgs, tm, K => match bs with
    | [] => failZ
    | b :: bs => match wants all tm o.guard with
      | some true => subZ (evOpZ P tb call (useZ tb tm) o.op) fun v lg => match logsOk lg b lgs i with
        | true => putKZ nt tm o.dst v fun tm => evDrawZ all l bs (i + 1) (lg :: lgs) tm K
        | false => failZ
      | some false => putKZ nt tm o.dst .un fun tm => evDrawZ all l bs (i + 1) (.nl :: lgs) tm K
      | none => failZ
end

def condZ (a b : Z) (c : AV) : Z := match c with
  | .g (.s (.v (.bool true))) => a
  | .g (.s (.v (.bool false))) => b
  | _ => failZ

def rangeZ (call : CallZ) (fid nt : Nat) (ro : Option Nat) (ps : Array Tmp) (a b : Code) (tm : Tr AV) (df : List Nat) (K : Ex → Tr AV → List Nat → Z) (x : AV) : Z := match x with
    | .g (.s (.f fn cap)) =>
      let go : Nat → List Nat → Z := fun r df => newZ (.lp ⟨.ready, none, fid, tm, nt, ps, a, b, r⟩) fun l => call (.fn fn) (.g (.s (.y l)) :: cap.map capAV) fun _ => endLoopMZ l tm df K
      match ro with
      | none => newZ (.df true) fun r => go r (r :: df)
      | some l0 => rdZ l0 fun b => match b with
        | .lp r => go r.df df
        | _ => failZ
    | _ => failZ

def evZ (P : Program) (tb : Tab) (call : CallZ) (fid nt : Nat) (ro : Option Nat) : Code → Tr AV → List Nat → (Ex → Tr AV → List Nat → Z) → Z
  | .skip, tm, df, K => K .norm tm df
  | .label _, tm, df, K => K .norm tm df
  | .region _ ops draw, tm, df, K => match draw with
    | false => evOpsZ P tb call nt ops.toList ops.toList tm fun tm => K .norm tm df
    | true => match drawSt ops.toList with
      | true => evDrawZ P tb call nt ops.toList ops.toList (befs ops.toList) 0 [] tm fun tm => K .norm tm df
      | false => failZ
  | .seq a b, tm, df, K => evZ P tb call fid nt ro a tm df fun e tm df => match e with
    | .norm => evZ P tb call fid nt ro b tm df K
    | e => K e tm df
  | .cond c a b, tm, df, K => useZ tb tm c (condZ (evZ P tb call fid nt ro a tm df K) (evZ P tb call fid nt ro b tm df K))
  | .block id c, tm, df, K => evZ P tb call fid nt ro c tm df fun e tm df => match e with
    | .out i => match Nat.beq i id with
      | true => K .norm tm df
      | false => K (.out i) tm df
    | e => K e tm df
  | .loop c, tm, df, K => loopMZ 1000000 (evZ P tb call fid nt ro c) tm df K
  | .rangeFunc f ps a b, tm, df, K => useZ tb tm f (rangeZ call fid nt ro ps a b tm df K)
  | .exit i, tm, df, K => K (.out i) tm df
  | .scope c, tm, df, K => evZ P tb call fid nt ro c tm df K
  | .ret, tm, df, K => K .ret tm df
  | _, _, _, _ => failZ

def roundMZ (P : Program) (tb : Tab) (call : CallZ) (l : Nat) (args : List AV) (K : AV → Z) : Z := rdZ l fun b => match b with
  | .lp r => putAllZ r.ps.toList args r.nt r.tm fun tm => evZ P tb call r.fn r.nt (some l) r.asg tm [] fun e tm df => match e with
    | .norm => match df with
      | [] => rdZ l fun b => match b with
        | .lp r1 => match r1.st with
          | .ready => wrZ l (some (.lp { r1 with st := .busy })) (evZ P tb call r.fn r.nt (some l) r.body tm [] fun e _ _ => endRoundMZ l e K)
          | _ => failZ
        | _ => failZ
      | _ => failZ
    | _ => failZ
  | _ => failZ

def callNZ (P : Program) (tb : Tab) : Nat → CallZ
  | 0, _, _, _ => failZ
  | n + 1, .fn f, args, K => match tb.fn f with
    | some fn => match fn.body with
      | some c => putAllZ (List.range args.length) args fn.ntmps .nl fun tm => evZ P tb (callNZ P tb n) f fn.ntmps none c tm [] fun e tm df => match e with
        | .out _ => failZ
        | _ => leaveMZ df (resMZ tb tm fn.results.toList fun l => K (resAV l))
      | none => failZ
    | none => failZ
  | n + 1, .y l, args, K => roundMZ P tb (callNZ P tb n) l args K

/-! ### the tables, off a program -/
def plainV : Value → Bool
  | .agg _ => false
  | .tuple _ => false
  | _ => true

def mkTI (P : Program) (t : TypeId) : Option TI := match P.info? t, P.underlying t with
  | some q, some d => match q.zero with
    | some (.agg cs) => match isAggD d && allOne cs.toList with
      | true => T.balK none 64 cs.toList.length (cs.toList.map .v) fun z r => match r, Nat.beq z.size q.size with
        | [], true => some ⟨q.size, q.bytes, true, d, z⟩
        | _, _ => none
      | false => none
    | some v => match !(isAggD d) && v.oneCell' && Nat.beq q.size 1 with
      | true => some ⟨1, q.bytes, false, d, .lf (.v v)⟩
      | false => none
    | none => none
  | _, _ => none

def mkFn (P : Program) (f : FuncId) : Option Func := match P.funcs[f]? with
  | some fn => match fn.body with
    | some _ => match fn.name == "runtime.NumGoroutine" with
      | false => some fn
      | true => none
    | none => none
  | none => none
end Go.Rn
