/- The abstract machine: values, memory, and what one operation does. Plain definitions; nothing is claimed here. -/
import Derived.Calls
import Derived.Orders
import Derived.Below
set_option linter.unusedVariables false
set_option linter.unusedSimpArgs false
namespace Go.VV

/-- Abstract values. 'p': a pointer into a changeable row; 'q': one into a row that stays; 'h': a type's handle; 'v': a slice that stays
(is the capacity the length?, cells, length, cells of an element, token, place in the token's count); 'w': a slice over a changeable row (row, first cell, length, cells of an element, capacity). -/
inductive A where
  | b (x : Bool)
  | i (k : IntKind) (n : Int)
  | s (l : List Nat)
  | np | ns | nm | nf | ni
  | p (l off : Nat)
  | q (cs : List A) (off : Nat)
  | h (t : Nat)
  | v (kc : Bool) (cs : List A) (n sz t st : Nat)
  | w (l off n sz cap : Nat)
  | m (l : Nat)
  | f (fn : Fn) (first cap : List A)
  | x (t : TypeId) (a : A)
  | g (cs : List A)
  | t (vs : List A)
  deriving Inhabited

def un : A := .t []

def A.cells : A → List A
  | .g cs => cs
  | a => [a]

/-- Objects of the store: a changeable row; a map; a token (how many cells have been laid). -/
inductive Ob where
  | c (cs : List A)
  | m (es : List (A × A))
  | k (n : Nat)
  deriving Inhabited

mutual
def aeq : A → A → Bool
  | .b x, .b y => x == y
  | .i k n, .i k' n' => k == k' && n == n'
  | .s l, .s l' => l == l'
  | .np, .np | .ns, .ns | .nm, .nm | .nf, .nf | .ni, .ni => true
  | .p l o, .p l' o' => l == l' && o == o'
  | .q cs o, .q cs' o' => aeqs cs cs' && o == o'
  | .h t, .h t' => t == t'
  | .v kc cs n sz t st, .v kc' cs' n' sz' t' st' => kc == kc' && aeqs cs cs' && n == n' && sz == sz' && t == t' && st == st'
  | .w l o n sz c, .w l' o' n' sz' c' => l == l' && o == o' && n == n' && sz == sz' && c == c'
  | .m l, .m l' => l == l'
  | .f fn a c, .f fn' a' c' => fn == fn' && aeqs a a' && aeqs c c'
  | .x t a, .x t' a' => t == t' && aeq a a'
  | .g cs, .g cs' => aeqs cs cs'
  | .t cs, .t cs' => aeqs cs cs'
  | _, _ => false
def aeqs : List A → List A → Bool
  | [], [] => true
  | a :: l, a' :: l' => aeq a a' && aeqs l l'
  | _, _ => false
end

def eqbe : List (A × A) → List (A × A) → Bool
  | [], [] => true
  | (a, b) :: l, (a', b') :: l' => aeq a a' && aeq b b' && eqbe l l'
  | _, _ => false

def Ob.eqb : Ob → Ob → Bool
  | .c cs, .c cs' => aeqs cs cs'
  | .m es, .m es' => eqbe es es'
  | .k n, .k n' => n == n'
  | _, _ => false

def oeqb : Option Ob → Option Ob → Bool
  | none, none => true
  | some a, some b => a.eqb b
  | _, _ => false

/-- A tree over numbers. -/
inductive Tr (α : Type) where
  | e
  | n (o : Option α) (l r : Tr α)
  deriving Inhabited

def Tr.get {α : Type} : Tr α → Nat → Option α
  | .e, _ => none
  | .n o l r, k => if k = 0 then o else if k % 2 = 1 then l.get (k / 2) else r.get (k / 2 - 1)

def Tr.setF {α : Type} : Nat → Tr α → Nat → Option α → Tr α
  | 0, t, _, _ => t
  | f + 1, .e, k, o => if k = 0 then .n o .e .e else if k % 2 = 1 then .n none (Tr.setF f .e (k / 2) o) .e else .n none .e (Tr.setF f .e (k / 2 - 1) o)
  | f + 1, .n x l r, k, o => if k = 0 then .n o l r else if k % 2 = 1 then .n x (Tr.setF f l (k / 2) o) r else .n x l (Tr.setF f r (k / 2 - 1) o)

def Tr.set {α : Type} (t : Tr α) (k : Nat) (o : Option α) : Tr α := Tr.setF (k + 1) t k o

structure St where
  nx : Nat
  hp : Tr Ob
  deriving Inhabited

def St.get (σ : St) (l : Nat) : Option Ob := σ.hp.get l
def St.set (σ : St) (l : Nat) (o : Ob) : St := { σ with hp := σ.hp.set l (some o) }
def St.kill (σ : St) (l : Nat) : St := { σ with hp := σ.hp.set l none }
def St.new (σ : St) (o : Ob) : St := { nx := σ.nx + 1, hp := σ.hp.set σ.nx (some o) }

/-- A frame's temporaries. -/
structure Tm where
  nt : Nat
  tr : Tr A
  deriving Inhabited

def Tm.get (t : Tm) (k : Nat) : A := (t.tr.get k).getD un
def Tm.put (t : Tm) : Option Tmp → A → Tm
  | none, _ => t
  | some d, a => { t with tr := t.tr.set d (some a) }
def Tm.fits (t : Tm) : Option Tmp → Bool
  | none => true
  | some d => d < t.nt

/-- What is known of a type. -/
inductive U where
  | bool | int (k : IntKind) | string | ptr (e : TypeId) | slice (e : TypeId) | map (k e : TypeId) | func | iface (any : Bool) | struct (fs : List (Nat × TypeId)) | array (n : Nat) (e : TypeId) | other
  deriving Inhabited

structure TI where
  u : U
  sz : Nat
  by_ : Nat
  zero : List A
  eq : Bool
  deriving Inhabited

def U.agg : U → Bool
  | .struct _ | .array _ _ => true
  | _ => false

/-- The value that some cells are. -/
def ofCells (agg : Bool) (cs : List A) : Option A := if agg then some (.g cs) else match cs with | [a] => some a | _ => none

def takeN (cs : List A) (off n : Nat) : Option (List A) := if off + n ≤ cs.length then some ((cs.drop off).take n) else none

def putN (cs : List A) (off : Nat) (new : List A) : Option (List A) :=
  if off + new.length ≤ cs.length then some (cs.take off ++ new ++ cs.drop (off + new.length)) else none

def ofScalar : Value → Option A
  | .bool b => some (.b b)
  | .int k n => some (.i k n)
  | .string s => some (.s (s.data.toList.map (·.toNat)))
  | .pointer none => some .np
  | .slice none 0 0 => some .ns
  | .map none => some .nm
  | .nilFunc => some .nf
  | .nilIface => some .ni
  | _ => none

def ofScalars : List Value → Option (List A)
  | [] => some []
  | x :: l => (ofScalar x).bind fun a => (ofScalars l).map (a :: ·)

def ofConst : Value → Option A
  | .agg cs => (ofScalars cs.toList).map .g
  | .tuple vs => if vs.isEmpty then some un else none
  | x => ofScalar x

/-- What stands outside: types, package-level variables, which functions can be entered, what functions without a body give. -/
structure Env where
  ti : TypeId → Option TI
  gl : Nat → Option (List A)
  en : FuncId → Bool
  ext : FuncId → Option (List A → Option A)

def ev (E : Env) (tm : Tm) : Operand → Option A
  | .tmp t => some (tm.get t)
  | .const x => ofConst x
  | .global g => (E.gl g).map (.q · 0)
  | .func f => some (.f (.func f) [] [])

def evs (E : Env) (tm : Tm) : List Operand → Option (List A)
  | [] => some []
  | x :: l => (ev E tm x).bind fun a => (evs E tm l).map (a :: ·)

/-- A value of numbers and truths out of the model's own reckoning. -/
def pv : Sem Value → Option A
  | .pure (.int k n) => some (.i k n)
  | .pure (.bool b) => some (.b b)
  | _ => none

def listLess : List Nat → List Nat → Bool
  | _, [] => false
  | [], _ :: _ => true
  | a :: x, b :: y => a < b || (a == b && listLess x y)

def strOp (op : BinOp) (x y : List Nat) : Option A :=
  match op with
  | .add => if x.length + y.length < 2 ^ 40 then some (.s (x ++ y)) else none
  | .eql => some (.b (x == y))
  | .neq => some (.b (!(x == y)))
  | .lss => some (.b (listLess x y))
  | .leq => some (.b (listLess x y || x == y))
  | .gtr => some (.b (!(listLess x y || x == y)))
  | .geq => some (.b (!listLess x y))
  | _ => none

def eqFs (E : Env) (eq : TypeId → A → A → Option Bool) : List (Nat × TypeId) → List A → List A → Option Bool
  | [], _, _ => some true
  | (off, t) :: fs, xs, ys =>
    (E.ti t).bind fun T => (takeN xs off T.sz).bind fun cx => (takeN ys off T.sz).bind fun cy =>
    (ofCells T.u.agg cx).bind fun x => (ofCells T.u.agg cy).bind fun y =>
    (eq t x y).bind fun r => if r then eqFs E eq fs xs ys else some false

/-- '==' of two values of a type: numbers, truths, texts, structs of these; what is nil. -/
def eqA (E : Env) : Nat → TypeId → A → A → Option Bool
  | 0, _, _, _ => none
  | d + 1, t, x, y =>
    (E.ti t).bind fun T =>
    match T.u, x, y with
    | .bool, .b a, .b b => some (a == b)
    | .int _, .i k a, .i k' b => if k = k' then some (a == b) else none
    | .string, .s a, .s b => some (a == b)
    | .ptr _, .np, .np => some true
    | .ptr _, .np, .p _ _ => some false
    | .ptr _, .p _ _, .np => some false
    | .iface _, .ni, .ni => some true
    | .iface _, .ni, .x _ _ => some false
    | .iface _, .x _ _, .ni => some false
    | .slice _, .ns, .ns => some true
    | .slice _, .ns, .v _ _ _ _ _ _ => some false
    | .slice _, .ns, .w _ _ _ _ _ => some false
    | .slice _, .v _ _ _ _ _ _, .ns => some false
    | .slice _, .w _ _ _ _ _, .ns => some false
    | .map _ _, .nm, .nm => some true
    | .map _ _, .nm, .m _ => some false
    | .map _ _, .m _, .nm => some false
    | .func, .nf, .nf => some true
    | .func, .nf, .f _ _ _ => some false
    | .func, .f _ _ _, .nf => some false
    | .struct fs, .g xs, .g ys => if T.eq then eqFs E (eqA E d) fs xs ys else none
    | _, _, _ => none

def isC : Operand → Bool
  | .const _ => true
  | _ => false

def ifaceOk : U → Bool → Bool
  | .iface _, c => c
  | _, _ => true

def aBin (E : Env) (op : BinOp) (t : TypeId) (cst : Bool) (x y : A) : Option A :=
  match x, y with
  | .i k a, .i k' b =>
    match op with
    | .shl | .shr => pv (Op.shift op k a k' b)
    | .add | .sub | .mul => if k = k' then pv (Op.intArith op k a b) else none
    | .quo | .rem => if k = k' then (if b = 0 then none else pv (Op.intDiv op k a b)) else none
    | .and | .or | .xor | .andNot => if k = k' then pv (Op.intBits op k a b) else none
    | _ => if k = k' then pv (Op.intCmp op a b) else none
  | .s a, .s b => strOp op a b
  | x, y =>
    (E.ti t).bind fun T =>
    if ifaceOk T.u cst then
      match op with
      | .eql => (eqA E 20 t x y).map .b
      | .neq => (eqA E 20 t x y).map fun r => .b (!r)
      | _ => none
    else none

def aUn (op : UnOp) : A → Option A
  | .i k n => pv (Op.unary op (.int k n))
  | .b x => pv (Op.unary op (.bool x))
  | _ => none

/-- The value that some cells of a row are. -/
def loadA (agg : Bool) (cs : List A) (off n : Nat) : Option A :=
  if agg then (takeN cs off n).map .g else cs[off]?

def notT : A → Bool
  | .t _ => false
  | _ => true

/-- May it stand in a cell? -/
def flat : A → Bool
  | .g _ => false
  | .t _ => false
  | _ => true

/-- A struct, or an array, out of parts. -/
def fillA (place : Nat → Option (Nat × Nat)) (cells : List A) : List (Nat × A) → Option (List A)
  | [] => some cells
  | (i, a) :: rest =>
    (place i).bind fun (off, size) =>
    if a.cells.length = size ∧ notT a = true then (putN cells off a.cells).bind fun cs => fillA place cs rest else none

def parts (E : Env) (tm : Tm) : List (Nat × Operand) → Option (List (Nat × A))
  | [] => some []
  | (i, x) :: l => (ev E tm x).bind fun a => (parts E tm l).map ((i, a) :: ·)

def fieldAt? (E : Env) (t : TypeId) (k : Nat) : Option (Nat × TI) :=
  (E.ti t).bind fun T => match T.u with
    | .struct fs => (fs[k]?).bind fun (off, u) => (E.ti u).map fun F => (off, F)
    | _ => none

def repeatA (z : List A) : Nat → List A
  | 0 => []
  | n + 1 => z ++ repeatA z n

def aInt : A → Option Int
  | .i _ n => some n
  | _ => none

def bnd (x : Option A) (dflt hi : Nat) : Option Nat :=
  match x with
  | none => some dflt
  | some (.i _ n) => if 0 ≤ n ∧ n ≤ hi then some n.toNat else none
  | _ => none

/-- What an operation gives. 'val': a value (read of a row, if so); 'new': a new object at the next place; 'eff': a value and another store; 'call': a function is called. -/
inductive R where
  | val (rd : Option Nat) (a : A)
  | new (a : A) (o : Ob)
  | eff (a : A) (σ : St)
  | call (f : FuncId) (args : List A)

def R.ofA (a : Option A) : Option R := a.map (.val none ·)

/-- Which slices are laid in changeable rows. -/
abbrev Pol := TypeId → Bool

def aSlice (x : A) (lo hi : Option A) : Option A :=
  match x with
  | .s l => (bnd hi l.length l.length).bind fun h => (bnd lo 0 h).map fun k => .s ((l.take h).drop k)
  | .ns => (bnd hi 0 0).bind fun h => (bnd lo 0 h).map fun _ => .ns
  | .v kc cs n sz t st => (bnd hi n n).bind fun h => (bnd lo 0 h).map fun k => .v (kc && h == n) ((cs.take (h * sz)).drop (k * sz)) (h - k) sz t (st + k * sz)
  | .w l off n sz cap => (bnd hi n cap).bind fun h => (bnd lo 0 h).map fun k => .w l (if cap = k then off else off + k * sz) (h - k) sz (cap - k)
  | _ => none

/-- 'x[lo:hi:mx]' with hi = mx. -/
def aSlice3 (x : A) (lo hi mx : Option A) : Option A :=
  match x with
  | .ns => (bnd mx 0 0).bind fun _ => (bnd hi 0 0).bind fun h => (bnd lo 0 h).map fun _ => .ns
  | .v _ cs n sz t st => (bnd mx n n).bind fun c => (bnd hi n c).bind fun h => if h = c then (bnd lo 0 h).map fun k => .v true ((cs.take (h * sz)).drop (k * sz)) (h - k) sz t (st + k * sz) else none
  | _ => none

def aIndexAddr (E : Env) (t : TypeId) (x : A) (n : Int) : Option A :=
  (E.ti t).bind fun T =>
  match T.u, x with
  | .slice e, .v _ cs len sz _ _ => (E.ti e).bind fun F => if 0 ≤ n ∧ n < len ∧ F.sz = sz then some (.q cs (n.toNat * sz)) else none
  | .slice e, .w l off len sz _ => (E.ti e).bind fun F => if 0 ≤ n ∧ n < len ∧ F.sz = sz then some (.p l (off + n.toNat * sz)) else none
  | .array len e, .p l off => (E.ti e).bind fun F => if 0 ≤ n ∧ n < len then some (.p l (off + n.toNat * F.sz)) else none
  | .array len e, .q cs off => (E.ti e).bind fun F => if 0 ≤ n ∧ n < len then some (.q cs (off + n.toNat * F.sz)) else none
  | _, _ => none

def aIndex (E : Env) (t : TypeId) (x : A) (n : Int) : Option A :=
  (E.ti t).bind fun T =>
  match T.u, x with
  | .string, .s l => if 0 ≤ n then (l[n.toNat]?).map fun b => A.i .u8 (b : Nat) else none
  | .array len e, .g cs => (E.ti e).bind fun F => if 0 ≤ n ∧ n < len then loadA F.u.agg cs (n.toNat * F.sz) F.sz else none
  | _, _ => none

def aConv (E : Env) (s d : TypeId) (x : A) : Option A :=
  (E.ti s).bind fun _ => (E.ti d).bind fun D =>
  match D.u, x with
  | .int k, .i _ n => some (.i k (k.wrap n))
  | .string, .s l => some (.s l)
  | _, _ => none

def aLen (E : Env) (t : TypeId) (x : A) : Option A :=
  (E.ti t).bind fun T =>
  match T.u, x with
  | .string, .s l => some (.i .i64 l.length)
  | .array n _, _ => some (.i .i64 n)
  | .slice _, .ns => some (.i .i64 0)
  | .slice _, .v _ _ n _ _ _ => some (.i .i64 n)
  | .slice _, .w _ _ n _ _ => some (.i .i64 n)
  | .map _ _, .nm => some (.i .i64 0)
  | _, _ => none

def maxs (f : Int → Int → Bool) : A → List A → Option A
  | a, [] => some a
  | .i k x, .i _ y :: l => maxs f (.i k (if f x y then y else x)) l
  | _, _ => none

def mapFind (k : A) : List (A × A) → Nat → Option (Nat × A)
  | [], _ => none
  | (k', a) :: l, i => if aeq k k' then some (i, a) else mapFind k l (i + 1)

/-- Is a key of a kind whose equality is plain? -/
def plainKey (u : U) : List A → Bool
  | [] => true
  | a :: l => (match u, a with
    | .int k, .i k' _ => k == k'
    | .string, .s _ => true
    | _, _ => false) && plainKey u l

def bytesA (l : List A) : Option (List Nat) :=
  match l with
  | [] => some []
  | .i .u8 n :: r => if 0 ≤ n ∧ n < 256 then (bytesA r).map (n.toNat :: ·) else none
  | _ => none

/-- The cells that are appended. -/
def srcA (σ : St) (fs : Nat) (x : A) : Option (List A) :=
  match x with
  | .ns => some []
  | .s l => if fs = 1 then some (l.map fun b => A.i .u8 (b : Nat)) else none
  | .v _ cs _ sz _ _ => if sz = fs then some cs else none
  | .w l off n sz _ => if sz = fs then match σ.get l with
    | some (.c cs) => takeN cs off (n * sz)
    | _ => none
    else none
  | _ => none

def aAppend (E : Env) (σ : St) (t : TypeId) (x y : A) : Option (A × St) :=
  (E.ti t).bind fun T =>
  match T.u with
  | .slice e =>
    (E.ti e).bind fun F =>
    (srcA σ F.sz y).bind fun new =>
    if F.sz = 0 ∨ F.by_ = 0 ∨ new.length % F.sz ≠ 0 then none else
    let k := new.length / F.sz
    match x with
    | .ns =>
      if k = 0 then some (.ns, σ)
      else if k * F.by_ < 2 ^ 40 then some (.v false new k F.sz σ.nx 0, σ.new (.k new.length)) else none
    | .v kc cs n sz tk st =>
      if sz = F.sz ∧ (n + k) * F.by_ < 2 ^ 40 then
        if k = 0 then some (.v kc cs n sz tk st, σ)
        else if kc then some (.v false (cs ++ new) (n + k) sz σ.nx 0, σ.new (.k (cs.length + new.length)))
        else match σ.get tk with
          | some (.k mark) => if mark = st + cs.length then some (.v false (cs ++ new) (n + k) sz σ.nx 0, (σ.kill tk).new (.k (cs.length + new.length))) else none
          | some _ => none
          | none => none
      else none
    | .w l off n sz cap =>
      if sz = F.sz ∧ n + k ≤ cap then
        match σ.get l with
        | some (.c cs) => (putN cs (off + n * sz) new).map fun cs' => (.w l off (n + k) sz cap, σ.set l (.c cs'))
        | _ => none
      else if sz = F.sz ∧ (n + k) * F.by_ < 2 ^ 40 then
        match σ.get l with
        | some (.c cs) => (takeN cs off (n * sz)).map fun old => (.v false (old ++ new) (n + k) sz σ.nx 0, σ.new (.k (old.length + new.length)))
        | _ => none
      else none
    | _ => none
  | _ => none

end Go.VV
