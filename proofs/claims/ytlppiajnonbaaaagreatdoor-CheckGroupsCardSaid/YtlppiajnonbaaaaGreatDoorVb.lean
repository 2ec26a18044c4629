/- The abstract machine: operations, regions, code, calls. Plain definitions; nothing is claimed here. -/
import Derived.Test.YtlppiajnonbaaaaGreatDoorVa
set_option linter.unusedVariables false
set_option linter.unusedSimpArgs false
namespace Go.VV

def aCall (E : Env) (tm : Tm) (σ : St) (c : Call) (t : TypeId) : Option R :=
  (evs E tm c.args.toList).bind fun as =>
  match c.callee with
  | .value x => match ev E tm x with
    | some (.f (.func k) first cap) => match E.ext k with
      | some g => R.ofA (g (first ++ as ++ cap))
      | none => if E.en k then some (.call k (first ++ as ++ cap)) else none
    | _ => none
  | .invoke _ _ => none
  | .builtin b =>
    match b, as with
    | .len, [a] => (c.argTypes[0]?).bind fun u => match a with
      | .m l => match σ.get l with
        | some (.m es) => (E.ti u).bind fun T => match T.u with
          | .map _ _ => some (.val (some l) (.i .i64 es.length))
          | _ => none
        | _ => none
      | a => R.ofA (aLen E u a)
    | .max, a :: l => R.ofA (maxs (fun x y => y > x) a l)
    | .min, a :: l => R.ofA (maxs (fun x y => y < x) a l)
    | .append, [a, d] => (c.argTypes[0]?).bind fun u => (c.argTypes[1]?).bind fun z => (E.ti z).bind fun Z => match Z.u with
      | .int _ => none
      | _ => (aAppend E σ u a d).map fun (r, σ') => .eff r σ'
    | _, _ => none

def U.isI : U → Bool
  | .iface _ => true
  | _ => false

def aAssert (zero : A) (t : TypeId) (ok : Bool) : A → Option A
  | .ni => if ok then some (.t [zero, .b false]) else none
  | .x u c => if u = t then some (if ok then .t [c, .b true] else c) else if ok then some (.t [zero, .b false]) else none
  | _ => none

def placesOf (E : Env) : List (Nat × TypeId) → Option (List (Nat × Nat))
  | [] => some []
  | (off, t) :: l => (E.ti t).bind fun T => (placesOf E l).map ((off, T.sz) :: ·)

def sliceA (E : Env) (T : TI) (x : A) (lo hi mx : Option A) : Option A :=
  match T.u with
  | .string => (match x, mx with
    | .s _, none => aSlice x lo hi
    | _, _ => none)
  | .slice e => (E.ti e).bind fun F => (match x, mx with
    | .s _, _ => none
    | .v _ _ _ sz _ _, none => if sz = F.sz then aSlice x lo hi else none
    | .w _ _ _ sz _, none => if sz = F.sz then aSlice x lo hi else none
    | a, none => aSlice a lo hi
    | .v _ _ _ sz _ _, some m => if sz = F.sz then (if hi.isSome then aSlice3 x lo hi (some m) else none) else none
    | a, some m => if hi.isSome then aSlice3 a lo hi (some m) else none)
  | _ => none

def mapA (σ : St) : A → Option (Option Nat × List (A × A))
  | .nm => some (none, [])
  | .m l => match σ.get l with
    | some (.m es) => some (some l, es)
    | _ => none
  | _ => none

def aOp (E : Env) (pol : Pol) (tm : Tm) (σ : St) (o : Oper) : Option R :=
  match o.op with
  | .move y => R.ofA (ev E tm y)
  | .assign y => R.ofA (ev E tm y)
  | .pick c y z => match ev E tm c with
    | some (.b true) => R.ofA (ev E tm y)
    | some (.b false) => R.ofA (ev E tm z)
    | _ => none
  | .alloc t => (E.ti t).map fun T => .new (.p σ.nx 0) (.c T.zero)
  | .box _ y => (ev E tm y).bind fun a => if notT a then some (.new (.p σ.nx 0) (.c a.cells)) else none
  | .build t ps => (E.ti t).bind fun T => (parts E tm ps.toList).bind fun l => match T.u with
    | .struct fs => (placesOf E fs).bind fun pl => R.ofA ((fillA (fun k => pl[k]?) T.zero l).map .g)
    | .array _ e => (E.ti e).bind fun F => R.ofA ((fillA (fun k => some (k * F.sz, F.sz)) T.zero l).map .g)
    | _ => none
  | .buildSlice t n ps => (E.ti t).bind fun T => (parts E tm ps.toList).bind fun l => match T.u with
    | .slice e => (E.ti e).bind fun F => if F.sz = 0 ∨ n * F.sz > 2 ^ 24 then none else
      (fillA (fun k => some (k * F.sz, F.sz)) (repeatA F.zero n) l).map fun cs =>
        if pol t then .new (.w σ.nx 0 n F.sz n) (.c cs) else .new (.v true cs n F.sz σ.nx 0) (.k cs.length)
    | _ => none
  | .load t y => (ev E tm y).bind fun a => (E.ti t).bind fun T => match a with
    | .p l off => match σ.get l with
      | some (.c cs) => (loadA T.u.agg cs off T.sz).map (.val (some l) ·)
      | _ => none
    | .q cs off => R.ofA (loadA T.u.agg cs off T.sz)
    | _ => none
  | .store t y z => (ev E tm y).bind fun a => (ev E tm z).bind fun c => (E.ti t).bind fun T => match a with
    | .p l off => if c.cells.length = T.sz ∧ notT c = true then match σ.get l with
        | some (.c cs) => (putN cs off c.cells).map fun cs' => .eff un (σ.set l (.c cs'))
        | _ => none
      else none
    | _ => none
  | .nilCheck y => match ev E tm y with
    | some (.p l off) => R.ofA (some (.p l off))
    | some (.q cs off) => R.ofA (some (.q cs off))
    | some (.x t a) => R.ofA (some (.x t a))
    | some (.f (.func k) a c) => R.ofA (some (.f (.func k) a c))
    | _ => none
  | .binOp op t y z _ => (ev E tm y).bind fun a => (ev E tm z).bind fun c => R.ofA (aBin E op t (isC y || isC z) a c)
  | .unOp op _ y => (ev E tm y).bind fun a => R.ofA (aUn op a)
  | .convert s d y => (ev E tm y).bind fun a => (E.ti d).bind fun D => match D.u, a with
    | .slice e, .s l => (E.ti s).bind fun _ => (E.ti e).bind fun F => match F.u with
      | .int .u8 => if F.sz = 1 then some (.new (.v false (l.map fun b => A.i .u8 (b : Nat)) l.length 1 σ.nx 0) (.k l.length)) else none
      | _ => none
    | .string, .ns => (E.ti s).bind fun S => match S.u with
      | .slice e => (E.ti e).bind fun F => match F.u with
        | .int .u8 => R.ofA (some (.s []))
        | _ => none
      | _ => none
    | .string, .v _ cs n _ _ _ => (E.ti s).bind fun S => match S.u with
      | .slice e => (E.ti e).bind fun F => match F.u with
        | .int .u8 => if n = cs.length then R.ofA ((bytesA cs).map .s) else none
        | _ => none
      | _ => none
    | _, _ => R.ofA (aConv E s d a)
  | .makeInterface t y => (ev E tm y).bind fun a => (E.ti t).bind fun T => if T.u.isI then none else R.ofA (some (.x t a))
  | .makeFunc fn first cap => (evs E tm first.toList).bind fun l => (evs E tm cap.toList).bind fun k => R.ofA (some (.f fn l k))
  | .makeMap _ none => some (.new (.m σ.nx) (.m []))
  | .makeSlice t l c => (E.ti t).bind fun T => match T.u with
    | .slice e => (E.ti e).bind fun F => match ev E tm l, ev E tm c with
      | some (.i .i64 n), some (.i .i64 k) => if F.sz ≠ 0 ∧ 0 ≤ n ∧ n ≤ k ∧ k * F.by_ < 2 ^ 40 ∧ k < 2 ^ 40 ∧ F.zero.length = F.sz then
          some (.new (.w σ.nx 0 n.toNat F.sz k.toNat) (.c (repeatA F.zero k.toNat))) else none
      | _, _ => none
    | _ => none
  | .slice t y lo hi mx => (ev E tm y).bind fun a => (E.ti t).bind fun T =>
    (match lo with | none => some none | some z => (ev E tm z).map some).bind fun lo' =>
    (match hi with | none => some none | some z => (ev E tm z).map some).bind fun hi' =>
    (match mx with | none => some none | some z => (ev E tm z).map some).bind fun mx' =>
    R.ofA (sliceA E T a lo' hi' mx')
  | .fieldAddr t y k => (ev E tm y).bind fun a => (fieldAt? E t k).bind fun (off, F) => if F.sz = 0 then none else match a with
    | .p l o => R.ofA (some (.p l (o + off)))
    | .q cs o => R.ofA (some (.q cs (o + off)))
    | _ => none
  | .field t y k => (ev E tm y).bind fun a => (fieldAt? E t k).bind fun (off, F) => match a with
    | .g cs => R.ofA (loadA F.u.agg cs off F.sz)
    | _ => none
  | .indexAddr t y z => (ev E tm y).bind fun a => (ev E tm z).bind fun c => (aInt c).bind fun n => R.ofA (aIndexAddr E t a n)
  | .index t y z => (ev E tm y).bind fun a => (ev E tm z).bind fun c => (aInt c).bind fun n => R.ofA (aIndex E t a n)
  | .lookup t y z ok => (ev E tm y).bind fun a => (ev E tm z).bind fun k => (E.ti t).bind fun T => match T.u with
    | .map kt et => (E.ti kt).bind fun K => (E.ti et).bind fun F => (ofCells F.u.agg F.zero).bind fun zero =>
      (mapA σ a).bind fun (rd, es) =>
      if plainKey K.u (k :: es.map (·.1)) then
        match mapFind k es 0 with
        | some (_, r) => some (.val rd (if ok then .t [r, .b true] else r))
        | none => some (.val rd (if ok then .t [zero, .b false] else zero))
      else none
    | _ => none
  | .mapUpdate t y z u => (ev E tm y).bind fun a => (ev E tm z).bind fun k => (ev E tm u).bind fun c => (E.ti t).bind fun T => match T.u, a with
    | .map kt _, .m l => (E.ti kt).bind fun K => match σ.get l with
      | some (.m es) => if plainKey K.u (k :: es.map (·.1)) then
          match mapFind k es 0 with
          | some (j, _) => some (.eff un (σ.set l (.m (es.modify j fun _ => (k, c)))))
          | none => some (.eff un (σ.set l (.m (es ++ [(k, c)]))))
        else none
      | _ => none
    | _, _ => none
  | .typeAssert y _ t ok => (ev E tm y).bind fun a => (E.ti t).bind fun T => (ofCells T.u.agg T.zero).bind fun zero => if T.u.isI then none else R.ofA (aAssert zero t ok a)
  | .extract y k => (ev E tm y).bind fun a => match a with
    | .t vs => R.ofA (vs[k]?)
    | _ => none
  | .call c => aCall E tm σ c o.type
  | _ => none

/-- May the operation change what is there? -/
def stf : Op → Bool
  | .move _ | .assign _ | .pick .. | .alloc _ | .box .. | .build .. | .buildSlice .. | .load .. | .nilCheck _ | .binOp .. | .unOp .. | .convert .. | .makeInterface .. | .makeFunc ..
  | .makeMap .. | .makeSlice .. | .slice .. | .fieldAddr .. | .field .. | .indexAddr .. | .index .. | .lookup .. | .typeAssert .. | .extract .. => false
  | .call c => match c.callee with
    | .builtin .len | .builtin .max | .builtin .min => false
    | _ => true
  | _ => true

def wantedA (ops : Array Oper) (tm : Tm) (o : Oper) : Bool :=
  match o.guard with
  | none => true
  | some (j, want) => match (ops[j]?).bind (·.dst) with
    | some d => d < tm.nt && (match tm.get d with | .b c => c == want | _ => false)
    | none => false

abbrev CK := FuncId → List A → St → Option (A × St)

/-- One operation: which row it read (a new object's place, if so), and what stands behind it. -/
def oneOp (E : Env) (pol : Pol) (ck : CK) (ops : Array Oper) (o : Oper) (tm : Tm) (σ : St) : Option (Option Nat × Tm × St) :=
  if tm.fits o.dst then
    if wantedA ops tm o then
      match aOp E pol tm σ o with
      | some (.val rd a) => some (rd, tm.put o.dst a, σ)
      | some (.new a ob) => some (some σ.nx, tm.put o.dst a, σ.new ob)
      | some (.eff a σ') => some (none, tm.put o.dst a, σ')
      | some (.call f args) => (ck f args σ).map fun (a, σ') => (none, tm.put o.dst a, σ')
      | none => none
    else some (none, tm.put o.dst un, σ)
  else none

def runSeq (E : Env) (pol : Pol) (ck : CK) (ops : Array Oper) : List Oper → Tm → St → Option (Tm × St)
  | [], tm, σ => some (tm, σ)
  | o :: l, tm, σ => (oneOp E pol ck ops o tm σ).bind fun (_, tm, σ) => runSeq E pol ck ops l tm σ

/-- A record of one operation of a region that draws its order: number, may it change, what it read, the store before it and behind it. -/
structure Rec where
  i : Nat
  stf : Bool
  rd : Option Nat
  σ : St
  σ' : St

def runTr (E : Env) (pol : Pol) (ck : CK) (ops : Array Oper) : List Oper → Nat → Tm → St → Option (Tm × St × List Rec)
  | [], _, tm, σ => some (tm, σ, [])
  | o :: l, i, tm, σ => (oneOp E pol ck ops o tm σ).bind fun (rd, tm', σ') => (runTr E pol ck ops l (i + 1) tm' σ').map fun (tm2, σ2, tr) => (tm2, σ2, ⟨i, stf o.op, rd, σ, σ'⟩ :: tr)

def same (l : Option Nat) (r : Rec) : Bool :=
  match l with
  | none => true
  | some l => oeqb (r.σ.get l) (r.σ'.get l)

/-- Two operations, the first ahead of the second in the text: they are ordered, or they do not touch. -/
def apart (bef : Array Nat) (r r' : Rec) : Bool :=
  (bef.getD r'.i 0).testBit r.i || (if r.stf then !r'.stf && same r'.rd r else if r'.stf then same r.rd r' else true)

def aparts (bef : Array Nat) : List Rec → Bool
  | [] => true
  | r :: l => l.all (apart bef r) && aparts bef l

def namesOf (ops : Array Oper) (o : Oper) : List Tmp :=
  o.dst.toList ++ (o.op.operands.toList.filterMap fun | .tmp t => some t | _ => none) ++ (match o.guard with | some (g, _) => ((ops[g]?).bind (·.dst)).toList | none => [])

/-- Whoever writes a temporary is ordered against all that name it; edges go back; what may change stands in a chain. -/
def tidy (ops : Array Oper) (bef : Array Nat) : Bool :=
  ops.toList.zipIdx.all fun (o, j) =>
    (o.after.toList.all fun e => !Region.binds .any e || decide (e.on < j)) &&
    (namesOf ops o).all fun t => ops.toList.zipIdx.all fun (k, i) => k.dst != some t || i == j || (bef.getD (max i j) 0).testBit (min i j)

def runDraw (E : Env) (pol : Pol) (ck : CK) (ops : Array Oper) (tm : Tm) (σ : St) : Option (Tm × St) :=
  let bef := Region.before ops
  if tidy ops bef then
    (runTr E pol ck ops ops.toList 0 tm σ).bind fun (tm', σ', tr) => if aparts bef tr then some (tm', σ') else none
  else none

inductive X where
  | n | e (id : Nat) | r
  deriving Inhabited

def loopN (body : Tm → St → Option (X × Tm × St)) : Nat → Tm → St → Option (X × Tm × St)
  | 0, _, _ => none
  | k + 1, tm, σ => (body tm σ).bind fun (x, tm, σ) => match x with
    | .n => loopN body k tm σ
    | x => some (x, tm, σ)

def runCode (E : Env) (pol : Pol) (ck : CK) (n : Nat) : Code → Tm → St → Option (X × Tm × St)
  | .skip, tm, σ => some (.n, tm, σ)
  | .region _ ops false, tm, σ => (runSeq E pol ck ops ops.toList tm σ).map fun (tm, σ) => (.n, tm, σ)
  | .region _ ops true, tm, σ => (runDraw E pol ck ops tm σ).map fun (tm, σ) => (.n, tm, σ)
  | .seq a c, tm, σ => (runCode E pol ck n a tm σ).bind fun (x, tm, σ) => match x with
    | .n => runCode E pol ck n c tm σ
    | x => some (x, tm, σ)
  | .cond c a d, tm, σ => match ev E tm c with
    | some (.b true) => runCode E pol ck n a tm σ
    | some (.b false) => runCode E pol ck n d tm σ
    | _ => none
  | .block id c, tm, σ => (runCode E pol ck n c tm σ).map fun (x, tm, σ) => match x with
    | .e id' => if id' = id then (.n, tm, σ) else (.e id', tm, σ)
    | x => (x, tm, σ)
  | .loop c, tm, σ => loopN (runCode E pol ck n c) n tm σ
  | .exit id, tm, σ => some (.e id, tm, σ)
  | .ret, tm, σ => some (.r, tm, σ)
  | _, _, _ => none

def resA (E : Env) (tm : Tm) (σ : St) : List ResultVar → Option (List A)
  | [] => some []
  | .tmp t :: l => (resA E tm σ l).map (tm.get t :: ·)
  | .cell a t :: l => match tm.get a with
    | .p r off => match σ.get r with
      | some (.c cs) => (E.ti t).bind fun T => (loadA T.u.agg cs off T.sz).bind fun c => (resA E tm σ l).map (c :: ·)
      | _ => none
    | _ => none

def packA : List A → A
  | [a] => a
  | l => .t l

def layArgs : List A → Nat → Tr A → Tr A
  | [], _, t => t
  | a :: l, k, t => layArgs l (k + 1) (t.set k (some a))

def tm0 (fn : Func) (args : List A) : Tm := { nt := args.length + (fn.ntmps - args.length), tr := layArgs args 0 .e }

/-- The functions: their code, or what is known of them without it. -/
structure Fns where
  fn : FuncId → Option Func
  prim : FuncId → Option CK

def call (E : Env) (pol : Pol) (F : Fns) : Nat → CK
  | 0, _, _, _ => none
  | n + 1, f, args, σ =>
    match F.prim f with
    | some g => g f args σ
    | none => (F.fn f).bind fun fn => fn.body.bind fun c =>
      (runCode E pol (call E pol F n) n c (tm0 fn args) σ).bind fun (x, tm, σ') => match x with
        | .e _ => none
        | _ => (resA E tm σ' fn.results.toList).map fun l => (packA l, σ')

end Go.VV
