/- The fast machine's parts: each value worked out as it is laid; raw recursors alone, so that Lean's kernel runs it soon. Printed by wip/vv/genXFa.py. -/
import Derived.Test.YtlppiajnonbaaaaGreatDoorVx
import Derived.IntWalk
set_option linter.unusedVariables false
set_option linter.unusedSimpArgs false
namespace Go.VV
open Go.IntWalk
noncomputable section

def xB (b : Bool) (t e : Bool) : Bool := Bool.rec e t b
theorem xB_eq (b t e : Bool) : xB b t e = if b then t else e := by cases b <;> rfl
theorem xB_and {b t : Bool} (h : xB b t false = true) : b = true ∧ t = true := by cases b with | false => exact absurd h Bool.false_ne_true | true => exact ⟨rfl, h⟩

def kN (n : Nat) (k : Nat → Bool) : Bool := Nat.rec (k 0) (fun m _ => k (Nat.succ m)) n
theorem kN_eq (n : Nat) (k : Nat → Bool) : kN n k = k n := by cases n <;> rfl
def kI (z : Int) (k : Int → Bool) : Bool := Int.rec (fun n => kN n fun n => k (Int.ofNat n)) (fun n => kN n fun n => k (Int.negSucc n)) z
theorem kI_eq (z : Int) (k : Int → Bool) : kI z k = k z := by cases z <;> simp only [kI, kN_eq]
def kB (b : Bool) (k : Bool → Bool) : Bool := Bool.rec (k false) (k true) b
theorem kB_eq (b : Bool) (k : Bool → Bool) : kB b k = k b := by cases b <;> rfl

/-- Its head alone. -/
def frc (a : A) : (A → Bool) → Bool := A.rec (motive_1 := fun _ => (A → Bool) → Bool) (motive_2 := fun _ => (A → Bool) → Bool) (fun x => fun k => k (A.b x)) (fun kd n => fun k => k (A.i kd n)) (fun l => fun k => k (A.s l)) (fun k => k (A.np)) (fun k => k (A.ns)) (fun k => k (A.nm)) (fun k => k (A.nf)) (fun k => k (A.ni)) (fun l o => fun k => k (A.p l o)) (fun cs o _ => fun k => k (A.q cs o)) (fun t => fun k => k (A.h t)) (fun kc cs n sz t st _ => fun k => k (A.v kc cs n sz t st)) (fun l o n sz cap => fun k => k (A.w l o n sz cap)) (fun l => fun k => k (A.m l)) (fun fn x c _ _ => fun k => k (A.f fn x c)) (fun t u _ => fun k => k (A.x t u)) (fun cs _ => fun k => k (A.g cs)) (fun vs _ => fun k => k (A.t vs)) (fun _ => false) (fun _ _ _ _ => fun _ => false) a
theorem frc_eq (a : A) (k : A → Bool) : frc a k = k a := by cases a <;> rfl

def onB (a : A) (k : Bool → Bool) (z : Bool) : Bool := A.rec (motive_1 := fun _ => Bool) (motive_2 := fun _ => Bool) (fun x => k x) (fun _ _ => z) (fun _ => z) (z) (z) (z) (z) (z) (fun _ _ => z) (fun _ _ _ => z) (fun _ => z) (fun _ _ _ _ _ _ _ => z) (fun _ _ _ _ _ => z) (fun _ => z) (fun _ _ _ _ _ => z) (fun _ _ _ => z) (fun _ _ => z) (fun _ _ => z) (z) (fun _ _ _ _ => z) a
theorem onB_eq (a : A) (k : Bool → Bool) (z : Bool) : onB a k z = match a with | .b x' => k x' | _ => z := by cases a <;> rfl
theorem onB_inv {a : A} {k : Bool → Bool} (h : onB a k false = true) : ∃ x', a = .b x' ∧ k x' = true := by
  cases a with | b x' => exact ⟨x', rfl, h⟩ | _ => exact absurd h Bool.false_ne_true

def onMp0 (a : A) (k : Nat → Bool) (z : Bool) : Bool := A.rec (motive_1 := fun _ => Bool) (motive_2 := fun _ => Bool) (fun _ => z) (fun _ _ => z) (fun _ => z) (z) (z) (z) (z) (z) (fun _ _ => z) (fun _ _ _ => z) (fun _ => z) (fun _ _ _ _ _ _ _ => z) (fun _ _ _ _ _ => z) (fun l => k l) (fun _ _ _ _ _ => z) (fun _ _ _ => z) (fun _ _ => z) (fun _ _ => z) (z) (fun _ _ _ _ => z) a
theorem onMp0_eq (a : A) (k : Nat → Bool) (z : Bool) : onMp0 a k z = match a with | .m l' => k l' | _ => z := by cases a <;> rfl
theorem onMp0_inv {a : A} {k : Nat → Bool} (h : onMp0 a k false = true) : ∃ l', a = .m l' ∧ k l' = true := by
  cases a with | m l' => exact ⟨l', rfl, h⟩ | _ => exact absurd h Bool.false_ne_true

def onX (a : A) (k : TypeId → A → Bool) (z : Bool) : Bool := A.rec (motive_1 := fun _ => Bool) (motive_2 := fun _ => Bool) (fun _ => z) (fun _ _ => z) (fun _ => z) (z) (z) (z) (z) (z) (fun _ _ => z) (fun _ _ _ => z) (fun _ => z) (fun _ _ _ _ _ _ _ => z) (fun _ _ _ _ _ => z) (fun _ => z) (fun _ _ _ _ _ => z) (fun t u _ => k t u) (fun _ _ => z) (fun _ _ => z) (z) (fun _ _ _ _ => z) a
theorem onX_eq (a : A) (k : TypeId → A → Bool) (z : Bool) : onX a k z = match a with | .x t' u' => k t' u' | _ => z := by cases a <;> rfl
theorem onX_inv {a : A} {k : TypeId → A → Bool} (h : onX a k false = true) : ∃ t' u', a = .x t' u' ∧ k t' u' = true := by
  cases a with | x t' u' => exact ⟨t', u', rfl, h⟩ | _ => exact absurd h Bool.false_ne_true

def onI (a : A) (k : IntKind → Int → Bool) (z : Bool) : Bool := A.rec (motive_1 := fun _ => Bool) (motive_2 := fun _ => Bool) (fun _ => z) (fun kd n => k kd n) (fun _ => z) (z) (z) (z) (z) (z) (fun _ _ => z) (fun _ _ _ => z) (fun _ => z) (fun _ _ _ _ _ _ _ => z) (fun _ _ _ _ _ => z) (fun _ => z) (fun _ _ _ _ _ => z) (fun _ _ _ => z) (fun _ _ => z) (fun _ _ => z) (z) (fun _ _ _ _ => z) a
theorem onI_eq (a : A) (k : IntKind → Int → Bool) (z : Bool) : onI a k z = match a with | .i kd' n' => k kd' n' | _ => z := by cases a <;> rfl
theorem onI_inv {a : A} {k : IntKind → Int → Bool} (h : onI a k false = true) : ∃ kd' n', a = .i kd' n' ∧ k kd' n' = true := by
  cases a with | i kd' n' => exact ⟨kd', n', rfl, h⟩ | _ => exact absurd h Bool.false_ne_true

def onS (a : A) (k : List Nat → Bool) (z : Bool) : Bool := A.rec (motive_1 := fun _ => Bool) (motive_2 := fun _ => Bool) (fun _ => z) (fun _ _ => z) (fun l => k l) (z) (z) (z) (z) (z) (fun _ _ => z) (fun _ _ _ => z) (fun _ => z) (fun _ _ _ _ _ _ _ => z) (fun _ _ _ _ _ => z) (fun _ => z) (fun _ _ _ _ _ => z) (fun _ _ _ => z) (fun _ _ => z) (fun _ _ => z) (z) (fun _ _ _ _ => z) a
theorem onS_eq (a : A) (k : List Nat → Bool) (z : Bool) : onS a k z = match a with | .s l' => k l' | _ => z := by cases a <;> rfl
theorem onS_inv {a : A} {k : List Nat → Bool} (h : onS a k false = true) : ∃ l', a = .s l' ∧ k l' = true := by
  cases a with | s l' => exact ⟨l', rfl, h⟩ | _ => exact absurd h Bool.false_ne_true

def onP (a : A) (k : Nat → Nat → Bool) (z : Bool) : Bool := A.rec (motive_1 := fun _ => Bool) (motive_2 := fun _ => Bool) (fun _ => z) (fun _ _ => z) (fun _ => z) (z) (z) (z) (z) (z) (fun l o => k l o) (fun _ _ _ => z) (fun _ => z) (fun _ _ _ _ _ _ _ => z) (fun _ _ _ _ _ => z) (fun _ => z) (fun _ _ _ _ _ => z) (fun _ _ _ => z) (fun _ _ => z) (fun _ _ => z) (z) (fun _ _ _ _ => z) a
theorem onP_eq (a : A) (k : Nat → Nat → Bool) (z : Bool) : onP a k z = match a with | .p l' o' => k l' o' | _ => z := by cases a <;> rfl
theorem onP_inv {a : A} {k : Nat → Nat → Bool} (h : onP a k false = true) : ∃ l' o', a = .p l' o' ∧ k l' o' = true := by
  cases a with | p l' o' => exact ⟨l', o', rfl, h⟩ | _ => exact absurd h Bool.false_ne_true

def onQ (a : A) (k : List A → Nat → Bool) (z : Bool) : Bool := A.rec (motive_1 := fun _ => Bool) (motive_2 := fun _ => Bool) (fun _ => z) (fun _ _ => z) (fun _ => z) (z) (z) (z) (z) (z) (fun _ _ => z) (fun cs o _ => k cs o) (fun _ => z) (fun _ _ _ _ _ _ _ => z) (fun _ _ _ _ _ => z) (fun _ => z) (fun _ _ _ _ _ => z) (fun _ _ _ => z) (fun _ _ => z) (fun _ _ => z) (z) (fun _ _ _ _ => z) a
theorem onQ_eq (a : A) (k : List A → Nat → Bool) (z : Bool) : onQ a k z = match a with | .q cs' o' => k cs' o' | _ => z := by cases a <;> rfl
theorem onQ_inv {a : A} {k : List A → Nat → Bool} (h : onQ a k false = true) : ∃ cs' o', a = .q cs' o' ∧ k cs' o' = true := by
  cases a with | q cs' o' => exact ⟨cs', o', rfl, h⟩ | _ => exact absurd h Bool.false_ne_true

def onV (a : A) (k : Bool → List A → Nat → Nat → Nat → Nat → Bool) (z : Bool) : Bool := A.rec (motive_1 := fun _ => Bool) (motive_2 := fun _ => Bool) (fun _ => z) (fun _ _ => z) (fun _ => z) (z) (z) (z) (z) (z) (fun _ _ => z) (fun _ _ _ => z) (fun _ => z) (fun kc cs n sz t st _ => k kc cs n sz t st) (fun _ _ _ _ _ => z) (fun _ => z) (fun _ _ _ _ _ => z) (fun _ _ _ => z) (fun _ _ => z) (fun _ _ => z) (z) (fun _ _ _ _ => z) a
theorem onV_eq (a : A) (k : Bool → List A → Nat → Nat → Nat → Nat → Bool) (z : Bool) : onV a k z = match a with | .v kc' cs' n' sz' t' st' => k kc' cs' n' sz' t' st' | _ => z := by cases a <;> rfl
theorem onV_inv {a : A} {k : Bool → List A → Nat → Nat → Nat → Nat → Bool} (h : onV a k false = true) : ∃ kc' cs' n' sz' t' st', a = .v kc' cs' n' sz' t' st' ∧ k kc' cs' n' sz' t' st' = true := by
  cases a with | v kc' cs' n' sz' t' st' => exact ⟨kc', cs', n', sz', t', st', rfl, h⟩ | _ => exact absurd h Bool.false_ne_true

def onW (a : A) (k : Nat → Nat → Nat → Nat → Nat → Bool) (z : Bool) : Bool := A.rec (motive_1 := fun _ => Bool) (motive_2 := fun _ => Bool) (fun _ => z) (fun _ _ => z) (fun _ => z) (z) (z) (z) (z) (z) (fun _ _ => z) (fun _ _ _ => z) (fun _ => z) (fun _ _ _ _ _ _ _ => z) (fun l o n sz cap => k l o n sz cap) (fun _ => z) (fun _ _ _ _ _ => z) (fun _ _ _ => z) (fun _ _ => z) (fun _ _ => z) (z) (fun _ _ _ _ => z) a
theorem onW_eq (a : A) (k : Nat → Nat → Nat → Nat → Nat → Bool) (z : Bool) : onW a k z = match a with | .w l' o' n' sz' cap' => k l' o' n' sz' cap' | _ => z := by cases a <;> rfl
theorem onW_inv {a : A} {k : Nat → Nat → Nat → Nat → Nat → Bool} (h : onW a k false = true) : ∃ l' o' n' sz' cap', a = .w l' o' n' sz' cap' ∧ k l' o' n' sz' cap' = true := by
  cases a with | w l' o' n' sz' cap' => exact ⟨l', o', n', sz', cap', rfl, h⟩ | _ => exact absurd h Bool.false_ne_true

def onF (a : A) (k : Fn → List A → List A → Bool) (z : Bool) : Bool := A.rec (motive_1 := fun _ => Bool) (motive_2 := fun _ => Bool) (fun _ => z) (fun _ _ => z) (fun _ => z) (z) (z) (z) (z) (z) (fun _ _ => z) (fun _ _ _ => z) (fun _ => z) (fun _ _ _ _ _ _ _ => z) (fun _ _ _ _ _ => z) (fun _ => z) (fun fn x c _ _ => k fn x c) (fun _ _ _ => z) (fun _ _ => z) (fun _ _ => z) (z) (fun _ _ _ _ => z) a
theorem onF_eq (a : A) (k : Fn → List A → List A → Bool) (z : Bool) : onF a k z = match a with | .f fn' x' c' => k fn' x' c' | _ => z := by cases a <;> rfl
theorem onF_inv {a : A} {k : Fn → List A → List A → Bool} (h : onF a k false = true) : ∃ fn' x' c', a = .f fn' x' c' ∧ k fn' x' c' = true := by
  cases a with | f fn' x' c' => exact ⟨fn', x', c', rfl, h⟩ | _ => exact absurd h Bool.false_ne_true

def onG (a : A) (k : List A → Bool) (z : Bool) : Bool := A.rec (motive_1 := fun _ => Bool) (motive_2 := fun _ => Bool) (fun _ => z) (fun _ _ => z) (fun _ => z) (z) (z) (z) (z) (z) (fun _ _ => z) (fun _ _ _ => z) (fun _ => z) (fun _ _ _ _ _ _ _ => z) (fun _ _ _ _ _ => z) (fun _ => z) (fun _ _ _ _ _ => z) (fun _ _ _ => z) (fun cs _ => k cs) (fun _ _ => z) (z) (fun _ _ _ _ => z) a
theorem onG_eq (a : A) (k : List A → Bool) (z : Bool) : onG a k z = match a with | .g cs' => k cs' | _ => z := by cases a <;> rfl
theorem onG_inv {a : A} {k : List A → Bool} (h : onG a k false = true) : ∃ cs', a = .g cs' ∧ k cs' = true := by
  cases a with | g cs' => exact ⟨cs', rfl, h⟩ | _ => exact absurd h Bool.false_ne_true

def onT (a : A) (k : List A → Bool) (z : Bool) : Bool := A.rec (motive_1 := fun _ => Bool) (motive_2 := fun _ => Bool) (fun _ => z) (fun _ _ => z) (fun _ => z) (z) (z) (z) (z) (z) (fun _ _ => z) (fun _ _ _ => z) (fun _ => z) (fun _ _ _ _ _ _ _ => z) (fun _ _ _ _ _ => z) (fun _ => z) (fun _ _ _ _ _ => z) (fun _ _ _ => z) (fun _ _ => z) (fun vs _ => k vs) (z) (fun _ _ _ _ => z) a
theorem onT_eq (a : A) (k : List A → Bool) (z : Bool) : onT a k z = match a with | .t vs' => k vs' | _ => z := by cases a <;> rfl
theorem onT_inv {a : A} {k : List A → Bool} (h : onT a k false = true) : ∃ vs', a = .t vs' ∧ k vs' = true := by
  cases a with | t vs' => exact ⟨vs', rfl, h⟩ | _ => exact absurd h Bool.false_ne_true

def onPQ (a : A) (kp : Nat → Nat → Bool) (kq : List A → Nat → Bool) : Bool := A.rec (motive_1 := fun _ => Bool) (motive_2 := fun _ => Bool) (fun _ => false) (fun _ _ => false) (fun _ => false) (false) (false) (false) (false) (false) (fun l o => kp l o) (fun cs o _ => kq cs o) (fun _ => false) (fun _ _ _ _ _ _ _ => false) (fun _ _ _ _ _ => false) (fun _ => false) (fun _ _ _ _ _ => false) (fun _ _ _ => false) (fun _ _ => false) (fun _ _ => false) (false) (fun _ _ _ _ => false) a
theorem onPQ_inv {a : A} {kp : Nat → Nat → Bool} {kq : List A → Nat → Bool} (h : onPQ a kp kq = true) : (∃ l o, a = .p l o ∧ kp l o = true) ∨ (∃ cs o, a = .q cs o ∧ kq cs o = true) := by
  cases a with | p l o => exact .inl ⟨l, o, rfl, h⟩ | q cs o => exact .inr ⟨cs, o, rfl, h⟩ | _ => exact absurd h Bool.false_ne_true

def onSl (a : A) (kn : Bool) (kv : Bool → List A → Nat → Nat → Nat → Nat → Bool) (kw : Nat → Nat → Nat → Nat → Nat → Bool) : Bool := A.rec (motive_1 := fun _ => Bool) (motive_2 := fun _ => Bool) (fun _ => false) (fun _ _ => false) (fun _ => false) (false) (kn) (false) (false) (false) (fun _ _ => false) (fun _ _ _ => false) (fun _ => false) (fun kc cs n sz t st _ => kv kc cs n sz t st) (fun l o n sz cap => kw l o n sz cap) (fun _ => false) (fun _ _ _ _ _ => false) (fun _ _ _ => false) (fun _ _ => false) (fun _ _ => false) (false) (fun _ _ _ _ => false) a
theorem onSl_inv {a : A} {kn : Bool} {kv : Bool → List A → Nat → Nat → Nat → Nat → Bool} {kw : Nat → Nat → Nat → Nat → Nat → Bool} (h : onSl a kn kv kw = true) : (a = .ns ∧ kn = true) ∨ (∃ kc cs n sz t st, a = .v kc cs n sz t st ∧ kv kc cs n sz t st = true) ∨ (∃ l o n sz cap, a = .w l o n sz cap ∧ kw l o n sz cap = true) := by
  cases a with | ns => exact .inl ⟨rfl, h⟩ | v kc cs n sz t st => exact .inr (.inl ⟨kc, cs, n, sz, t, st, rfl, h⟩) | w l o n sz cap => exact .inr (.inr ⟨l, o, n, sz, cap, rfl, h⟩) | _ => exact absurd h Bool.false_ne_true

/-- Its cells; none of a tuple. -/
def clK (a : A) (k : List A → Bool) : Bool := A.rec (motive_1 := fun _ => Bool) (motive_2 := fun _ => Bool) (fun x => k [A.b x]) (fun kd n => k [A.i kd n]) (fun l => k [A.s l]) (k [A.np]) (k [A.ns]) (k [A.nm]) (k [A.nf]) (k [A.ni]) (fun l o => k [A.p l o]) (fun cs o _ => k [A.q cs o]) (fun t => k [A.h t]) (fun kc cs n sz t st _ => k [A.v kc cs n sz t st]) (fun l o n sz cap => k [A.w l o n sz cap]) (fun l => k [A.m l]) (fun fn x c _ _ => k [A.f fn x c]) (fun t u _ => k [A.x t u]) (fun cs _ => k cs) (fun vs _ => false) (false) (fun _ _ _ _ => false) a
theorem clK_inv {a : A} {k : List A → Bool} (h : clK a k = true) : notT a = true ∧ k a.cells = true := by
  cases a with | t vs => exact absurd h Bool.false_ne_true | _ => exact ⟨rfl, h⟩

def onMp (a : A) (k : Nat → Bool) : Bool := onMp0 a k false
theorem onMp_inv {a : A} {k : Nat → Bool} (h : onMp a k = true) : ∃ l, a = .m l ∧ k l = true := onMp0_inv h

/-- Is it a pointer, or a value in an interface? -/
def nilK (a : A) (k : A → Bool) (z : Bool) : Bool := A.rec (motive_1 := fun _ => Bool) (motive_2 := fun _ => Bool) (fun _ => z) (fun _ _ => z) (fun _ => z) (z) (z) (z) (z) (z) (fun l o => k (.p l o)) (fun cs o _ => k (.q cs o)) (fun _ => z) (fun _ _ _ _ _ _ _ => z) (fun _ _ _ _ _ => z) (fun _ => z) (fun _ _ _ _ _ => z) (fun t u _ => k (.x t u)) (fun _ _ => z) (fun _ _ => z) (z) (fun _ _ _ _ => z) a
theorem nilK_eq (a : A) (k : A → Bool) (z : Bool) : nilK a k z = match a with | .p l o => k (.p l o) | .q cs o => k (.q cs o) | .x t a => k (.x t a) | _ => z := by cases a <;> rfl
def clP (a : A) (kn ko : Bool) : Bool := A.rec (motive_1 := fun _ => Bool) (motive_2 := fun _ => Bool) (fun _ => false) (fun _ _ => false) (fun _ => false) (kn) (false) (false) (false) (false) (fun l o => ko) (fun _ _ _ => false) (fun _ => false) (fun _ _ _ _ _ _ _ => false) (fun _ _ _ _ _ => false) (fun _ => false) (fun _ _ _ _ _ => false) (fun _ _ _ => false) (fun _ _ => false) (fun _ _ => false) (false) (fun _ _ _ _ => false) a
theorem clP_inv {a : A} {kn ko : Bool} (h : clP a kn ko = true) : (a = .np ∧ kn = true) ∨ ((∃ l o, a = .p l o)) ∧ ko = true := by
  cases a with
  | np => exact .inl ⟨rfl, h⟩
  | p l o => exact .inr ⟨⟨l, o, rfl⟩, h⟩
  | _ => exact absurd h Bool.false_ne_true

def clI (a : A) (kn ko : Bool) : Bool := A.rec (motive_1 := fun _ => Bool) (motive_2 := fun _ => Bool) (fun _ => false) (fun _ _ => false) (fun _ => false) (false) (false) (false) (false) (kn) (fun _ _ => false) (fun _ _ _ => false) (fun _ => false) (fun _ _ _ _ _ _ _ => false) (fun _ _ _ _ _ => false) (fun _ => false) (fun _ _ _ _ _ => false) (fun t u _ => ko) (fun _ _ => false) (fun _ _ => false) (false) (fun _ _ _ _ => false) a
theorem clI_inv {a : A} {kn ko : Bool} (h : clI a kn ko = true) : (a = .ni ∧ kn = true) ∨ ((∃ t u, a = .x t u)) ∧ ko = true := by
  cases a with
  | ni => exact .inl ⟨rfl, h⟩
  | x t u => exact .inr ⟨⟨t, u, rfl⟩, h⟩
  | _ => exact absurd h Bool.false_ne_true

def clS (a : A) (kn ko : Bool) : Bool := A.rec (motive_1 := fun _ => Bool) (motive_2 := fun _ => Bool) (fun _ => false) (fun _ _ => false) (fun _ => false) (false) (kn) (false) (false) (false) (fun _ _ => false) (fun _ _ _ => false) (fun _ => false) (fun kc cs n sz t st _ => ko) (fun l o n sz cap => ko) (fun _ => false) (fun _ _ _ _ _ => false) (fun _ _ _ => false) (fun _ _ => false) (fun _ _ => false) (false) (fun _ _ _ _ => false) a
theorem clS_inv {a : A} {kn ko : Bool} (h : clS a kn ko = true) : (a = .ns ∧ kn = true) ∨ ((∃ kc cs n sz t st, a = .v kc cs n sz t st) ∨ (∃ l o n sz cap, a = .w l o n sz cap)) ∧ ko = true := by
  cases a with
  | ns => exact .inl ⟨rfl, h⟩
  | v kc cs n sz t st => exact .inr ⟨.inl ⟨kc, cs, n, sz, t, st, rfl⟩, h⟩
  | w l o n sz cap => exact .inr ⟨.inr ⟨l, o, n, sz, cap, rfl⟩, h⟩
  | _ => exact absurd h Bool.false_ne_true


/-! ### lists -/
def nthK {α : Type} (l : List α) : Nat → (α → Bool) → Bool := List.rec (fun _ _ => false) (fun a _ ih n K => Nat.rec (K a) (fun m _ => ih m K) n) l
theorem nthK_inv {α : Type} : ∀ {l : List α} {n : Nat} {K : α → Bool}, nthK l n K = true → ∃ a, l[n]? = some a ∧ K a = true
  | [], _, _, h => absurd h Bool.false_ne_true
  | a :: _, 0, _, h => ⟨a, rfl, h⟩
  | _ :: l, n + 1, _, h => by simpa using nthK_inv (l := l) (n := n) h

def takeK {α : Type} (n : Nat) : List α → (List α → Bool) → Bool := Nat.rec (fun _ K => K []) (fun _ ih l K => List.rec false (fun a r _ => ih r fun r' => K (a :: r')) l) n
theorem takeK_inv {α : Type} : ∀ {n : Nat} {l : List α} {K : List α → Bool}, takeK n l K = true → n ≤ l.length ∧ K (l.take n) = true
  | 0, _, _, h => ⟨Nat.zero_le _, h⟩
  | n + 1, [], _, h => absurd h Bool.false_ne_true
  | n + 1, a :: l, K, h => by
    have := takeK_inv (n := n) (l := l) (K := fun r' => K (a :: r')) h
    exact ⟨Nat.succ_le_succ this.1, this.2⟩

def dropK {α : Type} (n : Nat) : List α → (List α → Bool) → Bool := Nat.rec (fun l K => K l) (fun _ ih l K => List.rec false (fun _ r _ => ih r K) l) n
theorem dropK_inv {α : Type} : ∀ {n : Nat} {l : List α} {K : List α → Bool}, dropK n l K = true → n ≤ l.length ∧ K (l.drop n) = true
  | 0, _, _, h => ⟨Nat.zero_le _, h⟩
  | n + 1, [], _, h => absurd h Bool.false_ne_true
  | n + 1, a :: l, K, h => by
    have := dropK_inv (n := n) (l := l) (K := K) h
    exact ⟨Nat.succ_le_succ this.1, this.2⟩

theorem takeN_of {cs : List A} {off n : Nat} (h1 : off ≤ cs.length) (h2 : n ≤ (cs.drop off).length) : takeN cs off n = some ((cs.drop off).take n) := by
  unfold takeN
  rw [if_pos]
  rw [List.length_drop] at h2
  omega

def takeNK (cs : List A) (off n : Nat) (K : List A → Bool) : Bool := dropK off cs fun r => takeK n r K
theorem takeNK_inv {cs : List A} {off n : Nat} {K : List A → Bool} (h : takeNK cs off n K = true) : ∃ l, takeN cs off n = some l ∧ K l = true := by
  obtain ⟨h1, h2⟩ := dropK_inv h
  obtain ⟨h3, h4⟩ := takeK_inv h2
  exact ⟨_, takeN_of h1 h3, h4⟩

def replK (new : List A) : List A → (List A → Bool) → Bool := List.rec (fun l K => K l) (fun a _ ih l K => List.rec false (fun _ r _ => ih r fun r' => K (a :: r')) l) new
theorem replK_inv : ∀ {new l : List A} {K : List A → Bool}, replK new l K = true → new.length ≤ l.length ∧ K (new ++ l.drop new.length) = true
  | [], _, _, h => ⟨Nat.zero_le _, h⟩
  | _ :: _, [], _, h => absurd h Bool.false_ne_true
  | a :: new, _ :: l, K, h => by
    have := replK_inv (new := new) (l := l) (K := fun r' => K (a :: r')) h
    exact ⟨Nat.succ_le_succ this.1, this.2⟩

def putNK (new : List A) (off : Nat) : List A → (List A → Bool) → Bool := Nat.rec (fun l K => replK new l K) (fun _ ih l K => List.rec false (fun a r _ => ih r fun r' => K (a :: r')) l) off
theorem putNK_inv : ∀ {new : List A} {off : Nat} {cs : List A} {K : List A → Bool}, putNK new off cs K = true → ∃ l, putN cs off new = some l ∧ K l = true
  | new, 0, cs, K, h => by
    obtain ⟨h1, h2⟩ := replK_inv (new := new) (l := cs) (K := K) h
    exact ⟨_, by unfold putN; rw [if_pos (by omega)], by simpa using h2⟩
  | _, n + 1, [], _, h => absurd h Bool.false_ne_true
  | new, n + 1, a :: cs, K, h => by
    obtain ⟨l, h1, h2⟩ := putNK_inv (new := new) (off := n) (cs := cs) (K := fun r' => K (a :: r')) h
    refine ⟨a :: l, ?_, h2⟩
    unfold putN at h1 ⊢
    split at h1
    · rename_i hl
      simp only [Option.some.injEq] at h1
      subst h1
      rw [if_pos (by simp only [List.length_cons]; omega)]
      simp [Nat.add_right_comm n 1]
    · cases h1

def lenR {α : Type} (l : List α) : Nat := List.rec 0 (fun _ _ ih => Nat.succ ih) l
theorem lenR_eq {α : Type} : ∀ (l : List α), lenR l = l.length
  | [] => rfl
  | _ :: l => congrArg Nat.succ (lenR_eq l)

/-- One list behind another. -/
def appK (l : List A) : List A → (List A → Bool) → Bool := List.rec (fun r K => K r) (fun a _ ih r K => ih r fun l' => K (a :: l')) l
theorem appK_eq : ∀ (l r : List A) (K : List A → Bool), appK l r K = K (l ++ r)
  | [], _, _ => rfl
  | a :: l, r, K => appK_eq l r fun l' => K (a :: l')

def appNK (l : List Nat) : List Nat → (List Nat → Bool) → Bool := List.rec (fun r K => K r) (fun a _ ih r K => ih r fun l' => K (a :: l')) l
theorem appNK_eq : ∀ (l r : List Nat) (K : List Nat → Bool), appNK l r K = K (l ++ r)
  | [], _, _ => rfl
  | a :: l, r, K => appNK_eq l r fun l' => K (a :: l')

def eqLN (l : List Nat) : List Nat → Bool := List.rec (fun r => List.rec true (fun _ _ _ => false) r) (fun a _ ih r => List.rec false (fun b r _ => xB (Nat.beq a b) (ih r) false) r) l
theorem eqLN_eq : ∀ (l r : List Nat), eqLN l r = (l == r)
  | [], [] => rfl
  | [], _ :: _ => rfl
  | _ :: _, [] => rfl
  | a :: l, b :: r => by
    show xB (Nat.beq a b) (eqLN l r) false = _
    rw [xB_eq, eqLN_eq l r, show Nat.beq a b = (a == b) from (by rw [Bool.eq_iff_iff, Nat.beq_eq, beq_iff_eq])]
    rw [List.cons_beq_cons]
    cases a == b <;> rfl

/-! ### numbers -/
def kdN (k : IntKind) : Nat := IntKind.rec 0 1 2 3 4 5 6 7 k
theorem kdN_inj {k k' : IntKind} (h : Nat.beq (kdN k) (kdN k') = true) : k = k' := by
  have := Nat.eq_of_beq_eq_true h
  cases k <;> cases k' <;> first | rfl | (simp [kdN] at this)

def ltI (a b : Int) (k : Bool → Bool) : Bool :=
  Int.rec (fun m => Int.rec (fun n => kB (Nat.ble (Nat.succ m) n) k) (fun _ => k false) b) (fun m => Int.rec (fun _ => k true) (fun n => kB (Nat.ble (Nat.succ n) m) k) b) a
theorem ltI_eq (a b : Int) (k : Bool → Bool) : ltI a b k = k (decide (a < b)) := by
  cases a with
  | ofNat m => cases b with
    | ofNat n =>
      show kB (Nat.ble (Nat.succ m) n) k = _
      rw [kB_eq]
      congr 1
      rw [Bool.eq_iff_iff, Nat.ble_eq, decide_eq_true_iff]
      simp only [Int.ofNat_eq_natCast]
      omega
    | negSucc n =>
      show k false = _
      rw [decide_eq_false (by simp only [Int.ofNat_eq_natCast, Int.negSucc_eq]; omega)]
  | negSucc m => cases b with
    | ofNat n =>
      show k true = _
      rw [decide_eq_true (by simp only [Int.ofNat_eq_natCast, Int.negSucc_eq]; omega)]
    | negSucc n =>
      show kB (Nat.ble (Nat.succ n) m) k = _
      rw [kB_eq]
      congr 1
      rw [Bool.eq_iff_iff, Nat.ble_eq, decide_eq_true_iff]
      simp only [Int.negSucc_eq]
      omega

def eqI (a b : Int) (k : Bool → Bool) : Bool :=
  Int.rec (fun m => Int.rec (fun n => kB (Nat.beq m n) k) (fun _ => k false) b) (fun m => Int.rec (fun _ => k false) (fun n => kB (Nat.beq m n) k) b) a
theorem eqI_eq (a b : Int) (k : Bool → Bool) : eqI a b k = k (a == b) := by
  cases a with
  | ofNat m => cases b with
    | ofNat n =>
      show kB (Nat.beq m n) k = _
      rw [kB_eq]
      congr 1
      rw [Bool.eq_iff_iff, Nat.beq_eq, beq_iff_eq]
      simp only [Int.ofNat_eq_natCast]
      omega
    | negSucc n => rfl
  | negSucc m => cases b with
    | ofNat n => rfl
    | negSucc n =>
      show kB (Nat.beq m n) k = _
      rw [kB_eq]
      congr 1
      rw [Bool.eq_iff_iff, Nat.beq_eq, beq_iff_eq]
      simp only [Int.negSucc_eq]
      omega

/-- m - n. -/
def subNN (m n : Nat) (k : Int → Bool) : Bool := xB (Nat.ble n m) (kN (Nat.sub m n) fun r => k (Int.ofNat r)) (kN (Nat.sub n (Nat.succ m)) fun r => k (Int.negSucc r))
theorem subNN_eq (m n : Nat) (k : Int → Bool) : subNN m n k = k ((m : Int) - n) := by
  unfold subNN
  rw [xB_eq]
  split
  · rename_i h
    rw [Nat.ble_eq] at h
    rw [kN_eq]
    congr 1
    simp only [Int.ofNat_eq_natCast, Nat.sub_eq]
    omega
  · rename_i h
    rw [Nat.ble_eq] at h
    rw [kN_eq]
    congr 1
    simp only [Int.negSucc_eq, Nat.sub_eq]
    omega

def addI (a b : Int) (k : Int → Bool) : Bool :=
  Int.rec (fun m => Int.rec (fun n => kN (Nat.add m n) fun r => k (Int.ofNat r)) (fun n => subNN m (Nat.succ n) k) b)
    (fun m => Int.rec (fun n => subNN n (Nat.succ m) k) (fun n => kN (Nat.succ (Nat.add m n)) fun r => k (Int.negSucc r)) b) a
theorem addI_eq (a b : Int) (k : Int → Bool) : addI a b k = k (a + b) := by
  cases a with
  | ofNat m => cases b with
    | ofNat n =>
      show kN (Nat.add m n) (fun r => k (Int.ofNat r)) = _
      rw [kN_eq]; rfl
    | negSucc n =>
      show subNN m (Nat.succ n) k = _
      rw [subNN_eq]; rfl
  | negSucc m => cases b with
    | ofNat n =>
      show subNN n (Nat.succ m) k = _
      rw [subNN_eq]; rfl
    | negSucc n =>
      show kN (Nat.succ (Nat.add m n)) (fun r => k (Int.negSucc r)) = _
      rw [kN_eq]; rfl

def subI (a b : Int) (k : Int → Bool) : Bool :=
  Int.rec (fun m => Int.rec (fun n => subNN m n k) (fun n => kN (Nat.add m (Nat.succ n)) fun r => k (Int.ofNat r)) b)
    (fun m => Int.rec (fun n => kN (Nat.add m n) fun r => k (Int.negSucc r)) (fun n => subNN n m k) b) a
theorem subI_eq (a b : Int) (k : Int → Bool) : subI a b k = k (a - b) := by
  cases a with
  | ofNat m => cases b with
    | ofNat n =>
      show subNN m n k = _
      rw [subNN_eq]; rfl
    | negSucc n =>
      show kN (Nat.add m (Nat.succ n)) (fun r => k (Int.ofNat r)) = _
      rw [kN_eq]; rfl
  | negSucc m => cases b with
    | ofNat n =>
      show kN (Nat.add m n) (fun r => k (Int.negSucc r)) = _
      rw [kN_eq]; congr 1
      simp only [Int.ofNat_eq_natCast, Int.negSucc_eq, Nat.add_eq]; omega
    | negSucc n =>
      show subNN n m k = _
      rw [subNN_eq]; congr 1
      simp only [Int.negSucc_eq]; omega

/-- The greatest number of a kind, and how far below -1 it goes. -/
def mxK (k : IntKind) : Nat := IntKind.rec (motive := fun _ => Nat) 127 32767 2147483647 9223372036854775807 255 65535 4294967295 18446744073709551615 k
def sgK (k : IntKind) (t e : Bool) : Bool := IntKind.rec (motive := fun _ => Bool) t t t t e e e e k
def wrK (k : IntKind) (z : Int) (K : Int → Bool) : Bool :=
  Int.rec (fun n => xB (Nat.ble n (mxK k)) (K (Int.ofNat n)) (kI (k.wrap (Int.ofNat n)) K))
    (fun n => sgK k (xB (Nat.ble n (mxK k)) (K (Int.negSucc n)) (kI (k.wrap (Int.negSucc n)) K)) (kI (k.wrap (Int.negSucc n)) K)) z
theorem wrap_nat (k : IntKind) (n : Nat) (h : n ≤ mxK k) : k.wrap (Int.ofNat n) = Int.ofNat n := by
  cases k
  · exact i8_in _ ⟨by simp only [Int.ofNat_eq_natCast]; omega, by simp only [mxK] at h; simp only [Int.ofNat_eq_natCast]; omega⟩
  · exact i16_in _ ⟨by simp only [Int.ofNat_eq_natCast]; omega, by simp only [mxK] at h; simp only [Int.ofNat_eq_natCast]; omega⟩
  · exact i32_in _ ⟨by simp only [Int.ofNat_eq_natCast]; omega, by simp only [mxK] at h; simp only [Int.ofNat_eq_natCast]; omega⟩
  · exact i64_in _ ⟨by simp only [Int.ofNat_eq_natCast]; omega, by simp only [mxK] at h; simp only [Int.ofNat_eq_natCast]; omega⟩
  · exact u8_in _ ⟨by simp only [Int.ofNat_eq_natCast]; omega, by simp only [mxK] at h; simp only [Int.ofNat_eq_natCast]; omega⟩
  · exact u16_in _ ⟨by simp only [Int.ofNat_eq_natCast]; omega, by simp only [mxK] at h; simp only [Int.ofNat_eq_natCast]; omega⟩
  · exact u32_in _ ⟨by simp only [Int.ofNat_eq_natCast]; omega, by simp only [mxK] at h; simp only [Int.ofNat_eq_natCast]; omega⟩
  · exact u64_in _ ⟨by simp only [Int.ofNat_eq_natCast]; omega, by simp only [mxK] at h; simp only [Int.ofNat_eq_natCast]; omega⟩
theorem wrap_neg (k : IntKind) (n : Nat) (hs : k.signed = true) (h : n ≤ mxK k) : k.wrap (Int.negSucc n) = Int.negSucc n := by
  cases k
  · exact i8_in _ ⟨by simp only [mxK] at h; simp only [Int.negSucc_eq]; omega, by simp only [Int.negSucc_eq]; omega⟩
  · exact i16_in _ ⟨by simp only [mxK] at h; simp only [Int.negSucc_eq]; omega, by simp only [Int.negSucc_eq]; omega⟩
  · exact i32_in _ ⟨by simp only [mxK] at h; simp only [Int.negSucc_eq]; omega, by simp only [Int.negSucc_eq]; omega⟩
  · exact i64_in _ ⟨by simp only [mxK] at h; simp only [Int.negSucc_eq]; omega, by simp only [Int.negSucc_eq]; omega⟩
  all_goals exact absurd hs Bool.false_ne_true
theorem wrK_eq (k : IntKind) (z : Int) (K : Int → Bool) : wrK k z K = K (k.wrap z) := by
  cases z with
  | ofNat n =>
    show xB (Nat.ble n (mxK k)) (K (Int.ofNat n)) (kI (k.wrap (Int.ofNat n)) K) = _
    rw [xB_eq, kI_eq]
    split
    · rename_i h
      rw [wrap_nat k n (Nat.le_of_ble_eq_true h)]
    · rfl
  | negSucc n =>
    have f : k.signed = true → xB (Nat.ble n (mxK k)) (K (Int.negSucc n)) (kI (k.wrap (Int.negSucc n)) K) = K (k.wrap (Int.negSucc n)) := by
      intro hs
      rw [xB_eq, kI_eq]
      split
      · rename_i h
        rw [wrap_neg k n hs (Nat.le_of_ble_eq_true h)]
      · rfl
    show sgK k (xB (Nat.ble n (mxK k)) (K (Int.negSucc n)) (kI (k.wrap (Int.negSucc n)) K)) (kI (k.wrap (Int.negSucc n)) K) = _
    have g : ∀ a : Bool, sgK k a a = a := by intro a; cases k <;> rfl
    cases hs : k.signed with
    | true => rw [f hs, kI_eq, g]
    | false =>
      rw [kI_eq]
      cases k <;> first | exact absurd hs.symm Bool.false_ne_true | rfl

end
end Go.VV
