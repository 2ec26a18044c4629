/- The fast machine's operations. -/
import Derived.Test.YtlppiajnonbaaaaGreatDoorFb
import Derived.Test.YtlppiajnonbaaaaGreatDoorVt
set_option linter.unusedVariables false
set_option linter.unusedSimpArgs false
namespace Go.VV
noncomputable section

abbrev CKF := FuncId → List A → FS → (A → FS → Bool) → Bool
structure XW where x : En → A
structure KW where run : CKF → En → FS → (Option Nat → A → FS → Bool) → Bool
structure TW where t : En → (Tr A → Bool) → Bool

def Iv (s : FS) : Prop := ∀ l so, s.hp.get l = some so → so.st < s.ctr
def CkOk (ckF : CKF) (ck : CK) : Prop := ∀ f args s k, Iv s → ckF f args s k = true → ∃ a s', ck f args s.toSt = some (a, s'.toSt) ∧ Le s s' ∧ k a s' = true

def rStep (ck : CK) (σ : St) : R → Option (Option Nat × A × St)
  | .val rd a => some (rd, a, σ)
  | .new a ob => some (some σ.nx, a, σ.new ob)
  | .eff a σ' => some (none, a, σ')
  | .call f args => (ck f args σ).map fun (a, σ') => (none, a, σ')
def aStep (E : Env) (pol : Pol) (ck : CK) (tm : Tm) (σ : St) (o : Oper) : Option (Option Nat × A × St) := (aOp E pol tm σ o).bind (rStep ck σ)

variable {E : Env} {pol : Pol}
def KOk (E : Env) (pol : Pol) (w : KW) (o : Oper) : Prop := ∀ (ckF : CKF) (ck : CK), CkOk ckF ck → ∀ (e : En) (tm : Tm) (s : FS) (k : Option Nat → A → FS → Bool), Rep e tm → Iv s → w.run ckF e s k = true →
  ∃ rd a s', aStep E pol ck tm s.toSt o = some (rd, a, s'.toSt) ∧ Le s s' ∧ k rd a s' = true
def XOk (E : Env) (x : Operand) (w : XW) : Prop := ∀ (e : En) (tm : Tm), Rep e tm → ev E tm x = some (w.x e)

def failK : KW := ⟨fun _ _ _ _ => false⟩
theorem failK_ok {o : Oper} : KOk E pol failK o := fun _ _ _ _ _ _ _ _ _ h => absurd h Bool.false_ne_true

def cX (E : Env) (x : Operand) (K : XW → KW) : KW := match x with
  | .tmp t => if t < 512 then K ⟨fun e => (mkG t).g e⟩ else failK
  | x => match ev E ⟨0, .e⟩ x with
    | some a => K ⟨fun _ => a⟩
    | none => failK
theorem cX_ok {x : Operand} {K : XW → KW} {o : Oper} (h : ∀ w, XOk E x w → KOk E pol (K w) o) : KOk E pol (cX E x K) o := by
  have g : ∀ a, (∀ tm, ev E tm x = some a) → KOk E pol (K ⟨fun _ => a⟩) o := fun a ha => h _ fun e tm _ => ha tm
  unfold cX
  split
  · split
    · rename_i t ht
      exact h _ fun e tm hr => congrArg some (hr t ht).symm
    · exact failK_ok
  · rename_i hx
    split
    · rename_i a ha
      refine g a fun tm => ?_
      rw [← ha]
      cases x with
      | tmp t => exact (hx t rfl).elim
      | _ => rfl
    · exact failK_ok

/-! ### the general road -/
def tmsOf (o : Oper) : List Tmp := o.op.operands.toList.filterMap fun | .tmp t => some t | _ => none
def gTm (l : List Tmp) : TW := List.rec (motive := fun _ => TW) ⟨fun _ K => K .e⟩ (fun t _ ih => ⟨fun e K => ih.t e fun tr => Tr.sK (Nat.succ t) tr t (some ((mkG t).g e)) K⟩) l
theorem gTm_spec : ∀ {l : List Tmp} {e : En} {K : Tr A → Bool}, (gTm l).t e K = true → ∃ tr, (∀ t ∈ l, tr.get t = some (e.get t)) ∧ K tr = true
  | [], _, _, h => ⟨.e, fun _ h => absurd h (List.not_mem_nil), h⟩
  | t :: l, e, K, h => by
    obtain ⟨tr, h1, h2⟩ := gTm_spec (l := l) (e := e) (K := fun tr => Tr.sK (Nat.succ t) tr t (some ((mkG t).g e)) K) h
    rw [Tr.sK_eq] at h2
    refine ⟨_, fun u hu => ?_, h2⟩
    show (Tr.set tr t _).get u = _
    rw [Tr.get_set]
    split
    · rename_i hut; rw [hut]; rfl
    · rename_i hut
      exact h1 u (by simpa [hut] using hu)

def goR (ckF : CKF) (s : FS) (k : Option Nat → A → FS → Bool) (r : R) : Bool :=
  R.rec (fun rd a => fD a fun a => k rd a s) (fun a ob => fD a fun a => fOb ob fun ob => nwF s ob fun l s' => k (some l) a s') (fun _ _ => false) (fun f args => fL args fun args => ckF f args s fun a s' => k none a s') r
theorem goR_inv {ckF : CKF} {ck : CK} (hc : CkOk ckF ck) {s : FS} (hi : Iv s) {k : Option Nat → A → FS → Bool} {r : R} (h : goR ckF s k r = true) : ∃ rd a s', rStep ck s.toSt r = some (rd, a, s'.toSt) ∧ Le s s' ∧ k rd a s' = true := by
  cases r with
  | val rd a => have h : fD a (fun a => k rd a s) = true := h; rw [fD_eq] at h; exact ⟨rd, a, s, rfl, Le.refl s, h⟩
  | new a ob =>
    have h : fD a (fun a => fOb ob fun ob => nwF s ob fun l s' => k (some l) a s') = true := h
    rw [fD_eq, fOb_eq, nwF_eq] at h
    exact ⟨some s.nx, a, s.nw ob, by rw [FS.toSt_nw]; rfl, FS.le_nw s ob, h⟩
  | eff a σ => exact absurd h Bool.false_ne_true
  | call f args =>
    have h : fL args (fun args => ckF f args s fun a s' => k none a s') = true := h
    rw [fL_eq] at h
    obtain ⟨a, s', h1, h2, h3⟩ := hc f args s _ hi h
    exact ⟨none, a, s', by simp only [rStep, h1, Option.map_some], h2, h3⟩

def genK (E : Env) (pol : Pol) (o : Oper) : KW := if (tmsOf o).all (fun t => decide (t < 512)) then
  ⟨fun ckF e s k => (gTm (tmsOf o)).t e fun tr => Option.rec false (fun r => goR ckF s k r) (aOp E pol ⟨0, tr⟩ s.toSt o)⟩ else failK
theorem genK_ok (o : Oper) : KOk E pol (genK E pol o) o := by
  unfold genK
  split
  · rename_i hall
    intro ckF ck hc e tm s k hr hi h
    obtain ⟨tr, h1, h2⟩ := gTm_spec h
    have e1 : aOp E pol tm s.toSt o = aOp E pol ⟨0, tr⟩ s.toSt o := aOp_congr fun t ht => by
      have hm : t ∈ tmsOf o := by
        simp only [tmsOf, List.mem_filterMap]
        exact ⟨.tmp t, Array.mem_toList_iff.2 ht, rfl⟩
      have ht5 : t < 512 := by simpa using List.all_eq_true.1 hall t hm
      show tm.get t = (tr.get t).getD un
      rw [h1 t hm, ← hr t ht5]; rfl
    unfold aStep
    rw [e1]
    cases hA : aOp E pol ⟨0, tr⟩ s.toSt o with
    | none => rw [hA] at h2; exact absurd h2 Bool.false_ne_true
    | some r => rw [hA] at h2; exact goR_inv hc hi h2
  · exact failK_ok

/-! ### the common operations -/
def ldK (agg : Bool) (sz : Nat) (cs : List A) (off : Nat) (K : A → Bool) : Bool := Bool.rec (nthK cs off K) (takeNK cs off sz fun l => K (.g l)) agg
theorem ldK_inv {agg : Bool} {sz : Nat} {cs : List A} {off : Nat} {K : A → Bool} (h : ldK agg sz cs off K = true) : ∃ a, loadA agg cs off sz = some a ∧ K a = true := by
  cases agg with
  | false => exact nthK_inv h
  | true =>
    obtain ⟨l, h1, h2⟩ := takeNK_inv h
    exact ⟨.g l, by simp only [loadA, h1, if_true, Option.map_some], h2⟩

def mvK (y : XW) : KW := ⟨fun _ e s k => frc (y.x e) fun a => k none a s⟩
theorem mvK_ok {y : XW} {x : Operand} {o : Oper} (hy : XOk E x y) (ho : ∀ tm σ, aOp E pol tm σ o = R.ofA (ev E tm x)) : KOk E pol (mvK y) o := by
  intro ckF ck hc e tm s k hr hi h
  change frc _ _ = true at h
  rw [frc_eq] at h
  exact ⟨none, _, s, by unfold aStep; rw [ho, hy e tm hr]; rfl, Le.refl s, h⟩

def pickK (c y z : XW) : KW := ⟨fun _ e s k => onB (c.x e) (fun b => xB b (frc (y.x e) fun a => k none a s) (frc (z.x e) fun a => k none a s)) false⟩
theorem pickK_ok {c y z : XW} {oc oy oz : Operand} {o : Oper} (hc' : XOk E oc c) (hy : XOk E oy y) (hz : XOk E oz z) (ho : o.op = .pick oc oy oz) : KOk E pol (pickK c y z) o := by
  intro ckF ck hc e tm s k hr hi h
  obtain ⟨b, h1, h2⟩ := onB_inv h
  rw [frc_eq, frc_eq, xB_eq] at h2
  cases b with
  | true => exact ⟨none, _, s, by simp only [aStep, aOp, ho, hc' e tm hr, h1, hy e tm hr, R.ofA, Option.map_some, Option.bind_some, rStep], Le.refl s, h2⟩
  | false => exact ⟨none, _, s, by simp only [aStep, aOp, ho, hc' e tm hr, h1, hz e tm hr, R.ofA, Option.map_some, Option.bind_some, rStep], Le.refl s, h2⟩

def allocK (T : TI) : KW := ⟨fun _ _ s k => nwF s (.c T.zero) fun l s' => k (some l) (.p l 0) s'⟩
theorem allocK_ok {t : TypeId} {T : TI} {o : Oper} (hT : E.ti t = some T) (ho : o.op = .alloc t) : KOk E pol (allocK T) o := by
  intro ckF ck hc e tm s k hr hi h
  have h : nwF s (.c T.zero) (fun l s' => k (some l) (.p l 0) s') = true := h
  rw [nwF_eq] at h
  exact ⟨_, _, _, by simp only [aStep, aOp, ho, hT, Option.map_some, Option.bind_some, rStep, FS.toSt_nw, FS.toSt_nx], FS.le_nw s _, h⟩

def boxK (y : XW) : KW := ⟨fun _ e s k => clK (y.x e) fun cs => nwF s (.c cs) fun l s' => k (some l) (.p l 0) s'⟩
theorem boxK_ok {y : XW} {t : TypeId} {oy : Operand} {o : Oper} (hy : XOk E oy y) (ho : o.op = .box t oy) : KOk E pol (boxK y) o := by
  intro ckF ck hc e tm s k hr hi h
  have h : clK (y.x e) (fun cs => nwF s (.c cs) fun l s' => k (some l) (.p l 0) s') = true := h
  obtain ⟨h1, h2⟩ := clK_inv h
  rw [nwF_eq] at h2
  exact ⟨_, _, _, by simp only [aStep, aOp, ho, hy e tm hr, Option.bind_some, h1, if_true, rStep, FS.toSt_nw, FS.toSt_nx], FS.le_nw s _, h2⟩

def loadK (T : TI) (y : XW) : KW := ⟨fun _ e s k => onPQ (y.x e) (fun l off => rowF s l fun cs => ldK T.u.agg T.sz cs off fun a => k (some l) a s) (fun cs off => ldK T.u.agg T.sz cs off fun a => k none a s)⟩
theorem loadK_ok {y : XW} {t : TypeId} {T : TI} {oy : Operand} {o : Oper} (hT : E.ti t = some T) (hy : XOk E oy y) (ho : o.op = .load t oy) : KOk E pol (loadK T y) o := by
  intro ckF ck hc e tm s k hr hi h
  rcases onPQ_inv h with ⟨l, off, h1, h⟩ | ⟨cs, off, h1, h⟩
  · obtain ⟨cs, h2, h⟩ := rowF_inv h
    obtain ⟨a, h3, h⟩ := ldK_inv h
    exact ⟨some l, a, s, by simp only [aStep, aOp, ho, hy e tm hr, h1, hT, h2, h3, Option.map_some, Option.bind_some, rStep], Le.refl s, h⟩
  · obtain ⟨a, h3, h⟩ := ldK_inv h
    exact ⟨none, a, s, by simp only [aStep, aOp, ho, hy e tm hr, h1, hT, h3, R.ofA, Option.map_some, Option.bind_some, rStep], Le.refl s, h⟩

def storeK (T : TI) (y z : XW) : KW := ⟨fun _ e s k => onP (y.x e) (fun l off => clK (z.x e) fun c => xB (Nat.beq (lenR c) T.sz) (rowF s l fun cs => putNK c off cs fun cs' => wrF s l (.c cs') fun s' => k none un s') false) false⟩
theorem storeK_ok {y z : XW} {t : TypeId} {T : TI} {oy oz : Operand} {o : Oper} (hT : E.ti t = some T) (hy : XOk E oy y) (hz : XOk E oz z) (ho : o.op = .store t oy oz) : KOk E pol (storeK T y z) o := by
  intro ckF ck hc e tm s k hr hi h
  obtain ⟨l, off, h1, h⟩ := onP_inv h
  obtain ⟨h2, h⟩ := clK_inv h
  obtain ⟨h3, h⟩ := xB_and h
  obtain ⟨cs, h4, h⟩ := rowF_inv h
  obtain ⟨cs', h5, h⟩ := putNK_inv h
  rw [wrF_eq] at h
  rw [lenR_eq] at h3
  have h3 := Nat.eq_of_beq_eq_true h3
  exact ⟨none, un, _, by simp only [aStep, aOp, ho, hy e tm hr, hz e tm hr, h1, hT, h2, h3, h4, h5, Option.map_some, Option.bind_some, rStep, FS.toSt_wr, and_self, if_true], FS.le_wr s _ _, h⟩

def ncK (G : KW) (y : XW) : KW := ⟨fun ckF e s k => nilK (y.x e) (fun a => k none a s) (G.run ckF e s k)⟩
theorem ncK_ok {G : KW} {y : XW} {oy : Operand} {o : Oper} (hG : KOk E pol G o) (hy : XOk E oy y) (ho : o.op = .nilCheck oy) : KOk E pol (ncK G y) o := by
  intro ckF ck hc e tm s k hr hi h
  have h : nilK (y.x e) (fun a => k none a s) (G.run ckF e s k) = true := h
  rw [nilK_eq] at h
  split at h
  · rename_i l o' h1
    exact ⟨none, _, s, by simp only [aStep, aOp, ho, hy e tm hr, h1, R.ofA, Option.map_some, Option.bind_some, rStep], Le.refl s, h⟩
  · rename_i cs o' h1
    exact ⟨none, _, s, by simp only [aStep, aOp, ho, hy e tm hr, h1, R.ofA, Option.map_some, Option.bind_some, rStep], Le.refl s, h⟩
  · rename_i t u h1
    exact ⟨none, _, s, by simp only [aStep, aOp, ho, hy e tm hr, h1, R.ofA, Option.map_some, Option.bind_some, rStep], Le.refl s, h⟩
  · exact hG ckF ck hc e tm s k hr hi h

/-- Two numbers of a kind. -/
structure IW where f : IntKind → Int → Int → (A → Bool) → Bool
def intW (op : BinOp) : Option IW := match op with
  | .add => some ⟨fun kd a b K => addI a b fun r => wrK kd r fun r => K (.i kd r)⟩
  | .sub => some ⟨fun kd a b K => subI a b fun r => wrK kd r fun r => K (.i kd r)⟩
  | .eql => some ⟨fun _ a b K => eqI a b fun r => K (.b r)⟩
  | .neq => some ⟨fun _ a b K => eqI a b fun r => xB r (K (.b false)) (K (.b true))⟩
  | .lss => some ⟨fun _ a b K => ltI a b fun r => K (.b r)⟩
  | .gtr => some ⟨fun _ a b K => ltI b a fun r => K (.b r)⟩
  | .leq => some ⟨fun _ a b K => ltI b a fun r => xB r (K (.b false)) (K (.b true))⟩
  | .geq => some ⟨fun _ a b K => ltI a b fun r => xB r (K (.b false)) (K (.b true))⟩
  | _ => none
theorem intW_ok {op : BinOp} {w : IW} (h : intW op = some w) {kd : IntKind} {a b : Int} {K : A → Bool} (hK : w.f kd a b K = true) (t : TypeId) (cst : Bool) : ∃ r, aBin E op t cst (.i kd a) (.i kd b) = some r ∧ K r = true := by
  have nt : ∀ (r : Bool), xB r (K (.b false)) (K (.b true)) = K (.b (!r)) := by intro r; cases r <;> rfl
  cases op <;> simp only [intW, Option.some.injEq, reduceCtorEq] at h <;> subst h <;> simp only [addI_eq, subI_eq, wrK_eq, eqI_eq, ltI_eq, nt] at hK
  · exact ⟨_, by simp only [aBin, if_true, Op.intArith, pv]; rfl, hK⟩
  · exact ⟨_, by simp only [aBin, if_true, Op.intArith, pv]; rfl, hK⟩
  · exact ⟨_, by simp only [aBin, if_true, Op.intCmp, pv]; rfl, hK⟩
  · exact ⟨_, by simp only [aBin, if_true, Op.intCmp, pv]; rfl, hK⟩
  · exact ⟨_, by simp only [aBin, if_true, Op.intCmp, pv]; rfl, hK⟩
  · have e : (!decide (b < a)) = decide (a ≤ b) := by rw [← decide_not]; exact decide_eq_decide.2 Int.not_lt
    rw [e] at hK
    exact ⟨_, by simp only [aBin, if_true, Op.intCmp, pv]; rfl, hK⟩
  · exact ⟨_, by simp only [aBin, if_true, Op.intCmp, pv]; rfl, hK⟩
  · have e : (!decide (a < b)) = decide (a ≥ b) := by rw [← decide_not]; exact decide_eq_decide.2 Int.not_lt
    rw [e] at hK
    exact ⟨_, by simp only [aBin, if_true, Op.intCmp, pv]; rfl, hK⟩

/-- Two texts. -/
structure SW2 where f : List Nat → List Nat → (A → Bool) → Bool
def strW (op : BinOp) : Option SW2 := match op with
  | .eql => some ⟨fun a b K => kB (eqLN a b) fun r => K (.b r)⟩
  | .neq => some ⟨fun a b K => xB (eqLN a b) (K (.b false)) (K (.b true))⟩
  | .add => some ⟨fun a b K => xB (Nat.ble (Nat.succ (Nat.add (lenR a) (lenR b))) (2 ^ 40)) (appNK a b fun l => K (.s l)) false⟩
  | _ => none
theorem strW_ok {op : BinOp} {w : SW2} (h : strW op = some w) {a b : List Nat} {K : A → Bool} (hK : w.f a b K = true) (t : TypeId) (cst : Bool) : ∃ r, aBin E op t cst (.s a) (.s b) = some r ∧ K r = true := by
  have nt : ∀ (r : Bool), xB r (K (.b false)) (K (.b true)) = K (.b (!r)) := by intro r; cases r <;> rfl
  cases op <;> simp only [strW, Option.some.injEq, reduceCtorEq] at h <;> subst h
  · obtain ⟨h1, h2⟩ := xB_and hK
    rw [appNK_eq] at h2
    rw [lenR_eq, lenR_eq] at h1
    have h1 := Nat.le_of_ble_eq_true h1
    exact ⟨_, by simp only [aBin, strOp]; rw [if_pos (show a.length + b.length < 2 ^ 40 from h1)], h2⟩
  · simp only [kB_eq, eqLN_eq] at hK
    exact ⟨_, by simp only [aBin, strOp], hK⟩
  · simp only [eqLN_eq, nt] at hK
    exact ⟨_, by simp only [aBin, strOp], hK⟩

/-- Against nil, and the like: what '==' says of two pointers, interfaces, slices, of which one is nil. -/
structure NW where f : A → A → (Bool → Bool) → Bool
def nilW (u : U) : Option NW := match u with
  | .ptr _ => some ⟨fun x y K => clP x (clP y (K true) (K false)) (clP y (K false) false)⟩
  | .iface _ => some ⟨fun x y K => clI x (clI y (K true) (K false)) (clI y (K false) false)⟩
  | .slice _ => some ⟨fun x y K => clS x (clS y (K true) (K false)) (clS y (K false) false)⟩
  | _ => none
theorem nilW_ok {t : TypeId} {T : TI} {w : NW} (hT : E.ti t = some T) (h : nilW T.u = some w) {x y : A} {K : Bool → Bool} (hK : w.f x y K = true) : ∃ r, eqA E 20 t x y = some r ∧ K r = true ∧ (∀ k n, x ≠ .i k n) ∧ (∀ l, x ≠ .s l) := by
  unfold nilW at h
  split at h
  · rename_i e hu
    simp only [Option.some.injEq] at h; subst h
    rcases clP_inv hK with ⟨rfl, h⟩ | ⟨⟨l, o, rfl⟩, h⟩
    · rcases clP_inv h with ⟨rfl, h⟩ | ⟨⟨l, o, rfl⟩, h⟩
      · exact ⟨true, by simp only [eqA, hT, Option.bind_some, hu], h, by simp, by simp⟩
      · exact ⟨false, by simp only [eqA, hT, Option.bind_some, hu], h, by simp, by simp⟩
    · rcases clP_inv h with ⟨rfl, h⟩ | ⟨_, h⟩
      · exact ⟨false, by simp only [eqA, hT, Option.bind_some, hu], h, by simp, by simp⟩
      · exact absurd h Bool.false_ne_true
  · rename_i e hu
    simp only [Option.some.injEq] at h; subst h
    rcases clI_inv hK with ⟨rfl, h⟩ | ⟨⟨l, o, rfl⟩, h⟩
    · rcases clI_inv h with ⟨rfl, h⟩ | ⟨⟨l, o, rfl⟩, h⟩
      · exact ⟨true, by simp only [eqA, hT, Option.bind_some, hu], h, by simp, by simp⟩
      · exact ⟨false, by simp only [eqA, hT, Option.bind_some, hu], h, by simp, by simp⟩
    · rcases clI_inv h with ⟨rfl, h⟩ | ⟨_, h⟩
      · exact ⟨false, by simp only [eqA, hT, Option.bind_some, hu], h, by simp, by simp⟩
      · exact absurd h Bool.false_ne_true
  · rename_i e hu
    simp only [Option.some.injEq] at h; subst h
    rcases clS_inv hK with ⟨rfl, h⟩ | ⟨⟨_, _, _, _, _, _, rfl⟩ | ⟨_, _, _, _, _, rfl⟩, h⟩
    · rcases clS_inv h with ⟨rfl, h⟩ | ⟨⟨_, _, _, _, _, _, rfl⟩ | ⟨_, _, _, _, _, rfl⟩, h⟩
      · exact ⟨true, by simp only [eqA, hT, Option.bind_some, hu], h, by simp, by simp⟩
      · exact ⟨false, by simp only [eqA, hT, Option.bind_some, hu], h, by simp, by simp⟩
      · exact ⟨false, by simp only [eqA, hT, Option.bind_some, hu], h, by simp, by simp⟩
    · rcases clS_inv h with ⟨rfl, h⟩ | ⟨_, h⟩
      · exact ⟨false, by simp only [eqA, hT, Option.bind_some, hu], h, by simp, by simp⟩
      · exact absurd h Bool.false_ne_true
    · rcases clS_inv h with ⟨rfl, h⟩ | ⟨_, h⟩
      · exact ⟨false, by simp only [eqA, hT, Option.bind_some, hu], h, by simp, by simp⟩
      · exact absurd h Bool.false_ne_true
  · cases h

def binIK (G : KW) (w : IW) (y z : XW) : KW := ⟨fun ckF e s k => onI (y.x e) (fun kd a => onI (z.x e) (fun kd' b => xB (Nat.beq (kdN kd) (kdN kd')) (w.f kd a b fun r => k none r s) false) false) (G.run ckF e s k)⟩
def binSK (G : KW) (w : SW2) (y z : XW) : KW := ⟨fun ckF e s k => onS (y.x e) (fun a => onS (z.x e) (fun b => w.f a b fun r => k none r s) false) (G.run ckF e s k)⟩
/-- '==' or '!=' of two of which one may be nil. -/
def binNK (w : NW) (neg : Bool) (y z : XW) : KW := ⟨fun _ e s k => w.f (y.x e) (z.x e) fun r => xB r (k none (.b (Bool.rec true false neg)) s) (k none (.b (Bool.rec false true neg)) s)⟩
theorem binIK_ok {G : KW} {w : IW} {y z : XW} {op : BinOp} {t t' : TypeId} {oy oz : Operand} {o : Oper} (hG : KOk E pol G o) (hw : intW op = some w) (hy : XOk E oy y) (hz : XOk E oz z) (ho : o.op = .binOp op t oy oz t') : KOk E pol (binIK G w y z) o := by
  intro ckF ck hc e tm s k hr hi h
  change onI _ _ _ = true at h
  rw [onI_eq] at h
  split at h
  · rename_i kd a h1
    obtain ⟨kd', b, h2, h⟩ := onI_inv h
    obtain ⟨h3, h⟩ := xB_and h
    have h3 := kdN_inj h3
    subst h3
    obtain ⟨r, h4, h⟩ := intW_ok (E := E) hw (‹(w.f kd a b fun r => k none r s) = true›) t (isC oy || isC oz)
    exact ⟨none, r, s, by simp only [aStep, aOp, ho, hy e tm hr, hz e tm hr, h1, h2, h4, R.ofA, Option.map_some, Option.bind_some, rStep], Le.refl s, h⟩
  · exact hG ckF ck hc e tm s k hr hi h
theorem binSK_ok {G : KW} {w : SW2} {y z : XW} {op : BinOp} {t t' : TypeId} {oy oz : Operand} {o : Oper} (hG : KOk E pol G o) (hw : strW op = some w) (hy : XOk E oy y) (hz : XOk E oz z) (ho : o.op = .binOp op t oy oz t') : KOk E pol (binSK G w y z) o := by
  intro ckF ck hc e tm s k hr hi h
  change onS _ _ _ = true at h
  rw [onS_eq] at h
  split at h
  · rename_i a h1
    obtain ⟨b, h2, h⟩ := onS_inv h
    obtain ⟨r, h4, h⟩ := strW_ok (E := E) hw h t (isC oy || isC oz)
    exact ⟨none, r, s, by simp only [aStep, aOp, ho, hy e tm hr, hz e tm hr, h1, h2, h4, R.ofA, Option.map_some, Option.bind_some, rStep], Le.refl s, h⟩
  · exact hG ckF ck hc e tm s k hr hi h
theorem binNK_ok {w : NW} {neg : Bool} {y z : XW} {t t' : TypeId} {T : TI} {oy oz : Operand} {o : Oper} (hT : E.ti t = some T) (hw : nilW T.u = some w) (hif : ifaceOk T.u (isC oy || isC oz) = true) (hy : XOk E oy y) (hz : XOk E oz z) (ho : o.op = .binOp (if neg then .neq else .eql) t oy oz t') : KOk E pol (binNK w neg y z) o := by
  intro ckF ck hc e tm s k hr hi h
  obtain ⟨r, h1, h2, h3, h4⟩ := nilW_ok hT hw h
  have e1 : aBin E (if neg then .neq else .eql) t (isC oy || isC oz) (y.x e) (z.x e) = some (.b (r != neg)) := by
    unfold aBin
    split
    · rename_i h5 _; exact (h3 _ _ h5).elim
    · rename_i h5 _; exact (h4 _ h5).elim
    · simp only [hT, Option.bind_some, hif, if_true, h1, Option.map_some]
      cases neg <;> cases r <;> rfl
  refine ⟨none, .b (r != neg), s, by simp only [aStep, aOp, ho, hy e tm hr, hz e tm hr, e1, R.ofA, Option.map_some, Option.bind_some, rStep], Le.refl s, ?_⟩
  rw [xB_eq] at h2
  cases r <;> cases neg <;> exact h2

def notK (G : KW) (y : XW) : KW := ⟨fun ckF e s k => onB (y.x e) (fun b => xB b (k none (.b false) s) (k none (.b true) s)) (G.run ckF e s k)⟩
theorem notK_ok {G : KW} {y : XW} {t : TypeId} {oy : Operand} {o : Oper} (hG : KOk E pol G o) (hy : XOk E oy y) (ho : o.op = .unOp .not t oy) : KOk E pol (notK G y) o := by
  intro ckF ck hc e tm s k hr hi h
  change onB _ _ _ = true at h
  rw [onB_eq] at h
  split at h
  · rename_i b h1
    rw [xB_eq] at h
    refine ⟨none, .b (!b), s, by simp only [aStep, aOp, ho, hy e tm hr, h1, aUn, Op.unary, R.ofA, Option.map_some, Option.bind_some, rStep]; rfl, Le.refl s, ?_⟩
    cases b <;> exact h
  · exact hG ckF ck hc e tm s k hr hi h

def cvK (G : KW) (kd : IntKind) (y : XW) : KW := ⟨fun ckF e s k => onI (y.x e) (fun _ n => wrK kd n fun n => k none (.i kd n) s) (G.run ckF e s k)⟩
theorem cvK_ok {G : KW} {kd : IntKind} {y : XW} {a d : TypeId} {S D : TI} {oy : Operand} {o : Oper} (hG : KOk E pol G o) (hS : E.ti a = some S) (hD : E.ti d = some D) (hu : D.u = .int kd) (hy : XOk E oy y) (ho : o.op = .convert a d oy) : KOk E pol (cvK G kd y) o := by
  intro ckF ck hc e tm s k hr hi h
  change onI _ _ _ = true at h
  rw [onI_eq] at h
  split at h
  · rename_i kd' n h1
    rw [wrK_eq] at h
    exact ⟨none, _, s, by simp only [aStep, aOp, ho, hy e tm hr, h1, hS, hD, hu, aConv, R.ofA, Option.map_some, Option.bind_some, rStep], Le.refl s, h⟩
  · exact hG ckF ck hc e tm s k hr hi h

def mkiK (t : TypeId) (y : XW) : KW := ⟨fun _ e s k => frc (y.x e) fun a => k none (.x t a) s⟩
theorem mkiK_ok {y : XW} {t : TypeId} {T : TI} {oy : Operand} {o : Oper} (hT : E.ti t = some T) (hu : T.u.isI = false) (hy : XOk E oy y) (ho : o.op = .makeInterface t oy) : KOk E pol (mkiK t y) o := by
  intro ckF ck hc e tm s k hr hi h
  change frc _ _ = true at h
  rw [frc_eq] at h
  exact ⟨none, _, s, by simp only [aStep, aOp, ho, hy e tm hr, hT, hu, R.ofA, Option.map_some, Option.bind_some, rStep, Bool.false_eq_true, if_false], Le.refl s, h⟩

def faK (off : Nat) (y : XW) : KW := ⟨fun _ e s k => onPQ (y.x e) (fun l o => kN (Nat.add o off) fun o => k none (.p l o) s) (fun cs o => kN (Nat.add o off) fun o => k none (.q cs o) s)⟩
theorem faK_ok {y : XW} {t : TypeId} {j off : Nat} {F : TI} {oy : Operand} {o : Oper} (hF : fieldAt? E t j = some (off, F)) (hz : F.sz ≠ 0) (hy : XOk E oy y) (ho : o.op = .fieldAddr t oy j) : KOk E pol (faK off y) o := by
  intro ckF ck hc e tm s k hr hi h
  rcases onPQ_inv h with ⟨l, o', h1, h⟩ | ⟨cs, o', h1, h⟩
  · rw [kN_eq] at h
    exact ⟨none, _, s, by simp only [aStep, aOp, ho, hy e tm hr, h1, hF, R.ofA, Option.map_some, Option.bind_some, rStep, if_neg hz]; rfl, Le.refl s, h⟩
  · rw [kN_eq] at h
    exact ⟨none, _, s, by simp only [aStep, aOp, ho, hy e tm hr, h1, hF, R.ofA, Option.map_some, Option.bind_some, rStep, if_neg hz]; rfl, Le.refl s, h⟩

def fdK (off : Nat) (F : TI) (y : XW) : KW := ⟨fun _ e s k => onG (y.x e) (fun cs => ldK F.u.agg F.sz cs off fun a => k none a s) false⟩
theorem fdK_ok {y : XW} {t : TypeId} {j off : Nat} {F : TI} {oy : Operand} {o : Oper} (hF : fieldAt? E t j = some (off, F)) (hy : XOk E oy y) (ho : o.op = .field t oy j) : KOk E pol (fdK off F y) o := by
  intro ckF ck hc e tm s k hr hi h
  obtain ⟨cs, h1, h⟩ := onG_inv h
  obtain ⟨a, h2, h⟩ := ldK_inv h
  exact ⟨none, _, s, by simp only [aStep, aOp, ho, hy e tm hr, h1, hF, h2, R.ofA, Option.map_some, Option.bind_some, rStep], Le.refl s, h⟩

def ntI (z : Int) (K : Nat → Bool) : Bool := Int.rec (motive := fun _ => Bool) K (fun _ => false) z
theorem ntI_inv {z : Int} {K : Nat → Bool} (h : ntI z K = true) : ∃ n : Nat, z = Int.ofNat n ∧ K n = true := by
  cases z with
  | ofNat n => exact ⟨n, rfl, h⟩
  | negSucc n => exact absurd h Bool.false_ne_true

def iaK (F : TI) (y z : XW) : KW := ⟨fun _ e s k => onI (z.x e) (fun _ n => ntI n fun n => onSl (y.x e) false
  (fun _ cs len sz _ _ => xB (Nat.ble (Nat.succ n) len) (xB (Nat.beq F.sz sz) (kN (Nat.mul n sz) fun o => k none (.q cs o) s) false) false)
  (fun l off len sz _ => xB (Nat.ble (Nat.succ n) len) (xB (Nat.beq F.sz sz) (kN (Nat.add off (Nat.mul n sz)) fun o => k none (.p l o) s) false) false)) false⟩
theorem iaK_ok {y z : XW} {t u : TypeId} {T F : TI} {oy oz : Operand} {o : Oper} (hT : E.ti t = some T) (hu : T.u = .slice u) (hF : E.ti u = some F) (hy : XOk E oy y) (hz : XOk E oz z) (ho : o.op = .indexAddr t oy oz) : KOk E pol (iaK F y z) o := by
  intro ckF ck hc e tm s k hr hi h
  obtain ⟨kd, n, h1, h⟩ := onI_inv h
  obtain ⟨n, rfl, h⟩ := ntI_inv h
  rcases onSl_inv h with ⟨_, h⟩ | ⟨kc, cs, len, sz, tk, st, h2, h⟩ | ⟨l, off, len, sz, cap, h2, h⟩
  · exact absurd h Bool.false_ne_true
  · obtain ⟨h3, h⟩ := xB_and h
    obtain ⟨h4, h⟩ := xB_and h
    rw [kN_eq] at h
    have h3 := Nat.le_of_ble_eq_true h3
    have h4 := Nat.eq_of_beq_eq_true h4
    have e1 : aIndexAddr E t (.v kc cs len sz tk st) (Int.ofNat n) = some (.q cs (n * sz)) := by
      simp only [aIndexAddr, hT, hu, hF, Option.bind_some]
      rw [if_pos ⟨Int.natCast_nonneg n, by simp only [Int.ofNat_eq_natCast]; omega, h4⟩]
      rfl
    exact ⟨none, .q cs (n * sz), s, by simp only [aStep, aOp, ho, hy e tm hr, hz e tm hr, h1, h2, aInt, e1, R.ofA, Option.map_some, Option.bind_some, rStep], Le.refl s, h⟩
  · obtain ⟨h3, h⟩ := xB_and h
    obtain ⟨h4, h⟩ := xB_and h
    rw [kN_eq] at h
    have h3 := Nat.le_of_ble_eq_true h3
    have h4 := Nat.eq_of_beq_eq_true h4
    have e1 : aIndexAddr E t (.w l off len sz cap) (Int.ofNat n) = some (.p l (off + n * sz)) := by
      simp only [aIndexAddr, hT, hu, hF, Option.bind_some]
      rw [if_pos ⟨Int.natCast_nonneg n, by simp only [Int.ofNat_eq_natCast]; omega, h4⟩]
      rfl
    exact ⟨none, .p l (off + n * sz), s, by simp only [aStep, aOp, ho, hy e tm hr, hz e tm hr, h1, h2, aInt, e1, R.ofA, Option.map_some, Option.bind_some, rStep], Le.refl s, h⟩

def ixK (y z : XW) : KW := ⟨fun _ e s k => onI (z.x e) (fun _ n => ntI n fun n => onS (y.x e) (fun l => nthK l n fun b => k none (.i .u8 (Int.ofNat b)) s) false) false⟩
theorem ixK_ok {y z : XW} {t : TypeId} {T : TI} {oy oz : Operand} {o : Oper} (hT : E.ti t = some T) (hu : T.u = .string) (hy : XOk E oy y) (hz : XOk E oz z) (ho : o.op = .index t oy oz) : KOk E pol (ixK y z) o := by
  intro ckF ck hc e tm s k hr hi h
  obtain ⟨kd, n, h1, h⟩ := onI_inv h
  obtain ⟨n, rfl, h⟩ := ntI_inv h
  obtain ⟨l, h2, h⟩ := onS_inv h
  obtain ⟨b, h3, h⟩ := nthK_inv h
  have e1 : aIndex E t (.s l) (Int.ofNat n) = some (.i .u8 (Int.ofNat b)) := by
    simp only [aIndex, hT, hu, Option.bind_some]
    rw [if_pos (show (0 : Int) ≤ Int.ofNat n from Int.natCast_nonneg n)]
    show Option.map _ (l[n]?) = _
    rw [h3]; rfl
  exact ⟨none, _, s, by simp only [aStep, aOp, ho, hy e tm hr, hz e tm hr, h1, h2, aInt, e1, R.ofA, Option.map_some, Option.bind_some, rStep], Le.refl s, h⟩

def exK (j : Nat) (y : XW) : KW := ⟨fun _ e s k => onT (y.x e) (fun vs => nthK vs j fun a => k none a s) false⟩
theorem exK_ok {y : XW} {j : Nat} {oy : Operand} {o : Oper} (hy : XOk E oy y) (ho : o.op = .extract oy j) : KOk E pol (exK j y) o := by
  intro ckF ck hc e tm s k hr hi h
  obtain ⟨vs, h1, h⟩ := onT_inv h
  obtain ⟨a, h2, h⟩ := nthK_inv h
  exact ⟨none, _, s, by simp only [aStep, aOp, ho, hy e tm hr, h1, h2, R.ofA, Option.map_some, Option.bind_some, rStep], Le.refl s, h⟩

end
end Go.VV
