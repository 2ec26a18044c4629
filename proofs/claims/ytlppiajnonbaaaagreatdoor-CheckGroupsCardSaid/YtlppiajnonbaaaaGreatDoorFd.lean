/- The fast machine's calls, appends, structs, slices. -/
import Derived.Test.YtlppiajnonbaaaaGreatDoorFc
set_option linter.unusedVariables false
set_option linter.unusedSimpArgs false
namespace Go.VV
noncomputable section
variable {E : Env} {pol : Pol}

structure LW where l : En → (List A → Bool) → Bool
def LOk (E : Env) (xs : List Operand) (w : LW) : Prop := ∀ (e : En) (tm : Tm) (K : List A → Bool), Rep e tm → w.l e K = true → ∃ l, evs E tm xs = some l ∧ K l = true
def cArgs (E : Env) : List Operand → (LW → KW) → KW
  | [], K => K ⟨fun _ k => k []⟩
  | x :: xs, K => cX E x fun w => cArgs E xs fun ws => K ⟨fun e k => frc (w.x e) fun a => ws.l e fun l => k (a :: l)⟩
theorem cArgs_ok {o : Oper} : ∀ {xs : List Operand} {K : LW → KW}, (∀ w, LOk E xs w → KOk E pol (K w) o) → KOk E pol (cArgs E xs K) o
  | [], K, h => h _ fun e tm k _ hk => ⟨[], rfl, hk⟩
  | x :: xs, K, h => by
    show KOk E pol (cX E x fun w => cArgs E xs fun ws => K ⟨fun e k => frc (w.x e) fun a => ws.l e fun l => k (a :: l)⟩) o
    refine cX_ok fun w hw => cArgs_ok fun ws hws => h _ fun e tm k hr hk => ?_
    have hk : frc (w.x e) (fun a => ws.l e fun l => k (a :: l)) = true := hk
    rw [frc_eq] at hk
    obtain ⟨l, h1, h2⟩ := hws e tm _ hr hk
    exact ⟨w.x e :: l, by simp only [evs, hw e tm hr, h1, Option.bind_some, Option.map_some], h2⟩

def callK (f : FuncId) (ws : LW) : KW := ⟨fun ck e s k => ws.l e fun as => ck f as s fun a s' => k none a s'⟩
theorem callK_ok {f : FuncId} {ws : LW} {c : Call} {o : Oper} (hw : LOk E c.args.toList ws) (hx : E.ext f = none) (he : E.en f = true) (hc' : c.callee = .value (.func f)) (ho : o.op = .call c) : KOk E pol (callK f ws) o := by
  intro ckF ck hc e tm s k hr hi h
  obtain ⟨as, h1, h⟩ := hw e tm _ hr h
  obtain ⟨a, s', h2, h3, h4⟩ := hc f as s _ hi h
  exact ⟨none, a, s', by simp only [aStep, aOp, ho, aCall, hc', h1, ev, hx, he, h2, Option.map_some, Option.bind_some, rStep, List.nil_append, List.append_nil, if_true], h3, h4⟩

def extK (g : List A → Option A) (ws : LW) : KW := ⟨fun _ e s k => ws.l e fun as => Option.rec (motive := fun _ => Bool) false (fun a => fD a fun a => k none a s) (g as)⟩
theorem extK_ok {f : FuncId} {g : List A → Option A} {ws : LW} {c : Call} {o : Oper} (hw : LOk E c.args.toList ws) (hx : E.ext f = some g) (hc' : c.callee = .value (.func f)) (ho : o.op = .call c) : KOk E pol (extK g ws) o := by
  intro ckF ck hc e tm s k hr hi h
  obtain ⟨as, h1, h⟩ := hw e tm _ hr h
  cases hg : g as with
  | none => rw [hg] at h; exact absurd h Bool.false_ne_true
  | some a =>
    rw [hg] at h
    have h : fD a (fun a => k none a s) = true := h
    rw [fD_eq] at h
    exact ⟨none, a, s, by simp only [aStep, aOp, ho, aCall, hc', h1, ev, hx, hg, R.ofA, Option.map_some, Option.bind_some, rStep, List.nil_append, List.append_nil], Le.refl s, h⟩

/-! ### len -/
def lenSK (y : XW) : KW := ⟨fun _ e s k => onS (y.x e) (fun l => kN (lenR l) fun n => k none (.i .i64 (Int.ofNat n)) s) false⟩
def lenVK (y : XW) : KW := ⟨fun _ e s k => onSl (y.x e) (k none (.i .i64 0) s) (fun _ _ n _ _ _ => k none (.i .i64 (Int.ofNat n)) s) (fun _ _ n _ _ => k none (.i .i64 (Int.ofNat n)) s)⟩
theorem lenSK_ok {y : XW} {oy : Operand} {c : Call} {u : TypeId} {T : TI} {o : Oper} (hy : XOk E oy y) (ha : c.args.toList = [oy]) (hu : c.argTypes[0]? = some u) (hT : E.ti u = some T) (hs : T.u = .string) (hc' : c.callee = .builtin .len) (ho : o.op = .call c) : KOk E pol (lenSK y) o := by
  intro ckF ck hc e tm s k hr hi h
  obtain ⟨l, h1, h⟩ := onS_inv h
  rw [kN_eq, lenR_eq] at h
  exact ⟨none, _, s, by simp only [aStep, aOp, ho, aCall, ha, evs, hy e tm hr, hc', hu, h1, aLen, hT, hs, R.ofA, Option.map_some, Option.bind_some, rStep]; rfl, Le.refl s, h⟩
theorem lenVK_ok {y : XW} {oy : Operand} {c : Call} {u v : TypeId} {T : TI} {o : Oper} (hy : XOk E oy y) (ha : c.args.toList = [oy]) (hu : c.argTypes[0]? = some u) (hT : E.ti u = some T) (hs : T.u = .slice v) (hc' : c.callee = .builtin .len) (ho : o.op = .call c) : KOk E pol (lenVK y) o := by
  intro ckF ck hc e tm s k hr hi h
  rcases onSl_inv h with ⟨h1, h⟩ | ⟨kc, cs, len, sz, tk, st, h1, h⟩ | ⟨l, off, len, sz, cap, h1, h⟩
  · exact ⟨none, _, s, by simp only [aStep, aOp, ho, aCall, ha, evs, hy e tm hr, hc', hu, h1, aLen, hT, hs, R.ofA, Option.map_some, Option.bind_some, rStep], Le.refl s, h⟩
  · exact ⟨none, _, s, by simp only [aStep, aOp, ho, aCall, ha, evs, hy e tm hr, hc', hu, h1, aLen, hT, hs, R.ofA, Option.map_some, Option.bind_some, rStep]; rfl, Le.refl s, h⟩
  · exact ⟨none, _, s, by simp only [aStep, aOp, ho, aCall, ha, evs, hy e tm hr, hc', hu, h1, aLen, hT, hs, R.ofA, Option.map_some, Option.bind_some, rStep]; rfl, Le.refl s, h⟩

/-! ### append -/
def mapBK (l : List Nat) : (List A → Bool) → Bool := List.rec (motive := fun _ => (List A → Bool) → Bool) (fun K => K []) (fun a _ ih K => ih fun r => K (.i .u8 (Int.ofNat a) :: r)) l
theorem mapBK_eq : ∀ (l : List Nat) (K : List A → Bool), mapBK l K = K (l.map fun b => A.i .u8 (b : Nat))
  | [], _ => rfl
  | _ :: l, K => mapBK_eq l _
def onAp (a : A) (kn : Bool) (ks : List Nat → Bool) (kv : Bool → List A → Nat → Nat → Nat → Nat → Bool) (kw : Nat → Nat → Nat → Nat → Nat → Bool) : Bool := onS a ks (onSl a kn kv kw)
def srcK (fs : Nat) (s : FS) (a : A) (K : List A → Bool) : Bool := onAp a (K []) (fun l => xB (Nat.beq fs 1) (mapBK l K) false) (fun _ cs _ sz _ _ => xB (Nat.beq sz fs) (K cs) false) (fun l off n sz _ => xB (Nat.beq sz fs) (rowF s l fun cs => takeNK cs off (Nat.mul n sz) K) false)
theorem srcK_inv {fs : Nat} {s : FS} {a : A} {K : List A → Bool} (h : srcK fs s a K = true) : ∃ l, srcA s.toSt fs a = some l ∧ K l = true := by
  unfold srcK onAp at h
  rw [onS_eq] at h
  split at h
  · rename_i l
    obtain ⟨h1, h⟩ := xB_and h
    rw [mapBK_eq] at h
    exact ⟨_, by simp only [srcA]; rw [if_pos (Nat.eq_of_beq_eq_true h1)], h⟩
  · rcases onSl_inv h with ⟨rfl, h⟩ | ⟨kc, cs, len, sz, tk, st, rfl, h⟩ | ⟨l, off, len, sz, cap, rfl, h⟩
    · exact ⟨[], rfl, h⟩
    · obtain ⟨h1, h⟩ := xB_and h
      exact ⟨cs, by simp only [srcA]; rw [if_pos (Nat.eq_of_beq_eq_true h1)], h⟩
    · obtain ⟨h1, h⟩ := xB_and h
      obtain ⟨cs, h2, h⟩ := rowF_inv h
      obtain ⟨r, h3, h⟩ := takeNK_inv h
      exact ⟨r, by simp only [srcA]; rw [if_pos (Nat.eq_of_beq_eq_true h1), h2]; exact h3, h⟩

/-- Below 2 ^ 40. -/
def smK (n : Nat) : Bool := Nat.ble (Nat.succ n) 1099511627776
theorem smK_eq {n : Nat} (h : smK n = true) : n < 2 ^ 40 := Nat.le_of_ble_eq_true h

def apK (F : TI) (s : FS) (x : A) (new : List A) (K : A → FS → Bool) : Bool :=
  kN (lenR new) fun ln => xB (Nat.beq (Nat.mod ln F.sz) 0) (kN (Nat.div ln F.sz) fun c =>
    onSl x (Nat.rec (K .ns s) (fun _ _ => xB (smK (Nat.mul c F.by_)) (nwF s (.k ln) fun t s' => K (.v false new c F.sz t 0) s') false) c)
      (fun kc cs n sz tk st => xB (Nat.beq sz F.sz) (kN (Nat.add n c) fun nc => xB (smK (Nat.mul nc F.by_))
        (Nat.rec (K (.v kc cs n sz tk st) s) (fun _ _ => kN (lenR cs) fun lc => kN (Nat.add lc ln) fun lt => appK cs new fun l =>
          Bool.rec (getF s tk fun o => onK o fun mark => xB (Nat.beq mark (Nat.add st lc)) (rmF s tk fun s => nwF s (.k lt) fun t s' => K (.v false l nc sz t 0) s') false)
            (nwF s (.k lt) fun t s' => K (.v false l nc sz t 0) s') kc) c) false) false)
      (fun l off n sz cap => xB (Nat.beq sz F.sz) (kN (Nat.add n c) fun nc => rowF s l fun cs => xB (Nat.ble nc cap)
        (putNK new (Nat.add off (Nat.mul n sz)) cs fun cs' => wrF s l (.c cs') fun s' => K (.w l off nc sz cap) s')
        (xB (smK (Nat.mul nc F.by_)) (takeNK cs off (Nat.mul n sz) fun old => kN (Nat.add (lenR old) ln) fun lt => appK old new fun l => nwF s (.k lt) fun t s' => K (.v false l nc sz t 0) s') false)) false)) false
theorem apK_inv {t u : TypeId} {T F : TI} (hT : E.ti t = some T) (hu : T.u = .slice u) (hF : E.ti u = some F) (hz : F.sz ≠ 0) (hb : F.by_ ≠ 0) {s : FS} {x y : A} {new : List A} (hn : srcA s.toSt F.sz y = some new) {K : A → FS → Bool} (h : apK F s x new K = true) :
    ∃ a s', aAppend E s.toSt t x y = some (a, s'.toSt) ∧ Le s s' ∧ K a s' = true := by
  unfold apK at h
  rw [kN_eq, lenR_eq] at h
  obtain ⟨h1, h⟩ := xB_and h
  have h1 : new.length % F.sz = 0 := Nat.eq_of_beq_eq_true h1
  rw [kN_eq] at h
  have hc : ¬ (F.sz = 0 ∨ F.by_ = 0 ∨ new.length % F.sz ≠ 0) := by simp [hz, hb, h1]
  have cases0 : ∀ {a b : Bool}, Nat.rec (motive := fun _ => Bool) a (fun _ _ => b) (Nat.div new.length F.sz) = true → (new.length / F.sz = 0 ∧ a = true) ∨ (new.length / F.sz ≠ 0 ∧ b = true) := by
    intro a b hh
    have e : Nat.div new.length F.sz = new.length / F.sz := rfl
    rw [e] at hh
    generalize new.length / F.sz = c at hh ⊢
    cases c with
    | zero => exact .inl ⟨rfl, hh⟩
    | succ m => exact .inr ⟨Nat.succ_ne_zero m, hh⟩
  simp only [aAppend, hT, hu, hF, hn, Option.bind_some, if_neg hc]
  rcases onSl_inv h with ⟨rfl, h⟩ | ⟨kc, cs, n, sz, tk, st, rfl, h⟩ | ⟨l, off, n, sz, cap, rfl, h⟩
  · rcases cases0 h with ⟨h2, h⟩ | ⟨h2, h⟩
    · exact ⟨.ns, s, by simp only [if_pos h2], Le.refl s, h⟩
    · obtain ⟨h3, h⟩ := xB_and h
      rw [nwF_eq] at h
      have h3 : new.length / F.sz * F.by_ < 2 ^ 40 := smK_eq h3
      exact ⟨_, _, by simp only [if_neg h2, if_pos h3, FS.toSt_nw, FS.toSt_nx]; rfl, FS.le_nw s _, h⟩
  · obtain ⟨h3, h⟩ := xB_and h
    have h3 : sz = F.sz := Nat.eq_of_beq_eq_true h3
    rw [kN_eq] at h
    obtain ⟨h4, h⟩ := xB_and h
    have h4 : (n + new.length / F.sz) * F.by_ < 2 ^ 40 := smK_eq h4
    simp only [if_pos (And.intro h3 h4)]
    rcases cases0 h with ⟨h2, h⟩ | ⟨h2, h⟩
    · exact ⟨_, s, by simp only [if_pos h2], Le.refl s, h⟩
    · simp only [if_neg h2]
      simp only [kN_eq, lenR_eq, appK_eq] at h
      cases kc with
      | true =>
        have h : nwF s (.k (cs.length.add new.length)) (fun t s' => K (.v false (cs ++ new) (n.add (new.length.div F.sz)) sz t 0) s') = true := h
        rw [nwF_eq] at h
        exact ⟨_, _, by simp only [if_true, FS.toSt_nw, FS.toSt_nx]; rfl, FS.le_nw s _, h⟩
      | false =>
        have h : getF s tk (fun o => onK o fun mark => xB (Nat.beq mark (Nat.add st cs.length)) (rmF s tk fun s => nwF s (.k (cs.length.add new.length)) fun t s' => K (.v false (cs ++ new) (n.add (new.length.div F.sz)) sz t 0) s') false) = true := h
        obtain ⟨ob, h5, h⟩ := getF_inv h
        obtain ⟨mark, rfl, h⟩ := onK_inv h
        obtain ⟨h6, h⟩ := xB_and h
        have h6 : mark = st + cs.length := Nat.eq_of_beq_eq_true h6
        rw [rmF_eq, nwF_eq] at h
        exact ⟨_, _, by simp only [Bool.false_eq_true, if_false, h5, if_pos h6, FS.toSt_nw, FS.toSt_rm, ← FS.toSt_nx]; rfl, (FS.le_rm s tk).trans (FS.le_nw _ _), h⟩
  · obtain ⟨h3, h⟩ := xB_and h
    have h3 : sz = F.sz := Nat.eq_of_beq_eq_true h3
    rw [kN_eq] at h
    obtain ⟨cs, h4, h⟩ := rowF_inv h
    rw [xB_eq] at h
    split at h
    · rename_i h5
      have h5 : n + new.length / F.sz ≤ cap := Nat.le_of_ble_eq_true h5
      obtain ⟨cs', h6, h⟩ := putNK_inv h
      rw [wrF_eq] at h
      have h6 : putN cs (off + n * sz) new = some cs' := h6
      exact ⟨_, _, by simp only [if_pos (And.intro h3 h5), h4, h6, Option.map_some, FS.toSt_wr]; rfl, FS.le_wr s _ _, h⟩
    · rename_i h5
      have h5 : ¬ (n + new.length / F.sz ≤ cap) := fun hh => h5 (by rw [Nat.ble_eq]; exact hh)
      obtain ⟨h6, h⟩ := xB_and h
      have h6 : (n + new.length / F.sz) * F.by_ < 2 ^ 40 := smK_eq h6
      obtain ⟨old, h7, h⟩ := takeNK_inv h
      rw [kN_eq, appK_eq, nwF_eq, lenR_eq] at h
      have h7 : takeN cs off (n * sz) = some old := h7
      exact ⟨_, _, by simp only [if_neg (fun hh : sz = F.sz ∧ n + new.length / F.sz ≤ cap => h5 hh.2), if_pos (And.intro h3 h6), h4, h7, Option.map_some, FS.toSt_nw, FS.toSt_nx]; rfl, FS.le_nw s _, h⟩

def appendK (F : TI) (y z : XW) : KW := ⟨fun _ e s k => srcK F.sz s (z.x e) fun new => apK F s (y.x e) new fun a s' => k none a s'⟩
theorem appendK_ok {y z : XW} {oy oz : Operand} {c : Call} {t t' u : TypeId} {T Z F : TI} {o : Oper} (hy : XOk E oy y) (hz : XOk E oz z) (ha : c.args.toList = [oy, oz]) (ht : c.argTypes[0]? = some t) (ht' : c.argTypes[1]? = some t') (hZ : E.ti t' = some Z) (hZu : ∀ kd, Z.u ≠ .int kd)
    (hT : E.ti t = some T) (hu : T.u = .slice u) (hF : E.ti u = some F) (hsz : F.sz ≠ 0) (hby : F.by_ ≠ 0) (hc' : c.callee = .builtin .append) (ho : o.op = .call c) : KOk E pol (appendK F y z) o := by
  intro ckF ck hc e tm s k hr hi h
  have h : srcK F.sz s (z.x e) (fun new => apK F s (y.x e) new fun a s' => k none a s') = true := h
  obtain ⟨new, h1, h⟩ := srcK_inv h
  obtain ⟨a, s', h2, h3, h4⟩ := apK_inv hT hu hF hsz hby h1 h
  refine ⟨none, a, s', ?_, h3, h4⟩
  simp only [aStep, aOp, ho, aCall, ha, evs, hy e tm hr, hz e tm hr, hc', ht, ht', hZ, Option.map_some, Option.bind_some]
  simp only [h2, Option.map_some, Option.bind_some, rStep]

/-! ### structs and literals -/
structure BW where r : En → List A → (List A → Bool) → Bool
def cParts (E : Env) (place : Nat → Option (Nat × Nat)) : List (Nat × Operand) → (BW → KW) → KW
  | [], K => K ⟨fun _ cs k => k cs⟩
  | (i, x) :: ps, K => match place i with
    | some (off, size) => cX E x fun w => cParts E place ps fun b => K ⟨fun e cs k => clK (w.x e) fun c => xB (Nat.beq (lenR c) size) (putNK c off cs fun cs => b.r e cs k) false⟩
    | none => failK
def BOk (E : Env) (place : Nat → Option (Nat × Nat)) (ps : List (Nat × Operand)) (b : BW) : Prop := ∀ (e : En) (tm : Tm) (cs : List A) (k : List A → Bool), Rep e tm → b.r e cs k = true → ∃ l cs', parts E tm ps = some l ∧ fillA place cs l = some cs' ∧ k cs' = true
theorem cParts_ok {place : Nat → Option (Nat × Nat)} {o : Oper} : ∀ {ps : List (Nat × Operand)} {K : BW → KW}, (∀ b, BOk E place ps b → KOk E pol (K b) o) → KOk E pol (cParts E place ps K) o
  | [], K, h => h _ fun e tm cs k _ hk => ⟨[], cs, rfl, rfl, hk⟩
  | (i, x) :: ps, K, h => by
    unfold cParts
    split
    · rename_i off size hp
      refine cX_ok fun w hw => cParts_ok fun b hb => h _ fun e tm cs k hr hk => ?_
      have hk : clK (w.x e) (fun c => xB (Nat.beq (lenR c) size) (putNK c off cs fun cs => b.r e cs k) false) = true := hk
      obtain ⟨h1, hk⟩ := clK_inv hk
      obtain ⟨h2, hk⟩ := xB_and hk
      obtain ⟨cs1, h3, hk⟩ := putNK_inv hk
      obtain ⟨l, cs', h4, h5, h6⟩ := hb e tm cs1 k hr hk
      rw [lenR_eq] at h2
      have h2 : (w.x e).cells.length = size := Nat.eq_of_beq_eq_true h2
      refine ⟨(i, w.x e) :: l, cs', by simp only [parts, hw e tm hr, h4, Option.bind_some, Option.map_some], ?_, h6⟩
      simp only [fillA, hp, Option.bind_some, if_pos (And.intro h2 h1), h3, h5]
    · exact failK_ok

def buildK (z : List A) (b : BW) : KW := ⟨fun _ e s k => b.r e z fun cs => k none (.g cs) s⟩
theorem buildK_ok {t : TypeId} {T : TI} {fs : List (Nat × TypeId)} {pl : List (Nat × Nat)} {ps : Array (Nat × Operand)} {b : BW} {o : Oper} (hT : E.ti t = some T) (hu : T.u = .struct fs) (hp : placesOf E fs = some pl) (hb : BOk E (fun k => pl[k]?) ps.toList b) (ho : o.op = .build t ps) : KOk E pol (buildK T.zero b) o := by
  intro ckF ck hc e tm s k hr hi h
  obtain ⟨l, cs', h1, h2, h3⟩ := hb e tm _ _ hr h
  exact ⟨none, _, s, by simp only [aStep, aOp, ho, hT, hu, hp, h1, h2, R.ofA, Option.map_some, Option.bind_some, rStep], Le.refl s, h3⟩

def litK (z : List A) (n sz : Nat) (b : BW) : KW := ⟨fun _ e s k => b.r e z fun cs => kN (lenR cs) fun lc => nwF s (.k lc) fun t s' => k (some t) (.v true cs n sz t 0) s'⟩
theorem litK_ok {t u : TypeId} {T F : TI} {n : Nat} {ps : Array (Nat × Operand)} {b : BW} {o : Oper} (hT : E.ti t = some T) (hu : T.u = .slice u) (hF : E.ti u = some F) (hz : ¬ (F.sz = 0 ∨ n * F.sz > 2 ^ 24)) (hp : pol t = false) (hb : BOk E (fun k => some (k * F.sz, F.sz)) ps.toList b) (ho : o.op = .buildSlice t n ps) : KOk E pol (litK (repeatA F.zero n) n F.sz b) o := by
  intro ckF ck hc e tm s k hr hi h
  obtain ⟨l, cs', h1, h2, h3⟩ := hb e tm _ _ hr h
  rw [kN_eq, nwF_eq, lenR_eq] at h3
  exact ⟨_, _, _, by simp only [aStep, aOp, ho, hT, hu, hF, h1, h2, if_neg hz, hp, Bool.false_eq_true, if_false, Option.map_some, Option.bind_some, rStep, FS.toSt_nw, FS.toSt_nx], FS.le_nw s _, h3⟩

/-! ### slices of texts and of slices -/
structure NtW where n : En → Nat → Nat → (Nat → Bool) → Bool
def NtOk (E : Env) (x : Option Operand) (w : NtW) : Prop := ∀ (e : En) (tm : Tm) (d hi : Nat) (k : Nat → Bool), Rep e tm → w.n e d hi k = true → ∃ a n, ((x = none ∧ a = none ∧ True) ∨ ∃ z v, x = some z ∧ a = some v ∧ ev E tm z = some v) ∧ bnd a d hi = some n ∧ k n = true
def cNt (E : Env) (x : Option Operand) (K : NtW → KW) : KW := match x with
  | none => K ⟨fun _ d _ k => k d⟩
  | some z => cX E z fun w => K ⟨fun e _ hi k => onI (w.x e) (fun _ n => ntI n fun n => xB (Nat.ble n hi) (k n) false) false⟩
theorem cNt_ok {x : Option Operand} {K : NtW → KW} {o : Oper} (h : ∀ w, NtOk E x w → KOk E pol (K w) o) : KOk E pol (cNt E x K) o := by
  cases x with
  | none => exact h _ fun e tm d hi k _ hk => ⟨none, d, .inl ⟨rfl, rfl, trivial⟩, rfl, hk⟩
  | some z =>
    refine cX_ok fun w hw => h _ fun e tm d hi k hr hk => ?_
    obtain ⟨kd, n, h1, hk⟩ := onI_inv hk
    obtain ⟨n, rfl, hk⟩ := ntI_inv hk
    obtain ⟨h2, hk⟩ := xB_and hk
    have h2 := Nat.le_of_ble_eq_true h2
    refine ⟨some (.i kd n), n, .inr ⟨z, _, rfl, rfl, by rw [hw e tm hr, h1]; rfl⟩, ?_, hk⟩
    simp only [bnd]
    rw [if_pos ⟨Int.natCast_nonneg n, by omega⟩]
    rfl

def slSK (y : XW) (lo hi : NtW) : KW := ⟨fun _ e s k => onS (y.x e) (fun l => kN (lenR l) fun len => hi.n e len len fun h => lo.n e 0 h fun j => takeK h l fun l => dropK j l fun l => k none (.s l) s) false⟩
theorem slSK_ok {y : XW} {lo hi : NtW} {t : TypeId} {T : TI} {oy : Operand} {ol oh : Option Operand} {o : Oper} (hy : XOk E oy y) (hl : NtOk E ol lo) (hh : NtOk E oh hi) (hT : E.ti t = some T) (hu : T.u = .string) (ho : o.op = .slice t oy ol oh none) : KOk E pol (slSK y lo hi) o := by
  intro ckF ck hc e tm s k hr hi' h
  obtain ⟨l, h1, h⟩ := onS_inv h
  rw [kN_eq, lenR_eq] at h
  obtain ⟨ah, nh, h2, h3, h⟩ := hh e tm _ _ _ hr h
  obtain ⟨al, nl, h4, h5, h⟩ := hl e tm _ _ _ hr h
  obtain ⟨_, h⟩ := takeK_inv h
  obtain ⟨_, h⟩ := dropK_inv h
  refine ⟨none, _, s, ?_, Le.refl s, h⟩
  rcases h2 with ⟨rfl, rfl, h2⟩ | ⟨zh, vh, rfl, rfl, h2⟩ <;> rcases h4 with ⟨rfl, rfl, h4⟩ | ⟨zl, vl, rfl, rfl, h4⟩ <;> simp only [aStep, aOp, ho, hy e tm hr, h1, hT, hu, h2, h4, sliceA, aSlice, h3, h5, R.ofA, Option.map_some, Option.bind_some, rStep]

def slVK (G : KW) (F : TI) (y : XW) (lo hi : NtW) : KW := ⟨fun ckF e s k => onSl (y.x e) (hi.n e 0 0 fun h => lo.n e 0 h fun _ => k none .ns s)
  (fun kc cs n sz t st => xB (Nat.beq sz F.sz) (hi.n e n n fun h => lo.n e 0 h fun j => takeK (Nat.mul h sz) cs fun l => dropK (Nat.mul j sz) l fun l => kB (xB kc (Nat.beq h n) false) fun kc => kN (Nat.sub h j) fun n => kN (Nat.add st (Nat.mul j sz)) fun st => k none (.v kc l n sz t st) s) false)
  (fun _ _ _ _ _ => G.run ckF e s k)⟩
theorem slVK_ok {G : KW} {y : XW} {lo hi : NtW} {t u : TypeId} {T F : TI} {oy : Operand} {ol oh : Option Operand} {o : Oper} (hG : KOk E pol G o) (hy : XOk E oy y) (hl : NtOk E ol lo) (hh : NtOk E oh hi) (hT : E.ti t = some T) (hu : T.u = .slice u) (hF : E.ti u = some F) (ho : o.op = .slice t oy ol oh none) : KOk E pol (slVK G F y lo hi) o := by
  intro ckF ck hc e tm s k hr hi' h
  rcases onSl_inv h with ⟨h1, h⟩ | ⟨kc, cs, n, sz, tk, st, h1, h⟩ | ⟨l, off, n, sz, cap, h1, h⟩
  · obtain ⟨ah, nh, h2, h3, h⟩ := hh e tm _ _ _ hr h
    obtain ⟨al, nl, h4, h5, h⟩ := hl e tm _ _ _ hr h
    refine ⟨none, _, s, ?_, Le.refl s, h⟩
    have e3 : nh = 0 := by
      unfold bnd at h3
      split at h3
      · simpa using h3.symm
      · split at h3
        · rename_i hb; simp only [Option.some.injEq] at h3; omega
        · cases h3
      · cases h3
    subst e3
    rcases h2 with ⟨rfl, rfl, h2⟩ | ⟨zh, vh, rfl, rfl, h2⟩ <;> rcases h4 with ⟨rfl, rfl, h4⟩ | ⟨zl, vl, rfl, rfl, h4⟩ <;> simp only [aStep, aOp, ho, hy e tm hr, h1, hT, hu, hF, h2, h4, sliceA, aSlice, h3, h5, R.ofA, Option.map_some, Option.bind_some, rStep]
  · obtain ⟨h6, h⟩ := xB_and h
    obtain ⟨ah, nh, h2, h3, h⟩ := hh e tm _ _ _ hr h
    obtain ⟨al, nl, h4, h5, h⟩ := hl e tm _ _ _ hr h
    obtain ⟨_, h⟩ := takeK_inv h
    obtain ⟨_, h⟩ := dropK_inv h
    rw [kB_eq, kN_eq, kN_eq] at h
    have h6 : sz = F.sz := Nat.eq_of_beq_eq_true h6
    have e1 : xB kc (Nat.beq nh n) false = (kc && nh == n) := by
      have : Nat.beq nh n = (nh == n) := by rw [Bool.eq_iff_iff, Nat.beq_eq, beq_iff_eq]
      rw [this]; cases kc <;> rfl
    rw [e1] at h
    refine ⟨none, _, s, ?_, Le.refl s, h⟩
    rcases h2 with ⟨rfl, rfl, h2⟩ | ⟨zh, vh, rfl, rfl, h2⟩ <;> rcases h4 with ⟨rfl, rfl, h4⟩ | ⟨zl, vl, rfl, rfl, h4⟩ <;> (simp only [aStep, aOp, ho, hy e tm hr, h1, hT, hu, hF, h2, h4, sliceA, if_pos h6, aSlice, h3, h5, R.ofA, Option.map_some, Option.bind_some, rStep]; rfl)
  · exact hG ckF ck hc e tm s k hr hi' h

/-! ### a map's entry -/
def muK (K : TI) (y z u : XW) : KW := ⟨fun _ e s k => onMp (y.x e) (fun l => getF s l fun o => onM o fun es => frc (z.x e) fun key => frc (u.x e) fun c => xB (plainKey K.u (key :: es.map (·.1)))
  (Option.rec (motive := fun _ => Bool) (fE (es ++ [(key, c)]) fun es' => wrF s l (.m es') fun s' => k none un s') (fun p => fE (es.modify p.1 fun _ => (key, c)) fun es' => wrF s l (.m es') fun s' => k none un s') (mapFind key es 0)) false)⟩
theorem muK_ok {y z u : XW} {t kt et : TypeId} {T K : TI} {oy oz ou : Operand} {o : Oper} (hy : XOk E oy y) (hz : XOk E oz z) (hu' : XOk E ou u) (hT : E.ti t = some T) (hu : T.u = .map kt et) (hK : E.ti kt = some K) (ho : o.op = .mapUpdate t oy oz ou) : KOk E pol (muK K y z u) o := by
  intro ckF ck hc e tm s k hr hi h
  obtain ⟨l, h1, h⟩ := onMp_inv h
  obtain ⟨ob, h2, hM⟩ := getF_inv h
  obtain ⟨es, rfl, hN⟩ := onM_inv hM
  clear h hM
  rw [frc_eq, frc_eq] at hN
  obtain ⟨h3, h⟩ := xB_and hN
  cases hm : mapFind (z.x e) es 0 with
  | none =>
    rw [hm] at h
    have h : fE (es ++ [(z.x e, u.x e)]) (fun es' => wrF s l (.m es') fun s' => k none un s') = true := h
    rw [fE_eq, wrF_eq] at h
    exact ⟨none, un, _, by simp only [aStep, aOp, ho, hy e tm hr, hz e tm hr, hu' e tm hr, h1, hT, hu, hK, h2, h3, hm, if_true, Option.bind_some, rStep, FS.toSt_wr], FS.le_wr s _ _, h⟩
  | some p =>
    obtain ⟨j, v⟩ := p
    rw [hm] at h
    have h : fE (es.modify j fun _ => (z.x e, u.x e)) (fun es' => wrF s l (.m es') fun s' => k none un s') = true := h
    rw [fE_eq, wrF_eq] at h
    exact ⟨none, un, _, by simp only [aStep, aOp, ho, hy e tm hr, hz e tm hr, hu' e tm hr, h1, hT, hu, hK, h2, h3, hm, if_true, Option.bind_some, rStep, FS.toSt_wr], FS.le_wr s _ _, h⟩

end
end Go.VV
