/- From a closed evaluation to the program's own calls: types checked by the kernel, functions that are known without their code, the world ahead. -/
import Derived.Test.YtlppiajnonbaaaaGreatDoorVw
import Derived.Test.YtlppiajnonbaaaaGreatDoorVx
import Derived.Lib.Bytealg
import Derived.RowKit3
set_option linter.unusedVariables false
set_option linter.unusedSimpArgs false
namespace Go.VV

deriving instance DecidableEq for U

def tiOk (P : Program) (t : TypeId) (T : TI) : Bool :=
  (match P.underlying t with
  | some d => decide (T.u = uOf d)
  | none => false) &&
  (match P.info? t with
  | some i => match i.zero with
    | some z => i.size == T.sz && i.bytes == T.by_ && (match ofScalars z.cells.toList with
      | some l => aeqs l T.zero
      | none => false) && aggV z == T.u.agg && T.zero.length == T.sz
    | none => false
  | none => false) && (!T.eq || eqOk P t)

theorem tiOk_sound {P : Program} {t : TypeId} {T : TI} (h : tiOk P t T = true) : TIok P t T := by
  unfold tiOk at h
  simp only [Bool.and_eq_true] at h
  obtain ⟨⟨h1, h2⟩, h3⟩ := h
  refine ⟨?_, ?_, fun he => ?_⟩
  · split at h1
    · rename_i d hd; exact ⟨d, hd, by simpa using h1⟩
    · cases h1
  · split at h2
    · rename_i i hi
      split at h2
      · rename_i z hz
        simp only [Bool.and_eq_true, beq_iff_eq] at h2
        obtain ⟨⟨⟨⟨a1, a2⟩, a3⟩, a4⟩, a5⟩ := h2
        split at a3
        · rename_i l hl
          exact ⟨i, z, hi, a1, a2, hz, by rw [hl, aeqs_eq a3], a4, a5⟩
        · cases a3
      · cases h2
    · cases h2
  · simpa [he] using h3

/-- Every entry of a tree; 'a', 'b': the node's key is a·k + b. -/
def Tr.allB {α : Type} (f : Nat → α → Bool) : Tr α → Nat → Nat → Bool
  | .e, _, _ => true
  | .n o l r, a, b => (match o with
    | some x => f b x
    | none => true) && Tr.allB f l (2 * a) (b + a) && Tr.allB f r (2 * a) (b + 2 * a)

theorem Tr.allB_get {α : Type} {f : Nat → α → Bool} : ∀ {t : Tr α} {a b : Nat}, Tr.allB f t a b = true → ∀ {k : Nat} {x : α}, t.get k = some x → f (a * k + b) x = true := by
  intro t
  induction t with
  | e => intro a b _ k x h; simp [Tr.get] at h
  | n o l r ihl ihr =>
    intro a b h k x hx
    simp only [Tr.allB, Bool.and_eq_true] at h
    simp only [Tr.get] at hx
    by_cases h0 : k = 0
    · rw [if_pos h0] at hx
      subst hx
      simpa [h0] using h.1.1
    · rw [if_neg h0] at hx
      by_cases h1 : k % 2 = 1
      · rw [if_pos h1] at hx
        have := ihl h.1.2 hx
        have e : 2 * a * (k / 2) + (b + a) = a * k + b := by
          have hk : k = 2 * (k / 2) + 1 := by omega
          rw [Nat.mul_right_comm, Nat.mul_comm (2 * (k / 2)) a]
          conv => rhs; rw [hk, Nat.mul_add, Nat.mul_one]
          omega
        rwa [e] at this
      · rw [if_neg h1] at hx
        have := ihr h.2 hx
        have e : 2 * a * (k / 2 - 1) + (b + 2 * a) = a * k + b := by
          have hk : k = 2 * (k / 2 - 1) + 2 := by omega
          rw [Nat.mul_right_comm, Nat.mul_comm (2 * (k / 2 - 1)) a]
          conv => rhs; rw [hk, Nat.mul_add]
          omega
        rwa [e] at this

theorem tab_ok {P : Program} {tab : Tr TI} (h : Tr.allB (tiOk P) tab 1 0 = true) : ∀ t T, tab.get t = some T → TIok P t T := by
  intro t T ht
  have := Tr.allB_get h ht
  exact tiOk_sound (by simpa using this)

def Tr.allP {α : Type} (Q : Nat → α → Prop) : Tr α → Nat → Nat → Prop
  | .e, _, _ => True
  | .n o l r, a, b => (match o with
    | some x => Q b x
    | none => True) ∧ Tr.allP Q l (2 * a) (b + a) ∧ Tr.allP Q r (2 * a) (b + 2 * a)

theorem Tr.allP_get {α : Type} {Q : Nat → α → Prop} : ∀ {t : Tr α} {a b : Nat}, Tr.allP Q t a b → ∀ {k : Nat} {x : α}, t.get k = some x → Q (a * k + b) x := by
  intro t
  induction t with
  | e => intro a b _ k x h; simp [Tr.get] at h
  | n o l r ihl ihr =>
    intro a b h k x hx
    simp only [Tr.allP] at h
    simp only [Tr.get] at hx
    by_cases h0 : k = 0
    · rw [if_pos h0] at hx
      subst hx
      simpa [h0] using h.1
    · rw [if_neg h0] at hx
      by_cases h1 : k % 2 = 1
      · rw [if_pos h1] at hx
        have := ihl h.2.1 hx
        have e : 2 * a * (k / 2) + (b + a) = a * k + b := by
          have hk : k = 2 * (k / 2) + 1 := by omega
          rw [Nat.mul_right_comm, Nat.mul_comm (2 * (k / 2)) a]
          conv => rhs; rw [hk, Nat.mul_add, Nat.mul_one]
          omega
        rwa [e] at this
      · rw [if_neg h1] at hx
        have := ihr h.2.2 hx
        have e : 2 * a * (k / 2 - 1) + (b + 2 * a) = a * k + b := by
          have hk : k = 2 * (k / 2 - 1) + 2 := by omega
          rw [Nat.mul_right_comm, Nat.mul_comm (2 * (k / 2 - 1)) a]
          conv => rhs; rw [hk, Nat.mul_add]
          omega
        rwa [e] at this

def fnEn (P : Program) (k : FuncId) (_ : Unit) : Bool := match P.funcs[k]? with
  | some fn => fn.body.isSome && !(fn.name == "runtime.NumGoroutine")
  | none => false

theorem en_ok {P : Program} {tab : Tr Unit} (h : Tr.allB (fnEn P) tab 1 0 = true) : ∀ k, (tab.get k).isSome = true → ∃ fn, P.funcs[k]? = some fn ∧ fn.body.isSome = true ∧ (fn.name == "runtime.NumGoroutine") = false := by
  intro k hk
  obtain ⟨x, hx⟩ := Option.isSome_iff_exists.1 hk
  have := Tr.allB_get h hx
  simp only [Nat.one_mul, Nat.add_zero, fnEn] at this
  split at this
  · rename_i fn hfn
    simp only [Bool.and_eq_true, Bool.not_eq_true'] at this
    exact ⟨fn, hfn, this.1, this.2⟩
  · cases this

/-! ### internal/bytealg.IndexByteString -/

def idxA : List Nat → Int → Int → Int
  | [], _, _ => -1
  | b :: l, c, k => if (b : Int) = c then k else idxA l c (k + 1)

def ibE (xs : List A) : Option A := match xs with
  | [.s l, .i .u8 b] => if 0 ≤ b ∧ b < 256 then some (.i .i64 (idxA l b 0)) else none
  | _ => none

theorem idxA_eq (c : UInt8) : ∀ (l : List UInt8) (k : Int), 0 ≤ k → idxA (l.map (·.toNat)) (c.toNat : Int) k = if Lib.indexByte l c = -1 then -1 else k + Lib.indexByte l c := by
  intro l
  induction l with
  | nil => intro k _; simp [idxA, Lib.indexByte]
  | cons b l ih =>
    intro k hk
    simp only [List.map_cons, idxA]
    unfold Lib.indexByte
    by_cases h : (b == c) = true
    · have : b = c := by simpa using h
      subst this
      simp
    · have hne : ¬ b = c := by simpa using h
      have hne2 : ¬ ((b.toNat : Int) = (c.toNat : Int)) := fun e => hne (UInt8.toNat_inj.1 (by omega))
      rw [if_neg hne2, ih (k + 1) (by omega)]
      have hb : (b == c) = false := by simpa using hne
      have hge : Lib.indexByte l c ≥ -1 := by
        clear ih hb hne hne2 h hk
        induction l with
        | nil => simp [Lib.indexByte]
        | cons d l ih2 =>
          unfold Lib.indexByte
          split
          · omega
          · split <;> omega
      simp only [hb, Bool.false_eq_true, if_false]
      by_cases h2 : Lib.indexByte l c = -1
      · simp [h2]
      · have h3 : (Lib.indexByte l c == -1) = false := by simpa using h2
        simp only [h3, Bool.false_eq_true, if_false, if_neg h2]
        rw [if_neg (by omega)]
        omega

theorem ib_ext {P : Program} {f : FuncId} {fn : Func} (hf : P.funcs[f]? = some fn) (hname : (fn.name == "runtime.NumGoroutine") = false) (hb : fn.body.isNone = true) (hn : Extern.findNext fn = none) (he : Extern.find fn = some Extern.BytealgIndexByte.indexByte) :
    ∀ (G : Nat) (ρ : Gh) (w : World) (args : List A) (c : A) (vs : List Value), ibE args = some c → args.length = vs.length →
    (∀ (i : Nat) (a : A) (v : Value), args[i]? = some a → vs[i]? = some v → Rel G ρ w a v) → ∃ v, (callFunc f vs.toArray).run P w = .ok (.value v) w ∧ Rel G ρ w c v := by
  intro G ρ w args c vs h hl hr
  unfold ibE at h
  split at h
  · rename_i l b
    split at h
    · rename_i hb2
      simp only [Option.some.injEq] at h
      subst h
      match vs, hl with
      | [x, y], _ =>
        have r1 := hr 0 _ _ rfl rfl
        have r2 := hr 1 _ _ rfl rfl
        cases r1 with
        | s _ sb hs =>
          cases r2
          subst hs
          refine ⟨.int .i64 (Lib.indexByte sb.data.toList b.toNat.toUInt8), ?_, ?_⟩
          · rw [run_callFunc_extern hf hname hb hn he]
            show ((Extern.BytealgIndexByte.indexByte #[.string sb, .int .u8 b]).run P w).andThen _ = _
            rw [Lib.run_indexByteString]
            rfl
          · have hbn : (b.toNat.toUInt8.toNat : Int) = b := by
              have : b.toNat.toUInt8.toNat = b.toNat := by
                rw [Nat.toUInt8, UInt8.toNat_ofNat']
                omega
              omega
            have := idxA_eq b.toNat.toUInt8 sb.data.toList 0 (by omega)
            rw [hbn] at this
            rw [this]
            split
            · rename_i h1; rw [h1]; exact .i _ _
            · rw [Int.zero_add]; exact .i _ _
    · cases h
  · cases h

/-! ### Values that hang on no place of the store -/

mutual
def pureA : A → Bool
  | .b _ | .i _ _ | .s _ | .np | .ns | .nm | .nf | .ni | .h _ => true
  | .x _ a => pureA a
  | .g cs => pureL cs
  | _ => false
def pureL : List A → Bool
  | [] => true
  | a :: l => pureA a && pureL l
end

theorem pureL_get : ∀ {l : List A}, pureL l = true → ∀ {i : Nat} {a : A}, l[i]? = some a → pureA a = true
  | [], _, i, a, h => by simp at h
  | x :: l, h, i, a, hi => by
    simp only [pureL, Bool.and_eq_true] at h
    cases i with
    | zero => simp at hi; subst hi; exact h.1
    | succ i => exact pureL_get h.2 (by simpa using hi)

theorem pure_rel {G : Nat} {ρ ρ' : Gh} {w w' : World} {a : A} {v : Value} (h : Rel G ρ w a v) : pureA a = true → Rel G ρ' w' a v := by
  induction h with
  | b x => intro _; exact .b x
  | i k n => intro _; exact .i k n
  | s l sb h => intro _; exact .s l sb h
  | np => intro _; exact .np
  | ns => intro _; exact .ns
  | nm => intro _; exact .nm
  | nf => intro _; exact .nf
  | ni => intro _; exact .ni
  | h t => intro _; exact .h t
  | x t a v _ ih => intro hp; exact .x t a v (ih hp)
  | g cs vs h hf _ ih => intro hp; exact .g cs vs h hf fun i a v ha hv => ih i a v ha hv (pureL_get hp ha)
  | p | q | v | w | m | f | t => intro hp; cases hp

section
variable {P : Program} {G : Nat} {ρ ρ' ρ0 : Gh} {w w' w0 : World} {E : Env} {pol : Pol} {ck : CK}

/-- Memory has new blocks, and nothing else has turned. -/
theorem ext_more {H : Nat → Option Ob} (hs : Sim G E ρ H w) (hh : ∀ b, b < w.heap.size → w'.heap[b]? = w.heap[b]?) : Ext ρ w ρ w' where
  β := fun _ _ h => h
  tk := fun _ _ h => h
  M := fun _ => Nat.le_refl _
  cell := fun b i hi => cell_of_heap (hh b (by
    rcases Nat.lt_or_ge b w.heap.size with h | h
    · exact h
    · have := hs.ltM b h; omega)) i
  row := fun b n h => by rw [rowSize_of_heap (hh b (rowSize_lt h))]; exact h

theorem Sim.more {H : Nat → Option Ob} (hs : Sim G E ρ H w) (hsz : w.heap.size ≤ w'.heap.size) (hh : ∀ b, b < w.heap.size → w'.heap[b]? = w.heap[b]?) : Sim G E ρ H w' where
  obj := fun l b o h1 h2 => (hs.obj l b o h1 h2).mono (ext_more hs hh) (hh b (hs.lt l b h1))
  tok := fun t n b base h1 h2 => by rw [hh b (hs.ltt t b base h1)]; exact hs.tok t n b base h1 h2
  tok1 := hs.tok1
  inj := hs.inj
  sep := hs.sep
  mz := hs.mz
  lt := fun l b h1 => Nat.lt_of_lt_of_le (hs.lt l b h1) hsz
  ltt := fun t b base h1 => Nat.lt_of_lt_of_le (hs.ltt t b base h1) hsz
  ltM := fun b h1 => hs.ltM b (Nat.le_trans hsz h1)
  gl := hs.gl.mono (ext_more hs hh)

theorem fr_more {H : Nat → Option Ob} (h1 : Still w w') (hh : ∀ b, b < w.heap.size → w'.heap[b]? = w.heap[b]?) (n n' : Nat) : Fr ρ H w n n' ρ w' :=
  ⟨h1, fun b hb _ _ => hh b hb, fun _ _ _ => rfl, fun _ _ h => .inl h, fun _ _ _ h => .inl h⟩

theorem sim_empty {M : Nat → Nat} (hM : ∀ b, w.heap.size ≤ b → M b = 0) (hgl : GlOk G ⟨fun _ => none, fun _ => none, M⟩ w E) : Sim G E ⟨fun _ => none, fun _ => none, M⟩ (St.get ⟨0, .e⟩) w where
  obj := fun l b ob h => (by cases h)
  tok := fun t n b base h => (by cases h)
  tok1 := fun t t' n n' b base base' h => (by cases h)
  inj := fun l l' b h => (by cases h)
  sep := fun l t b base h => (by cases h)
  mz := fun l b h => (by cases h)
  lt := fun l b h => (by cases h)
  ltt := fun t b base h => (by cases h)
  ltM := hM
  gl := hgl

/-- What the package-level variables hold hangs on no place. -/
def PureGl (E : Env) : Prop := ∀ g cs, E.gl g = some cs → pureL cs = true

theorem gl_pure (hp : PureGl E) (h : GlOk G ρ w E) (hM : ρ'.M = ρ.M) : GlOk G ρ' w E := by
  intro g cs hg
  have hr := h g cs hg
  generalize hv : Value.pointer (some ⟨g, 0, none⟩) = v at hr
  cases hr with
  | q cs off blk base f hc hf hr hM' =>
    exact .q cs 0 blk base f hc hf (fun i a ha => pure_rel (hr i a ha) (pureL_get (hp g cs hg) ha)) (by rw [hM]; exact hM')

/-- A function of no arguments that comes to a truth in the empty store does so in every store, which it leaves. -/
def closedP (b : Bool) : CK := fun _ args σ => match args with
  | [] => some (.b b, σ)
  | _ => none

theorem closed_prim (hp : PureGl E) {k : FuncId} {ck : CK} (hck : Sound P G E ck) {b : Bool} {σ1 : St} (h : ck k [] ⟨0, .e⟩ = some (.b b, σ1)) :
    ∀ args σ r σ', closedP b k args σ = some (r, σ') → Ord σ σ' ∧ ∀ ρ w vs, Wf σ → Sim G E ρ σ.get w → Free ρ σ.nx σ'.nx → Rels G ρ w args vs →
      Calls P k vs.toArray w fun e w' => ∃ v ρ', e = .returned v ∧ Rel G ρ' w' r v ∧ Post G E ρ σ w ρ' σ' w' := by
  intro args σ r σ' hc
  unfold closedP at hc
  split at hc
  · simp only [Option.some.injEq, Prod.mk.injEq] at hc
    obtain ⟨rfl, rfl⟩ := hc
    refine ⟨Ord.refl _, fun ρ w vs _ hs _ hr => ?_⟩
    have hvs : vs = [] := List.length_eq_zero_iff.1 hr.1.symm
    subst hvs
    let ρ0 : Gh := ⟨fun _ => none, fun _ => none, ρ.M⟩
    have hs0 : Sim G E ρ0 (St.get ⟨0, .e⟩) w :=
      sim_empty hs.ltM (gl_pure hp hs.gl rfl)
    have := (hck k [] _ _ _ h).2 ρ0 w [] (fun k hk => (hk rfl).elim) hs0 (fun k _ _ => ⟨rfl, rfl⟩) ⟨rfl, fun i a v h => by simp at h⟩
    refine this.mono ?_
    rintro e w' ⟨v, ρ', rfl, hrel, hpost⟩
    have hh : ∀ b, b < w.heap.size → w'.heap[b]? = w.heap[b]? := fun b hb => hpost.fr.heap b hb (fun k ob hk => (by cases hk)) (fun k m base hk => (by cases hk))
    refine ⟨v, ρ, rfl, pure_rel hrel rfl, ext_more hs hh, hs.more hpost.fr.still.size hh, fr_more hpost.fr.still hh _ _⟩
  · cases hc

/-- From the empty store: what the call gives, and that it leaves memory. -/
theorem start {k : FuncId} {ck : CK} (hck : Sound P G E ck) {args : List A} {vs : List Value} {r : A} {σ1 : St} (h : ck k args ⟨0, .e⟩ = some (r, σ1)) {w : World} (hr : ∀ ρ, Rels G ρ w args vs)
    (hgl : GlOk G ⟨fun _ => none, fun _ => none, fun b => (rowSize w b).getD 0⟩ w E) (hp : pureA r = true) :
    Calls P k vs.toArray w fun e w' => ∃ v, e = .returned v ∧ (∀ ρ w, Rel G ρ w r v) ∧ w.keptBut w' (fun _ => False) ∧ w'.tape = w.tape := by
  let ρ0 : Gh := ⟨fun _ => none, fun _ => none, fun b => (rowSize w b).getD 0⟩
  have hs0 : Sim G E ρ0 (St.get ⟨0, .e⟩) w :=
    sim_empty (fun b hb => by
      show (rowSize w b).getD 0 = 0
      unfold rowSize
      rw [Array.getElem?_eq_none hb]
      rfl) hgl
  have := (hck k args _ _ _ h).2 ρ0 w vs (fun k hk => (hk rfl).elim) hs0 (fun k _ _ => ⟨rfl, rfl⟩) (hr ρ0)
  refine this.mono ?_
  rintro e w' ⟨v, ρ', rfl, hrel, hpost⟩
  have hh : ∀ b, b < w.heap.size → w'.heap[b]? = w.heap[b]? := fun b hb => hpost.fr.heap b hb (fun k ob hk => (by cases hk)) (fun k m base hk => (by cases hk))
  refine ⟨v, rfl, fun ρ w => pure_rel hrel hp, ⟨hpost.fr.still.os, hpost.fr.still.output, fun i hi => ?_⟩, hpost.fr.still.tape⟩
  rw [hh i hi]
  cases hO : w.heap[i]? with
  | none => simp
  | some O =>
    cases O <;> simp

/-! ### errors.As at a concrete target -/

/-- What errors.As does at a pointer into a pointer variable of its type. -/
def asP (te tp : TypeId) : CK := fun _ xs σ => match xs with
  | [.ni, _] => some (.b false, σ)
  | [.x t (.p l' o'), .x u (.p l off)] => if t = te ∧ u = tp then match σ.get l with
    | some (.c cs) => (putN cs off [.p l' o']).bind fun cs' => σ.setK l (.c cs') fun σ' => some (.b true, σ')
    | _ => none
    else none
  | _ => none

theorem run_storeCells_one {ta : Addr} {v old : Value} (hc : w.cell? ta = some old) (hf : w.frozen? ta = false) (hv : v.oneCell' = true) : (storeCells ta [v]).run P w = .ok () (w.setCell ta v) := by
  have e : ta.add 0 = ta := by simp [Addr.add]
  simp only [storeCells, Sem.run_bind, Sem.run_pure, e]
  rw [run_store P w ta _ _ hv]
  simp [hc, hf, Result.andThen]

theorem as_prim {k : FuncId} {te tp : TypeId} (hnil : ∀ (x : Value) (w : World), Calls P k #[.nilIface, x] w fun e w' => e = .returned (.bool false) ∧ w' = w) {g : Nat} {gv : A}
    (hg : E.gl g = some [gv]) {more : Addr → Addr → World → World} (hm : ∀ e t w, Still w (more e t w) ∧ ∀ b, b < w.heap.size → (more e t w).heap[b]? = w.heap[b]?)
    (hit : ∀ (ρ : Gh) (e t : Addr) (old gval : Value) (w : World), Rel G ρ w gv gval → w.cell? ⟨g, 0, none⟩ = some gval → w.cell? t = some old → w.frozen? t = false →
      Calls P k #[.iface te (.pointer (some e)), .iface tp (.pointer (some t))] w fun ev w' => ev = .returned (.bool true) ∧ w' = (more e t w).setCell t (.pointer (some e))) :
    ∀ args σ r σ', asP te tp k args σ = some (r, σ') → Ord σ σ' ∧ ∀ ρ w vs, Wf σ → Sim G E ρ σ.get w → Free ρ σ.nx σ'.nx → Rels G ρ w args vs →
      Calls P k vs.toArray w fun e w' => ∃ v ρ', e = .returned v ∧ Rel G ρ' w' r v ∧ Post G E ρ σ w ρ' σ' w' := by
  intro args σ r σ' h
  unfold asP at h
  split at h
  · rename_i x
    simp only [Option.some.injEq, Prod.mk.injEq] at h
    obtain ⟨rfl, rfl⟩ := h
    refine ⟨Ord.refl _, fun ρ w vs _ hs _ hr => ?_⟩
    obtain ⟨hl, hr⟩ := hr
    match vs, hl with
    | [a, b], _ =>
      have r1 := hr 0 _ _ rfl rfl
      cases r1
      refine (hnil b w).mono ?_
      rintro e w' ⟨rfl, rfl⟩
      exact ⟨_, ρ, rfl, .b _, Post.refl hs⟩
  · rename_i t l' o' u l off
    split at h
    case isFalse => cases h
    rename_i htu
    obtain ⟨rfl, rfl⟩ := htu
    split at h
    case h_2 => cases h
    rename_i cs hσ
    simp only [Option.bind_eq_some_iff, St.setK_eq] at h
    obtain ⟨cs', hput, h⟩ := h
    simp only [Option.some.injEq, Prod.mk.injEq] at h
    obtain ⟨rfl, rfl⟩ := h
    refine ⟨ord_set hσ (fun m hm => by cases hm), fun ρ w vs _ hs _ hr => ?_⟩
    obtain ⟨hl, hr⟩ := hr
    match vs, hl with
    | [x, y], _ =>
      have r1 := hr 0 _ _ rfl rfl
      have r2 := hr 1 _ _ rfl rfl
      cases r1 with
      | x _ _ v1 r1 =>
        cases r2 with
        | x _ _ v2 r2 =>
          obtain ⟨eb, rfl, hβe⟩ := addr_p r1
          obtain ⟨blk, rfl, hβ⟩ := addr_p r2
          obtain ⟨c, ty, fr, h1, h2, h3, h4, h5⟩ := hs.obj l blk _ hβ hσ
          have hoff : off < c.size := by
            have := putN_length hput
            unfold putN at hput
            split at hput
            · rename_i hle; simp at hle; omega
            · cases hput
          have hcell : w.cell? ⟨blk, off, none⟩ = some c[off] := by rw [cell_eq]; simp [cell, h1, hoff]
          have hfz : w.frozen? ⟨blk, off, none⟩ = false := by
            simp only [World.frozen?, h1]
            have := h3 off hoff
            simp only [Bool.and_eq_false_imp, decide_eq_true_eq, decide_eq_false_iff_not]
            intro hle hlt
            exact this ⟨hle, hlt⟩
          obtain ⟨gval, hgc, hgr⟩ : ∃ gval, w.cell? ⟨g, 0, none⟩ = some gval ∧ Rel G ρ w gv gval := by
            have hgl := hs.gl g [gv] hg
            generalize hvv : Value.pointer (some ⟨g, 0, none⟩) = vv at hgl
            cases hgl with
            | q _ _ blk base f hc hf hr hM =>
              simp only [Value.pointer.injEq, Option.some.injEq, Addr.mk.injEq, and_true] at hvv
              obtain ⟨rfl, hb⟩ := hvv
              have hb0 : base = 0 := by omega
              subst hb0
              exact ⟨f 0, by rw [cell_eq]; exact hc 0 gv rfl, hr 0 gv rfl⟩
          refine (hit ρ ⟨eb, o', none⟩ ⟨blk, off, none⟩ c[off] gval w hgr hgc hcell hfz).mono ?_
          rintro ev w' ⟨rfl, rfl⟩
          obtain ⟨hst, hh⟩ := hm ⟨eb, o', none⟩ ⟨blk, off, none⟩ w
          have hs4 : Sim G E ρ σ.get (more ⟨eb, o', none⟩ ⟨blk, off, none⟩ w) := hs.more hst.size hh
          have e4 := ext_more hs hh
          have hbl := hs.lt l blk hβ
          obtain ⟨w5, hrun, e5, hs5, fr5⟩ := row_put (P := P) (nv := [.pointer (some ⟨eb, o', none⟩)]) hs4 hβ hσ hput (Rels.cons (.p l' o' eb hβe) Rels.nil) (fun i a ha => by
            cases i with
            | zero => simp at ha; subst ha; rfl
            | succ i => simp at ha)
          rw [run_storeCells_one (old := c[off]) (by rw [cell_eq, cell_of_heap (hh blk hbl), ← cell_eq]; exact hcell) (by simp only [World.frozen?] at hfz ⊢; rw [hh blk hbl]; exact hfz) rfl] at hrun
          simp only [Result.ok.injEq, true_and] at hrun
          subst hrun
          refine ⟨_, ρ, rfl, .b _, e4.trans e5, by rw [upd_eq]; exact hs5, ?_⟩
          have f1 : Fr ρ σ.get w σ.nx σ.nx ρ (more ⟨eb, o', none⟩ ⟨blk, off, none⟩ w) := fr_more hst hh _ _
          have f2 := fr5 σ.nx
          refine ⟨f1.still.trans f2.still, fun b hb hk hk2 => ?_, fun b hb hk => ?_, fun i b hi => .inl hi, fun i b base hi => .inl hi⟩
          · rw [f2.heap b (Nat.lt_of_lt_of_le hb hst.size) hk hk2]; exact hh b hb
          · rfl
  · cases h

end
end Go.VV
