/- Types, rows of memory, and the operations that only reckon or read: what the abstract machine gives, the model gives. -/
import Derived.Test.YtlppiajnonbaaaaGreatDoorVc
import Derived.Laws.Cells
import Derived.Laws.CopyRow
set_option linter.unusedVariables false
set_option linter.unusedSimpArgs false
namespace Go.VV

def uOf : TypeDesc → U
  | .bool => .bool
  | .int k => .int k
  | .string => .string
  | .pointer e => .ptr e
  | .slice e => .slice e
  | .map k e => .map k e
  | .func _ _ _ => .func
  | .interface ms => .iface ms.isEmpty
  | .struct fs => .struct (fs.toList.map fun f => (f.offset, f.type))
  | .array n e => .array n e
  | _ => .other

def aggV : Value → Bool
  | .agg _ => true
  | _ => false

def eqOk (P : Program) (t : TypeId) : Bool :=
  !P.stoodInHeld t && !P.eqGuardType P.depth t && match P.underlying t with
    | some (.struct fs) => fs.toList.all fun f => f.name != "_"
    | _ => true

/-- What is told of a type is so. -/
def TIok (P : Program) (t : TypeId) (T : TI) : Prop :=
  (∃ d, P.underlying t = some d ∧ T.u = uOf d) ∧
  (∃ i z, P.info? t = some i ∧ i.size = T.sz ∧ i.bytes = T.by_ ∧ i.zero = some z ∧ ofScalars z.cells.toList = some T.zero ∧ aggV z = T.u.agg ∧ T.zero.length = T.sz) ∧
  (T.eq = true → eqOk P t = true)

structure EnvOk (P : Program) (E : Env) : Prop where
  ti : ∀ t T, E.ti t = some T → TIok P t T
  en : ∀ k, E.en k = true → ∃ fn, P.funcs[k]? = some fn ∧ fn.body.isSome = true ∧ (fn.name == "runtime.NumGoroutine") = false
  ext : ∀ k g, E.ext k = some g → ∀ (G : Nat) (ρ : Gh) (w : World) (args : List A) (c : A) (vs : List Value), g args = some c → args.length = vs.length →
    (∀ (i : Nat) (a : A) (v : Value), args[i]? = some a → vs[i]? = some v → Rel G ρ w a v) → ∃ v, (callFunc k vs.toArray).run P w = .ok (.value v) w ∧ Rel G ρ w c v

section
variable {P : Program}

theorem TIok.und {t : TypeId} {T : TI} (h : TIok P t T) : ∃ d, P.underlying t = some d ∧ T.u = uOf d := h.1

theorem run_und {t : TypeId} {d : TypeDesc} (h : P.underlying t = some d) (w : World) : (underlying t).run P w = .ok d w := run_underlying h w

theorem agg_uOf (d : TypeDesc) : (match d with | .struct _ | .array _ _ => true | _ => false) = (uOf d).agg := by cases d <;> rfl

theorem run_isAgg {t : TypeId} {T : TI} (h : TIok P t T) (w : World) : (isAgg t).run P w = .ok T.u.agg w := by
  obtain ⟨d, hd, hu⟩ := h.1
  have := agg_uOf d
  simp only [isAgg, Sem.run_bind, run_und hd, Result.andThen_ok]
  rw [hu, ← this]
  cases d <;> rfl

theorem run_size {t : TypeId} {T : TI} (h : TIok P t T) (w : World) : (sizeOf t).run P w = .ok T.sz w := by
  obtain ⟨i, z, hi, hs, _⟩ := h.2.1
  simp [sizeOf, typeInfo, hi, hs]

theorem run_info {t : TypeId} {T : TI} (h : TIok P t T) : ∃ i, (∀ w, (typeInfo t).run P w = .ok i w) ∧ i.bytes = T.by_ ∧ i.size = T.sz := by
  obtain ⟨i, z, hi, hs, hb, _⟩ := h.2.1
  exact ⟨i, fun w => by simp [typeInfo, hi], hb, hs⟩

theorem ofScalar_rel {G : Nat} {ρ : Gh} {w : World} {v : Value} {a : A} (h : ofScalar v = some a) : Rel G ρ w a v := by
  cases v with
  | bool x => simp [ofScalar] at h; subst h; exact .b x
  | int k n => simp [ofScalar] at h; subst h; exact .i k n
  | string s => simp [ofScalar] at h; subst h; exact .s _ _ rfl
  | pointer p => cases p <;> simp [ofScalar] at h; subst h; exact .np
  | slice p n c =>
    cases p with
    | some p => simp [ofScalar] at h
    | none =>
      cases n with
      | succ n => simp [ofScalar] at h
      | zero => cases c with
        | succ c => simp [ofScalar] at h
        | zero => simp [ofScalar] at h; subst h; exact .ns
  | map r => cases r <;> simp [ofScalar] at h; subst h; exact .nm
  | nilFunc => simp [ofScalar] at h; subst h; exact .nf
  | nilIface => simp [ofScalar] at h; subst h; exact .ni
  | _ => simp [ofScalar] at h

theorem ofScalar_flat {v : Value} {a : A} (h : ofScalar v = some a) : flat a = true := by
  cases v with
  | pointer p => cases p <;> simp [ofScalar] at h; subst h; rfl
  | slice p n c =>
    cases p with
    | some p => simp [ofScalar] at h
    | none =>
      cases n with
      | succ n => simp [ofScalar] at h
      | zero => cases c with
        | succ c => simp [ofScalar] at h
        | zero => simp [ofScalar] at h; subst h; rfl
  | map r => cases r <;> simp [ofScalar] at h; subst h; rfl
  | _ => simp [ofScalar] at h <;> (subst h; rfl)

theorem ofScalars_rels {G : Nat} {ρ : Gh} {w : World} : ∀ {vs : List Value} {l : List A}, ofScalars vs = some l → Rels G ρ w l vs := by
  intro vs
  induction vs with
  | nil => intro l h; simp [ofScalars] at h; subst h; exact Rels.nil
  | cons v vs ih =>
    intro l h
    simp only [ofScalars, Option.bind_eq_some_iff, Option.map_eq_some_iff] at h
    obtain ⟨a, ha, l', hl, rfl⟩ := h
    exact Rels.cons (ofScalar_rel ha) (ih hl)

theorem ofScalars_flat : ∀ {vs : List Value} {l : List A}, ofScalars vs = some l → ∀ (i : Nat) (a : A), l[i]? = some a → flat a = true := by
  intro vs
  induction vs with
  | nil => intro l h i a ha; simp [ofScalars] at h; subst h; simp at ha
  | cons v vs ih =>
    intro l h i a ha
    simp only [ofScalars, Option.bind_eq_some_iff, Option.map_eq_some_iff] at h
    obtain ⟨c, hc, l', hl, rfl⟩ := h
    cases i with
    | zero => simp at ha; subst ha; exact ofScalar_flat hc
    | succ i => exact ih hl i a (by simpa using ha)

theorem ofConst_rel {G : Nat} {ρ : Gh} {w : World} {v : Value} {a : A} (h : ofConst v = some a) : Rel G ρ w a v := by
  cases v with
  | agg cs =>
    simp only [ofConst, Option.map_eq_some_iff] at h
    obtain ⟨l, hl, rfl⟩ := h
    have hr := ofScalars_rels (G := G) (ρ := ρ) (w := w) hl
    exact .g l cs (by simpa using hr.1) (ofScalars_flat hl) (fun i a v ha hv => hr.2 i a v ha (by simpa using hv))
  | tuple vs =>
    simp only [ofConst] at h
    split at h
    · rename_i he
      simp at h; subst h
      have : vs = #[] := by simpa using he
      subst this
      exact .t [] #[] rfl (fun i a v ha => by simp at ha)
    · cases h
  | _ => exact ofScalar_rel h

theorem Rel.un {G : Nat} {ρ : Gh} {w : World} : Rel G ρ w un undef := .t [] #[] rfl (fun i a v ha => by simp at ha)

/-- The zero value of a type. -/
theorem run_zero {G : Nat} {ρ : Gh} {w : World} {t : TypeId} {T : TI} (h : TIok P t T) :
    ∃ z, (zeroValue t).run P w = .ok z w ∧ Rels G ρ w T.zero z.cells.toList ∧ (∀ (i : Nat) (a : A), T.zero[i]? = some a → flat a = true) ∧ z.cells.size = T.sz ∧
      (∀ a, ofCells T.u.agg T.zero = some a → Rel G ρ w a z) := by
  obtain ⟨i, z, hi, hs, hb, hz, hc, ha, hl⟩ := h.2.1
  have hr := ofScalars_rels (G := G) (ρ := ρ) (w := w) hc
  refine ⟨z, by simp [zeroValue, typeInfo, hi, hz], hr, ofScalars_flat hc, by rw [← hl, hr.1]; simp, fun a h => ?_⟩
  unfold ofCells at h
  rw [← ha] at h
  cases z with
  | agg cs =>
    simp only [aggV, if_true, Option.some.injEq] at h
    subst h
    exact .g _ cs (by simpa [Value.cells] using hr.1) (ofScalars_flat hc) (fun i a v ha hv => hr.2 i a v ha (by simpa [Value.cells] using hv))
  | _ =>
    simp only [aggV, Bool.false_eq_true, if_false] at h
    simp only [Value.cells] at hr
    split at h
    · rename_i c hcs
      simp at h; subst h
      rw [hcs] at hr
      obtain ⟨v, vs', hv, hr', _⟩ := hr.uncons
      simp at hv
      rw [hv.1]
      exact hr'
    · cases h

/-- A frame's temporaries stand for one another. -/
structure TmR (G : Nat) (ρ : Gh) (w : World) (tm : Tm) (a : Act) : Prop where
  size : a.tmps.size = tm.nt
  rel : ∀ t, Rel G ρ w (tm.get t) (a.tmps.getD t undef)

theorem TmR.mono {G : Nat} {ρ ρ' : Gh} {w w' : World} {tm : Tm} {a : Act} (e : Ext ρ w ρ' w') (h : TmR G ρ w tm a) : TmR G ρ' w' tm a := ⟨h.size, fun t => (h.rel t).mono e⟩

theorem TmR.put {G : Nat} {ρ : Gh} {w : World} {tm : Tm} {a : Act} {dst : Option Tmp} {x : A} {v : Value} (h : TmR G ρ w tm a) (hf : tm.fits dst = true) (hx : Rel G ρ w x v) :
    TmR G ρ w (tm.put dst x) (a.put dst v) := by
  cases dst with
  | none => exact h
  | some d =>
    have hd : d < a.tmps.size := by rw [h.size]; simpa [Tm.fits] using hf
    refine ⟨by simpa [Act.put, Tm.put] using h.size, fun t => ?_⟩
    rw [Tm.get_put]
    simp only [Act.put, Array.getD_eq_getD_getElem?]
    by_cases ht : t = d
    · subst ht
      rw [if_pos rfl, Array.getElem?_setIfInBounds_self_of_lt hd]
      exact hx
    · rw [if_neg ht, Array.getElem?_setIfInBounds_ne (Ne.symm ht)]
      have := h.rel t
      rwa [Array.getD_eq_getD_getElem?] at this

/-- The package-level variables that are told stand. -/
def GlOk (G : Nat) (ρ : Gh) (w : World) (E : Env) : Prop := ∀ g cs, E.gl g = some cs → Rel G ρ w (.q cs 0) (.pointer (some ⟨g, 0, none⟩))

theorem GlOk.mono {G : Nat} {ρ ρ' : Gh} {w w' : World} {E : Env} (e : Ext ρ w ρ' w') (h : GlOk G ρ w E) : GlOk G ρ' w' E := fun g cs hg => (h g cs hg).mono e

theorem ev_rel {G : Nat} {ρ : Gh} {w : World} {E : Env} {tm : Tm} {a : Act} (h : TmR G ρ w tm a) (hg : GlOk G ρ w E) {x : Operand} {c : A} (he : ev E tm x = some c) : Rel G ρ w c (a.eval x) := by
  cases x with
  | tmp t => simp [ev] at he; subst he; exact h.rel t
  | const v => exact ofConst_rel he
  | global g =>
    simp only [ev, Option.map_eq_some_iff] at he
    obtain ⟨cs, hcs, rfl⟩ := he
    exact hg g cs hcs
  | func f =>
    simp [ev] at he; subst he
    exact .f _ _ _ _ _ rfl rfl (fun i a v ha => by simp at ha) (fun i a v ha => by simp at ha)

theorem evs_rels {G : Nat} {ρ : Gh} {w : World} {E : Env} {tm : Tm} {a : Act} (h : TmR G ρ w tm a) (hg : GlOk G ρ w E) : ∀ {xs : List Operand} {l : List A}, evs E tm xs = some l → Rels G ρ w l (xs.map a.eval) := by
  intro xs
  induction xs with
  | nil => intro l he; simp [evs] at he; subst he; exact Rels.nil
  | cons x xs ih =>
    intro l he
    simp only [evs, Option.bind_eq_some_iff, Option.map_eq_some_iff] at he
    obtain ⟨c, hc, l', hl, rfl⟩ := he
    exact Rels.cons (ev_rel h hg hc) (ih hl)

end
end Go.VV
