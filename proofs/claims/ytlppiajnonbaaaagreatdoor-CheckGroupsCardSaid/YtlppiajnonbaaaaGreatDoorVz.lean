/- Temporaries that no one names do not matter. -/
import Derived.Test.YtlppiajnonbaaaaGreatDoorVt
set_option linter.unusedVariables false
set_option linter.unusedSimpArgs false
namespace Go.VV

/-- Two frames that agree off D. -/
structure Off (D : Nat → Bool) (tm tm2 : Tm) : Prop where
  nt : tm.nt = tm2.nt
  get : ∀ t, D t = false → tm.get t = tm2.get t

def opsFree (D : Nat → Bool) (ops : Array Oper) (l : List Oper) : Bool := l.all fun o => (namesOf ops o).all fun t => !D t

def codeFree (D : Nat → Bool) : Code → Bool
  | .region _ ops _ => opsFree D ops ops.toList
  | .seq a c => codeFree D a && codeFree D c
  | .cond c a d => (match c with
    | .tmp t => !D t
    | _ => true) && codeFree D a && codeFree D d
  | .block _ c => codeFree D c
  | .loop c => codeFree D c
  | _ => true

def resFree (D : Nat → Bool) (l : List ResultVar) : Bool := l.all fun r => match r with
  | .tmp t => !D t
  | .cell a _ => !D a

section
variable {E : Env} {pol : Pol} {ck : CK} {D : Nat → Bool}

theorem Off.refl (tm : Tm) : Off D tm tm := ⟨rfl, fun _ _ => rfl⟩
theorem Off.trans {a b c : Tm} (h : Off D a b) (k : Off D b c) : Off D a c := ⟨h.nt.trans k.nt, fun t ht => (h.get t ht).trans (k.get t ht)⟩
theorem Off.symm {a b : Tm} (h : Off D a b) : Off D b a := ⟨h.nt.symm, fun t ht => (h.get t ht).symm⟩

theorem get_put' (tm : Tm) (d : Option Tmp) (x : A) (t : Nat) : (tm.put d x).get t = if d = some t then x else tm.get t := by
  cases d with
  | none => simp [Tm.put]
  | some d =>
    simp only [Tm.put, Tm.get, Tr.get_set, Option.some.injEq]
    by_cases h : t = d
    · simp [h]
    · rw [if_neg h, if_neg (fun e => h e.symm)]

theorem Off.put {a b : Tm} (h : Off D a b) (d : Option Tmp) (x : A) : Off D (a.put d x) (b.put d x) :=
  ⟨by cases d <;> exact h.nt, fun t ht => by rw [get_put', get_put']; split; rfl; exact h.get t ht⟩

/-- One side writes where D is. -/
theorem Off.putL {a b : Tm} (h : Off D a b) {d : Tmp} (hd : D d = true) (x : A) : Off D (a.put (some d) x) b :=
  ⟨h.nt, fun t ht => by
    rw [get_put']
    split
    · rename_i e; cases e; rw [hd] at ht; cases ht
    · exact h.get t ht⟩

theorem one_off {ops : Array Oper} {o : Oper} {tm tm1 tm2 : Tm} {σ σ' : St} {rd : Option Nat} (h : oneOp E pol ck ops o tm σ = some (rd, tm1, σ')) (ho : Off D tm tm2) (hn : ((namesOf ops o).all fun t => !D t) = true) :
    ∃ tm2', oneOp E pol ck ops o tm2 σ = some (rd, tm2', σ') ∧ Off D tm1 tm2' := by
  obtain ⟨x, hx, h2⟩ := oneOp_congr h ho.nt (fun t ht => ho.get t (by simpa using List.all_eq_true.1 hn t ht))
  exact ⟨_, h2, by rw [hx]; exact ho.put _ _⟩

theorem seq_off {ops : Array Oper} : ∀ {l : List Oper} {tm tm1 tm2 : Tm} {σ σ' : St}, runSeq E pol ck ops l tm σ = some (tm1, σ') → Off D tm tm2 → opsFree D ops l = true → ∃ tm2', runSeq E pol ck ops l tm2 σ = some (tm2', σ') ∧ Off D tm1 tm2' := by
  intro l
  induction l with
  | nil =>
    intro tm tm1 tm2 σ σ' h ho _
    simp [runSeq] at h
    obtain ⟨rfl, rfl⟩ := h
    exact ⟨tm2, rfl, ho⟩
  | cons o l ih =>
    intro tm tm1 tm2 σ σ' h ho hn
    simp only [opsFree, List.all_cons, Bool.and_eq_true] at hn
    simp only [runSeq, Option.bind_eq_some_iff, Prod.exists] at h
    obtain ⟨rd, tma, σa, h1, h2⟩ := h
    obtain ⟨tmb, h3, h4⟩ := one_off h1 ho hn.1
    obtain ⟨tmc, h5, h6⟩ := ih h2 h4 hn.2
    exact ⟨tmc, by simp only [runSeq, h3, Option.bind_some]; exact h5, h6⟩

theorem tr_off {ops : Array Oper} : ∀ {l : List Oper} {i : Nat} {tm tm1 tm2 : Tm} {σ σ' : St} {tr : List Rec}, runTr E pol ck ops l i tm σ = some (tm1, σ', tr) → Off D tm tm2 → opsFree D ops l = true → ∃ tm2', runTr E pol ck ops l i tm2 σ = some (tm2', σ', tr) ∧ Off D tm1 tm2' := by
  intro l
  induction l with
  | nil =>
    intro i tm tm1 tm2 σ σ' tr h ho _
    simp [runTr] at h
    obtain ⟨rfl, rfl, rfl⟩ := h
    exact ⟨tm2, rfl, ho⟩
  | cons o l ih =>
    intro i tm tm1 tm2 σ σ' tr h ho hn
    simp only [opsFree, List.all_cons, Bool.and_eq_true] at hn
    simp only [runTr, Option.bind_eq_some_iff, Option.map_eq_some_iff, Prod.exists, Prod.mk.injEq] at h
    obtain ⟨rd, tma, σa, h1, tmz, σz, trz, h2, rfl, rfl, rfl⟩ := h
    obtain ⟨tmb, h3, h4⟩ := one_off h1 ho hn.1
    obtain ⟨tmc, h5, h6⟩ := ih h2 h4 hn.2
    exact ⟨tmc, by simp only [runTr, h3, Option.bind_some, h5, Option.map_some], h6⟩

theorem draw_off {ops : Array Oper} {tm tm1 tm2 : Tm} {σ σ' : St} (h : runDraw E pol ck ops tm σ = some (tm1, σ')) (ho : Off D tm tm2) (hn : opsFree D ops ops.toList = true) : ∃ tm2', runDraw E pol ck ops tm2 σ = some (tm2', σ') ∧ Off D tm1 tm2' := by
  unfold runDraw at h ⊢
  simp only at h ⊢
  split at h
  case isFalse => cases h
  rename_i ht
  rw [if_pos ht]
  simp only [Option.bind_eq_some_iff, Prod.exists] at h
  obtain ⟨tma, σa, tr, h1, h2⟩ := h
  split at h2
  case isFalse => cases h2
  rename_i ha
  simp only [Option.some.injEq, Prod.mk.injEq] at h2
  obtain ⟨rfl, rfl⟩ := h2
  obtain ⟨tmb, h3, h4⟩ := tr_off h1 ho hn
  exact ⟨tmb, by simp only [h3, Option.bind_some, ha, if_true], h4⟩

theorem ev_off {tm tm2 : Tm} (ho : Off D tm tm2) {x : Operand} (hx : (match x with
    | .tmp t => !D t
    | _ => true) = true) : ev E tm x = ev E tm2 x := ev_congr fun t ht => by
  subst ht
  exact ho.get t (by simpa using hx)

theorem code_off (n : Nat) : ∀ {c : Code} {tm tm1 tm2 : Tm} {σ σ' : St} {x : X}, runCode E pol ck n c tm σ = some (x, tm1, σ') → Off D tm tm2 → codeFree D c = true → ∃ tm2', runCode E pol ck n c tm2 σ = some (x, tm2', σ') ∧ Off D tm1 tm2' := by
  intro c
  induction c with
  | skip =>
    intro tm tm1 tm2 σ σ' x h ho _
    simp only [runCode, Option.some.injEq, Prod.mk.injEq] at h
    obtain ⟨rfl, rfl, rfl⟩ := h
    exact ⟨tm2, rfl, ho⟩
  | region id ops draw =>
    intro tm tm1 tm2 σ σ' x h ho hn
    cases draw with
    | false =>
      simp only [runCode, Option.map_eq_some_iff, Prod.exists, Prod.mk.injEq] at h
      obtain ⟨tma, σa, h1, rfl, rfl, rfl⟩ := h
      obtain ⟨tmb, h3, h4⟩ := seq_off h1 ho hn
      exact ⟨tmb, by simp only [runCode, h3, Option.map_some], h4⟩
    | true =>
      simp only [runCode, Option.map_eq_some_iff, Prod.exists, Prod.mk.injEq] at h
      obtain ⟨tma, σa, h1, rfl, rfl, rfl⟩ := h
      obtain ⟨tmb, h3, h4⟩ := draw_off h1 ho hn
      exact ⟨tmb, by simp only [runCode, h3, Option.map_some], h4⟩
  | seq a d iha ihd =>
    intro tm tm1 tm2 σ σ' x h ho hn
    simp only [codeFree, Bool.and_eq_true] at hn
    simp only [runCode, Option.bind_eq_some_iff, Prod.exists] at h
    obtain ⟨xa, tma, σa, h1, h2⟩ := h
    obtain ⟨tmb, h3, h4⟩ := iha h1 ho hn.1
    cases xa with
    | n =>
      obtain ⟨tmc, h5, h6⟩ := ihd h2 h4 hn.2
      exact ⟨tmc, by simp only [runCode, h3, Option.bind_some, h5], h6⟩
    | e id =>
      simp only [Option.some.injEq, Prod.mk.injEq] at h2
      obtain ⟨rfl, rfl, rfl⟩ := h2
      exact ⟨tmb, by simp only [runCode, h3, Option.bind_some], h4⟩
    | r =>
      simp only [Option.some.injEq, Prod.mk.injEq] at h2
      obtain ⟨rfl, rfl, rfl⟩ := h2
      exact ⟨tmb, by simp only [runCode, h3, Option.bind_some], h4⟩
  | cond c a d iha ihd =>
    intro tm tm1 tm2 σ σ' x h ho hn
    simp only [codeFree, Bool.and_eq_true] at hn
    simp only [runCode] at h ⊢
    rw [← ev_off ho hn.1.1]
    split at h
    · exact iha h ho hn.1.2
    · exact ihd h ho hn.2
    · cases h
  | block id c ih =>
    intro tm tm1 tm2 σ σ' x h ho hn
    simp only [runCode, Option.map_eq_some_iff, Prod.exists] at h
    obtain ⟨xa, tma, σa, h1, h2⟩ := h
    obtain ⟨tmb, h3, h4⟩ := ih h1 ho hn
    cases xa with
    | n =>
      simp only [Prod.mk.injEq] at h2
      obtain ⟨rfl, rfl, rfl⟩ := h2
      exact ⟨tmb, by simp only [runCode, h3, Option.map_some], h4⟩
    | e id' =>
      simp only at h2
      by_cases hid : id' = id
      · rw [if_pos hid] at h2
        simp only [Prod.mk.injEq] at h2
        obtain ⟨rfl, rfl, rfl⟩ := h2
        exact ⟨tmb, by simp only [runCode, h3, Option.map_some, if_pos hid], h4⟩
      · rw [if_neg hid] at h2
        simp only [Prod.mk.injEq] at h2
        obtain ⟨rfl, rfl, rfl⟩ := h2
        exact ⟨tmb, by simp only [runCode, h3, Option.map_some, if_neg hid], h4⟩
    | r =>
      simp only [Prod.mk.injEq] at h2
      obtain ⟨rfl, rfl, rfl⟩ := h2
      exact ⟨tmb, by simp only [runCode, h3, Option.map_some], h4⟩
  | loop c ih =>
    intro tm tm1 tm2 σ σ' x h ho hn
    simp only [runCode] at h ⊢
    have key : ∀ (k : Nat) (tm tm2 : Tm) (σ : St), loopN (runCode E pol ck n c) k tm σ = some (x, tm1, σ') → Off D tm tm2 → ∃ tm2', loopN (runCode E pol ck n c) k tm2 σ = some (x, tm2', σ') ∧ Off D tm1 tm2' := by
      intro k
      induction k with
      | zero => intro tm tm2 σ h; cases h
      | succ k ihk =>
        intro tm tm2 σ h ho
        simp only [loopN, Option.bind_eq_some_iff, Prod.exists] at h
        obtain ⟨xa, tma, σa, h1, h2⟩ := h
        obtain ⟨tmb, h3, h4⟩ := ih h1 ho hn
        cases xa with
        | n =>
          obtain ⟨tmc, h5, h6⟩ := ihk tma tmb σa h2 h4
          exact ⟨tmc, by simp only [loopN, h3, Option.bind_some, h5], h6⟩
        | e id =>
          simp only [Option.some.injEq, Prod.mk.injEq] at h2
          obtain ⟨rfl, rfl, rfl⟩ := h2
          exact ⟨tmb, by simp only [loopN, h3, Option.bind_some], h4⟩
        | r =>
          simp only [Option.some.injEq, Prod.mk.injEq] at h2
          obtain ⟨rfl, rfl, rfl⟩ := h2
          exact ⟨tmb, by simp only [loopN, h3, Option.bind_some], h4⟩
    exact key n tm tm2 σ h ho
  | exit id =>
    intro tm tm1 tm2 σ σ' x h ho _
    simp only [runCode, Option.some.injEq, Prod.mk.injEq] at h
    obtain ⟨rfl, rfl, rfl⟩ := h
    exact ⟨tm2, rfl, ho⟩
  | ret =>
    intro tm tm1 tm2 σ σ' x h ho _
    simp only [runCode, Option.some.injEq, Prod.mk.injEq] at h
    obtain ⟨rfl, rfl, rfl⟩ := h
    exact ⟨tm2, rfl, ho⟩
  | rangeFunc f ps c d _ _ => intro tm tm1 tm2 σ σ' x h; cases h
  | scope c _ => intro tm tm1 tm2 σ σ' x h; cases h
  | label l => intro tm tm1 tm2 σ σ' x h; cases h
  | goto l => intro tm tm1 tm2 σ σ' x h; cases h
  | refuse s => intro tm tm1 tm2 σ σ' x h; cases h

theorem res_off {tm tm2 : Tm} {σ : St} (ho : Off D tm tm2) : ∀ {l : List ResultVar}, resFree D l = true → resA E tm σ l = resA E tm2 σ l := by
  intro l
  induction l with
  | nil => intro _; rfl
  | cons r l ih =>
    intro h
    simp only [resFree, List.all_cons, Bool.and_eq_true] at h
    cases r with
    | tmp t =>
      simp only [resA]
      rw [ih h.2, ho.get t (by simpa using h.1)]
    | cell a t =>
      simp only [resA]
      rw [ih h.2, ho.get a (by simpa using h.1)]

end
end Go.VV
