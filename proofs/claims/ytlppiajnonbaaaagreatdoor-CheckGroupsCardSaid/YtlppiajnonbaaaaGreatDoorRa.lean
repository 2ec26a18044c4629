/- Runs that differ in temporaries alone: small lemmas for a law that asks its arguments only by their rest. -/
import Derived.Test.YtlppiajnonbaaaaGreatDoorVz
import Derived.Test.YtlppiajnonbaaaaGreatDoorFg
set_option linter.unusedVariables false
set_option linter.unusedSimpArgs false
namespace Go.VV
variable {E : Env} {pol : Pol} {ck : CK} {D : Nat → Bool}

def sa : Code → Code
  | .seq a _ => a
  | c => c
def sb : Code → Code
  | .seq _ b => b
  | c => c
def regOps : Code → Array Oper
  | .region _ ops _ => ops
  | _ => #[]
def regId : Code → Nat
  | .region id _ _ => id
  | _ => 0
def opN (c : Code) (k : Nat) : Oper := ((regOps c).toList[k]?).getD default
def cT : Code → Code
  | .cond _ a _ => a
  | c => c

theorem one_of {ops : Array Oper} {o : Oper} {tm : Tm} {σ : St} {d : Nat} {rd : Option Nat} {a : A} {σ' : St} (hg : o.guard = none) (hd : o.dst = some d) (hlt : d < tm.nt) (h : aStep E pol ck tm σ o = some (rd, a, σ')) :
    oneOp E pol ck ops o tm σ = some (rd, tm.put (some d) a, σ') := by
  rw [oneOp_step (by rw [hd]; exact decide_eq_true hlt) (by simp only [wantedA, hg]), h, hd]
  rfl
theorem st_move {o : Oper} {x : Nat} {tm : Tm} {σ : St} (h : o.op = .move (.tmp x)) : aStep E pol ck tm σ o = some (none, tm.get x, σ) := by
  simp only [aStep, aOp, h, ev, R.ofA, Option.map_some, Option.bind_some, rStep]
theorem st_assign {o : Oper} {x : Nat} {tm : Tm} {σ : St} (h : o.op = .assign (.tmp x)) : aStep E pol ck tm σ o = some (none, tm.get x, σ) := by
  simp only [aStep, aOp, h, ev, R.ofA, Option.map_some, Option.bind_some, rStep]
theorem st_lss0 {o : Oper} {x : Nat} {t t' : TypeId} {tm : Tm} {σ : St} {a : Int} (h : o.op = .binOp .lss t (.tmp x) (.const (.int .i64 0)) t') (hx : tm.get x = .i .i64 a) : aStep E pol ck tm σ o = some (none, .b (decide (a < 0)), σ) := by
  simp only [aStep, aOp, h, ev, hx, ofConst, ofScalar, aBin, if_true, Op.intCmp, R.ofA, Option.map_some, Option.bind_some, rStep]
  rfl
theorem st_add1 {o : Oper} {x : Nat} {t t' : TypeId} {tm : Tm} {σ : St} {a : Int} (h : o.op = .binOp .add t (.tmp x) (.const (.int .i64 1)) t') (hx : tm.get x = .i .i64 a) : aStep E pol ck tm σ o = some (none, .i .i64 (IntKind.i64.wrap (a + 1)), σ) := by
  simp only [aStep, aOp, h, ev, hx, ofConst, ofScalar, aBin, if_true, Op.intArith, R.ofA, Option.map_some, Option.bind_some, rStep]
  rfl
theorem st_neg {o : Oper} {x : Nat} {t : TypeId} {tm : Tm} {σ : St} {a : Int} (h : o.op = .unOp .neg t (.tmp x)) (hx : tm.get x = .i .i64 a) : aStep E pol ck tm σ o = some (none, .i .i64 (IntKind.i64.wrap (0 - a)), σ) := by
  simp only [aStep, aOp, h, ev, hx, aUn, Op.unary, Op.intArith, R.ofA, Option.map_some, Option.bind_some, rStep]
  rfl
theorem st_rem {o : Oper} {x : Nat} {t t' : TypeId} {tm : Tm} {σ : St} {a m : Int} (hm : m ≠ 0) (h : o.op = .binOp .rem t (.tmp x) (.const (.int .i64 m)) t') (hx : tm.get x = .i .i64 a) : aStep E pol ck tm σ o = some (none, .i .i64 (a.tmod m), σ) := by
  simp only [aStep, aOp, h, ev, hx, ofConst, ofScalar, aBin, if_true, if_neg hm, Op.intDiv, R.ofA, Option.map_some, Option.bind_some, rStep]
  rfl

/-- What 'if a < 0 { a = -(a + 1) }' makes of a. -/
def posI (a : Int) : Int := if a < 0 then -(a + 1) else a
theorem posI_nonneg (a : Int) : 0 ≤ posI a := by unfold posI; split <;> omega
theorem get_put_ne {tm : Tm} {d t : Nat} {x : A} (h : t ≠ d) : (tm.put (some d) x).get t = tm.get t := by rw [Tm.get_put, if_neg h]
theorem get_put_eq {tm : Tm} {d : Nat} {x : A} : (tm.put (some d) x).get d = x := by rw [Tm.get_put, if_pos rfl]

/-- The text of 'if x < 0 { x = -(x + 1) }'. -/
structure Half (c : Code) (x u v u3 v3 w3 : Nat) : Prop where
  shape : c = .seq (.region (regId (sa c)) #[opN (sa c) 0, opN (sa c) 1] false) (.cond (.tmp v) (.region (regId (cT (sb c))) #[opN (cT (sb c)) 0, opN (cT (sb c)) 1, opN (cT (sb c)) 2, opN (cT (sb c)) 3] false) .skip)
  o0 : (opN (sa c) 0).op = .move (.tmp x) ∧ (opN (sa c) 0).dst = some u ∧ (opN (sa c) 0).guard = none
  o1 : ∃ t t', (opN (sa c) 1).op = .binOp .lss t (.tmp u) (.const (.int .i64 0)) t' ∧ (opN (sa c) 1).dst = some v ∧ (opN (sa c) 1).guard = none
  p0 : (opN (cT (sb c)) 0).op = .move (.tmp x) ∧ (opN (cT (sb c)) 0).dst = some u3 ∧ (opN (cT (sb c)) 0).guard = none
  p1 : ∃ t t', (opN (cT (sb c)) 1).op = .binOp .add t (.tmp u3) (.const (.int .i64 1)) t' ∧ (opN (cT (sb c)) 1).dst = some v3 ∧ (opN (cT (sb c)) 1).guard = none
  p2 : ∃ t, (opN (cT (sb c)) 2).op = .unOp .neg t (.tmp v3) ∧ (opN (cT (sb c)) 2).dst = some w3 ∧ (opN (cT (sb c)) 2).guard = none
  p3 : (opN (cT (sb c)) 3).op = .assign (.tmp w3) ∧ (opN (cT (sb c)) 3).dst = some x ∧ (opN (cT (sb c)) 3).guard = none

theorem half_run {c : Code} {x u v u3 v3 w3 N : Nat} (h : Half c x u v u3 v3 w3) (hlt : (x < N ∧ u < N ∧ v < N) ∧ u3 < N ∧ v3 < N ∧ w3 < N) (hx : x ≠ u ∧ x ≠ v) {n : Nat} {tm : Tm} {σ : St} {a : Int} (hn : tm.nt = N) (ha : tm.get x = .i .i64 a) (hr : -9223372036854775808 ≤ a ∧ a ≤ 9223372036854775807) :
    ∃ tm', runCode E pol ck n c tm σ = some (.n, tm', σ) ∧ tm'.nt = tm.nt ∧ tm'.get x = .i .i64 (posI a) ∧ ∀ t, t ≠ x → t ≠ u → t ≠ v → t ≠ u3 → t ≠ v3 → t ≠ w3 → tm'.get t = tm.get t := by
  obtain ⟨t1, t1', ho1, hd1, hg1⟩ := h.o1
  obtain ⟨t2, t2', hp1, hpd1, hpg1⟩ := h.p1
  obtain ⟨t3, hp2, hpd2, hpg2⟩ := h.p2
  obtain ⟨⟨l0, l1, l2⟩, l3, l4, l5⟩ := hlt
  rw [h.shape]
  have e1 : ∀ ops : Array Oper, runSeq E pol ck ops [opN (sa c) 0, opN (sa c) 1] tm σ = some (((tm.put (some u) (.i .i64 a)).put (some v) (.b (decide (a < 0)))), σ) := by
    intro ops
    have h0 : oneOp E pol ck ops (opN (sa c) 0) tm σ = some (none, tm.put (some u) (.i .i64 a), σ) := one_of h.o0.2.2 h.o0.2.1 (by omega) (by rw [st_move h.o0.1, ha])
    have h1 : oneOp E pol ck ops (opN (sa c) 1) (tm.put (some u) (.i .i64 a)) σ = some (none, (tm.put (some u) (.i .i64 a)).put (some v) (.b (decide (a < 0))), σ) := one_of hg1 hd1 (by show v < tm.nt; omega) (st_lss0 ho1 get_put_eq)
    simp only [runSeq, h0, h1, Option.bind_some]
  generalize hT1 : ((tm.put (some u) (.i .i64 a)).put (some v) (.b (decide (a < 0)))) = T1 at e1
  have gv : T1.get v = .b (decide (a < 0)) := by rw [← hT1]; exact get_put_eq
  have gx : T1.get x = .i .i64 a := by rw [← hT1, get_put_ne hx.2, get_put_ne hx.1, ha]
  have nt1 : T1.nt = tm.nt := by rw [← hT1]; rfl
  have ge : ∀ t, t ≠ u → t ≠ v → T1.get t = tm.get t := fun t h1 h2 => by rw [← hT1, get_put_ne h2, get_put_ne h1]
  simp only [runCode, e1, Option.map_some, Option.bind_some, ev, gv]
  by_cases hneg : a < 0
  · have e2 : ∀ ops : Array Oper, runSeq E pol ck ops [opN (cT (sb c)) 0, opN (cT (sb c)) 1, opN (cT (sb c)) 2, opN (cT (sb c)) 3] T1 σ = some (((((T1.put (some u3) (.i .i64 a)).put (some v3) (.i .i64 (a + 1))).put (some w3) (.i .i64 (-(a + 1)))).put (some x) (.i .i64 (-(a + 1)))), σ) := by
      intro ops
      have w1 : IntKind.i64.wrap (a + 1) = a + 1 := IntWalk.i64_in _ (by omega)
      have w2 : IntKind.i64.wrap (0 - (a + 1)) = -(a + 1) := by rw [IntWalk.i64_in _ (by omega)]; omega
      have h0 : oneOp E pol ck ops (opN (cT (sb c)) 0) T1 σ = some (none, T1.put (some u3) (.i .i64 a), σ) := one_of h.p0.2.2 h.p0.2.1 (by omega) (by rw [st_move h.p0.1, gx])
      have h1 : oneOp E pol ck ops (opN (cT (sb c)) 1) (T1.put (some u3) (.i .i64 a)) σ = some (none, (T1.put (some u3) (.i .i64 a)).put (some v3) (.i .i64 (a + 1)), σ) := one_of hpg1 hpd1 (by show v3 < T1.nt; omega) (by rw [st_add1 hp1 get_put_eq, w1])
      have h2 : oneOp E pol ck ops (opN (cT (sb c)) 2) ((T1.put (some u3) (.i .i64 a)).put (some v3) (.i .i64 (a + 1))) σ = some (none, ((T1.put (some u3) (.i .i64 a)).put (some v3) (.i .i64 (a + 1))).put (some w3) (.i .i64 (-(a + 1))), σ) := one_of hpg2 hpd2 (by show w3 < T1.nt; omega) (by rw [st_neg hp2 get_put_eq, w2])
      have h3 : oneOp E pol ck ops (opN (cT (sb c)) 3) (((T1.put (some u3) (.i .i64 a)).put (some v3) (.i .i64 (a + 1))).put (some w3) (.i .i64 (-(a + 1)))) σ = some (none, (((T1.put (some u3) (.i .i64 a)).put (some v3) (.i .i64 (a + 1))).put (some w3) (.i .i64 (-(a + 1)))).put (some x) (.i .i64 (-(a + 1))), σ) := one_of h.p3.2.2 h.p3.2.1 (by show x < T1.nt; omega) (by rw [st_assign h.p3.1, get_put_eq])
      simp only [runSeq, h0, h1, h2, h3, Option.bind_some]
    refine ⟨(((T1.put (some u3) (.i .i64 a)).put (some v3) (.i .i64 (a + 1))).put (some w3) (.i .i64 (-(a + 1)))).put (some x) (.i .i64 (-(a + 1))), by simp only [decide_eq_true hneg, runCode, e2, Option.map_some], nt1, ?_, fun t q1 q2 q3 q4 q5 q6 => ?_⟩
    · rw [get_put_eq]; unfold posI; rw [if_pos hneg]
    · rw [get_put_ne q1, get_put_ne q6, get_put_ne q5, get_put_ne q4, ge t q2 q3]
  · refine ⟨T1, by simp only [decide_eq_false hneg, runCode], nt1, ?_, fun t q1 q2 q3 _ _ _ => ge t q2 q3⟩
    rw [gx]; unfold posI; rw [if_neg hneg]

theorem seq_keep {ops : Array Oper} {t : Nat} : ∀ {l : List Oper} {tm tm' : Tm} {σ σ' : St}, runSeq E pol ck ops l tm σ = some (tm', σ') → (l.all fun o => o.dst != some t) = true → tm'.get t = tm.get t
  | [], tm, tm', σ, σ', h, _ => by simp only [runSeq, Option.some.injEq, Prod.mk.injEq] at h; rw [h.1]
  | o :: l, tm, tm', σ, σ', h, hn => by
    simp only [runSeq, Option.bind_eq_some_iff, Prod.exists] at h
    obtain ⟨rd, tm1, σ1, h1, h2⟩ := h
    simp only [List.all_cons, Bool.and_eq_true] at hn
    obtain ⟨x, hx, _⟩ := oneOp_congr h1 rfl (fun _ _ => rfl)
    rw [seq_keep h2 hn.2, hx, get_put', if_neg]
    intro e
    rw [e] at hn
    simp at hn

theorem seq_append {ops : Array Oper} : ∀ {l l' : List Oper} {tm : Tm} {σ : St}, runSeq E pol ck ops (l ++ l') tm σ = (runSeq E pol ck ops l tm σ).bind fun (tm, σ) => runSeq E pol ck ops l' tm σ
  | [], l', tm, σ => rfl
  | o :: l, l', tm, σ => by
    simp only [List.cons_append, runSeq]
    cases oneOp E pol ck ops o tm σ with
    | none => rfl
    | some x => exact seq_append

/-- A region that asks x by its rest alone: two runs, whose x have one rest, go alike. -/
theorem rem_off {ops : Array Oper} {l1 l2 : List Oper} {om or : Oper} {x u v : Nat} {t t' : TypeId} {m i a : Int} (hm0 : m ≠ 0) (hom : om.op = .move (.tmp x) ∧ om.dst = some u ∧ om.guard = none) (hor : or.op = .binOp .rem t (.tmp u) (.const (.int .i64 m)) t' ∧ or.dst = some v ∧ or.guard = none)
    (hf1 : opsFree D ops l1 = true) (hf2 : opsFree D ops l2 = true) (hu : D u = true) (hk : (l1.all fun o => o.dst != some x) = true) {tm tm1 tm2 : Tm} {σ σ' : St} (hlt : u < tm.nt ∧ v < tm.nt)
    (h : runSeq E pol ck ops (l1 ++ om :: or :: l2) tm σ = some (tm1, σ')) (ho : Off D tm tm2) (hi : tm.get x = .i .i64 i) (ha : tm2.get x = .i .i64 a) (hmod : i.tmod m = a.tmod m) :
    ∃ tm2', runSeq E pol ck ops (l1 ++ om :: or :: l2) tm2 σ = some (tm2', σ') ∧ Off D tm1 tm2' := by
  rw [seq_append] at h
  simp only [Option.bind_eq_some_iff, Prod.exists] at h
  obtain ⟨tma, σa, h1, h2⟩ := h
  obtain ⟨tmb, h3, h4⟩ := seq_off h1 ho hf1
  have nt1 : ∀ {l : List Oper} {tm tm' : Tm} {σ σ' : St}, runSeq E pol ck ops l tm σ = some (tm', σ') → tm'.nt = tm.nt := by
    intro l
    induction l with
    | nil => intro tm tm' σ σ' h; simp only [runSeq, Option.some.injEq, Prod.mk.injEq] at h; rw [h.1]
    | cons o l ih =>
      intro tm tm' σ σ' h
      simp only [runSeq, Option.bind_eq_some_iff, Prod.exists] at h
      obtain ⟨rd, tm1, σ1, h1, h2⟩ := h
      obtain ⟨y, hy, _⟩ := oneOp_congr h1 rfl (fun _ _ => rfl)
      rw [ih h2, hy]
      cases o.dst <;> rfl
  have na := nt1 h1
  have nb := nt1 h3
  have nn := ho.nt
  have ga : tma.get x = .i .i64 i := by rw [seq_keep h1 hk, hi]
  have gb : tmb.get x = .i .i64 a := by rw [seq_keep h3 hk, ha]
  have oa : ∀ σ, oneOp E pol ck ops om tma σ = some (none, tma.put (some u) (.i .i64 i), σ) := fun σ => one_of hom.2.2 hom.2.1 (by omega) (by rw [st_move hom.1, ga])
  have ob : ∀ σ, oneOp E pol ck ops om tmb σ = some (none, tmb.put (some u) (.i .i64 a), σ) := fun σ => one_of hom.2.2 hom.2.1 (by omega) (by rw [st_move hom.1, gb])
  have ra : ∀ σ, oneOp E pol ck ops or (tma.put (some u) (.i .i64 i)) σ = some (none, (tma.put (some u) (.i .i64 i)).put (some v) (.i .i64 (i.tmod m)), σ) := fun σ => one_of hor.2.2 hor.2.1 (by show v < tma.nt; omega) (st_rem hm0 hor.1 get_put_eq)
  have rb : ∀ σ, oneOp E pol ck ops or (tmb.put (some u) (.i .i64 a)) σ = some (none, (tmb.put (some u) (.i .i64 a)).put (some v) (.i .i64 (i.tmod m)), σ) := fun σ => one_of hor.2.2 hor.2.1 (by show v < tmb.nt; omega) (by rw [hmod]; exact st_rem hm0 hor.1 get_put_eq)
  simp only [runSeq, oa, ra, Option.bind_some] at h2
  have hoff : Off D ((tma.put (some u) (.i .i64 i)).put (some v) (.i .i64 (i.tmod m))) ((tmb.put (some u) (.i .i64 a)).put (some v) (.i .i64 (i.tmod m))) :=
    Off.put (((h4.putL hu _).symm.putL hu _).symm) _ _
  obtain ⟨tmc, h5, h6⟩ := seq_off h2 hoff hf2
  exact ⟨tmc, by rw [seq_append, h3]; simp only [Option.bind_some, runSeq, ob, rb]; exact h5, h6⟩
end Go.VV
