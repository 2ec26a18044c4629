/- CheckGroups: whatever the two numbers are, the machine comes to true. -/
import Derived.Test.YtlppiajnonbaaaaGreatDoorCgB0
import Derived.Test.YtlppiajnonbaaaaGreatDoorCgB1
import Derived.Test.YtlppiajnonbaaaaGreatDoorCgB2
import Derived.Test.YtlppiajnonbaaaaGreatDoorCgB3
import Derived.Test.YtlppiajnonbaaaaGreatDoorCgB4
import Derived.Test.YtlppiajnonbaaaaGreatDoorRa
set_option linter.unusedVariables false
set_option linter.unusedSimpArgs false
namespace Go.Proofs.YtlppiajnonbaaaaGreatDoor
open Go Go.VV

set_option maxRecDepth 1000000

theorem cases_all (i j : Nat) (hi : i < 5) (hj : j < 5) : caseOk i j = true := by
  have hj' : j ∈ [0, 1, 2, 3, 4] := by simp; omega
  match i, hi with
  | 0, _ => exact casesOk_mem cases0 hj'
  | 1, _ => exact casesOk_mem cases1 hj'
  | 2, _ => exact casesOk_mem cases2 hj'
  | 3, _ => exact casesOk_mem cases3 hj'
  | 4, _ => exact casesOk_mem cases4 hj'

noncomputable def body : Code := Tryz.f3.body.getD .skip
noncomputable def B0 : Code := sa body
noncomputable def B1 : Code := sa (sb body)
noncomputable def H1 : Code := sa (sb (sb body))
noncomputable def H2 : Code := sa (sb (sb (sb body)))
noncomputable def R6 : Code := sa (sb (sb (sb (sb body))))
noncomputable def R7 : Code := sa (sb (sb (sb (sb (sb body)))))
noncomputable def REST : Code := sb (sb (sb (sb (sb (sb body)))))
theorem body3 : Tryz.f3.body = some body := by kernel_rfl
theorem shape : body = .seq B0 (.seq B1 (.seq H1 (.seq H2 (.seq R6 (.seq R7 REST))))) := by kernel_rfl
theorem half1 : Half H1 0 17 18 19 20 21 where
  shape := by kernel_rfl
  o0 := ⟨by kernel_rfl, by kernel_rfl, by kernel_rfl⟩
  o1 := ⟨3, 3, by kernel_rfl, by kernel_rfl, by kernel_rfl⟩
  p0 := ⟨by kernel_rfl, by kernel_rfl, by kernel_rfl⟩
  p1 := ⟨3, 3, by kernel_rfl, by kernel_rfl, by kernel_rfl⟩
  p2 := ⟨3, by kernel_rfl, by kernel_rfl, by kernel_rfl⟩
  p3 := ⟨by kernel_rfl, by kernel_rfl, by kernel_rfl⟩
theorem half2 : Half H2 1 22 23 24 25 26 where
  shape := by kernel_rfl
  o0 := ⟨by kernel_rfl, by kernel_rfl, by kernel_rfl⟩
  o1 := ⟨3, 3, by kernel_rfl, by kernel_rfl, by kernel_rfl⟩
  p0 := ⟨by kernel_rfl, by kernel_rfl, by kernel_rfl⟩
  p1 := ⟨3, 3, by kernel_rfl, by kernel_rfl, by kernel_rfl⟩
  p2 := ⟨3, by kernel_rfl, by kernel_rfl, by kernel_rfl⟩
  p3 := ⟨by kernel_rfl, by kernel_rfl, by kernel_rfl⟩
/-- The temporaries in which two runs may differ. -/
def D (t : Nat) : Bool := Nat.beq t 0 || Nat.beq t 1 || (Nat.ble 17 t && Nat.ble t 26) || Nat.beq t 31 || Nat.beq t 40
theorem D_ne {t k : Nat} (h : D t = false) (hk : D k = true) : t ≠ k := fun e => by rw [e, hk] at h; cases h
theorem reg6 : R6 = .region (regId R6) (regOps R6) false := by kernel_rfl
theorem reg7 : R7 = .region (regId R7) (regOps R7) false := by kernel_rfl
theorem ops6 : (regOps R6).toList = (regOps R6).toList.take 4 ++ opN R6 4 :: opN R6 5 :: (regOps R6).toList.drop 6 := by kernel_rfl
theorem ops7 : (regOps R7).toList = (regOps R7).toList.take 4 ++ opN R7 4 :: opN R7 5 :: (regOps R7).toList.drop 6 := by kernel_rfl
theorem reg0 : B0 = .region (regId B0) (regOps B0) false := by kernel_rfl
theorem reg1 : B1 = .region (regId B1) (regOps B1) false := by kernel_rfl

variable {E : Env} {pol : Pol} {ck : CK}
theorem run_seq_n {n : Nat} {a c : Code} {tm tm1 : Tm} {σ σ1 : St} (h : runCode E pol ck n a tm σ = some (.n, tm1, σ1)) : runCode E pol ck n (.seq a c) tm σ = runCode E pol ck n c tm1 σ1 := by
  simp only [runCode, h, Option.bind_some]
theorem reg_inv {n id : Nat} {ops : Array Oper} {c : Code} {tm : Tm} {σ : St} {r : X × Tm × St} (h : runCode E pol ck n (.seq (.region id ops false) c) tm σ = some r) : ∃ tm1 σ1, runSeq E pol ck ops ops.toList tm σ = some (tm1, σ1) ∧ runCode E pol ck n c tm1 σ1 = some r := by
  simp only [runCode, Option.bind_eq_some_iff, Option.map_eq_some_iff, Prod.exists] at h
  obtain ⟨x, tm1, σ1, ⟨tm2, σ2, h1, h2⟩, h3⟩ := h
  simp only [Prod.mk.injEq] at h2
  obtain ⟨rfl, rfl, rfl⟩ := h2
  exact ⟨_, _, h1, h3⟩
theorem reg_run {n id : Nat} {ops : Array Oper} {tm tm1 : Tm} {σ σ1 : St} (h : runSeq E pol ck ops ops.toList tm σ = some (tm1, σ1)) : runCode E pol ck n (.region id ops false) tm σ = some (.n, tm1, σ1) := by
  simp only [runCode, h, Option.map_some]

theorem nt_seq {ops : Array Oper} : ∀ {l : List Oper} {tm tm' : Tm} {σ σ' : St}, runSeq E pol ck ops l tm σ = some (tm', σ') → tm'.nt = tm.nt
  | [], tm, tm', σ, σ', h => by simp only [runSeq, Option.some.injEq, Prod.mk.injEq] at h; rw [h.1]
  | o :: l, tm, tm', σ, σ', h => by
    simp only [runSeq, Option.bind_eq_some_iff, Prod.exists] at h
    obtain ⟨rd, tm1, σ1, h1, h2⟩ := h
    obtain ⟨y, hy, _⟩ := oneOp_congr h1 rfl (fun _ _ => rfl)
    rw [nt_seq h2, hy]
    cases o.dst <;> rfl

/-- Two runs of the body: numbers with the same rests come to the same. -/
theorem two_runs {n : Nat} {i j a b : Int} (hi : 0 ≤ i) (hj : 0 ≤ j) (hi5 : i < 5) (hj5 : j < 5) (ha : -9223372036854775808 ≤ a ∧ a ≤ 9223372036854775807) (hb : -9223372036854775808 ≤ b ∧ b ≤ 9223372036854775807) (hai : i.tmod 5 = (posI a).tmod 5) (hbj : j.tmod 5 = (posI b).tmod 5)
    {tmI tmA : Tm} {σ σ' : St} {x : X} {tm' : Tm} (hnt : tmI.nt = 130) (ho : Off D tmI tmA) (i0 : tmI.get 0 = .i .i64 i) (i1 : tmI.get 1 = .i .i64 j) (a0 : tmA.get 0 = .i .i64 a) (a1 : tmA.get 1 = .i .i64 b)
    (h : runCode E pol ck n body tmI σ = some (x, tm', σ')) : ∃ tm2, runCode E pol ck n body tmA σ = some (x, tm2, σ') ∧ Off D tm' tm2 := by
  rw [shape] at h ⊢
  rw [reg0] at h ⊢
  obtain ⟨tI1, s1, e0, h⟩ := reg_inv h
  obtain ⟨tA1, f0, ho1⟩ := seq_off e0 ho (by kernel_rfl)
  rw [run_seq_n (reg_run f0)]
  rw [reg1] at h ⊢
  obtain ⟨tI2, s2, e1, h⟩ := reg_inv h
  obtain ⟨tA2, f1, ho2⟩ := seq_off e1 ho1 (by kernel_rfl)
  rw [run_seq_n (reg_run f1)]
  have nI2 : tI2.nt = 130 := by rw [nt_seq e1, nt_seq e0, hnt]
  have nA2 : tA2.nt = 130 := by rw [← ho2.nt]; exact nI2
  have gI0 : tI2.get 0 = .i .i64 i := by rw [seq_keep e1 (by kernel_rfl), seq_keep e0 (by kernel_rfl), i0]
  have gI1 : tI2.get 1 = .i .i64 j := by rw [seq_keep e1 (by kernel_rfl), seq_keep e0 (by kernel_rfl), i1]
  have gA0 : tA2.get 0 = .i .i64 a := by rw [seq_keep f1 (by kernel_rfl), seq_keep f0 (by kernel_rfl), a0]
  have gA1 : tA2.get 1 = .i .i64 b := by rw [seq_keep f1 (by kernel_rfl), seq_keep f0 (by kernel_rfl), a1]
  have pI : posI i = i := by unfold posI; rw [if_neg (by omega)]
  have pJ : posI j = j := by unfold posI; rw [if_neg (by omega)]
  obtain ⟨tI3, q1, q2, q3, q4⟩ := half_run (E := E) (pol := pol) (ck := ck) (n := n) (σ := s2) half1 (N := 130) (by decide) (by decide) nI2 gI0 (by omega)
  obtain ⟨tA3, r1, r2, r3, r4⟩ := half_run (E := E) (pol := pol) (ck := ck) (n := n) (σ := s2) half1 (N := 130) (by decide) (by decide) nA2 gA0 ha
  rw [run_seq_n q1] at h
  rw [run_seq_n r1]
  obtain ⟨tI4, u1, u2, u3, u4⟩ := half_run (E := E) (pol := pol) (ck := ck) (n := n) (σ := s2) half2 (N := 130) (by decide) (by decide) (q2.trans nI2) (by rw [q4 1 (by decide) (by decide) (by decide) (by decide) (by decide) (by decide), gI1]) (by omega)
  obtain ⟨tA4, v1, v2, v3, v4⟩ := half_run (E := E) (pol := pol) (ck := ck) (n := n) (σ := s2) half2 (N := 130) (by decide) (by decide) (r2.trans nA2) (by rw [r4 1 (by decide) (by decide) (by decide) (by decide) (by decide) (by decide), gA1]) hb
  rw [run_seq_n u1] at h
  rw [run_seq_n v1]
  have ho4 : Off D tI4 tA4 := ⟨by rw [u2, q2, v2, r2]; exact ho2.nt, fun t ht => by
    rw [u4 t (D_ne ht rfl) (D_ne ht rfl) (D_ne ht rfl) (D_ne ht rfl) (D_ne ht rfl) (D_ne ht rfl), q4 t (D_ne ht rfl) (D_ne ht rfl) (D_ne ht rfl) (D_ne ht rfl) (D_ne ht rfl) (D_ne ht rfl),
      v4 t (D_ne ht rfl) (D_ne ht rfl) (D_ne ht rfl) (D_ne ht rfl) (D_ne ht rfl) (D_ne ht rfl), r4 t (D_ne ht rfl) (D_ne ht rfl) (D_ne ht rfl) (D_ne ht rfl) (D_ne ht rfl) (D_ne ht rfl), ho2.get t ht]⟩
  have hI0 : tI4.get 0 = .i .i64 i := by rw [u4 0 (by decide) (by decide) (by decide) (by decide) (by decide) (by decide), q3, pI]
  have hA0 : tA4.get 0 = .i .i64 (posI a) := by rw [v4 0 (by decide) (by decide) (by decide) (by decide) (by decide) (by decide), r3]
  have nI4 : tI4.nt = 130 := by rw [u2, q2]; exact nI2
  rw [reg6] at h ⊢
  obtain ⟨tI5, s5, e5, h⟩ := reg_inv h
  have e5' := e5
  rw [ops6] at e5
  obtain ⟨tA5, f5, ho5⟩ := rem_off (D := D) (x := 0) (u := 31) (v := 32) (t := 3) (t' := 3) (m := 5) (by decide) ⟨by kernel_rfl, by kernel_rfl, by kernel_rfl⟩ ⟨by kernel_rfl, by kernel_rfl, by kernel_rfl⟩ (by kernel_rfl) (by kernel_rfl) rfl (by kernel_rfl) (by omega) e5 ho4 hI0 hA0 hai
  rw [← ops6] at f5
  rw [run_seq_n (reg_run f5)]
  have hI1 : tI5.get 1 = .i .i64 j := by rw [seq_keep e5' (by kernel_rfl), u3, pJ]
  have hA1 : tA5.get 1 = .i .i64 (posI b) := by rw [seq_keep f5 (by kernel_rfl), v3]
  have nI5 : tI5.nt = 130 := by rw [nt_seq e5']; exact nI4
  rw [reg7] at h ⊢
  obtain ⟨tI6, s6, e6, h⟩ := reg_inv h
  rw [ops7] at e6
  obtain ⟨tA6, f6, ho6⟩ := rem_off (D := D) (x := 1) (u := 40) (v := 41) (t := 3) (t' := 3) (m := 5) (by decide) ⟨by kernel_rfl, by kernel_rfl, by kernel_rfl⟩ ⟨by kernel_rfl, by kernel_rfl, by kernel_rfl⟩ (by kernel_rfl) (by kernel_rfl) rfl (by kernel_rfl) (by omega) e6 ho5 hI1 hA1 hbj
  rw [← ops7] at f6
  rw [run_seq_n (reg_run f6)]
  exact code_off n h ho6 (by kernel_rfl)

theorem two_get0 (fn : Func) (a b : A) : (tm0 fn [a, b]).get 0 = a := rfl
theorem two_get1 (fn : Func) (a b : A) : (tm0 fn [a, b]).get 1 = b := rfl
theorem two_off (fn : Func) (a b c d : A) : Off D (tm0 fn [a, b]) (tm0 fn [c, d]) := ⟨rfl, fun t ht => by
  have h0 := D_ne (k := 0) ht rfl
  have h1 := D_ne (k := 1) ht rfl
  simp only [tm0, Tm.get, layArgs_get, List.length_cons, List.length_nil]
  rw [if_neg (by omega), if_neg (by omega)]⟩
theorem two_nt (fn : Func) (a b : A) (h : fn.ntmps = 130) : (tm0 fn [a, b]).nt = 130 := by simp only [tm0, h, List.length_cons, List.length_nil]
theorem prim3 : F2.prim 3 = none := rfl
theorem fn3 : F2.fn 3 = some Tryz.f3 := by kernel_rfl
theorem res3 : resFree D Tryz.f3.results.toList = true := by kernel_rfl
theorem tmps3 : Tryz.f3.ntmps = 130 := by kernel_rfl

theorem call3 (n : Nat) (args : List A) (σ : St) : call YtlppiajnonbaaaaGreatDoor.E (fun _ => false) F2 (n + 1) 3 args σ = (runCode YtlppiajnonbaaaaGreatDoor.E (fun _ => false) (call YtlppiajnonbaaaaGreatDoor.E (fun _ => false) F2 n) n body (tm0 Tryz.f3 args) σ).bind fun (x, tm, σ') => match x with
    | .e _ => none
    | _ => (resA YtlppiajnonbaaaaGreatDoor.E tm σ' Tryz.f3.results.toList).map fun l => (packA l, σ') := by
  simp only [call, prim3, fn3, body3, Option.bind_some]
  rfl

theorem law_ev (a b : Int) (ha : -9223372036854775808 ≤ a ∧ a ≤ 9223372036854775807) (hb : -9223372036854775808 ≤ b ∧ b ≤ 9223372036854775807) : ∃ σ, call YtlppiajnonbaaaaGreatDoor.E (fun _ => false) F2 1000 3 [.i .i64 a, .i .i64 b] ⟨0, .e⟩ = some (.b true, σ) := by
  have pa := posI_nonneg a
  have pb := posI_nonneg b
  have hc := cases_all (posI a % 5).toNat (posI b % 5).toNat (by omega) (by omega)
  obtain ⟨r, σ1, h1, h2⟩ := runF pf2 hc
  rw [isB_true h2] at h1
  rw [show (1000 : Nat) = 999 + 1 from rfl, call3] at h1 ⊢
  simp only [Option.bind_eq_some_iff, Prod.exists] at h1
  obtain ⟨x, tm, σ2, hrun, hres⟩ := h1
  have hmod : ∀ c : Int, 0 ≤ c → (Int.ofNat (c % 5).toNat).tmod 5 = c.tmod 5 := by
    intro c hc
    have e : Int.ofNat (c % 5).toNat = c % 5 := by simp only [Int.ofNat_eq_natCast]; omega
    rw [e, Int.tmod_eq_emod_of_nonneg hc, Int.tmod_eq_emod_of_nonneg (by omega)]
    omega
  obtain ⟨tm2, h3, h4⟩ := two_runs (i := Int.ofNat (posI a % 5).toNat) (j := Int.ofNat (posI b % 5).toNat) (a := a) (b := b) (tmA := tm0 Tryz.f3 [.i .i64 a, .i .i64 b]) (by exact Int.natCast_nonneg _) (by exact Int.natCast_nonneg _) (by simp only [Int.ofNat_eq_natCast]; omega) (by simp only [Int.ofNat_eq_natCast]; omega) ha hb (hmod _ pa) (hmod _ pb)
    (two_nt _ _ _ tmps3) (two_off _ _ _ _ _) (two_get0 _ _ _) (two_get1 _ _ _) (two_get0 _ _ _) (two_get1 _ _ _) hrun
  rw [h3]
  simp only [Option.bind_some]
  cases x with
  | e id => cases hres
  | n =>
    simp only [Option.map_eq_some_iff] at hres ⊢
    obtain ⟨l, h5, h6⟩ := hres
    simp only [Prod.mk.injEq] at h6
    exact ⟨σ2, l, by rw [← res_off h4 res3]; exact h5, by rw [h6.1]⟩
  | r =>
    simp only [Option.map_eq_some_iff] at hres ⊢
    obtain ⟨l, h5, h6⟩ := hres
    simp only [Prod.mk.injEq] at h6
    exact ⟨σ2, l, by rw [← res_off h4 res3]; exact h5, by rw [h6.1]⟩
end Go.Proofs.YtlppiajnonbaaaaGreatDoor
