/- The fast machine's regions, code, functions: a run of it is a run of the machine. -/
import Derived.Test.YtlppiajnonbaaaaGreatDoorFe
set_option linter.unusedVariables false
set_option linter.unusedSimpArgs false
namespace Go.VV
noncomputable section
variable {E : Env} {pol : Pol}

/-! ### regions in their order -/
structure RW where run : CKF → En → FS → (En → FS → Bool) → Bool
def cSeq (E : Env) (pol : Pol) (nt : Nat) (ops : Array Oper) (l : List Oper) : RW :=
  List.rec (motive := fun _ => RW) ⟨fun _ e s k => k e s⟩ (fun o _ ih => ⟨fun ck e s k => (cO E pol nt ops o).run ck e s fun _ e s => ih.run ck e s k⟩) l
theorem cSeq_ok {nt : Nat} {ops : Array Oper} {ckF : CKF} {ck : CK} (hc : CkOk ckF ck) : ∀ {l : List Oper} {e : En} {tm : Tm} {s : FS} {k : En → FS → Bool}, Rep e tm → nt ≤ tm.nt → Iv s → (cSeq E pol nt ops l).run ckF e s k = true →
    ∃ e' tm' s', runSeq E pol ck ops l tm s.toSt = some (tm', s'.toSt) ∧ Rep e' tm' ∧ tm'.nt = tm.nt ∧ Le s s' ∧ k e' s' = true
  | [], e, tm, s, k, hr, hn, hi, h => ⟨e, tm, s, rfl, hr, rfl, Le.refl s, h⟩
  | o :: l, e, tm, s, k, hr, hn, hi, h => by
    obtain ⟨rd, e1, tm1, s1, h1, h2, h3, h4, h5⟩ := cO_ok (E := E) (pol := pol) nt ops o ckF ck hc e tm s (fun _ e s => (cSeq E pol nt ops l).run ckF e s k) hr hn hi h
    obtain ⟨e2, tm2, s2, h6, h7, h8, h9, h10⟩ := cSeq_ok hc h2 (by rw [h3]; exact hn) (h4.inv hi) h5
    exact ⟨e2, tm2, s2, by simp only [runSeq, h1, Option.bind_some]; exact h6, h7, h8.trans h3, h4.trans h9, h10⟩

/-! ### regions that draw their order -/
structure RC where
  rd : Option Nat
  a : FS
  b : FS
structure TRW where run : CKF → En → FS → (En → FS → List RC → Bool) → Bool
def cTr (E : Env) (pol : Pol) (nt : Nat) (ops : Array Oper) (l : List Oper) : TRW :=
  List.rec (motive := fun _ => TRW) ⟨fun _ e s k => k e s []⟩ (fun o _ ih => ⟨fun ck e s k => (cO E pol nt ops o).run ck e s fun rd e' s' => ih.run ck e' s' fun e2 s2 tr => k e2 s2 (⟨rd, s, s'⟩ :: tr)⟩) l

/-- A record of the run and its counterpart. -/
structure Cor (r : Rec) (c : RC) : Prop where
  rd : c.rd = r.rd
  a : c.a.toSt = r.σ
  b : c.b.toSt = r.σ'
  le : Le c.a c.b
  iv : Iv c.a

theorem cTr_ok {nt : Nat} {ops : Array Oper} {ckF : CKF} {ck : CK} (hc : CkOk ckF ck) : ∀ {l : List Oper} {i : Nat} {e : En} {tm : Tm} {s : FS} {k : En → FS → List RC → Bool}, Rep e tm → nt ≤ tm.nt → Iv s → (cTr E pol nt ops l).run ckF e s k = true →
    ∃ e' tm' s' tr cr, runTr E pol ck ops l i tm s.toSt = some (tm', s'.toSt, tr) ∧ Rep e' tm' ∧ tm'.nt = tm.nt ∧ Le s s' ∧ k e' s' cr = true ∧ tr.map (fun r => (r.i, r.stf)) = (l.zipIdx i).map (fun p => (p.2, stf p.1.op)) ∧
      cr.length = l.length ∧ ∀ r ∈ tr, ∃ j c, r.i = i + j ∧ cr[j]? = some c ∧ Cor r c
  | [], i, e, tm, s, k, hr, hn, hi, h => ⟨e, tm, s, [], [], rfl, hr, rfl, Le.refl s, h, rfl, rfl, fun r hr => absurd hr List.not_mem_nil⟩
  | o :: l, i, e, tm, s, k, hr, hn, hi, h => by
    obtain ⟨rd, e1, tm1, s1, h1, h2, h3, h4, h5⟩ := cO_ok (E := E) (pol := pol) nt ops o ckF ck hc e tm s (fun rd e' s' => (cTr E pol nt ops l).run ckF e' s' fun e2 s2 tr => k e2 s2 (⟨rd, s, s'⟩ :: tr)) hr hn hi h
    obtain ⟨e2, tm2, s2, tr, cr, h6, h7, h8, h9, h10, h11, h12, h13⟩ := cTr_ok (i := i + 1) hc h2 (by rw [h3]; exact hn) (h4.inv hi) h5
    refine ⟨e2, tm2, s2, ⟨i, stf o.op, rd, s.toSt, s1.toSt⟩ :: tr, ⟨rd, s, s1⟩ :: cr, ?_, h7, h8.trans h3, h4.trans h9, h10, ?_, ?_, ?_⟩
    · simp only [runTr, h1, Option.bind_some]
      rw [h6]; rfl
    · simp only [List.map_cons, List.zipIdx_cons, h11]
    · simp only [List.length_cons, h12]
    · intro r hr'
      rcases List.mem_cons.1 hr' with rfl | hr'
      · exact ⟨0, _, rfl, rfl, rfl, rfl, rfl, h4, hi⟩
      · obtain ⟨j, c, h14, h15, h16⟩ := h13 r hr'
        exact ⟨j + 1, c, by omega, h15, h16⟩

/-- Which pairs are to be looked at: who reads, who changes; none: two that change stand apart. -/
def prow (bef : Array Nat) (p : Nat × Bool) : List (Nat × Bool) → Option (List (Nat × Nat))
  | [] => some []
  | q :: l => if (bef.getD q.1 0).testBit p.1 then prow bef p l else match p.2, q.2 with
    | true, true => none
    | true, false => (prow bef p l).map ((q.1, p.1) :: ·)
    | false, true => (prow bef p l).map ((p.1, q.1) :: ·)
    | false, false => prow bef p l
def prs (bef : Array Nat) : List (Nat × Bool) → Option (List (Nat × Nat))
  | [] => some []
  | p :: l => (prow bef p l).bind fun a => (prs bef l).map (a ++ ·)
def keepO (c d : RC) : Bool := Option.rec (motive := fun _ => Bool) true (fun l => sameF d.a d.b l) c.rd
def chkK (ps : List (Nat × Nat)) (tr : List RC) : Bool := List.rec (motive := fun _ => Bool) true (fun p _ ih => nthK tr p.1 fun c => nthK tr p.2 fun d => xB (keepO c d) ih false) ps
theorem chkK_mem {tr : List RC} : ∀ {ps : List (Nat × Nat)}, chkK ps tr = true → ∀ p ∈ ps, ∃ c d, tr[p.1]? = some c ∧ tr[p.2]? = some d ∧ keepO c d = true
  | [], _, p, hp => absurd hp List.not_mem_nil
  | q :: ps, h, p, hp => by
    obtain ⟨c, h1, h⟩ := nthK_inv (K := fun c => nthK tr q.2 fun d => xB (keepO c d) (chkK ps tr) false) h
    obtain ⟨d, h2, h⟩ := nthK_inv h
    obtain ⟨h3, h⟩ := xB_and h
    rcases List.mem_cons.1 hp with rfl | hp
    · exact ⟨c, d, h1, h2, h3⟩
    · exact chkK_mem h p hp

mutual
theorem aeq_refl : ∀ a : A, aeq a a = true
  | .b _ | .s _ | .np | .ns | .nm | .nf | .ni | .h _ | .m _ => by simp [aeq]
  | .i _ _ | .p _ _ | .w _ _ _ _ _ => by simp [aeq]
  | .q cs _ => by simp [aeq, aeqs_refl cs]
  | .v _ cs _ _ _ _ => by simp [aeq, aeqs_refl cs]
  | .f _ a c => by simp [aeq, aeqs_refl a, aeqs_refl c]
  | .x _ a => by simp [aeq, aeq_refl a]
  | .g cs => by simp [aeq, aeqs_refl cs]
  | .t cs => by simp [aeq, aeqs_refl cs]
theorem aeqs_refl : ∀ l : List A, aeqs l l = true
  | [] => by simp [aeqs]
  | a :: l => by simp [aeqs, aeq_refl a, aeqs_refl l]
end
theorem eqbe_refl : ∀ l : List (A × A), eqbe l l = true
  | [] => by simp [eqbe]
  | (a, b) :: l => by simp [eqbe, aeq_refl a, aeq_refl b, eqbe_refl l]
theorem oeqb_refl (o : Option Ob) : oeqb o o = true := by
  cases o with
  | none => rfl
  | some ob => cases ob <;> simp [oeqb, Ob.eqb, aeqs_refl, eqbe_refl]

theorem same_of_keep {r r' : Rec} {c d : RC} (h : Cor r c) (h' : Cor r' d) (hk : keepO c d = true) : same r.rd r' = true := by
  unfold same
  unfold keepO at hk
  rw [h.rd] at hk
  cases hr : r.rd with
  | none => rfl
  | some l =>
    rw [hr] at hk
    have := sameF_inv (s := d.a) (s' := d.b) (l := l) hk h'.le h'.iv
    simp only
    rw [← h'.a, ← h'.b, this]
    exact oeqb_refl _

theorem apart_of {bef : Array Nat} {cr : List RC} (hcor : ∀ r : Rec, ∀ c, cr[r.i]? = some c → True) {r : Rec} : ∀ {tr : List Rec} {ps : List (Nat × Nat)}, prow bef (r.i, r.stf) (tr.map fun r => (r.i, r.stf)) = some ps → (∀ p ∈ ps, ∃ c d, cr[p.1]? = some c ∧ cr[p.2]? = some d ∧ keepO c d = true) →
    (∃ c, cr[r.i]? = some c ∧ Cor r c) → (∀ r' ∈ tr, ∃ c, cr[r'.i]? = some c ∧ Cor r' c) → tr.all (apart bef r) = true
  | [], _, _, _, _, _ => rfl
  | q :: tr, ps, h, hp, hr, ht => by
    simp only [List.map_cons, prow] at h
    have hq := ht q List.mem_cons_self
    have ht' : ∀ r' ∈ tr, ∃ c, cr[r'.i]? = some c ∧ Cor r' c := fun r' h' => ht r' (List.mem_cons_of_mem _ h')
    rw [List.all_cons, Bool.and_eq_true]
    obtain ⟨c, hc1, hc2⟩ := hr
    obtain ⟨d, hd1, hd2⟩ := hq
    split at h
    · rename_i hb
      exact ⟨by unfold apart; rw [hb]; rfl, apart_of hcor h hp ⟨c, hc1, hc2⟩ ht'⟩
    · cases hs : r.stf <;> cases hs' : q.stf <;> rw [hs, hs'] at h <;> simp only [Option.map_eq_some_iff, reduceCtorEq] at h
      · refine ⟨by unfold apart; rw [hs, hs']; simp, apart_of hcor (by rw [hs]; exact h) hp ⟨c, hc1, hc2⟩ ht'⟩
      · obtain ⟨ps', h1, rfl⟩ := h
        obtain ⟨c', d', h2, h3, h4⟩ := hp _ List.mem_cons_self
        rw [hc1] at h2
        rw [hd1] at h3
        cases h2; cases h3
        refine ⟨by unfold apart; rw [hs, hs']; simp [same_of_keep hc2 hd2 h4], apart_of hcor (by rw [hs]; exact h1) (fun p hp' => hp p (List.mem_cons_of_mem _ hp')) ⟨c, hc1, hc2⟩ ht'⟩
      · obtain ⟨ps', h1, rfl⟩ := h
        obtain ⟨c', d', h2, h3, h4⟩ := hp _ List.mem_cons_self
        rw [hd1] at h2
        rw [hc1] at h3
        cases h2; cases h3
        refine ⟨by unfold apart; rw [hs, hs']; simp [same_of_keep hd2 hc2 h4], apart_of hcor (by rw [hs]; exact h1) (fun p hp' => hp p (List.mem_cons_of_mem _ hp')) ⟨c, hc1, hc2⟩ ht'⟩

theorem aparts_of {bef : Array Nat} {cr : List RC} : ∀ {tr : List Rec} {ps : List (Nat × Nat)}, prs bef (tr.map fun r => (r.i, r.stf)) = some ps → (∀ p ∈ ps, ∃ c d, cr[p.1]? = some c ∧ cr[p.2]? = some d ∧ keepO c d = true) →
    (∀ r' ∈ tr, ∃ c, cr[r'.i]? = some c ∧ Cor r' c) → aparts bef tr = true
  | [], _, _, _, _ => rfl
  | r :: tr, ps, h, hp, ht => by
    simp only [List.map_cons, prs, Option.bind_eq_some_iff, Option.map_eq_some_iff] at h
    obtain ⟨a, h1, b, h2, rfl⟩ := h
    have ht' : ∀ r' ∈ tr, ∃ c, cr[r'.i]? = some c ∧ Cor r' c := fun r' h' => ht r' (List.mem_cons_of_mem _ h')
    simp only [aparts, Bool.and_eq_true]
    exact ⟨apart_of (fun _ _ _ => trivial) h1 (fun p h' => hp p (List.mem_append_left _ h')) (ht r List.mem_cons_self) ht', aparts_of h2 (fun p h' => hp p (List.mem_append_right _ h')) ht'⟩

/-! ### code -/
structure CW where run : CKF → Nat → En → FS → (En → FS → Bool) → (Nat → En → FS → Bool) → (En → FS → Bool) → Bool
def failC : CW := ⟨fun _ _ _ _ _ _ _ => false⟩
def cDraw (E : Env) (pol : Pol) (nt : Nat) (ops : Array Oper) : CW :=
  match tidy ops (CheckFast.beforeF ops), prs (CheckFast.beforeF ops) (ops.toList.zipIdx.map fun p => (p.2, stf p.1.op)) with
  | true, some ps => ⟨fun ck _ e s kN _ _ => (cTr E pol nt ops ops.toList).run ck e s fun e s tr => xB (chkK ps tr) (kN e s) false⟩
  | _, _ => failC

def cC (E : Env) (pol : Pol) (nt : Nat) (c : Code) : CW := Code.rec (motive := fun _ => CW)
  ⟨fun _ _ e s kN _ _ => kN e s⟩
  (fun _ ops draw => Bool.rec ⟨fun ck _ e s kN _ _ => (cSeq E pol nt ops ops.toList).run ck e s kN⟩ (cDraw E pol nt ops) draw)
  (fun _ _ a b => ⟨fun ck n e s kN kE kR => a.run ck n e s (fun e s => b.run ck n e s kN kE kR) kE kR⟩)
  (fun x _ _ a b => match (match x with
      | .tmp t => if t < 512 then some (XW.mk fun e => (mkG t).g e) else none
      | x => (ev E ⟨0, .e⟩ x).map fun a => XW.mk fun _ => a) with
    | some w => ⟨fun ck n e s kN kE kR => onB (w.x e) (fun c => Bool.rec (b.run ck n e s kN kE kR) (a.run ck n e s kN kE kR) c) false⟩
    | none => failC)
  (fun id _ c => ⟨fun ck n e s kN kE kR => c.run ck n e s kN (fun id' e s => xB (Nat.beq id' id) (kN e s) (kE id' e s)) kR⟩)
  (fun _ c => ⟨fun ck n e s _ kE kR => Nat.rec (motive := fun _ => En → FS → Bool) (fun _ _ => false) (fun _ ih e s => c.run ck n e s ih kE kR) n e s⟩)
  (fun _ _ _ _ _ _ => failC)
  (fun id => ⟨fun _ _ e s _ kE _ => kE id e s⟩)
  (fun _ _ => failC)
  (fun _ => failC)
  (fun _ => failC)
  ⟨fun _ _ e s _ _ kR => kR e s⟩
  (fun _ => failC) c

def contX (kN : En → FS → Bool) (kE : Nat → En → FS → Bool) (kR : En → FS → Bool) (x : X) (e : En) (s : FS) : Bool := match x with
  | .n => kN e s
  | .e id => kE id e s
  | .r => kR e s

def COk (E : Env) (pol : Pol) (nt : Nat) (w : CW) (c : Code) : Prop := ∀ (ckF : CKF) (ck : CK), CkOk ckF ck → ∀ (n : Nat) (e : En) (tm : Tm) (s : FS) (kN : En → FS → Bool) (kE : Nat → En → FS → Bool) (kR : En → FS → Bool), Rep e tm → nt ≤ tm.nt → Iv s → w.run ckF n e s kN kE kR = true →
  ∃ x e' tm' s', runCode E pol ck n c tm s.toSt = some (x, tm', s'.toSt) ∧ Rep e' tm' ∧ tm'.nt = tm.nt ∧ Le s s' ∧ contX kN kE kR x e' s' = true
theorem failC_ok {nt : Nat} {c : Code} : COk E pol nt failC c := fun _ _ _ _ _ _ _ _ _ _ _ _ _ h => absurd h Bool.false_ne_true

theorem cDraw_ok {nt : Nat} {id : Nat} {ops : Array Oper} : COk E pol nt (cDraw E pol nt ops) (.region id ops true) := by
  unfold cDraw
  split
  · rename_i ps ht hps
    rw [CheckFast.beforeF_eq] at ht hps
    intro ckF ck hc n e tm s kN kE kR hr hn hi h
    obtain ⟨e', tm', s', tr, cr, h1, h2, h3, h4, h5, h6, h7, h8⟩ := cTr_ok (i := 0) hc hr hn hi h
    obtain ⟨h9, h10⟩ := xB_and h5
    refine ⟨.n, e', tm', s', ?_, h2, h3, h4, h10⟩
    have hap : aparts (Region.before ops) tr = true := by
      refine aparts_of (cr := cr) (ps := ps) (by rw [h6]; exact hps) (chkK_mem h9) fun r hr => ?_
      obtain ⟨j, c, h11, h12, h13⟩ := h8 r hr
      rw [Nat.zero_add] at h11
      exact ⟨c, by rw [h11]; exact h12, h13⟩
    simp only [runCode, runDraw, ht, if_true, h1, Option.bind_some, hap, Option.map_some]
  · exact failC_ok

theorem cC_ok {nt : Nat} : ∀ c : Code, COk E pol nt (cC E pol nt c) c := by
  intro c
  induction c with
  | skip => intro ckF ck hc n e tm s kN kE kR hr hn hi h; exact ⟨.n, e, tm, s, rfl, hr, rfl, Le.refl s, h⟩
  | region id ops draw =>
    cases draw with
    | true => exact cDraw_ok
    | false =>
      intro ckF ck hc n e tm s kN kE kR hr hn hi h
      obtain ⟨e', tm', s', h1, h2, h3, h4, h5⟩ := cSeq_ok hc hr hn hi h
      exact ⟨.n, e', tm', s', by simp only [runCode, h1, Option.map_some], h2, h3, h4, h5⟩
  | seq a b iha ihb =>
    intro ckF ck hc n e tm s kN kE kR hr hn hi h
    obtain ⟨x, e1, tm1, s1, h1, h2, h3, h4, h5⟩ := iha ckF ck hc n e tm s (fun e s => (cC E pol nt b).run ckF n e s kN kE kR) kE kR hr hn hi h
    cases x with
    | n =>
      obtain ⟨x, e2, tm2, s2, h6, h7, h8, h9, h10⟩ := ihb ckF ck hc n e1 tm1 s1 kN kE kR h2 (by rw [h3]; exact hn) (h4.inv hi) h5
      exact ⟨x, e2, tm2, s2, by simp only [runCode, h1, Option.bind_some]; exact h6, h7, h8.trans h3, h4.trans h9, h10⟩
    | e id => exact ⟨.e id, e1, tm1, s1, by simp only [runCode, h1, Option.bind_some], h2, h3, h4, h5⟩
    | r => exact ⟨.r, e1, tm1, s1, by simp only [runCode, h1, Option.bind_some], h2, h3, h4, h5⟩
  | cond x a b iha ihb =>
    have key : ∀ w : XW, XOk E x w → COk E pol nt ⟨fun ck n e s kN kE kR => onB (w.x e) (fun c => Bool.rec ((cC E pol nt b).run ck n e s kN kE kR) ((cC E pol nt a).run ck n e s kN kE kR) c) false⟩ (.cond x a b) := by
      intro w hw ckF ck hc n e tm s kN kE kR hr hn hi h
      obtain ⟨c, h1, h⟩ := onB_inv h
      cases c with
      | true =>
        obtain ⟨x', e', tm', s', h2, h3⟩ := iha ckF ck hc n e tm s kN kE kR hr hn hi h
        exact ⟨x', e', tm', s', by simp only [runCode, hw e tm hr, h1]; exact h2, h3⟩
      | false =>
        obtain ⟨x', e', tm', s', h2, h3⟩ := ihb ckF ck hc n e tm s kN kE kR hr hn hi h
        exact ⟨x', e', tm', s', by simp only [runCode, hw e tm hr, h1]; exact h2, h3⟩
    show COk E pol nt (match (match x with
      | .tmp t => if t < 512 then some (XW.mk fun e => (mkG t).g e) else none
      | x => (ev E ⟨0, .e⟩ x).map fun a => XW.mk fun _ => a) with
    | some w => ⟨fun ck n e s kN kE kR => onB (w.x e) (fun c => Bool.rec ((cC E pol nt b).run ck n e s kN kE kR) ((cC E pol nt a).run ck n e s kN kE kR) c) false⟩
    | none => failC) (.cond x a b)
    split
    · rename_i w hw
      refine key w ?_
      split at hw
      · rename_i t
        split at hw
        · rename_i ht
          simp only [Option.some.injEq] at hw
          subst hw
          exact fun e tm hr => congrArg some (hr t ht).symm
        · cases hw
      · rename_i hx
        simp only [Option.map_eq_some_iff] at hw
        obtain ⟨a', ha, rfl⟩ := hw
        intro e tm hr
        show ev E tm x = some a'
        rw [← ha]
        cases x with
        | tmp t => exact (hx t rfl).elim
        | _ => rfl
    · exact failC_ok
  | block id c ih =>
    intro ckF ck hc n e tm s kN kE kR hr hn hi h
    obtain ⟨x, e1, tm1, s1, h1, h2, h3, h4, h5⟩ := ih ckF ck hc n e tm s kN (fun id' e s => xB (Nat.beq id' id) (kN e s) (kE id' e s)) kR hr hn hi h
    cases x with
    | n => exact ⟨.n, e1, tm1, s1, by simp only [runCode, h1, Option.map_some], h2, h3, h4, h5⟩
    | r => exact ⟨.r, e1, tm1, s1, by simp only [runCode, h1, Option.map_some], h2, h3, h4, h5⟩
    | e id' =>
      have h5 : xB (Nat.beq id' id) (kN e1 s1) (kE id' e1 s1) = true := h5
      rw [xB_eq] at h5
      by_cases hid : id' = id
      · rw [if_pos (by rw [hid]; exact Nat.beq_refl id)] at h5
        exact ⟨.n, e1, tm1, s1, by simp only [runCode, h1, Option.map_some, if_pos hid], h2, h3, h4, h5⟩
      · rw [if_neg (fun hh => hid (Nat.eq_of_beq_eq_true hh))] at h5
        exact ⟨.e id', e1, tm1, s1, by simp only [runCode, h1, Option.map_some, if_neg hid], h2, h3, h4, h5⟩
  | loop c ih =>
    intro ckF ck hc n e tm s kN kE kR hr hn hi h
    have key : ∀ (m : Nat) (e : En) (tm : Tm) (s : FS), Rep e tm → nt ≤ tm.nt → Iv s → Nat.rec (motive := fun _ => En → FS → Bool) (fun _ _ => false) (fun _ ih e s => (cC E pol nt c).run ckF n e s ih kE kR) m e s = true →
        ∃ x e' tm' s', loopN (runCode E pol ck n c) m tm s.toSt = some (x, tm', s'.toSt) ∧ Rep e' tm' ∧ tm'.nt = tm.nt ∧ Le s s' ∧ contX kN kE kR x e' s' = true := by
      intro m
      induction m with
      | zero => intro e tm s hr hn hi h; exact absurd h Bool.false_ne_true
      | succ m ihm =>
        intro e tm s hr hn hi h
        obtain ⟨x, e1, tm1, s1, h1, h2, h3, h4, h5⟩ := ih ckF ck hc n e tm s _ kE kR hr hn hi h
        cases x with
        | n =>
          obtain ⟨x, e2, tm2, s2, h6, h7, h8, h9, h10⟩ := ihm e1 tm1 s1 h2 (by rw [h3]; exact hn) (h4.inv hi) h5
          exact ⟨x, e2, tm2, s2, by simp only [loopN, h1, Option.bind_some]; exact h6, h7, h8.trans h3, h4.trans h9, h10⟩
        | e id => exact ⟨.e id, e1, tm1, s1, by simp only [loopN, h1, Option.bind_some], h2, h3, h4, h5⟩
        | r => exact ⟨.r, e1, tm1, s1, by simp only [loopN, h1, Option.bind_some], h2, h3, h4, h5⟩
    exact key n e tm s hr hn hi h
  | rangeFunc _ _ _ _ _ _ => exact failC_ok
  | exit id => intro ckF ck hc n e tm s kN kE kR hr hn hi h; exact ⟨.e id, e, tm, s, rfl, hr, rfl, Le.refl s, h⟩
  | scope _ _ => exact failC_ok
  | label _ => exact failC_ok
  | goto _ => exact failC_ok
  | ret => intro ckF ck hc n e tm s kN kE kR hr hn hi h; exact ⟨.r, e, tm, s, rfl, hr, rfl, Le.refl s, h⟩
  | refuse _ => exact failC_ok

/-! ### functions -/
structure RsW where r : En → FS → (List A → Bool) → Bool
def cRes (E : Env) : List ResultVar → Option RsW
  | [] => some ⟨fun _ _ k => k []⟩
  | .tmp t :: l => if t < 512 then (cRes E l).map fun w => ⟨fun e s k => frc ((mkG t).g e) fun a => w.r e s fun l => k (a :: l)⟩ else none
  | .cell a t :: l => match E.ti t with
    | some T => if a < 512 then (cRes E l).map fun w => ⟨fun e s k => onP ((mkG a).g e) (fun r off => rowF s r fun cs => ldK T.u.agg T.sz cs off fun c => w.r e s fun l => k (c :: l)) false⟩ else none
    | none => none
theorem cRes_ok : ∀ {l : List ResultVar} {w : RsW}, cRes E l = some w → ∀ {e : En} {tm : Tm} {s : FS} {k : List A → Bool}, Rep e tm → w.r e s k = true → ∃ as, resA E tm s.toSt l = some as ∧ k as = true
  | [], w, h, e, tm, s, k, hr, hk => by
    simp only [cRes, Option.some.injEq] at h; subst h
    exact ⟨[], rfl, hk⟩
  | .tmp t :: l, w, h, e, tm, s, k, hr, hk => by
    simp only [cRes] at h
    split at h
    · rename_i ht
      simp only [Option.map_eq_some_iff] at h
      obtain ⟨w', h1, rfl⟩ := h
      have hk : frc (e.get t) (fun a => w'.r e s fun l => k (a :: l)) = true := hk
      rw [frc_eq] at hk
      obtain ⟨as, h2, h3⟩ := cRes_ok h1 hr hk
      exact ⟨tm.get t :: as, by simp only [resA, h2, Option.map_some], by rw [← hr t ht]; exact h3⟩
    · cases h
  | .cell a t :: l, w, h, e, tm, s, k, hr, hk => by
    simp only [cRes] at h
    split at h
    · rename_i T hT
      split at h
      · rename_i ha
        simp only [Option.map_eq_some_iff] at h
        obtain ⟨w', h1, rfl⟩ := h
        have hk : onP (e.get a) (fun r off => rowF s r fun cs => ldK T.u.agg T.sz cs off fun c => w'.r e s fun l => k (c :: l)) false = true := hk
        rw [hr a ha] at hk
        obtain ⟨r, off, h2, hk⟩ := onP_inv hk
        obtain ⟨cs, h3, hk⟩ := rowF_inv hk
        obtain ⟨c, h4, hk⟩ := ldK_inv hk
        obtain ⟨as, h5, h6⟩ := cRes_ok h1 hr hk
        exact ⟨c :: as, by simp only [resA, h2, h3, hT, h4, h5, Option.bind_some, Option.map_some], h6⟩
      · cases h
    · cases h

def layK (l : List A) : Nat → En → (En → Bool) → Bool := List.rec (motive := fun _ => Nat → En → (En → Bool) → Bool) (fun _ e K => K e) (fun a _ ih k e K => (mkS k).s e a fun e => ih (Nat.succ k) e K) l
theorem layK_ok : ∀ {l : List A} {k : Nat} {e : En} {tr : Tr A} {nt : Nat} {K : En → Bool}, k + l.length ≤ 512 → Rep e ⟨nt, tr⟩ → layK l k e K = true → ∃ e', Rep e' ⟨nt, layArgs l k tr⟩ ∧ K e' = true
  | [], k, e, tr, nt, K, _, hr, h => ⟨e, hr, h⟩
  | a :: l, k, e, tr, nt, K, hl, hr, h => by
    have h : (mkS k).s e a (fun e => layK l (k + 1) e K) = true := h
    rw [mkS_eq] at h
    simp only [List.length_cons] at hl
    exact layK_ok (k := k + 1) (by omega) (hr.put (by omega) a) h

def packK (l : List A) (k : A → Bool) : Bool := List.rec (motive := fun _ => Bool) (k (.t [])) (fun a l _ => List.rec (motive := fun _ => Bool) (k a) (fun b l _ => k (.t (a :: b :: l))) l) l
theorem packK_eq (l : List A) (k : A → Bool) : packK l k = k (packA l) := by
  match l with
  | [] => rfl
  | [a] => rfl
  | a :: b :: l => rfl

structure FnW where run : CKF → Nat → List A → FS → (A → FS → Bool) → Bool
def cF (E : Env) (pol : Pol) (fn : Func) : FnW := match fn.body, cRes E fn.results.toList with
  | some c, some w => ⟨fun ck n args s k => xB (Nat.ble (lenR args) 512) (layK args 0 eZ fun e =>
      (cC E pol fn.ntmps c).run ck n e s (fun e s => w.r e s fun l => packK l fun a => k a s) (fun _ _ _ => false) (fun e s => w.r e s fun l => packK l fun a => k a s)) false⟩
  | _, _ => ⟨fun _ _ _ _ _ => false⟩

/-- What is known of some functions without their code, as the machine runs it. -/
abbrev PF := List A → FS → (A → FS → Bool) → Bool
structure LkW where run : CKF → Nat → List A → FS → (A → FS → Bool) → Bool
def lookW (E : Env) (pol : Pol) (F : Fns) (Fp : FuncId → Option PF) (f : FuncId) : LkW := match Fp f with
  | some g => ⟨fun _ _ args s k => g args s k⟩
  | none => match F.fn f with
    | some fn => ⟨fun ck n args s k => (cF E pol fn).run ck n args s k⟩
    | none => ⟨fun _ _ _ _ _ => false⟩
def callF (E : Env) (pol : Pol) (F : Fns) (Fp : FuncId → Option PF) (n : Nat) : CKF := Nat.rec (motive := fun _ => CKF) (fun _ _ _ _ => false) (fun n ih f args s k => (lookW E pol F Fp f).run ih n args s k) n

/-- The machine's own say of a known function is the function's. -/
def PfOk (F : Fns) (Fp : FuncId → Option PF) : Prop := ∀ f, (∀ g, Fp f = some g → ∃ ck, F.prim f = some ck ∧ ∀ args s k, Iv s → g args s k = true → ∃ a s', ck f args s.toSt = some (a, s'.toSt) ∧ Le s s' ∧ k a s' = true) ∧ (Fp f = none → F.prim f = none)

theorem callF_ok {F : Fns} {Fp : FuncId → Option PF} (hp : PfOk F Fp) : ∀ n, CkOk (callF E pol F Fp n) (call E pol F n) := by
  intro n
  induction n with
  | zero => intro f args s k _ h; exact absurd h Bool.false_ne_true
  | succ n ih =>
    intro f args s k hi h
    have h : (lookW E pol F Fp f).run (callF E pol F Fp n) n args s k = true := h
    unfold lookW at h
    split at h
    · rename_i g hg
      obtain ⟨ck, h1, h2⟩ := (hp f).1 g hg
      obtain ⟨a, s', h3, h4⟩ := h2 args s k hi h
      exact ⟨a, s', by simp only [call, h1]; exact h3, h4⟩
    · rename_i hg
      have hpr := (hp f).2 hg
      split at h
      · rename_i fn hfn
        have h : (cF E pol fn).run (callF E pol F Fp n) n args s k = true := h
        unfold cF at h
        split at h
        · rename_i c w hc hw
          obtain ⟨h1, h⟩ := xB_and h
          rw [lenR_eq] at h1
          have h1 : args.length ≤ 512 := Nat.le_of_ble_eq_true h1
          have hr0 : Rep eZ ⟨args.length + (fn.ntmps - args.length), .e⟩ := fun k _ => by rw [eZ_get]; rfl
          obtain ⟨e, h2, h⟩ := layK_ok (k := 0) (by omega) hr0 h
          have hnt : fn.ntmps ≤ (tm0 fn args).nt := by simp only [tm0]; omega
          obtain ⟨x, e', tm', s', h3, h4, h5, h6, h7⟩ := cC_ok (E := E) (pol := pol) (nt := fn.ntmps) c _ _ ih n e (tm0 fn args) s _ _ _ h2 hnt hi h
          have fin : x ≠ .e 0 → ∀ (hx : (w.r e' s' fun l => packK l fun a => k a s') = true), (∀ id, x ≠ .e id) → ∃ a s'', call E pol F (n + 1) f args s.toSt = some (a, s''.toSt) ∧ Le s s'' ∧ k a s'' = true := by
            intro _ hx hne
            obtain ⟨as, h8, h9⟩ := cRes_ok hw h4 hx
            rw [packK_eq] at h9
            refine ⟨packA as, s', ?_, h6, h9⟩
            simp only [call, hpr, hfn, hc, Option.bind_some, h3]
            cases x with
            | e id => exact (hne id rfl).elim
            | n => simp only [h8, Option.map_some]
            | r => simp only [h8, Option.map_some]
          cases x with
          | n => exact fin (by simp) h7 (by simp)
          | r => exact fin (by simp) h7 (by simp)
          | e id => exact absurd h7 Bool.false_ne_true
        · exact absurd h Bool.false_ne_true
      · exact absurd h Bool.false_ne_true

/-- A run of the fast machine from the empty store. -/
theorem runF {F : Fns} {Fp : FuncId → Option PF} (hp : PfOk F Fp) {n : Nat} {f : FuncId} {args : List A} {p : A → Bool} (h : callF E pol F Fp n f args ⟨0, 0, .e⟩ (fun a _ => p a) = true) : ∃ a σ', call E pol F n f args ⟨0, .e⟩ = some (a, σ') ∧ p a = true := by
  obtain ⟨a, s', h1, _, h3⟩ := callF_ok (E := E) (pol := pol) hp n f args ⟨0, 0, .e⟩ _ (fun l so hl => by cases hl) h
  exact ⟨a, s'.toSt, h1, h3⟩

end
end Go.VV
