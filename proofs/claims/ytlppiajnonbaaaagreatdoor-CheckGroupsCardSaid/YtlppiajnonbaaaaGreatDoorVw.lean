/- Code and calls. -/
import Derived.Test.YtlppiajnonbaaaaGreatDoorVu
import Derived.LoopN
set_option linter.unusedVariables false
set_option linter.unusedSimpArgs false
namespace Go.VV

section
variable {P : Program} {G : Nat} {ρ ρ' ρ0 : Gh} {w w' w0 : World} {E : Env} {pol : Pol} {ck : CK}

def exitOf : X → Exit
  | .n => .normal
  | .e id => .exit id
  | .r => .ret

theorem draw_ord' (hck : Sound P G E ck) {ops : Array Oper} {tm tm' : Tm} {σ σ' : St} (h : runDraw E pol ck ops tm σ = some (tm', σ')) : Ord σ σ' := by
  obtain ⟨T, S, D, _, rfl, _, rfl, hr⟩ := runDraw_spec h
  have : ∀ j, j ≤ ops.size → Ord (S 0) (S j) := by
    intro j
    induction j with
    | zero => intro _; exact Ord.refl _
    | succ j ih => intro hj; exact (ih (by omega)).trans (one_ord hck (hr.step j _ (Array.getElem?_eq_getElem hj)))
  exact this _ (Nat.le_refl _)

/-- What a piece of code that ran leaves, told of the model. -/
def CodeOk (P : Program) (G : Nat) (E : Env) (c : Code) (tm : Tm) (σ : St) (x : X) (tm' : Tm) (σ' : St) : Prop :=
  Ord σ σ' ∧ ∀ ρ w a (Q : Exit → Act → World → Prop), TmR G ρ w tm a → Wf σ → Sim G E ρ σ.get w → Free ρ σ.nx σ'.nx →
    (∀ ρ' w' a', TmR G ρ' w' tm' a' → a'.defers = a.defers → Post G E ρ σ w ρ' σ' w' → Q (exitOf x) a' w') → c.wp P Q a w

theorem code_wp (hm : P.follows .mixedOrders = true) (hE : EnvOk P E) (hck : Sound P G E ck) (n : Nat) : ∀ (c : Code) (tm : Tm) (σ : St) (x : X) (tm' : Tm) (σ' : St), runCode E pol ck n c tm σ = some (x, tm', σ') → CodeOk P G E c tm σ x tm' σ' := by
  intro c
  induction c with
  | skip =>
    intro tm σ x tm' σ' h
    simp only [runCode, Option.some.injEq, Prod.mk.injEq] at h
    obtain ⟨rfl, rfl, rfl⟩ := h
    exact ⟨Ord.refl _, fun ρ w a Q hT hwf hs hf hQ => wp_skip (hQ ρ w a hT rfl (Post.refl hs))⟩
  | region id ops draw =>
    intro tm σ x tm' σ' h
    cases draw with
    | false =>
      simp only [runCode, Option.map_eq_some_iff, Prod.exists, Prod.mk.injEq] at h
      obtain ⟨tm1, σ1, h, rfl, rfl, rfl⟩ := h
      refine ⟨seq_ord hck h, fun ρ w a Q hT hwf hs hf hQ => wp_region ?_⟩
      have := seq_wp (Q := Q) hE hck ops.toList 0 tm tm1 σ σ1 ρ w a (by simp) h hT hwf hs hf hQ
      rwa [show List.range ops.size = List.range' 0 ops.toList.length by rw [Array.length_toList, List.range_eq_range']]
    | true =>
      simp only [runCode, Option.map_eq_some_iff, Prod.exists, Prod.mk.injEq] at h
      obtain ⟨tm1, σ1, h, rfl, rfl, rfl⟩ := h
      exact ⟨draw_ord' hck h, fun ρ w a Q hT hwf hs hf hQ => draw_wp hm hE hck h hwf hT hs hf hQ⟩
  | seq c d ihc ihd =>
    intro tm σ x tm' σ' h
    simp only [runCode, Option.bind_eq_some_iff, Prod.exists] at h
    obtain ⟨x1, tm1, σ1, h1, h2⟩ := h
    obtain ⟨o1, w1⟩ := ihc tm σ x1 tm1 σ1 h1
    cases x1 with
    | n =>
      simp only at h2
      obtain ⟨o2, w2⟩ := ihd tm1 σ1 x tm' σ' h2
      refine ⟨o1.trans o2, fun ρ w a Q hT hwf hs hf hQ => wp_seq (w1 ρ w a _ hT hwf hs (hf.sub (Nat.le_refl _) o2.nx) ?_)⟩
      intro ρ1 wa a1 hT1 hd1 hp1
      refine w2 ρ1 wa a1 Q hT1 (o1.wf hwf) hp1.sim (hf.step hp1.fr o1.nx) ?_
      intro ρ2 wb a2 hT2 hd2 hp2
      exact hQ ρ2 wb a2 hT2 (hd2.trans hd1) (hp1.trans hp2 o1 o2 (hf.sub (Nat.le_refl _) o2.nx))
    | e id =>
      simp only [Option.some.injEq, Prod.mk.injEq] at h2
      obtain ⟨rfl, rfl, rfl⟩ := h2
      exact ⟨o1, fun ρ w a Q hT hwf hs hf hQ => wp_seq (w1 ρ w a _ hT hwf hs hf hQ)⟩
    | r =>
      simp only [Option.some.injEq, Prod.mk.injEq] at h2
      obtain ⟨rfl, rfl, rfl⟩ := h2
      exact ⟨o1, fun ρ w a Q hT hwf hs hf hQ => wp_seq (w1 ρ w a _ hT hwf hs hf hQ)⟩
  | cond c d e ihd ihe =>
    intro tm σ x tm' σ' h
    simp only [runCode] at h
    split at h
    · rename_i hc
      obtain ⟨o1, w1⟩ := ihd tm σ x tm' σ' h
      refine ⟨o1, fun ρ w a Q hT hwf hs hf hQ => wp_cond_true ((rel_bool (ev_rel hT hs.gl hc) true).1 rfl) (w1 ρ w a Q hT hwf hs hf hQ)⟩
    · rename_i hc
      obtain ⟨o1, w1⟩ := ihe tm σ x tm' σ' h
      refine ⟨o1, fun ρ w a Q hT hwf hs hf hQ => wp_cond_false ((rel_bool (ev_rel hT hs.gl hc) false).1 rfl) (w1 ρ w a Q hT hwf hs hf hQ)⟩
    · cases h
  | block id c ih =>
    intro tm σ x tm' σ' h
    simp only [runCode, Option.map_eq_some_iff, Prod.exists] at h
    obtain ⟨x1, tm1, σ1, h1, h2⟩ := h
    obtain ⟨o1, w1⟩ := ih tm σ x1 tm1 σ1 h1
    cases x1 with
    | n =>
      simp only [Prod.mk.injEq] at h2
      obtain ⟨rfl, rfl, rfl⟩ := h2
      exact ⟨o1, fun ρ w a Q hT hwf hs hf hQ => wp_block (w1 ρ w a _ hT hwf hs hf hQ)⟩
    | e id' =>
      simp only at h2
      by_cases hid : id' = id
      · rw [if_pos hid] at h2
        simp only [Prod.mk.injEq] at h2
        obtain ⟨rfl, rfl, rfl⟩ := h2
        refine ⟨o1, fun ρ w a Q hT hwf hs hf hQ => wp_block (w1 ρ w a _ hT hwf hs hf ?_)⟩
        intro ρ1 wa a1 hT1 hd1 hp1
        simp only [exitOf, Exit.inBlock, if_pos hid]
        exact hQ ρ1 wa a1 hT1 hd1 hp1
      · rw [if_neg hid] at h2
        simp only [Prod.mk.injEq] at h2
        obtain ⟨rfl, rfl, rfl⟩ := h2
        refine ⟨o1, fun ρ w a Q hT hwf hs hf hQ => wp_block (w1 ρ w a _ hT hwf hs hf ?_)⟩
        intro ρ1 wa a1 hT1 hd1 hp1
        simp only [exitOf, Exit.inBlock, if_neg hid]
        exact hQ ρ1 wa a1 hT1 hd1 hp1
    | r =>
      simp only [Prod.mk.injEq] at h2
      obtain ⟨rfl, rfl, rfl⟩ := h2
      exact ⟨o1, fun ρ w a Q hT hwf hs hf hQ => wp_block (w1 ρ w a _ hT hwf hs hf hQ)⟩
  | loop c ih =>
    intro tm σ x tm' σ' h
    simp only [runCode] at h
    have key : ∀ (k : Nat) (tm : Tm) (σ : St), loopN (runCode E pol ck n c) k tm σ = some (x, tm', σ') → Ord σ σ' ∧ ∀ ρ w a (Q : Exit → Act → World → Prop), TmR G ρ w tm a → Wf σ → Sim G E ρ σ.get w → Free ρ σ.nx σ'.nx →
        (∀ ρ' w' a', TmR G ρ' w' tm' a' → a'.defers = a.defers → Post G E ρ σ w ρ' σ' w' → Q (exitOf x) a' w') → Code.rounds P c Q k a w := by
      intro k
      induction k with
      | zero => intro tm σ h; cases h
      | succ k ihk =>
        intro tm σ h
        simp only [loopN, Option.bind_eq_some_iff, Prod.exists] at h
        obtain ⟨x1, tm1, σ1, h1, h2⟩ := h
        obtain ⟨o1, w1⟩ := ih tm σ x1 tm1 σ1 h1
        cases x1 with
        | n =>
          simp only at h2
          obtain ⟨o2, w2⟩ := ihk tm1 σ1 h2
          refine ⟨o1.trans o2, fun ρ w a Q hT hwf hs hf hQ => w1 ρ w a _ hT hwf hs (hf.sub (Nat.le_refl _) o2.nx) ?_⟩
          intro ρ1 wa a1 hT1 hd1 hp1
          refine w2 ρ1 wa a1 Q hT1 (o1.wf hwf) hp1.sim (hf.step hp1.fr o1.nx) ?_
          intro ρ2 wb a2 hT2 hd2 hp2
          exact hQ ρ2 wb a2 hT2 (hd2.trans hd1) (hp1.trans hp2 o1 o2 (hf.sub (Nat.le_refl _) o2.nx))
        | e id =>
          simp only [Option.some.injEq, Prod.mk.injEq] at h2
          obtain ⟨rfl, rfl, rfl⟩ := h2
          exact ⟨o1, fun ρ w a Q hT hwf hs hf hQ => w1 ρ w a _ hT hwf hs hf hQ⟩
        | r =>
          simp only [Option.some.injEq, Prod.mk.injEq] at h2
          obtain ⟨rfl, rfl, rfl⟩ := h2
          exact ⟨o1, fun ρ w a Q hT hwf hs hf hQ => w1 ρ w a _ hT hwf hs hf hQ⟩
    obtain ⟨o1, w1⟩ := key n tm σ h
    exact ⟨o1, fun ρ w a Q hT hwf hs hf hQ => wp_loop_rounds n (w1 ρ w a Q hT hwf hs hf hQ)⟩
  | exit id =>
    intro tm σ x tm' σ' h
    simp only [runCode, Option.some.injEq, Prod.mk.injEq] at h
    obtain ⟨rfl, rfl, rfl⟩ := h
    exact ⟨Ord.refl _, fun ρ w a Q hT hwf hs hf hQ => wp_exit (hQ ρ w a hT rfl (Post.refl hs))⟩
  | ret =>
    intro tm σ x tm' σ' h
    simp only [runCode, Option.some.injEq, Prod.mk.injEq] at h
    obtain ⟨rfl, rfl, rfl⟩ := h
    exact ⟨Ord.refl _, fun ρ w a Q hT hwf hs hf hQ => wp_ret (hQ ρ w a hT rfl (Post.refl hs))⟩
  | rangeFunc f ps c d _ _ => intro tm σ x tm' σ' h; cases h
  | scope c _ => intro tm σ x tm' σ' h; cases h
  | label l => intro tm σ x tm' σ' h; cases h
  | goto l => intro tm σ x tm' σ' h; cases h
  | refuse s => intro tm σ x tm' σ' h; cases h

def resV (tmps : Array Value) : ResultVar → Sem Value
  | .tmp t => pure (tmps.getD t undef)
  | .cell c t => do loadVar t (← asAddr (tmps.getD c undef))

theorem results_eq (fn : Func) (tmps : Array Value) : results fn tmps = (do
    let vs ← fn.results.mapM (resV tmps)
    pure (if h : vs.size = 1 then vs[0] else .tuple vs)) := by
  unfold results
  congr 2

theorem res_run (hE : EnvOk P E) {tm : Tm} {a : Act} (hT : TmR G ρ w tm a) {σ : St} (hs : Sim G E ρ σ.get w) : ∀ {l : List ResultVar} {vs : List A}, resA E tm σ l = some vs →
    ∃ xs : List Value, (l.mapM (resV a.tmps)).run P w = .ok xs w ∧ Rels G ρ w vs xs := by
  intro l
  induction l with
  | nil =>
    intro vs h
    simp only [resA, Option.some.injEq] at h
    subst h
    exact ⟨[], by simp, ⟨rfl, fun i a v h => by simp at h⟩⟩
  | cons r l ih =>
    intro vs h
    cases r with
    | tmp t =>
      simp only [resA, Option.map_eq_some_iff] at h
      obtain ⟨l', h1, rfl⟩ := h
      obtain ⟨xs, h2, h3⟩ := ih h1
      refine ⟨a.tmps.getD t undef :: xs, ?_, h3.cons (hT.rel t)⟩
      simp only [List.mapM_cons, resV, Sem.run_bind, Sem.run_pure, Result.andThen_ok, h2]
    | cell c t =>
      simp only [resA] at h
      split at h
      · rename_i r off hc
        split at h
        · rename_i cs hσ
          simp only [Option.bind_eq_some_iff, Option.map_eq_some_iff] at h
          obtain ⟨T, hTi, c', hl, l', h1, rfl⟩ := h
          obtain ⟨xs, h2, h3⟩ := ih h1
          have rc := hT.rel c
          rw [hc] at rc
          obtain ⟨blk, hv, hβ⟩ := addr_p rc
          obtain ⟨f, hrow⟩ := (hs.obj r blk _ hβ hσ).row
          obtain ⟨v, hv', hr⟩ := run_loadA (P := P) (hE.ti _ _ hTi) hrow hl
          refine ⟨v :: xs, ?_, h3.cons hr⟩
          simp only [Nat.zero_add] at hv'
          simp only [List.mapM_cons, resV, Sem.run_bind, hv, hv', asAddr, Sem.run_pure, Result.andThen_ok, h2]
        · cases h
      · cases h

theorem results_rel (hE : EnvOk P E) {fn : Func} {tm : Tm} {a : Act} (hT : TmR G ρ w tm a) {σ : St} (hs : Sim G E ρ σ.get w) {vs : List A} (h : resA E tm σ fn.results.toList = some vs) : ∃ v, (results fn a.tmps).run P w = .ok v w ∧ Rel G ρ w (packA vs) v := by
  obtain ⟨xs, h1, h2⟩ := res_run hE hT hs h
  have h3 : (results fn a.tmps).run P w = .ok (if h : xs.toArray.size = 1 then xs.toArray[0] else .tuple xs.toArray) w := by
    rw [results_eq, Array.mapM_eq_mapM_toList]
    simp only [Sem.run_bind, Sem.run_map, h1, Result.andThen_ok, Sem.run_pure]
  refine ⟨_, h3, ?_⟩
  obtain ⟨hl, hr⟩ := h2
  clear h h1 h3
  cases vs with
  | nil =>
    cases xs with
    | nil => exact Rel.un
    | cons y xs => simp at hl
  | cons x vs =>
    cases xs with
    | nil => simp at hl
    | cons y xs =>
      cases vs with
      | nil =>
        cases xs with
        | nil => exact hr 0 x y rfl rfl
        | cons z xs => simp at hl
      | cons x2 vs =>
        cases xs with
        | nil => simp at hl
        | cons z xs =>
          simp only [List.size_toArray, List.length_cons]
          rw [dif_neg (by omega)]
          exact rel_t ⟨hl, hr⟩

theorem layArgs_get : ∀ (l : List A) (k : Nat) (t : Tr A) (i : Nat), (layArgs l k t).get i = if k ≤ i ∧ i < k + l.length then l[i - k]? else t.get i := by
  intro l
  induction l with
  | nil => intro k t i; simp [layArgs]; omega
  | cons a l ih =>
    intro k t i
    simp only [layArgs]
    rw [ih, Tr.get_set]
    simp only [List.length_cons]
    by_cases h1 : i = k
    · subst h1
      rw [if_neg (by omega), if_pos rfl, if_pos (by omega)]
      simp
    · rw [if_neg h1]
      by_cases h2 : k ≤ i ∧ i < k + (l.length + 1)
      · rw [if_pos (by omega), if_pos h2, show i - k = (i - (k + 1)) + 1 from by omega, List.getElem?_cons_succ]
      · rw [if_neg (by omega), if_neg h2]

theorem tm0_rel {fn : Func} {args : List A} {vs : List Value} (h : Rels G ρ w args vs) : TmR G ρ w (tm0 fn args) { tmps := vs.toArray ++ Array.replicate (fn.ntmps - vs.toArray.size) undef, defers := [] } where
  size := by simp [tm0, h.1]
  rel := fun t => by
    have e : (tm0 fn args).get t = if t < args.length then args[t]?.getD un else un := by
      simp only [tm0, Tm.get]
      rw [layArgs_get]
      by_cases ht : t < args.length
      · rw [if_pos (by omega), if_pos ht]; simp
      · rw [if_neg (by omega), if_neg ht]; simp [Tr.get]
    rw [e]
    by_cases ht : t < args.length
    · rw [if_pos ht]
      have ht2 : t < vs.length := by rw [← h.1]; exact ht
      have h1 := h.2 t _ _ (List.getElem?_eq_getElem ht) (List.getElem?_eq_getElem ht2)
      rw [List.getElem?_eq_getElem ht, Array.getD_eq_getD_getElem?, Array.getElem?_append_left (by simpa using ht2)]
      simpa [List.getElem?_eq_getElem ht2] using h1
    · rw [if_neg ht, Array.getD_eq_getD_getElem?, Array.getElem?_append_right (by rw [List.size_toArray, ← h.1]; omega), Array.getElem?_replicate]
      split <;> exact Rel.un

/-- The functions are the program's; what is known without code is sound. -/
structure FnsOk (P : Program) (G : Nat) (E : Env) (F : Fns) : Prop where
  fn : ∀ k f, F.fn k = some f → P.funcs[k]? = some f
  prim : ∀ k g, F.prim k = some g → ∀ args σ r σ', g k args σ = some (r, σ') → Ord σ σ' ∧ ∀ ρ w vs, Wf σ → Sim G E ρ σ.get w → Free ρ σ.nx σ'.nx → Rels G ρ w args vs →
    Calls P k vs.toArray w fun e w' => ∃ v ρ', e = .returned v ∧ Rel G ρ' w' r v ∧ Post G E ρ σ w ρ' σ' w'

theorem call_sound (hm : P.follows .mixedOrders = true) (hE : EnvOk P E) {F : Fns} (hF : FnsOk P G E F) : ∀ n, Sound P G E (call E pol F n) := by
  intro n
  induction n with
  | zero => intro f args σ r σ' h; cases h
  | succ n ih =>
    intro f args σ r σ' h
    simp only [call] at h
    split at h
    · rename_i g hg
      exact hF.prim f g hg args σ r σ' h
    · simp only [Option.bind_eq_some_iff, Prod.exists] at h
      obtain ⟨fn, hfn, c, hc, x, tm, σ1, hrun, h⟩ := h
      obtain ⟨o1, w1⟩ := code_wp hm hE ih n c _ _ _ _ _ hrun
      have fin : ∀ vs, resA E tm σ1 fn.results.toList = some vs → packA vs = r → σ1 = σ' → (exitOf x = .normal ∨ exitOf x = .ret) → Ord σ σ' ∧ ∀ ρ w vs, Wf σ → Sim G E ρ σ.get w → Free ρ σ.nx σ'.nx → Rels G ρ w args vs →
          Calls P f vs.toArray w fun e w' => ∃ v ρ', e = .returned v ∧ Rel G ρ' w' r v ∧ Post G E ρ σ w ρ' σ' w' := by
        rintro rs hres rfl rfl hx
        refine ⟨o1, fun ρ w vs hwf hs hf hr => calls_of_wp (hF.fn f fn hfn) hc (w1 ρ w _ _ (tm0_rel hr) hwf hs hf ?_)⟩
        intro ρ' w' a' hT hd hp
        obtain ⟨v, hv, hrel⟩ := results_rel hE hT hp.sim hres
        rcases hx with hx | hx <;> rw [hx] <;> exact ⟨hd, v, hv, v, ρ', rfl, hrel, hp⟩
      cases x with
      | e id => cases h
      | n =>
        simp only [Option.map_eq_some_iff, Prod.mk.injEq] at h
        obtain ⟨vs, h1, h2, h3⟩ := h
        exact fin vs h1 h2 h3 (.inl rfl)
      | r =>
        simp only [Option.map_eq_some_iff, Prod.mk.injEq] at h
        obtain ⟨vs, h1, h2, h3⟩ := h
        exact fin vs h1 h2 h3 (.inr rfl)

end
end Go.VV
