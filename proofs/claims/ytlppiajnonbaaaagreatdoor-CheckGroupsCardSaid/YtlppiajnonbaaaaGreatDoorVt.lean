/- What is at hand and what waits; a region's run in the text's order, as a record. -/
import Derived.Test.YtlppiajnonbaaaaGreatDoorVs
set_option linter.unusedVariables false
set_option linter.unusedSimpArgs false
namespace Go.VV

def dom (ρ : Gh) (l : Nat) : Prop := ρ.β l ≠ none ∨ ρ.tk l ≠ none

section
variable {P : Program} {G : Nat} {ρ ρ' ρ0 : Gh} {w w' w0 : World} {E : Env} {H H' H0 H1 : Nat → Option Ob}

theorem dom_β {l b : Nat} (h : ρ.β l = some b) : dom ρ l := .inl (by rw [h]; simp)
theorem dom_tk {l : Nat} {b : Nat × Nat} (h : ρ.tk l = some b) : dom ρ l := .inr (by rw [h]; simp)

theorem Sim.subD (h : Sim G E ρ H w) (hs : ∀ k ob, dom ρ k → H' k = some ob → H k = some ob) : Sim G E ρ H' w where
  obj := fun l b o h1 h2 => h.obj l b o h1 (hs _ _ (dom_β h1) h2)
  tok := fun t n b base h1 h2 => h.tok t n b base h1 (hs _ _ (dom_tk h1) h2)
  tok1 := fun t t' n n' b base base' h1 h2 h3 h4 => h.tok1 t t' n n' b base base' h1 (hs _ _ (dom_tk h1) h2) h3 (hs _ _ (dom_tk h3) h4)
  inj := h.inj
  sep := h.sep
  mz := h.mz
  lt := h.lt
  ltt := h.ltt
  ltM := h.ltM
  gl := h.gl

theorem ext_heap (hh : w'.heap = w.heap) : Ext ρ w ρ w' := ⟨fun _ _ h => h, fun _ _ h => h, fun _ => Nat.le_refl _, fun b i _ => cell_of_heap (by rw [hh]) i, fun b n h => by rw [rowSize_of_heap (w := w) (by rw [hh])]; exact h⟩

theorem Sim.heap_eq (h : Sim G E ρ H w) (hh : w'.heap = w.heap) : Sim G E ρ H w' where
  obj := fun l b o h1 h2 => (h.obj l b o h1 h2).mono (ext_heap hh) (by rw [hh])
  tok := fun t n b base h1 h2 => by rw [hh]; exact h.tok t n b base h1 h2
  tok1 := h.tok1
  inj := h.inj
  sep := h.sep
  mz := h.mz
  lt := fun l b h1 => by rw [hh]; exact h.lt l b h1
  ltt := fun t b base h1 => by rw [hh]; exact h.ltt t b base h1
  ltM := fun b h1 => h.ltM b (by rw [← hh]; exact h1)
  gl := h.gl.mono (ext_heap hh)

/-- What is not at hand stays. -/
theorem Sim.frame {n n' : Nat} (hs : Sim G E ρ H w) (h0 : ∀ k ob, dom ρ k → H0 k = some ob → H k = some ob) (e : Ext ρ w ρ' w') (h1 : Sim G E ρ' H1 w') (fr : Fr ρ H0 w n n' ρ' w')
    (ho : ∀ k m, H1 k = some (.k m) → H0 k = some (.k m) ∨ (n ≤ k ∧ k < n')) (hf : Free ρ n n') (h' : ∀ k ob, dom ρ' k → H' k = some ob → H1 k = some ob ∨ (H k = some ob ∧ H0 k = none ∧ ¬(n ≤ k ∧ k < n'))) : Sim G E ρ' H' w' where
  obj := fun l b o hl ho => by
    rcases h' l o (dom_β hl) ho with h2 | ⟨h2, h3, h4⟩
    · exact h1.obj l b o hl h2
    · rcases fr.β l b hl with h5 | ⟨h5, h6, _⟩
      · have hb := hs.lt l b h5
        refine (hs.obj l b o h5 h2).mono e (fr.heap b hb (fun k ob hk hkb => ?_) (fun k m base _ hk => hs.sep l k b base h5 hk))
        have := hs.inj k l b hkb h5
        subst this
        rw [h3] at hk; cases hk
      · exact (h4 ⟨h5, h6⟩).elim
  tok := fun t n b base ht hn => by
    rcases h' t _ (dom_tk ht) hn with h2 | ⟨h2, h3, h4⟩
    · exact h1.tok t n b base ht h2
    · rcases fr.tk t b base ht with h5 | ⟨h5, h6, _⟩
      · have hb := hs.ltt t b base h5
        have hno : ∀ k m base', H0 k = some (.k m) → ρ.tk k ≠ some (b, base') := by
          intro k m base' hk hkt
          have := hs.tok1 k t m n b base' base hkt (h0 _ _ (dom_tk hkt) hk) h5 h2
          subst this
          rw [h3] at hk; cases hk
        obtain ⟨h7, c, ty, f, h8, h9⟩ := hs.tok t n b base h5 h2
        refine ⟨by rw [fr.M b hb hno]; exact h7, c, ty, f, ?_, h9⟩
        rw [fr.heap b hb (fun k ob _ hkb => hs.sep k t b base hkb h5) hno]
        exact h8
      · exact (h4 ⟨h5, h6⟩).elim
  tok1 := by
    have mix : ∀ t t' m m' b base base', ρ'.tk t = some (b, base) → H1 t = some (.k m) → ρ'.tk t' = some (b, base') → H t' = some (.k m') → H0 t' = none → ¬(n ≤ t' ∧ t' < n') → t = t' := by
      intro t t' m m' b base base' ht h2 ht' h3 h4 h5
      rcases fr.tk t' b base' ht' with h6 | ⟨h6, h7, _⟩
      · rcases fr.tk t b base ht with h8 | ⟨h8, h9, h10⟩
        · rcases ho t m h2 with h11 | ⟨h11, h12⟩
          · exact hs.tok1 t t' m m' b base base' h8 (h0 _ _ (dom_tk h8) h11) h6 h3
          · rw [(hf t h11 h12).2] at h8; cases h8
        · rcases h10 with h10 | ⟨t2, m2, base2, h10, h11⟩
          · have := hs.ltt t' b base' h6; omega
          · have := hs.tok1 t2 t' m2 m' b base2 base' h11 (h0 _ _ (dom_tk h11) h10) h6 h3
            subst this
            rw [h4] at h10; cases h10
      · exact (h5 ⟨h6, h7⟩).elim
    intro t t' m m' b base base' ht hm ht' hm'
    rcases h' t _ (dom_tk ht) hm with h2 | ⟨h2, h3, h4⟩
    · rcases h' t' _ (dom_tk ht') hm' with h5 | ⟨h5, h6, h7⟩
      · exact h1.tok1 t t' m m' b base base' ht h2 ht' h5
      · exact mix t t' m m' b base base' ht h2 ht' h5 h6 h7
    · rcases h' t' _ (dom_tk ht') hm' with h5 | ⟨h5, h6, h7⟩
      · exact (mix t' t m' m b base' base ht' h5 ht h2 h3 h4).symm
      · rcases fr.tk t b base ht with h8 | ⟨h8, h9, _⟩
        · rcases fr.tk t' b base' ht' with h10 | ⟨h10, h11, _⟩
          · exact hs.tok1 t t' m m' b base base' h8 h2 h10 h5
          · exact (h7 ⟨h10, h11⟩).elim
        · exact (h4 ⟨h8, h9⟩).elim
  inj := h1.inj
  sep := h1.sep
  mz := h1.mz
  lt := h1.lt
  ltt := h1.ltt
  ltM := h1.ltM
  gl := h1.gl

theorem Fr.comp {n0 nn m m' : Nat} (h : Fr ρ0 H0 w0 n0 nn ρ w) (k : Fr ρ H w m m' ρ' w') (l1 : n0 ≤ m) (l2 : m' ≤ nn) (hβ : ∀ i ob, H i = some ob → H0 i ≠ none ∨ (n0 ≤ i ∧ i < nn))
    (htok : ∀ i j, H i = some (.k j) → H0 i = some (.k j) ∨ (n0 ≤ i ∧ i < nn)) (hf : Free ρ0 n0 nn) : Fr ρ0 H0 w0 n0 nn ρ' w' := by
  have liveβ : ∀ i ob b, b < w0.heap.size → ρ.β i = some b → H i = some ob → ∃ ob', H0 i = some ob' ∧ ρ0.β i = some b := by
    intro i ob b hb h1 h2
    rcases h.β i b h1 with h3 | ⟨_, _, h3⟩
    · rcases hβ i ob h2 with h4 | ⟨h4, h5⟩
      · obtain ⟨ob', hob⟩ := Option.ne_none_iff_exists'.1 h4
        exact ⟨ob', hob, h3⟩
      · rw [(hf i h4 h5).1] at h3; cases h3
    · omega
  have livek : ∀ i j b base, b < w0.heap.size → ρ.tk i = some (b, base) → H i = some (.k j) → ∃ t j' base', H0 t = some (.k j') ∧ ρ0.tk t = some (b, base') := by
    intro i j b base hb h1 h2
    rcases h.tk i b base h1 with h3 | ⟨_, _, h3 | ⟨t, j', base', h3, h4⟩⟩
    · rcases htok i j h2 with h4 | ⟨h4, h5⟩
      · exact ⟨i, j, base, h4, h3⟩
      · rw [(hf i h4 h5).2] at h3; cases h3
    · omega
    · exact ⟨t, j', base', h3, h4⟩
  refine ⟨h.still.trans k.still, fun b hb hk hk2 => ?_, fun b hb hk => ?_, fun i b hi => ?_, fun i b base hi => ?_⟩
  · rw [k.heap b (Nat.lt_of_lt_of_le hb h.still.size) (fun i ob hi h1 => ?_) (fun i j base hi h1 => ?_), h.heap b hb hk hk2]
    · obtain ⟨ob', hob, h2⟩ := liveβ i ob b hb h1 hi
      exact hk i ob' hob h2
    · obtain ⟨t, m', base', h2, h3⟩ := livek i j b base hb h1 hi
      exact hk2 t m' base' h2 h3
  · rw [k.M b (Nat.lt_of_lt_of_le hb h.still.size) (fun i j base hi h1 => ?_), h.M b hb hk]
    obtain ⟨t, m', base', h2, h3⟩ := livek i j b base hb h1 hi
    exact hk t m' base' h2 h3
  · rcases k.β i b hi with h1 | ⟨h1, h2, h3⟩
    · exact h.β i b h1
    · exact .inr ⟨Nat.le_trans l1 h1, Nat.lt_of_lt_of_le h2 l2, Nat.le_trans h.still.size h3⟩
  · rcases k.tk i b base hi with h1 | ⟨h1, h2, h3⟩
    · exact h.tk i b base h1
    · refine .inr ⟨Nat.le_trans l1 h1, Nat.lt_of_lt_of_le h2 l2, ?_⟩
      rcases h3 with h3 | ⟨t, m, base', h3, h4⟩
      · exact .inl (Nat.le_trans h.still.size h3)
      · rcases Nat.lt_or_ge b w0.heap.size with hb | hb
        · obtain ⟨t', m', b'', h5, h6⟩ := livek t m b base' hb h4 h3
          exact .inr ⟨t', m', b'', h5, h6⟩
        · exact .inl hb

def glue (H1 H0 H : Nat → Option Ob) (n n' : Nat) : Nat → Option Ob := fun l => (H1 l).or (if (H0 l).isNone && !(decide (n ≤ l) && decide (l < n')) then H l else none)

theorem glue_cases {n n' l : Nat} {ob : Ob} (h : glue H1 H0 H n n' l = some ob) : H1 l = some ob ∨ (H l = some ob ∧ H0 l = none ∧ ¬(n ≤ l ∧ l < n')) := by
  unfold glue at h
  cases h1 : H1 l with
  | some x => rw [h1] at h; exact .inl (by simpa using h)
  | none =>
    rw [h1, Option.none_or] at h
    split at h
    · rename_i hc
      simp at hc
      exact .inr ⟨h, hc.1, by omega⟩
    · cases h

theorem glue_l {n n' l : Nat} {ob : Ob} (h : H1 l = some ob) : glue H1 H0 H n n' l = some ob := by simp [glue, h]
theorem glue_r {n n' l : Nat} {ob : Ob} (h1 : H1 l = none) (h0 : H0 l = none) (hr : ¬(n ≤ l ∧ l < n')) (h : H l = some ob) : glue H1 H0 H n n' l = some ob := by
  simp only [glue, h1, h0, Option.none_or, Option.isNone_none, Bool.true_and]
  rw [if_pos]
  · exact h
  · simp; omega

/-! ### The record of a run -/

/-- What a region's run in the text's order shows. -/
structure Run (E : Env) (pol : Pol) (ck : CK) (ops : Array Oper) (T : Nat → Tm) (S : Nat → St) (D : Nat → Option Nat) : Prop where
  step : ∀ i o, ops[i]? = some o → oneOp E pol ck ops o (T i) (S i) = some (D i, T (i + 1), S (i + 1))
  back : ∀ j o, ops[j]? = some o → ∀ e ∈ o.after, Region.binds .any e = true → e.on < j
  names : ∀ j o, ops[j]? = some o → ∀ t ∈ namesOf ops o, ∀ i k, ops[i]? = some k → k.dst = some t → i = j ∨ ((Region.before ops).getD (max i j) 0).testBit (min i j) = true
  apart : ∀ i j oi oj, i < j → ops[i]? = some oi → ops[j]? = some oj → apart (Region.before ops) ⟨i, stf oi.op, D i, S i, S (i + 1)⟩ ⟨j, stf oj.op, D j, S j, S (j + 1)⟩ = true

theorem runTr_spec {pol : Pol} {ck : CK} {ops : Array Oper} : ∀ {l : List Oper} {k : Nat} {tm tm' : Tm} {σ σ' : St} {tr : List Rec}, runTr E pol ck ops l k tm σ = some (tm', σ', tr) →
    ∃ (T : Nat → Tm) (S : Nat → St) (D : Nat → Option Nat), T k = tm ∧ S k = σ ∧ T (k + l.length) = tm' ∧ S (k + l.length) = σ' ∧
      (∀ i o, l[i]? = some o → oneOp E pol ck ops o (T (k + i)) (S (k + i)) = some (D (k + i), T (k + i + 1), S (k + i + 1)) ∧ tr[i]? = some ⟨k + i, stf o.op, D (k + i), S (k + i), S (k + i + 1)⟩) := by
  intro l
  induction l with
  | nil =>
    intro k tm tm' σ σ' tr h
    simp [runTr] at h
    obtain ⟨rfl, rfl, rfl⟩ := h
    exact ⟨fun _ => tm, fun _ => σ, fun _ => none, rfl, rfl, rfl, rfl, fun i o h => by simp at h⟩
  | cons o l ih =>
    intro k tm tm' σ σ' tr h
    simp only [runTr, Option.bind_eq_some_iff, Option.map_eq_some_iff, Prod.exists, Prod.mk.injEq] at h
    obtain ⟨rd, tm1, σ1, h1, tm2, σ2, tr2, h2, rfl, rfl, rfl⟩ := h
    obtain ⟨T, S, D, e1, e2, e3, e4, e5⟩ := ih h2
    refine ⟨fun j => if j ≤ k then tm else T j, fun j => if j ≤ k then σ else S j, fun j => if j ≤ k then rd else D j, by simp, by simp, ?_, ?_, fun i p hp => ?_⟩
    · simp only [List.length_cons]; rw [if_neg (by omega), ← e3]; congr 1; omega
    · simp only [List.length_cons]; rw [if_neg (by omega), ← e4]; congr 1; omega
    · cases i with
      | zero =>
        simp at hp
        subst hp
        simp only [Nat.add_zero, Nat.le_refl, if_true, List.getElem?_cons_zero]
        rw [if_neg (by omega), if_neg (by omega), e1, e2]
        exact ⟨h1, rfl⟩
      | succ i =>
        simp only [List.getElem?_cons_succ] at hp ⊢
        obtain ⟨e6, e7⟩ := e5 i p hp
        rw [show k + 1 + i = k + (i + 1) from by omega] at e6 e7
        rw [if_neg (by omega), if_neg (by omega), if_neg (by omega), if_neg (by omega), if_neg (by omega)]
        exact ⟨e6, e7⟩

theorem aparts_spec {bef : Array Nat} : ∀ {tr : List Rec}, aparts bef tr = true → ∀ (i j : Nat) (r r' : Rec), i < j → tr[i]? = some r → tr[j]? = some r' → apart bef r r' = true := by
  intro tr
  induction tr with
  | nil => intro _ i j r r' _ h; simp at h
  | cons x tr ih =>
    intro h i j r r' hij hi hj
    simp only [aparts, Bool.and_eq_true, List.all_eq_true] at h
    cases j with
    | zero => omega
    | succ j =>
      simp only [List.getElem?_cons_succ] at hj
      cases i with
      | zero =>
        simp at hi
        subst hi
        exact h.1 r' (List.mem_of_getElem? hj)
      | succ i => exact ih h.2 i j r r' (by omega) (by simpa using hi) hj

theorem runDraw_spec {pol : Pol} {ck : CK} {ops : Array Oper} {tm tm' : Tm} {σ σ' : St} (h : runDraw E pol ck ops tm σ = some (tm', σ')) :
    ∃ (T : Nat → Tm) (S : Nat → St) (D : Nat → Option Nat), T 0 = tm ∧ S 0 = σ ∧ T ops.size = tm' ∧ S ops.size = σ' ∧ Run E pol ck ops T S D := by
  unfold runDraw at h
  simp only at h
  split at h
  case isFalse => cases h
  rename_i ht
  simp only [Option.bind_eq_some_iff, Prod.exists] at h
  obtain ⟨tm1, σ1, tr, h1, h2⟩ := h
  split at h2
  case isFalse => cases h2
  rename_i ha
  simp only [Option.some.injEq, Prod.mk.injEq] at h2
  obtain ⟨rfl, rfl⟩ := h2
  obtain ⟨T, S, D, e1, e2, e3, e4, e5⟩ := runTr_spec h1
  refine ⟨T, S, D, e1, e2, by simpa using e3, by simpa using e4, ?_⟩
  unfold tidy at ht
  simp only [List.all_eq_true, Prod.forall, Bool.and_eq_true, List.mem_zipIdx_iff_getElem?, Array.getElem?_toList] at ht
  constructor
  · intro i o hi
    have := (e5 i o (by simpa using hi)).1
    simpa using this
  · intro j o hj e he hb
    have := (ht o j hj).1 e (Array.mem_toList_iff.2 he)
    simpa [hb] using this
  · intro j o hj t ht' i k hi hk
    have := (ht o j hj).2 t ht' k i hi
    simpa [hk] using this
  · intro i j oi oj hij hi hj
    have h6 := (e5 i oi (by simpa using hi)).2
    have h7 := (e5 j oj (by simpa using hj)).2
    simp only [Nat.zero_add] at h6 h7
    exact aparts_spec ha i j _ _ hij h6 h7

theorem quiet {pol : Pol} {tm : Tm} {σ : St} {o : Oper} {r : R} (h : aOp E pol tm σ o = some r) (hs : stf o.op = false) : (∃ rd a, r = .val rd a) ∨ ∃ a ob, r = .new a ob := by
  have vl : ∀ {x : Option A}, R.ofA x = some r → (∃ rd a, r = .val rd a) ∨ ∃ a ob, r = .new a ob := by
    intro x h
    simp only [R.ofA, Option.map_eq_some_iff] at h
    obtain ⟨a, _, rfl⟩ := h
    exact .inl ⟨_, _, rfl⟩
  obtain ⟨dst, op, type, pos, after, guard⟩ := o
  cases op <;> simp only [stf, Bool.true_eq_false, reduceCtorEq] at hs <;> simp only [aOp] at h
  case call c =>
    unfold aCall at h
    cases hc : c.callee <;> simp only [hc, Bool.true_eq_false, reduceCtorEq] at hs h
    rename_i b
    cases b <;> simp only [Bool.true_eq_false, reduceCtorEq] at hs <;>
    repeat' (first
      | contradiction
      | (exact vl h)
      | (cases h; done)
      | (simp only [Option.some.injEq] at h; subst h; first | exact .inl ⟨_, _, rfl⟩ | exact .inr ⟨_, _, rfl⟩ | (split <;> exact .inr ⟨_, _, rfl⟩))
      | (simp only [Option.bind_eq_some_iff] at h; obtain ⟨_, _, h⟩ := h)
      | (obtain ⟨_, _, h⟩ := h)
      | (simp only [Option.map_eq_some_iff] at h; obtain ⟨_, _, h⟩ := h)
      | split at h)
  all_goals repeat' (first
      | contradiction
      | (exact vl h)
      | (cases h; done)
      | (simp only [Option.some.injEq] at h; subst h; first | exact .inl ⟨_, _, rfl⟩ | exact .inr ⟨_, _, rfl⟩ | (split <;> exact .inr ⟨_, _, rfl⟩))
      | (simp only [Option.map_eq_some_iff] at h; obtain ⟨_, _, h⟩ := h; subst h; first | exact .inl ⟨_, _, rfl⟩ | exact .inr ⟨_, _, rfl⟩ | (split <;> exact .inr ⟨_, _, rfl⟩))
      | (simp only [Option.bind_eq_some_iff] at h; obtain ⟨_, _, h⟩ := h)
      | (obtain ⟨_, _, h⟩ := h)
      | (simp only [Option.map_eq_some_iff] at h; obtain ⟨_, _, h⟩ := h)
      | split at h)

theorem quiet_step {pol : Pol} {ck : CK} {ops : Array Oper} {tm tm' : Tm} {σ σ' : St} {o : Oper} {rd : Option Nat} (h : oneOp E pol ck ops o tm σ = some (rd, tm', σ')) (hs : stf o.op = false) : σ' = σ ∨ ∃ ob, σ' = σ.new ob ∧ rd = some σ.nx := by
  unfold oneOp at h
  split at h
  case isFalse => cases h
  split at h
  · split at h
    · simp only [Option.some.injEq, Prod.mk.injEq] at h
      exact .inl h.2.2.symm
    · rename_i a ob hop
      simp only [Option.some.injEq, Prod.mk.injEq] at h
      exact .inr ⟨ob, h.2.2.symm, h.1.symm⟩
    · rename_i hop
      rcases quiet hop hs with ⟨_, _, h1⟩ | ⟨_, _, h1⟩ <;> cases h1
    · rename_i hop
      rcases quiet hop hs with ⟨_, _, h1⟩ | ⟨_, _, h1⟩ <;> cases h1
    · cases h
  · simp only [Option.some.injEq, Prod.mk.injEq] at h
    exact .inl h.2.2.symm

theorem wantedA_congr {ops : Array Oper} {o : Oper} {tm1 tm2 : Tm} (hnt : tm1.nt = tm2.nt) (hg : ∀ t ∈ namesOf ops o, tm1.get t = tm2.get t) : wantedA ops tm1 o = wantedA ops tm2 o := by
  unfold wantedA
  cases hgd : o.guard with
  | none => rfl
  | some x =>
    obtain ⟨j, want⟩ := x
    simp only
    cases hd : (ops[j]?).bind (·.dst) with
    | none => rfl
    | some d =>
      simp only
      rw [hnt, hg d (by simp [namesOf, hgd, hd])]

/-- The operation gives the same from other temporaries that agree at its names. -/
theorem oneOp_congr {pol : Pol} {ck : CK} {ops : Array Oper} {tm tm1 tm2 : Tm} {σ σ' : St} {o : Oper} {rd : Option Nat} (h : oneOp E pol ck ops o tm σ = some (rd, tm1, σ')) (hnt : tm.nt = tm2.nt) (hg : ∀ t ∈ namesOf ops o, tm.get t = tm2.get t) :
    ∃ x, tm1 = tm.put o.dst x ∧ oneOp E pol ck ops o tm2 σ = some (rd, tm2.put o.dst x, σ') := by
  unfold oneOp at h ⊢
  have hfit : tm.fits o.dst = tm2.fits o.dst := by unfold Tm.fits; cases o.dst <;> simp [hnt]
  rw [hfit, wantedA_congr hnt hg, aOp_congr (tm' := tm2) (fun t ht => hg t (by simp only [namesOf, List.mem_append, List.mem_filterMap]; exact .inl (.inr ⟨.tmp t, Array.mem_toList_iff.2 ht, rfl⟩)))] at h
  split at h
  case isFalse => cases h
  rename_i h1
  rw [if_pos h1]
  split at h
  · rename_i h2
    rw [if_pos h2]
    split at h
    · simp only [Option.some.injEq, Prod.mk.injEq] at h; exact ⟨_, h.2.1.symm, by simp [h.1, h.2.2]⟩
    · simp only [Option.some.injEq, Prod.mk.injEq] at h; exact ⟨_, h.2.1.symm, by simp [h.1, h.2.2]⟩
    · simp only [Option.some.injEq, Prod.mk.injEq] at h; exact ⟨_, h.2.1.symm, by simp [h.1, h.2.2]⟩
    · simp only [Option.map_eq_some_iff, Prod.exists, Prod.mk.injEq] at h
      obtain ⟨c, σ1, hc, h3, h4, h5⟩ := h
      exact ⟨_, h4.symm, by simp [hc, h3, h5]⟩
    · cases h
  · rename_i h2
    rw [if_neg h2]
    simp only [Option.some.injEq, Prod.mk.injEq] at h
    exact ⟨_, h.2.1.symm, by simp [h.1, h.2.2]⟩

end
end Go.VV
