/- One operation behind the other; calls; regions whose order is fixed. -/
import Derived.Test.YtlppiajnonbaaaaGreatDoorVp
set_option linter.unusedVariables false
set_option linter.unusedSimpArgs false
namespace Go.VV

/-- Places are free. -/
def Free (ρ : Gh) (n n' : Nat) : Prop := ∀ k, n ≤ k → k < n' → ρ.β k = none ∧ ρ.tk k = none

section
variable {P : Program} {G : Nat} {ρ ρ1 ρ2 : Gh} {w w1 w2 : World} {E : Env}

theorem Fr.trans {σ σ1 σ2 : St} (h : Fr ρ σ.get w σ.nx σ1.nx ρ1 w1) (k : Fr ρ1 σ1.get w1 σ1.nx σ2.nx ρ2 w2) (o : Ord σ σ1) (o2 : Ord σ1 σ2) (hf : Free ρ σ.nx σ1.nx) : Fr ρ σ.get w σ.nx σ2.nx ρ2 w2 := by
  have liveβ : ∀ k b, b < w.heap.size → ρ1.β k = some b → σ1.get k ≠ none → ρ.β k = some b ∧ σ.get k ≠ none := by
    intro k b hb h1 h2
    rcases h.β k b h1 with h3 | ⟨_, _, h3⟩
    · rcases o.old k h2 with h4 | ⟨h4, h5⟩
      · exact ⟨h3, h4⟩
      · rw [(hf k h4 h5).1] at h3; cases h3
    · omega
  have livek : ∀ k m b base, b < w.heap.size → ρ1.tk k = some (b, base) → σ1.get k = some (.k m) → ∃ t m' base', σ.get t = some (.k m') ∧ ρ.tk t = some (b, base') := by
    intro k m b base hb h1 h2
    rcases h.tk k b base h1 with h3 | ⟨_, _, h3 | ⟨t, m, base', h3, h4⟩⟩
    · rcases o.tok k m h2 with h4 | ⟨h4, h5⟩
      · exact ⟨k, m, base, h4, h3⟩
      · rw [(hf k h4 h5).2] at h3; cases h3
    · omega
    · exact ⟨t, m, base', h3, h4⟩
  refine ⟨h.still.trans k.still, fun b hb hk hk2 => ?_, fun b hb hk => ?_, fun i b hi => ?_, fun i b base hi => ?_⟩
  · rw [k.heap b (Nat.lt_of_lt_of_le hb h.still.size) (fun i ob hi h1 => ?_) (fun i m base hi h1 => ?_), h.heap b hb hk hk2]
    · obtain ⟨h2, h3⟩ := liveβ i b hb h1 (by rw [hi]; simp)
      obtain ⟨ob', hob⟩ := Option.ne_none_iff_exists'.1 h3
      exact hk i ob' hob h2
    · obtain ⟨t, m', base', h2, h3⟩ := livek i m b base hb h1 hi
      exact hk2 t m' base' h2 h3
  · rw [k.M b (Nat.lt_of_lt_of_le hb h.still.size) (fun i m base hi h1 => ?_), h.M b hb hk]
    obtain ⟨t, m', base', h2, h3⟩ := livek i m b base hb h1 hi
    exact hk t m' base' h2 h3
  · rcases k.β i b hi with h1 | ⟨h1, h2, h3⟩
    · rcases h.β i b h1 with h4 | ⟨h4, h5, h6⟩
      · exact .inl h4
      · exact .inr ⟨h4, Nat.lt_of_lt_of_le h5 o2.nx, h6⟩
    · exact .inr ⟨Nat.le_trans o.nx h1, h2, Nat.le_trans h.still.size h3⟩
  · rcases k.tk i b base hi with h1 | ⟨h1, h2, h3⟩
    · rcases h.tk i b base h1 with h4 | ⟨h4, h5, h6⟩
      · exact .inl h4
      · exact .inr ⟨h4, Nat.lt_of_lt_of_le h5 o2.nx, h6⟩
    · refine .inr ⟨Nat.le_trans o.nx h1, h2, ?_⟩
      rcases h3 with h3 | ⟨t, m, base', h3, h4⟩
      · exact .inl (Nat.le_trans h.still.size h3)
      · rcases Nat.lt_or_ge b w.heap.size with hb | hb
        · obtain ⟨t', m', b'', h5, h6⟩ := livek t m b base' hb h4 h3
          exact .inr ⟨t', m', b'', h5, h6⟩
        · exact .inl hb

theorem Free.step {n n1 n2 : Nat} {H : Nat → Option Ob} (h : Free ρ n n2) (f : Fr ρ H w n n1 ρ1 w1) (hn : n ≤ n1) : Free ρ1 n1 n2 := by
  intro k h1 h2
  obtain ⟨h3, h4⟩ := h k (Nat.le_trans hn h1) h2
  refine ⟨?_, ?_⟩
  · rcases hb : ρ1.β k with _ | b
    · rfl
    · rcases f.β k b hb with h5 | ⟨_, h5, _⟩
      · rw [h3] at h5; cases h5
      · omega
  · rcases hb : ρ1.tk k with _ | ⟨b, base⟩
    · rfl
    · rcases f.tk k b base hb with h5 | ⟨_, h5, _⟩
      · rw [h4] at h5; cases h5
      · omega

theorem Free.sub {n n' m m' : Nat} (h : Free ρ n n') (h1 : n ≤ m) (h2 : m' ≤ n') : Free ρ m m' := fun k a b => h k (Nat.le_trans h1 a) (Nat.lt_of_lt_of_le b h2)

/-- What stands behind a piece of work. -/
structure Post (G : Nat) (E : Env) (ρ : Gh) (σ : St) (w : World) (ρ' : Gh) (σ' : St) (w' : World) : Prop where
  ext : Ext ρ w ρ' w'
  sim : Sim G E ρ' σ'.get w'
  fr : Fr ρ σ.get w σ.nx σ'.nx ρ' w'

theorem Post.trans {σ σ1 σ2 : St} (h : Post G E ρ σ w ρ1 σ1 w1) (k : Post G E ρ1 σ1 w1 ρ2 σ2 w2) (o : Ord σ σ1) (o2 : Ord σ1 σ2) (hf : Free ρ σ.nx σ1.nx) : Post G E ρ σ w ρ2 σ2 w2 :=
  ⟨h.ext.trans k.ext, k.sim, h.fr.trans k.fr o o2 hf⟩

theorem Post.refl {σ : St} (h : Sim G E ρ σ.get w) : Post G E ρ σ w ρ σ w := ⟨Ext.refl _ _, h, Fr.refl _ _⟩

/-- A way of calling functions is sound: the model's calls come to what it says. -/
def Sound (P : Program) (G : Nat) (E : Env) (ck : CK) : Prop :=
  ∀ f args σ r σ', ck f args σ = some (r, σ') → Ord σ σ' ∧ ∀ ρ w vs, Wf σ → Sim G E ρ σ.get w → Free ρ σ.nx σ'.nx → Rels G ρ w args vs →
    Calls P f vs.toArray w fun e w' => ∃ v ρ', e = .returned v ∧ Rel G ρ' w' r v ∧ Post G E ρ σ w ρ' σ' w'

theorem op_call (hE : EnvOk P E) {tm : Tm} {a : Act} (hT : TmR G ρ w tm a) (hg : GlOk G ρ w E) {pol : Pol} {σ : St} {o : Oper} {f : FuncId} {args : List A} (h : aOp E pol tm σ o = some (.call f args)) :
    ∃ vs, (execOp a.eval o).run P w = .ok (.enter f (List.toArray vs)) w ∧ Rels G ρ w args vs := by
  obtain ⟨dst, op, type, pos, after, guard⟩ := o
  have no : ∀ {x : Option A} {q : Prop}, R.ofA x = some (R.call f args) → q := by
    intro x q h
    simp [R.ofA] at h
  cases op <;> simp only [aOp] at h <;> (try (cases h; done)) <;> (try (exact no h))
  case call c' =>
    unfold aCall at h
    simp only [Option.bind_eq_some_iff] at h
    obtain ⟨as, has, h⟩ := h
    have ras := evs_rels hT hg has
    split at h
    · rename_i x hcal
      split at h
      · rename_i k first cap hx
        split at h
        · exact no h
        · split at h
          · rename_i hen
            simp only [Option.some.injEq, R.call.injEq] at h
            obtain ⟨rfl, rfl⟩ := h
            obtain ⟨fn, h1, h2, h3⟩ := hE.en _ hen
            have rx := ev_rel hT hg hx
            generalize hvx : a.eval x = vx at rx
            cases rx with
            | f _ _ _ fs cs l1 l2 r1 r2 =>
              refine ⟨fs.toList ++ (c'.args.map a.eval).toList ++ cs.toList, ?_, (Rels.append ?_ (by simpa using ras)).append ?_⟩
              · have e : (fs.toList ++ (c'.args.map a.eval).toList ++ cs.toList).toArray = fs ++ c'.args.map a.eval ++ cs := by apply Array.ext'; simp
                rw [e]
                have hb : fn.body.isNone = false := by rw [Option.isNone_eq_false_iff]; exact h2
                simp only [execOp, resolve, hcal, hvx, Deferred.ofValue, Sem.run_bind, Sem.run_pure, Result.andThen_ok, invoke, callFunc, run_program, h1, h3, hb, Bool.false_eq_true, if_false]
              · exact ⟨by simpa using l1, fun i a v ha hv => r1 i a v ha (by simpa using hv)⟩
              · exact ⟨by simpa using l2, fun i a v ha hv => r2 i a v ha (by simpa using hv)⟩
          · cases h
      · cases h
    · cases h
    · split at h
      · simp only [Option.bind_eq_some_iff] at h
        obtain ⟨u, _, h⟩ := h
        split at h
        · split at h
          · simp only [Option.bind_eq_some_iff] at h
            obtain ⟨T, _, h⟩ := h
            split at h <;> cases h
          · cases h
        · exact no h
      · exact no h
      · exact no h
      · simp only [Option.bind_eq_some_iff] at h
        obtain ⟨u, hu, z, hz, Z, hZ, h⟩ := h
        split at h
        · cases h
        · simp only [Option.map_eq_some_iff, reduceCtorEq, and_false, exists_false] at h
      · cases h
  case pick x y z => split at h <;> first | exact no h | cases h
  case alloc t => simp only [Option.map_eq_some_iff, reduceCtorEq, and_false, exists_false] at h
  case box t x =>
    simp only [Option.bind_eq_some_iff] at h
    obtain ⟨b, hb, h⟩ := h
    split at h <;> simp at h
  case build t ps =>
    simp only [Option.bind_eq_some_iff] at h
    obtain ⟨T, _, l, _, h⟩ := h
    split at h
    · simp only [Option.bind_eq_some_iff] at h
      obtain ⟨_, _, h⟩ := h
      exact no h
    · simp only [Option.bind_eq_some_iff] at h
      obtain ⟨_, _, h⟩ := h
      exact no h
    · cases h
  case buildSlice t n ps =>
    simp only [Option.bind_eq_some_iff] at h
    obtain ⟨T, hTi, l, hl, h⟩ := h
    split at h
    · simp only [Option.bind_eq_some_iff] at h
      obtain ⟨F, _, h⟩ := h
      split at h
      · cases h
      · simp only [Option.map_eq_some_iff] at h
        obtain ⟨cs, _, h⟩ := h
        split at h <;> cases h
    · cases h
  case load t x =>
    simp only [Option.bind_eq_some_iff] at h
    obtain ⟨b, _, T, _, h⟩ := h
    cases b <;> simp only [reduceCtorEq] at h
    · split at h
      · simp at h
      · cases h
    · exact no h
  case store t x y =>
    simp only [Option.bind_eq_some_iff] at h
    obtain ⟨b, _, d, _, T, _, h⟩ := h
    cases b <;> simp only [reduceCtorEq] at h
    split at h
    · split at h
      · simp at h
      · cases h
    · cases h
  case nilCheck x => split at h <;> first | exact no h | cases h
  case binOp op t x y u =>
    simp only [Option.bind_eq_some_iff] at h
    obtain ⟨_, _, _, _, h⟩ := h
    exact no h
  case unOp op t x =>
    simp only [Option.bind_eq_some_iff] at h
    obtain ⟨_, _, h⟩ := h
    exact no h
  case convert s d x =>
    simp only [Option.bind_eq_some_iff] at h
    obtain ⟨b, hb, D, hD, h⟩ := h
    split at h
    · simp only [Option.bind_eq_some_iff] at h
      obtain ⟨S, _, F, _, h⟩ := h
      split at h
      · split at h <;> cases h
      · cases h
    · simp only [Option.bind_eq_some_iff] at h
      obtain ⟨S, _, h⟩ := h
      split at h
      · simp only [Option.bind_eq_some_iff] at h
        obtain ⟨F, _, h⟩ := h
        split at h
        · exact no h
        · cases h
      · cases h
    · simp only [Option.bind_eq_some_iff] at h
      obtain ⟨S, _, h⟩ := h
      split at h
      · simp only [Option.bind_eq_some_iff] at h
        obtain ⟨F, _, h⟩ := h
        split at h
        · split at h
          · exact no h
          · cases h
        · cases h
      · cases h
    · exact no h
  case makeInterface t x =>
    simp only [Option.bind_eq_some_iff] at h
    obtain ⟨_, _, _, _, h⟩ := h
    split at h
    · cases h
    · exact no h
  case makeFunc fn first cap =>
    simp only [Option.bind_eq_some_iff] at h
    obtain ⟨_, _, _, _, h⟩ := h
    exact no h
  case makeMap t r => cases r <;> simp at h
  case makeSlice t x y =>
    simp only [Option.bind_eq_some_iff] at h
    obtain ⟨T, hTi, h⟩ := h
    split at h
    · simp only [Option.bind_eq_some_iff] at h
      obtain ⟨F, _, h⟩ := h
      split at h
      · split at h <;> simp at h
      · cases h
    · cases h
  case slice t x lo hi mx =>
    simp only [Option.bind_eq_some_iff] at h
    obtain ⟨_, _, _, _, _, _, _, _, _, _, h⟩ := h
    exact no h
  case fieldAddr t x k =>
    simp only [Option.bind_eq_some_iff] at h
    obtain ⟨b, _, ⟨off, F⟩, _, h⟩ := h
    simp only at h
    split at h
    · cases h
    · cases b <;> simp only [reduceCtorEq] at h <;> exact no h
  case field t x k =>
    simp only [Option.bind_eq_some_iff] at h
    obtain ⟨b, _, ⟨off, F⟩, _, h⟩ := h
    cases b <;> simp only [reduceCtorEq] at h
    exact no h
  case indexAddr t x y =>
    simp only [Option.bind_eq_some_iff] at h
    obtain ⟨_, _, _, _, _, _, h⟩ := h
    exact no h
  case index t x y =>
    simp only [Option.bind_eq_some_iff] at h
    obtain ⟨_, _, _, _, _, _, h⟩ := h
    exact no h
  case lookup t x y ok =>
    simp only [Option.bind_eq_some_iff] at h
    obtain ⟨b, _, k, _, T, _, h⟩ := h
    split at h
    · simp only [Option.bind_eq_some_iff] at h
      obtain ⟨_, _, _, _, _, _, ⟨rd', es⟩, _, h⟩ := h
      simp only at h
      split at h
      · split at h <;> cases h
      · cases h
    · cases h
  case mapUpdate t x y z =>
    simp only [Option.bind_eq_some_iff] at h
    obtain ⟨b, hb, k, hk, d, hd, T, hTi, h⟩ := h
    split at h
    · simp only [Option.bind_eq_some_iff] at h
      obtain ⟨K, _, h⟩ := h
      split at h
      · split at h
        · split at h <;> cases h
        · cases h
      · cases h
    · cases h
  case typeAssert x xt t ok =>
    simp only [Option.bind_eq_some_iff] at h
    obtain ⟨_, _, _, _, _, _, h⟩ := h
    split at h
    · cases h
    · exact no h
  case extract x k =>
    simp only [Option.bind_eq_some_iff] at h
    obtain ⟨b, _, h⟩ := h
    cases b <;> simp only [reduceCtorEq] at h
    exact no h

end
end Go.VV
