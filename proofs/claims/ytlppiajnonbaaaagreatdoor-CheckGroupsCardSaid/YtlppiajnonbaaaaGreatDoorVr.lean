/- One operation, in whatever order it comes; a region whose order is fixed. -/
import Derived.Test.YtlppiajnonbaaaaGreatDoorVq
set_option linter.unusedVariables false
set_option linter.unusedSimpArgs false
namespace Go.VV
section
variable {P : Program} {G : Nat} {ρ ρ1 ρ2 : Gh} {w w1 w2 : World} {E : Env}

theorem rel_bool {a : A} {v : Value} (h : Rel G ρ w a v) (b : Bool) : (a = .b b) ↔ (v = .bool b) := by
  cases h <;> simp

theorem wanted_eq {ops : Array Oper} {tm : Tm} {a : Act} (hT : TmR G ρ w tm a) (o : Oper) : Region.wanted o (yielded ops a.tmps) = wantedA ops tm o := by
  unfold Region.wanted wantedA
  cases hg : o.guard with
  | none => rfl
  | some x =>
    obtain ⟨j, want⟩ := x
    simp only
    unfold yielded
    cases hd : (ops[j]?).bind (·.dst) with
    | none => rfl
    | some d =>
      simp only [Option.bind_some]
      rw [← hT.size]
      by_cases hlt : d < a.tmps.size
      · have hr := hT.rel d
        rw [Array.getD_eq_getD_getElem?, Array.getElem?_eq_getElem hlt] at hr
        simp only [Option.getD_some] at hr
        rw [Array.getElem?_eq_getElem hlt]
        generalize a.tmps[d] = v at hr
        generalize tm.get d = x at hr
        simp only [hlt, decide_true, Bool.true_and]
        cases hr <;> simp
      · rw [Array.getElem?_eq_none (Nat.le_of_not_lt hlt)]
        simp [hlt]

/-- One operation, from a store that stands for memory as far as is asked. -/
theorem one_wp (hE : EnvOk P E) {pol : Pol} {ck : CK} (hck : Sound P G E ck) {ops : Array Oper} {o : Oper} {tm tm' : Tm} {σ σ' : St} {rd : Option Nat} (h : oneOp E pol ck ops o tm σ = some (rd, tm', σ')) {i : Nat} (hi : ops[i]? = some o) {a : Act}
    (hT : TmR G ρ w tm a) (hwf : Wf σ) (hs : Sim G E ρ σ.get w) (hf : Free ρ σ.nx σ'.nx) {Q : Exit → Act → World → Prop} {K : Act → World → Prop}
    (hK : ∀ ρ' w' v x, Post G E ρ σ w ρ' σ' w' → Rel G ρ' w' x v → tm' = tm.put o.dst x → tm.fits o.dst = true → K (a.put o.dst v) w') : wpOp P ops Q i K a w := by
  unfold oneOp at h
  split at h
  case isFalse => cases h
  rename_i hfit
  unfold wpOp
  simp only [hi, wanted_eq hT o]
  split at h
  · rename_i hw
    simp only [hw, if_true]
    refine .inl ?_
    unfold Oper.wp
    split at h
    · rename_i rd' c hop
      simp only [Option.some.injEq, Prod.mk.injEq] at h
      obtain ⟨rfl, rfl, rfl⟩ := h
      obtain ⟨v, hv, hr⟩ := op_val (P := P) hE hT hs.gl hop (fun l blk ob _ h2 h3 => hs.obj l blk ob h2 h3)
      rw [hv]
      exact hK ρ w v c (Post.refl hs) hr rfl hfit
    · rename_i c ob hop
      simp only [Option.some.injEq, Prod.mk.injEq] at h
      obtain ⟨rfl, rfl, rfl⟩ := h
      obtain ⟨f1, f2⟩ := hf σ.nx (Nat.le_refl _) (by simp [St.nx_new])
      obtain ⟨v, w', ρ', hv, hr, r2, r3, r4⟩ := op_new (P := P) hE hs hT hop f1 f2
      rw [hv]
      exact hK ρ' w' v c ⟨r2, by rw [new_eq]; exact r3, by simpa [St.nx_new] using r4⟩ hr rfl hfit
    · rename_i c σ1 hop
      simp only [Option.some.injEq, Prod.mk.injEq] at h
      obtain ⟨rfl, rfl, rfl⟩ := h
      obtain ⟨r, w', ρ', v, hv, hrv, hr, r2, r3, r4⟩ := op_eff (P := P) hE hs (fun hlt => hf σ.nx (Nat.le_refl _) hlt) hT hop
      rw [hv]
      rcases hrv with rfl | ⟨rfl, rfl⟩
      · exact hK ρ' w' v c ⟨r2, r3, r4⟩ hr rfl hfit
      · exact hK ρ' w' _ c ⟨r2, r3, r4⟩ hr rfl hfit
    · rename_i f args hop
      simp only [Option.map_eq_some_iff, Prod.exists, Prod.mk.injEq] at h
      obtain ⟨c, σ1, hc, rfl, rfl, rfl⟩ := h
      obtain ⟨vs, hv, hrs⟩ := op_call (P := P) hE hT hs.gl hop
      rw [hv]
      have := (hck f args σ c _ hc).2 ρ w vs hwf hs hf hrs
      simp only [Oper.upon]
      refine this.mono ?_
      rintro e w' ⟨v, ρ', rfl, hr, hp⟩
      exact hK ρ' w' v c hp hr rfl hfit
    · cases h
  · rename_i hw
    simp only [Option.some.injEq, Prod.mk.injEq] at h
    obtain ⟨rfl, rfl, rfl⟩ := h
    simp only [hw, if_false, Bool.false_eq_true]
    exact hK ρ w undef un (Post.refl hs) Rel.un rfl hfit

theorem one_ord {pol : Pol} {ck : CK} (hck : Sound P G E ck) {ops : Array Oper} {o : Oper} {tm tm' : Tm} {σ σ' : St} {rd : Option Nat} (h : oneOp E pol ck ops o tm σ = some (rd, tm', σ')) : Ord σ σ' := by
  unfold oneOp at h
  split at h
  case isFalse => cases h
  split at h
  · split at h
    · simp only [Option.some.injEq, Prod.mk.injEq] at h
      rw [← h.2.2]
      exact Ord.refl _
    · simp only [Option.some.injEq, Prod.mk.injEq] at h
      rw [← h.2.2]
      exact ord_new _ _
    · rename_i hop
      simp only [Option.some.injEq, Prod.mk.injEq] at h
      rw [← h.2.2]
      exact eff_ord hop
    · simp only [Option.map_eq_some_iff, Prod.exists, Prod.mk.injEq] at h
      obtain ⟨c, σ1, hc, _, _, rfl⟩ := h
      exact (hck _ _ _ _ _ hc).1
    · cases h
  · simp only [Option.some.injEq, Prod.mk.injEq] at h
    rw [← h.2.2]
    exact Ord.refl _

theorem put_defers (a : Act) (d : Option Tmp) (v : Value) : (a.put d v).defers = a.defers := by cases d <;> rfl

theorem seq_ord {pol : Pol} {ck : CK} (hck : Sound P G E ck) {ops : Array Oper} : ∀ {l : List Oper} {tm tm' : Tm} {σ σ' : St}, runSeq E pol ck ops l tm σ = some (tm', σ') → Ord σ σ' := by
  intro l
  induction l with
  | nil => intro tm tm' σ σ' h; simp [runSeq] at h; rw [← h.2]; exact Ord.refl _
  | cons o l ih =>
    intro tm tm' σ σ' h
    simp only [runSeq, Option.bind_eq_some_iff, Prod.exists] at h
    obtain ⟨rd, tm1, σ1, h1, h2⟩ := h
    exact (one_ord hck h1).trans (ih h2)

theorem seq_wp (hE : EnvOk P E) {pol : Pol} {ck : CK} (hck : Sound P G E ck) {ops : Array Oper} {Q : Exit → Act → World → Prop} : ∀ (l : List Oper) (k : Nat) (tm tm' : Tm) (σ σ' : St) (ρ : Gh) (w : World) (a : Act), ops.toList.drop k = l →
    runSeq E pol ck ops l tm σ = some (tm', σ') → TmR G ρ w tm a → Wf σ → Sim G E ρ σ.get w → Free ρ σ.nx σ'.nx →
    (∀ ρ' w' a', TmR G ρ' w' tm' a' → a'.defers = a.defers → Post G E ρ σ w ρ' σ' w' → Q .normal a' w') → wpOps P ops Q (List.range' k l.length) a w := by
  intro l
  induction l with
  | nil =>
    intro k tm tm' σ σ' ρ w a _ h hT _ hs _ hQ
    simp [runSeq] at h
    obtain ⟨rfl, rfl⟩ := h
    exact hQ ρ w a hT rfl (Post.refl hs)
  | cons o l ih =>
    intro k tm tm' σ σ' ρ w a hd h hT hwf hs hf hQ
    simp only [runSeq, Option.bind_eq_some_iff, Prod.exists] at h
    obtain ⟨rd, tm1, σ1, h1, h2⟩ := h
    have hi : ops[k]? = some o := by
      have : (ops.toList.drop k)[0]? = some o := by rw [hd]; rfl
      simpa using this
    have hd' : ops.toList.drop (k + 1) = l := by rw [← List.drop_drop, hd]; rfl
    have o1 := one_ord hck h1
    have o2 := seq_ord hck h2
    simp only [List.length_cons, List.range'_succ]
    rw [wpOps_cons]
    refine one_wp hE hck h1 hi hT hwf hs (hf.sub (Nat.le_refl _) o2.nx) ?_
    rintro ρ' w' v x hp hx rfl hfit
    refine ih (k + 1) _ _ _ _ ρ' w' _ hd' h2 ((hT.mono hp.ext).put hfit hx) (o1.wf hwf) hp.sim (hf.step hp.fr o1.nx) ?_
    intro ρ2 w2 a2 hT2 hdf hp2
    exact hQ ρ2 w2 a2 hT2 (hdf.trans (put_defers _ _ _)) (hp.trans hp2 o1 o2 (hf.sub (Nat.le_refl _) o2.nx))

end
end Go.VV
