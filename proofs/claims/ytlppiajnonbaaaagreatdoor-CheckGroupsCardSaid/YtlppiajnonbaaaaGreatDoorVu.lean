/- Regions that draw their order: whatever the draw, they come to what the text's order says. -/
import Derived.Test.YtlppiajnonbaaaaGreatDoorVt
set_option linter.unusedVariables false
set_option linter.unusedSimpArgs false
namespace Go.VV

section
variable {P : Program} {G : Nat} {ρ ρ' ρ0 : Gh} {w w' w0 : World} {E : Env} {pol : Pol} {ck : CK} {ops : Array Oper} {T : Nat → Tm} {S : Nat → St} {D : Nat → Option Nat} {L L' : Nat → Prop}

theorem get_put (tm : Tm) (d : Option Tmp) (x : A) (t : Nat) : (tm.put d x).get t = if d = some t then x else tm.get t := by
  cases d with
  | none => simp [Tm.put]
  | some d =>
    simp only [Tm.put, Tm.get, Tr.get_set, Option.some.injEq]
    by_cases h : t = d
    · simp [h]
    · rw [if_neg h, if_neg (fun e => h e.symm)]

theorem put_nt (tm : Tm) (d : Option Tmp) (x : A) : (tm.put d x).nt = tm.nt := by cases d <;> rfl

theorem one_put {tm tm' : Tm} {σ σ' : St} {o : Oper} {rd : Option Nat} (h : oneOp E pol ck ops o tm σ = some (rd, tm', σ')) : ∃ x, tm' = tm.put o.dst x := (oneOp_congr h rfl (fun _ _ => rfl)).imp fun _ h => h.1

structure Go (E : Env) (pol : Pol) (ck : CK) (ops : Array Oper) (T : Nat → Tm) (S : Nat → St) (D : Nat → Option Nat) : Prop extends Run E pol ck ops T S D where
  ord1 : ∀ i, i < ops.size → Ord (S i) (S (i + 1))
  wf0 : Wf (S 0)

theorem Go.at (h : Go E pol ck ops T S D) {i : Nat} (hi : i < ops.size) : ∃ o, ops[i]? = some o := ⟨ops[i], Array.getElem?_eq_getElem hi⟩

theorem lt_ops {i : Nat} {o : Oper} (h : ops[i]? = some o) : i < ops.size := (Array.getElem?_eq_some_iff.1 h).1

theorem Go.ord (h : Go E pol ck ops T S D) {i : Nat} : ∀ {j}, i ≤ j → j ≤ ops.size → Ord (S i) (S j) := by
  intro j
  induction j with
  | zero => intro h1 _; rw [Nat.le_zero.1 h1]; exact Ord.refl _
  | succ j ih =>
    intro h1 h2
    rcases Nat.lt_or_ge i (j + 1) with h3 | h3
    · exact (ih (by omega) (by omega)).trans (h.ord1 j (by omega))
    · rw [Nat.le_antisymm h1 h3]; exact Ord.refl _

theorem Go.wf (h : Go E pol ck ops T S D) {j : Nat} (hj : j ≤ ops.size) : Wf (S j) := (h.ord (Nat.zero_le j) hj).wf h.wf0

theorem Go.lt (h : Go E pol ck ops T S D) {j l : Nat} {ob : Ob} (hj : j ≤ ops.size) (hl : (S j).get l = some ob) : l < (S j).nx := h.wf hj l (by rw [hl]; simp)

theorem Go.none (h : Go E pol ck ops T S D) {j l : Nat} (hj : j ≤ ops.size) (hl : (S j).nx ≤ l) : (S j).get l = none := by
  cases hg : (S j).get l with
  | none => rfl
  | some ob => have := h.lt hj hg; omega

theorem Go.nt (h : Go E pol ck ops T S D) : ∀ {j}, j ≤ ops.size → (T j).nt = (T 0).nt := by
  intro j
  induction j with
  | zero => intro _; rfl
  | succ j ih =>
    intro hj
    obtain ⟨o, ho⟩ := h.at (i := j) (by omega)
    obtain ⟨x, hx⟩ := one_put (h.step j o ho)
    rw [hx, put_nt]
    exact ih (by omega)

/-- Two places of two operations: the operations are the same. -/
theorem Go.place (h : Go E pol ck ops T S D) {i i' l : Nat} (hi : i < ops.size) (hi' : i' < ops.size) (h1 : (S i).nx ≤ l) (h2 : l < (S (i + 1)).nx) (h3 : (S i').nx ≤ l) (h4 : l < (S (i' + 1)).nx) : i = i' := by
  rcases Nat.lt_trichotomy i i' with h5 | h5 | h5
  · have := (h.ord (i := i + 1) (j := i') h5 (by omega)).nx; omega
  · exact h5
  · have := (h.ord (i := i' + 1) (j := i) h5 (by omega)).nx; omega

/-- No one writes it in between. -/
theorem Go.noW (h : Go E pol ck ops T S D) {t a : Nat} : ∀ {b}, a ≤ b → b ≤ ops.size → (∀ i o, ops[i]? = some o → a ≤ i → i < b → o.dst ≠ some t) → (T b).get t = (T a).get t := by
  intro b
  induction b with
  | zero => intro h1 _ _; rw [Nat.le_zero.1 h1]
  | succ b ih =>
    intro h1 h2 h3
    rcases Nat.lt_or_ge a (b + 1) with h4 | h4
    · obtain ⟨o, ho⟩ := h.at (i := b) (by omega)
      obtain ⟨x, hx⟩ := one_put (h.step b o ho)
      rw [hx, get_put, if_neg (h3 b o ho (by omega) (by omega))]
      exact ih (by omega) (by omega) (fun i o ho h5 h6 => h3 i o ho h5 (by omega))
    · rw [Nat.le_antisymm h1 h4]

/-- From c to d what changes spares the place: it is as it was, or new. -/
theorem Go.keep (h : Go E pol ck ops T S D) {l c : Nat} : ∀ {d}, c ≤ d → d ≤ ops.size → (∀ i o, ops[i]? = some o → c ≤ i → i < d → stf o.op = true → (S i).get l = (S (i + 1)).get l) →
    (S d).get l = (S c).get l ∨ ∃ i o, ops[i]? = some o ∧ stf o.op = false ∧ c ≤ i ∧ i < d ∧ l = (S i).nx ∧ (S (i + 1)).get l = (S d).get l := by
  intro d
  induction d with
  | zero => intro h1 _ _; rw [Nat.le_zero.1 h1]; exact .inl rfl
  | succ d ih =>
    intro h1 h2 h3
    rcases Nat.lt_or_ge c (d + 1) with h4 | h4
    · obtain ⟨o, ho⟩ := h.at (i := d) (by omega)
      have step : (S (d + 1)).get l = (S d).get l → ((S (d + 1)).get l = (S c).get l ∨ ∃ i o, ops[i]? = some o ∧ stf o.op = false ∧ c ≤ i ∧ i < d + 1 ∧ l = (S i).nx ∧ (S (i + 1)).get l = (S (d + 1)).get l) := by
        intro e
        rcases ih (by omega) (by omega) (fun i o ho h5 h6 => h3 i o ho h5 (by omega)) with h5 | ⟨i, p, h5, h6, h7, h8, h9, h10⟩
        · exact .inl (e.trans h5)
        · exact .inr ⟨i, p, h5, h6, h7, by omega, h9, h10.trans e.symm⟩
      cases hs : stf o.op with
      | true => exact step (h3 d o ho (by omega) (by omega) hs).symm
      | false =>
        rcases quiet_step (h.step d o ho) hs with h5 | ⟨ob, h5, _⟩
        · exact step (by rw [h5])
        · by_cases hl : l = (S d).nx
          · exact .inr ⟨d, o, ho, hs, by omega, by omega, hl, rfl⟩
          · exact step (by rw [h5, St.get_new, if_neg hl])
    · rw [Nat.le_antisymm h1 h4]; exact .inl rfl

theorem same_eq {l : Nat} {r : Rec} (h : same (some l) r = true) : r.σ.get l = r.σ'.get l := oeqb_eq h

/-- The executed ones that change are those below b. -/
def Cut (ops : Array Oper) (L : Nat → Prop) (b : Nat) : Prop := ∀ i o, ops[i]? = some o → stf o.op = true → (i < b ↔ L i)

/-- Both change: they are ordered. -/
theorem Go.chain (h : Go E pol ck ops T S D) {i j : Nat} {oi oj : Oper} (hij : i < j) (hi : ops[i]? = some oi) (hj : ops[j]? = some oj) (si : stf oi.op = true) (sj : stf oj.op = true) : ((Region.before ops).getD j 0).testBit i = true := by
  have := h.apart i j oi oj hij hi hj
  unfold apart at this
  simpa [si, sj] using this

theorem closed_bit (hL : Closed ops L) {i j : Nat} {o : Oper} (hi : ops[i]? = some o) (h : L i) (hb : ((Region.before ops).getD i 0).testBit j = true) : L j := before_spec ops L hL i o hi (fun e he hb => hL i o hi h e he hb) j hb

theorem Go.cut (h : Go E pol ck ops T S D) (hL : Closed ops L) : ∃ b, b ≤ ops.size ∧ Cut ops L b := by
  by_cases hall : ∀ i o, ops[i]? = some o → stf o.op = true → L i
  · exact ⟨ops.size, Nat.le_refl _, fun i o ho hs => ⟨fun _ => hall i o ho hs, fun _ => lt_ops ho⟩⟩
  · have hex : ∃ b, ∃ o, ops[b]? = some o ∧ stf o.op = true ∧ ¬L b := by
      apply Classical.byContradiction
      intro hn
      exact hall fun i o ho hs => Classical.byContradiction fun hl => hn ⟨i, o, ho, hs, hl⟩
    obtain ⟨b0, hb0⟩ := hex
    have hmin : ∃ b, (∃ o, ops[b]? = some o ∧ stf o.op = true ∧ ¬L b) ∧ ∀ i, i < b → ¬∃ o, ops[i]? = some o ∧ stf o.op = true ∧ ¬L i := by
      induction b0 using Nat.strongRecOn with
      | ind b0 ih =>
        by_cases hl : ∃ i, i < b0 ∧ ∃ o, ops[i]? = some o ∧ stf o.op = true ∧ ¬L i
        · obtain ⟨i, h1, h2⟩ := hl; exact ih i h1 h2
        · exact ⟨b0, hb0, fun i hi hc => hl ⟨i, hi, hc⟩⟩
    obtain ⟨b, ⟨o, ho, hs, hb⟩, hm⟩ := hmin
    refine ⟨b, Nat.le_of_lt (lt_ops ho), fun i p hp hps => ⟨fun hi => Classical.byContradiction fun hl => hm i hi ⟨p, hp, hps, hl⟩, fun hl => ?_⟩⟩
    rcases Nat.lt_trichotomy i b with h1 | h1 | h1
    · exact h1
    · subst h1; exact (hb hl).elim
    · exact (hb (closed_bit hL hp hl (h.chain h1 ho hp hs hps))).elim

structure Inv (G : Nat) (E : Env) (ops : Array Oper) (T : Nat → Tm) (S : Nat → St) (ρ0 : Gh) (w0 : World) (df : List Deferred) (L : Nat → Prop) (ρ : Gh) (w : World) (a : Act) : Prop where
  tms : ∃ TL : Tm, TmR G ρ w TL a ∧ TL.nt = (T 0).nt ∧ ∀ t k, k ≤ ops.size → (∀ i o, ops[i]? = some o → o.dst = some t → i < k → L i) → (∀ i o, ops[i]? = some o → o.dst = some t → k ≤ i → ¬L i) → TL.get t = (T k).get t
  sto : ∃ H, Sim G E ρ H w ∧ (∀ k ob, H k = some ob → (S 0).get k ≠ none ∨ ((S 0).nx ≤ k ∧ k < (S ops.size).nx)) ∧ (∀ k m, H k = some (.k m) → (S 0).get k = some (.k m) ∨ ((S 0).nx ≤ k ∧ k < (S ops.size).nx)) ∧
    ∀ b, b ≤ ops.size → Cut ops L b → ∀ l ob, dom ρ l → ((S b).get l = some ob → H l = some ob) ∧ (∀ i o, ops[i]? = some o → stf o.op = false → b ≤ i → L i → l = (S i).nx → (S (i + 1)).get l = some ob → H l = some ob)
  dm : ∀ l, dom ρ l → (S 0).nx ≤ l → l < (S ops.size).nx → ∃ i, i < ops.size ∧ L i ∧ (S i).nx ≤ l ∧ l < (S (i + 1)).nx
  ext : Ext ρ0 w0 ρ w
  fr : Fr ρ0 (S 0).get w0 (S 0).nx (S ops.size).nx ρ w
  df : a.defers = df

/-- One quiet operation, from whatever stands for what it reads. -/
theorem quiet_wp (hE : EnvOk P E) {o : Oper} {tm tm' : Tm} {σ σ' : St} {rd : Option Nat} {H : Nat → Option Ob} (h : oneOp E pol ck ops o tm σ = some (rd, tm', σ')) (hq : stf o.op = false) {i : Nat} (hi : ops[i]? = some o) {a : Act}
    (hT : TmR G ρ w tm a) (hs : Sim G E ρ H w) (hf : Free ρ σ.nx σ'.nx) (hrd : ∀ l blk ob, rd = some l → ρ.β l = some blk → σ.get l = some ob → H l = some ob) {Q : Exit → Act → World → Prop} {K : Act → World → Prop}
    (hK : ∀ ρ' w' v x, Ext ρ w ρ' w' → Rel G ρ' w' x v → tm' = tm.put o.dst x → tm.fits o.dst = true →
      ((σ' = σ ∧ ρ' = ρ ∧ w' = w) ∨ ∃ ob, σ' = σ.new ob ∧ rd = some σ.nx ∧ Sim G E ρ' (upd H σ.nx (some ob)) w' ∧ Fr ρ H w σ.nx (σ.nx + 1) ρ' w') → K (a.put o.dst v) w') : wpOp P ops Q i K a w := by
  unfold oneOp at h
  split at h
  case isFalse => cases h
  rename_i hfit
  unfold wpOp
  simp only [hi, wanted_eq hT o]
  split at h
  · rename_i hw
    simp only [hw, if_true]
    refine .inl ?_
    unfold Oper.wp
    split at h
    · rename_i rd' c hop
      simp only [Option.some.injEq, Prod.mk.injEq] at h
      obtain ⟨rfl, rfl, rfl⟩ := h
      obtain ⟨v, hv, hr⟩ := op_val (P := P) hE hT hs.gl hop (fun l blk ob h1 h2 h3 => hs.obj l blk ob h2 (hrd l blk ob h1 h2 h3))
      rw [hv]
      exact hK ρ w v c (Ext.refl _ _) hr rfl hfit (.inl ⟨rfl, rfl, rfl⟩)
    · rename_i c ob hop
      simp only [Option.some.injEq, Prod.mk.injEq] at h
      obtain ⟨rfl, rfl, rfl⟩ := h
      obtain ⟨f1, f2⟩ := hf σ.nx (Nat.le_refl _) (by simp [St.nx_new])
      obtain ⟨v, w', ρ', hv, hr, r2, r3, r4⟩ := op_new (P := P) hE hs hT hop f1 f2
      rw [hv]
      exact hK ρ' w' v c r2 hr rfl hfit (.inr ⟨ob, rfl, rfl, r3, r4⟩)
    · rename_i hop
      rcases quiet hop hq with ⟨_, _, h1⟩ | ⟨_, _, h1⟩ <;> cases h1
    · rename_i hop
      rcases quiet hop hq with ⟨_, _, h1⟩ | ⟨_, _, h1⟩ <;> cases h1
    · cases h
  · rename_i hw
    simp only [Option.some.injEq, Prod.mk.injEq] at h
    obtain ⟨rfl, rfl, rfl⟩ := h
    simp only [hw, if_false, Bool.false_eq_true]
    exact hK ρ w undef un (Ext.refl _ _) Rel.un rfl hfit (.inl ⟨rfl, rfl, rfl⟩)

/-- The temporaries behind one more operation. -/
theorem Go.tmsStep (h : Go E pol ck ops T S D) (hL : Closed ops L) {j : Nat} {o : Oper} (hj : ops[j]? = some o) (hjL : ¬L j) (hL' : ∀ i, L' i ↔ L i ∨ i = j) {TL : Tm} {x : A} (hx : T (j + 1) = (T j).put o.dst x)
    (ht : ∀ t k, k ≤ ops.size → (∀ i o, ops[i]? = some o → o.dst = some t → i < k → L i) → (∀ i o, ops[i]? = some o → o.dst = some t → k ≤ i → ¬L i) → TL.get t = (T k).get t) :
    ∀ t k, k ≤ ops.size → (∀ i o, ops[i]? = some o → o.dst = some t → i < k → L' i) → (∀ i o, ops[i]? = some o → o.dst = some t → k ≤ i → ¬L' i) → (TL.put o.dst x).get t = (T k).get t := by
  intro t k hk h1 h2
  rw [get_put]
  split
  · rename_i hd
    have hjk : j < k := by
      rcases Nat.lt_or_ge j k with h3 | h3
      · exact h3
      · exact (h2 j o hj hd h3 ((hL' j).2 (.inr rfl))).elim
    rw [h.noW (a := j + 1) (b := k) hjk hk (fun i p hp h3 h4 h5 => ?_), hx, get_put, if_pos hd]
    have hi : L i := by
      rcases (hL' i).1 (h1 i p hp h5 h4) with h6 | h6
      · exact h6
      · omega
    rcases h.names j o hj t (by simp [namesOf, hd]) i p hp h5 with h6 | h6
    · omega
    · rw [Nat.max_eq_left (by omega), Nat.min_eq_right (by omega)] at h6
      exact hjL (closed_bit hL hp hi h6)
  · rename_i hd
    refine ht t k hk (fun i p hp h3 h4 => ?_) (fun i p hp h3 h4 h5 => h2 i p hp h3 h4 ((hL' i).2 (.inl h5)))
    rcases (hL' i).1 (h1 i p hp h3 h4) with h6 | h6
    · exact h6
    · subst h6
      rw [hj] at hp
      cases hp
      exact (hd h3).elim

theorem Go.freeAt (h : Go E pol ck ops T S D) {j : Nat} (hj : j < ops.size) (hjL : ¬L j) (dm : ∀ l, dom ρ l → (S 0).nx ≤ l → l < (S ops.size).nx → ∃ i, i < ops.size ∧ L i ∧ (S i).nx ≤ l ∧ l < (S (i + 1)).nx) : Free ρ (S j).nx (S (j + 1)).nx := by
  have hd : ∀ k, (S j).nx ≤ k → k < (S (j + 1)).nx → ¬dom ρ k := by
    intro k h1 h2 hk
    have e1 := (h.ord (Nat.zero_le j) (by omega)).nx
    have e2 := (h.ord (i := j + 1) (j := ops.size) hj (Nat.le_refl _)).nx
    obtain ⟨i, hi, hiL, h3, h4⟩ := dm k hk (by omega) (by omega)
    have := h.place hi hj h3 h4 h1 h2
    subst this
    exact hjL hiL
  intro k h1 h2
  have := hd k h1 h2
  unfold dom at this
  simpa using this

theorem Go.step_wp (h : Go E pol ck ops T S D) (hE : EnvOk P E) (hck : Sound P G E ck) {df : List Deferred} (hfree : Free ρ0 (S 0).nx (S ops.size).nx) (hL : Closed ops L) {a : Act} (hI : Inv G E ops T S ρ0 w0 df L ρ w a) {j : Nat} {o : Oper} (hj : ops[j]? = some o) (hjL : ¬L j)
    (hrdy : ∀ e ∈ o.after, Region.binds .any e = true → L e.on) (hL' : ∀ i, L' i ↔ L i ∨ i = j) {Q : Exit → Act → World → Prop} {K : Act → World → Prop} (hK : ∀ ρ' w' a', Inv G E ops T S ρ0 w0 df L' ρ' w' a' → K a' w') : wpOp P ops Q j K a w := by
  have hjn := lt_ops hj
  obtain ⟨TL, hTL, hnt, htms⟩ := hI.tms
  obtain ⟨H, hs, hold, htok, hH⟩ := hI.sto
  have bitL : ∀ i, ((Region.before ops).getD j 0).testBit i = true → L i := before_spec ops L hL j o hj hrdy
  have names : ∀ t ∈ namesOf ops o, (T j).get t = TL.get t := by
    intro t ht
    refine (htms t j (Nat.le_of_lt hjn) (fun i p hp hd hi => ?_) (fun i p hp hd hi hiL => ?_)).symm
    · rcases h.names j o hj t ht i p hp hd with h1 | h1
      · omega
      · rw [Nat.max_eq_right (by omega), Nat.min_eq_left (by omega)] at h1
        exact bitL i h1
    · rcases h.names j o hj t ht i p hp hd with h1 | h1
      · exact hjL (h1 ▸ hiL)
      · rcases Nat.lt_or_ge j i with h2 | h2
        · rw [Nat.max_eq_left (by omega), Nat.min_eq_right (by omega)] at h1
          exact hjL (closed_bit hL hp hiL h1)
        · exact hjL ((Nat.le_antisymm h2 hi) ▸ hiL)
  obtain ⟨x0, hx0, hone⟩ := oneOp_congr (h.step j o hj) ((h.nt (Nat.le_of_lt hjn)).trans hnt.symm) names
  have hfr := h.freeAt hjn hjL hI.dm
  have o1 := h.ord1 j hjn
  have oj := h.ord (Nat.zero_le j) (Nat.le_of_lt hjn)
  have on := h.ord (i := j + 1) (j := ops.size) hjn (Nat.le_refl _)
  have l1 := oj.nx
  have l2 := on.nx
  have l3 := o1.nx
  have ordL : ∀ i p, ops[i]? = some p → j < i → L i → ((Region.before ops).getD i 0).testBit j = false := by
    intro i p hp hij hiL
    cases hb : ((Region.before ops).getD i 0).testBit j with
    | false => rfl
    | true => exact (hjL (closed_bit hL hp hiL hb)).elim
  have inL : ∀ {ρ1 : Gh} {i l : Nat} {p : Oper} {ob : Ob}, (∀ l, dom ρ1 l → (S 0).nx ≤ l → l < (S ops.size).nx → ∃ i, i < ops.size ∧ L i ∧ (S i).nx ≤ l ∧ l < (S (i + 1)).nx) → ops[i]? = some p → l = (S i).nx → (S (i + 1)).get l = some ob → dom ρ1 l → L i := by
    intro ρ1 i l p ob hdm hp hl hg hd
    have hin := lt_ops hp
    have h1 := h.lt (j := i + 1) hin hg
    have e1 := (h.ord (Nat.zero_le i) (by omega)).nx
    have e2 := (h.ord (i := i + 1) (j := ops.size) hin (Nat.le_refl _)).nx
    obtain ⟨i', hi', hiL, h3, h4⟩ := hdm l hd (by omega) (by omega)
    have := h.place hi' hin h3 h4 (by omega) h1
    subst this
    exact hiL
  cases hq : stf o.op with
  | true =>
    have hcut : Cut ops L j := by
      intro i p hp hps
      refine ⟨fun hi => bitL i (h.chain hi hp hj hps hq), fun hiL => ?_⟩
      rcases Nat.lt_trichotomy i j with h1 | h1 | h1
      · exact h1
      · exact (hjL (h1 ▸ hiL)).elim
      · have := ordL i p hp h1 hiL
        rw [h.chain h1 hj hp hq hps] at this
        cases this
    have hsub : Sim G E ρ (S j).get w := hs.subD fun k ob hd hk => (hH j (Nat.le_of_lt hjn) hcut k ob hd).1 hk
    refine one_wp hE hck hone hj hTL (h.wf (Nat.le_of_lt hjn)) hsub hfr ?_
    intro ρ' w' v x hp hx htm hfit
    have hxx : ∀ t, ((T j).put o.dst x).get t = ((T j).put o.dst x0).get t := by
      intro t
      have := congrArg (fun z => z.get t) htm
      simp only [get_put] at this ⊢
      split
      · rename_i hd; rw [if_pos hd, if_pos hd] at this; exact this.symm
      · rfl
    have domOld : ∀ l, dom ρ' l → dom ρ l ∨ ((S j).nx ≤ l ∧ l < (S (j + 1)).nx) := by
      intro l hd
      rcases hd with hd | hd
      · obtain ⟨b, hb⟩ := Option.ne_none_iff_exists'.1 hd
        rcases hp.fr.β l b hb with h1 | ⟨h1, h2, _⟩
        · exact .inl (dom_β h1)
        · exact .inr ⟨h1, h2⟩
      · obtain ⟨⟨b, base⟩, hb⟩ := Option.ne_none_iff_exists'.1 hd
        rcases hp.fr.tk l b base hb with h1 | ⟨h1, h2, _⟩
        · exact .inl (dom_tk h1)
        · exact .inr ⟨h1, h2⟩
    refine hK ρ' w' _ ⟨⟨TL.put o.dst x0, ?_, by rw [put_nt]; exact hnt, h.tmsStep hL hj hjL hL' hx0 htms⟩, ⟨glue (S (j + 1)).get (S j).get H (S j).nx (S (j + 1)).nx, ?_, fun k ob hk => ?_, fun k m hk => ?_, fun b hb hc l ob hd => ⟨fun hg => ?_, fun i p hpi hqi hbi hiL hl hg => ?_⟩⟩, fun l hd h1 h2 => ?_,
      hI.ext.trans hp.ext, ?_, (put_defers _ _ _).trans hI.df⟩
    · rw [htm]; exact (hTL.mono hp.ext).put hfit hx
    · exact hs.frame (fun k ob hd hk => (hH j (Nat.le_of_lt hjn) hcut k ob hd).1 hk) hp.ext hp.sim hp.fr o1.tok hfr (fun k ob _ hk => glue_cases hk)
    · rcases glue_cases hk with h1 | ⟨h1, _, _⟩
      · rcases (oj.trans o1).old k (by rw [h1]; simp) with h2 | ⟨h2, h3⟩
        · exact .inl h2
        · exact .inr ⟨h2, Nat.lt_of_lt_of_le h3 l2⟩
      · exact hold k ob h1
    · rcases glue_cases hk with h1 | ⟨h1, _, _⟩
      · rcases (oj.trans o1).tok k m h1 with h2 | ⟨h2, h3⟩
        · exact .inl h2
        · exact .inr ⟨h2, Nat.lt_of_lt_of_le h3 l2⟩
      · exact htok k m h1
    · have hjb : j < b := (hc j o hj hq).2 ((hL' j).2 (.inr rfl))
      have hno : ∀ i p, ops[i]? = some p → j + 1 ≤ i → i < b → stf p.op = true → (S i).get l = (S (i + 1)).get l := by
        intro i p hpi h3 h4 hps
        exfalso
        rcases (hL' i).1 ((hc i p hpi hps).1 h4) with h9 | h9
        · have := (hcut i p hpi hps).2 h9; omega
        · omega
      rcases h.keep (l := l) (c := j + 1) (d := b) hjb hb hno with h5 | ⟨i, p, hpi, hqi, h5, h6, h7, h8⟩
      · exact glue_l (h5 ▸ hg)
      · have hin := lt_ops hpi
        have hnj := (h.ord (i := j + 1) (j := i) h5 (Nat.le_of_lt hin)).nx
        rw [hg] at h8
        have hdl : dom ρ l := by
          rcases domOld l hd with h9 | ⟨h9, h10⟩
          · exact h9
          · omega
        exact glue_r (h.none hjn (by omega)) (h.none (Nat.le_of_lt hjn) (by omega)) (by omega) ((hH j (Nat.le_of_lt hjn) hcut l ob hdl).2 i p hpi hqi (by omega) (inL hI.dm hpi h7 h8 hdl) h7 h8)
    · have hjb : j < b := (hc j o hj hq).2 ((hL' j).2 (.inr rfl))
      have hin := lt_ops hpi
      have hnj := (h.ord (i := j + 1) (j := i) (by omega) (Nat.le_of_lt hin)).nx
      have hdl : dom ρ l := by
        rcases domOld l hd with h9 | ⟨h9, h10⟩
        · exact h9
        · omega
      exact glue_r (h.none hjn (by omega)) (h.none (Nat.le_of_lt hjn) (by omega)) (by omega) ((hH j (Nat.le_of_lt hjn) hcut l ob hdl).2 i p hpi hqi (by omega) (inL hI.dm hpi hl hg hdl) hl hg)
    · rcases domOld l hd with h3 | ⟨h3, h4⟩
      · obtain ⟨i, h4, h5, h6⟩ := hI.dm l h3 h1 h2
        exact ⟨i, h4, (hL' i).2 (.inl h5), h6⟩
      · exact ⟨j, hjn, (hL' j).2 (.inr rfl), h3, h4⟩
    · refine hI.fr.comp hp.fr l1 l2 (fun k ob hk => ?_) (fun k m hk => ?_) hfree
      · rcases oj.old k (by rw [hk]; simp) with h2 | ⟨h2, h3⟩
        · exact .inl h2
        · exact .inr ⟨h2, by omega⟩
      · rcases oj.tok k m hk with h2 | ⟨h2, h3⟩
        · exact .inl h2
        · exact .inr ⟨h2, by omega⟩
  | false =>
    have hnotj : ∀ i p, ops[i]? = some p → stf p.op = true → i ≠ j := by
      intro i p hp hps e
      subst e
      rw [hj] at hp
      cases hp
      rw [hq] at hps
      cases hps
    have cutL : ∀ b, Cut ops L' b → Cut ops L b := by
      intro b hc i p hp hps
      rw [hc i p hp hps, hL' i]
      exact ⟨fun h1 => h1.resolve_right (hnotj i p hp hps), .inl⟩
    have late : ∀ (l b : Nat), D j = some l → j < b → b ≤ ops.size → Cut ops L b → ∀ i p, ops[i]? = some p → j ≤ i → i < b → stf p.op = true → (S i).get l = (S (i + 1)).get l := by
      intro l b hl _ _ hc i p hp h1 h2 hps
      have hij : j < i := Nat.lt_of_le_of_ne h1 (fun e => hnotj i p hp hps e.symm)
      have := h.apart j i o p hij hj hp
      unfold apart at this
      simp only [ordL i p hp hij ((hc i p hp hps).1 h2), hq, hps, hl, Bool.false_or, Bool.false_eq_true, if_false, if_true] at this
      exact same_eq this
    have hrd : ∀ l blk ob, D j = some l → ρ.β l = some blk → (S j).get l = some ob → H l = some ob := by
      intro l blk ob hl hβ hg
      obtain ⟨b, hb, hc⟩ := h.cut hL
      have hdl := dom_β hβ
      rcases Nat.lt_or_ge j b with h1 | h1
      · rcases h.keep (l := l) (c := j) (d := b) (Nat.le_of_lt h1) hb (late l b hl h1 hb hc) with h2 | ⟨i, p, hpi, _, h2, _, h4, _⟩
        · exact (hH b hb hc l ob hdl).1 (h2.trans hg)
        · have := h.lt (Nat.le_of_lt hjn) hg
          have := (h.ord (i := j) (j := i) h2 (Nat.le_of_lt (lt_ops hpi))).nx
          omega
      · have hkp : ∀ i p, ops[i]? = some p → b ≤ i → i < j → stf p.op = true → (S i).get l = (S (i + 1)).get l := by
          intro i p hp h3 h4 hps
          have hnL : ¬L i := fun hiL => by have := (hc i p hp hps).2 hiL; omega
          have hbit : ((Region.before ops).getD j 0).testBit i = false := by
            cases hb : ((Region.before ops).getD j 0).testBit i with
            | false => rfl
            | true => exact (hnL (bitL i hb)).elim
          have := h.apart i j p o h4 hp hj
          unfold apart at this
          simp only [hbit, hq, hps, hl, Bool.false_or, Bool.not_false, Bool.true_and, if_true] at this
          exact same_eq this
        rcases h.keep (l := l) (c := b) (d := j) h1 (Nat.le_of_lt hjn) hkp with h2 | ⟨i, p, hpi, hqi, h2, h3, h4, h5⟩
        · exact (hH b hb hc l ob hdl).1 (h2 ▸ hg)
        · rw [hg] at h5
          exact (hH b hb hc l ob hdl).2 i p hpi hqi h2 (inL hI.dm hpi h4 h5 hdl) h4 h5
    refine quiet_wp hE hone hq hj hTL hs hfr hrd ?_
    intro ρ' w' v x he hx htm hfit hcase
    have hTM : ∃ TL' : Tm, TmR G ρ' w' TL' (a.put o.dst v) ∧ TL'.nt = (T 0).nt ∧ ∀ t k, k ≤ ops.size → (∀ i o, ops[i]? = some o → o.dst = some t → i < k → L' i) → (∀ i o, ops[i]? = some o → o.dst = some t → k ≤ i → ¬L' i) → TL'.get t = (T k).get t :=
      ⟨TL.put o.dst x0, by rw [htm]; exact (hTL.mono he).put hfit hx, by rw [put_nt]; exact hnt, h.tmsStep hL hj hjL hL' hx0 htms⟩
    rcases hcase with ⟨hσ, rfl, rfl⟩ | ⟨ob0, hσ, hrd0, hs', hfr'⟩
    · refine hK ρ' w' _ ⟨hTM, ⟨H, hs, hold, htok, fun b hb hc l ob hd => ⟨(hH b hb (cutL b hc) l ob hd).1, fun i p hpi hqi hbi hiL hl hg => ?_⟩⟩, fun l hd h1 h2 => ?_, hI.ext, hI.fr, (put_defers _ _ _).trans hI.df⟩
      · rcases (hL' i).1 hiL with h1 | rfl
        · exact (hH b hb (cutL b hc) l ob hd).2 i p hpi hqi hbi h1 hl hg
        · rw [hσ, h.none (Nat.le_of_lt hjn) (by omega)] at hg
          cases hg
      · obtain ⟨i, h4, h5, h6⟩ := hI.dm l hd h1 h2
        exact ⟨i, h4, (hL' i).2 (.inl h5), h6⟩
    · have hnx : (S (j + 1)).nx = (S j).nx + 1 := by rw [hσ, St.nx_new]
      have hob0 : (S (j + 1)).get (S j).nx = some ob0 := by rw [hσ, St.get_new, if_pos rfl]
      have domOld : ∀ l, dom ρ' l → dom ρ l ∨ l = (S j).nx := by
        intro l hd
        rcases hd with hd | hd
        · obtain ⟨b, hb⟩ := Option.ne_none_iff_exists'.1 hd
          rcases hfr'.β l b hb with h1 | ⟨h1, h2, _⟩
          · exact .inl (dom_β h1)
          · exact .inr (by omega)
        · obtain ⟨⟨b, base⟩, hb⟩ := Option.ne_none_iff_exists'.1 hd
          rcases hfr'.tk l b base hb with h1 | ⟨h1, h2, _⟩
          · exact .inl (dom_tk h1)
          · exact .inr (by omega)
      refine hK ρ' w' _ ⟨hTM, ⟨upd H (S j).nx (some ob0), hs', fun k ob hk => ?_, fun k m hk => ?_, fun b hb hc l ob hd => ⟨fun hg => ?_, fun i p hpi hqi hbi hiL hl hg => ?_⟩⟩, fun l hd h1 h2 => ?_, hI.ext.trans he, ?_, (put_defers _ _ _).trans hI.df⟩
      · unfold upd at hk
        split at hk
        · exact .inr (by omega)
        · exact hold k ob hk
      · unfold upd at hk
        split at hk
        · exact .inr (by omega)
        · exact htok k m hk
      · unfold upd
        split
        · rename_i hl
          subst hl
          have hjb : j < b := by
            rcases Nat.lt_or_ge j b with h1 | h1
            · exact h1
            · have := (h.ord (i := b) (j := j) h1 (Nat.le_of_lt hjn)).nx
              rw [h.none hb this] at hg
              cases hg
          rcases h.keep (l := (S j).nx) (c := j + 1) (d := b) hjb hb (fun i p hp h3 h4 hps => late _ b hrd0 hjb hb (cutL b hc) i p hp (by omega) h4 hps) with h5 | ⟨i, p, hpi, _, h5, _, h7, _⟩
          · rw [← hob0, ← h5, hg]
          · have := (h.ord (i := j + 1) (j := i) h5 (Nat.le_of_lt (lt_ops hpi))).nx
            omega
        · rename_i hl
          exact (hH b hb (cutL b hc) l ob ((domOld l hd).resolve_right hl)).1 hg
      · rcases (hL' i).1 hiL with h1 | rfl
        · have hin := lt_ops hpi
          have hlt := h.lt (j := i + 1) hin hg
          have hne : l ≠ (S j).nx := by
            intro e
            rcases Nat.lt_trichotomy i j with h2 | h2 | h2
            · have := (h.ord (i := i + 1) (j := j) h2 (Nat.le_of_lt hjn)).nx; omega
            · exact hjL (h2 ▸ h1)
            · have := (h.ord (i := j + 1) (j := i) h2 (Nat.le_of_lt hin)).nx; omega
          unfold upd
          rw [if_neg hne]
          exact (hH b hb (cutL b hc) l ob ((domOld l hd).resolve_right hne)).2 i p hpi hqi hbi h1 hl hg
        · unfold upd
          rw [if_pos hl, ← hob0, ← hl, hg]
      · rcases domOld l hd with h3 | h3
        · obtain ⟨i, h4, h5, h6⟩ := hI.dm l h3 h1 h2
          exact ⟨i, h4, (hL' i).2 (.inl h5), h6⟩
        · exact ⟨j, hjn, (hL' j).2 (.inr rfl), by omega, by omega⟩
      · exact hI.fr.comp hfr' l1 (by omega) hold htok hfree

/-- Every draw. -/
theorem Go.any_wp (h : Go E pol ck ops T S D) (hE : EnvOk P E) (hck : Sound P G E ck) {df : List Deferred} (hfree : Free ρ0 (S 0).nx (S ops.size).nx) {Q : Exit → Act → World → Prop} (hQ : ∀ ρ' w' a', TmR G ρ' w' (T ops.size) a' → a'.defers = df → Ext ρ0 w0 ρ' w' → Sim G E ρ' (S ops.size).get w' →
    Fr ρ0 (S 0).get w0 (S 0).nx (S ops.size).nx ρ' w' → Q .normal a' w') :
    ∀ (fuel : Nat) (listed : Array Bool) (rest : List Nat) (ρ : Gh) (w : World) (a : Act), listed.size = ops.size → rest.length ≤ fuel → (∀ i, i < ops.size → listed.getD i false = false → i ∈ rest) → Closed ops (fun i => listed.getD i false = true) →
      Inv G E ops T S ρ0 w0 df (fun i => listed.getD i false = true) ρ w a → wpAny P .any ops Q fuel listed a w := by
  have fin : ∀ (L : Nat → Prop) (ρ : Gh) (w : World) (a : Act), (∀ i, i < ops.size → L i) → Inv G E ops T S ρ0 w0 df L ρ w a → Q .normal a w := by
    intro L ρ w a hall hI
    obtain ⟨TL, hTL, hnt, htms⟩ := hI.tms
    obtain ⟨H, hs, _, _, hH⟩ := hI.sto
    refine hQ ρ w a ⟨hTL.size.trans (hnt.trans (h.nt (Nat.le_refl _)).symm), fun t => ?_⟩ hI.df hI.ext (hs.subD fun k ob hd hk => (hH ops.size (Nat.le_refl _) (fun i o ho _ => ⟨fun hi => hall i hi, fun _ => lt_ops ho⟩) k ob hd).1 hk) hI.fr
    rw [← htms t ops.size (Nat.le_refl _) (fun i o ho _ hi => hall i hi) (fun i o ho _ hi => by have := lt_ops ho; omega)]
    exact hTL.rel t
  have rdy : ∀ (listed : Array Bool) (i : Nat), listed.size = ops.size → (i ∈ Region.ready .any ops listed ↔ i < ops.size ∧ listed.getD i false = false ∧ ∃ o, ops[i]? = some o ∧ ∀ e ∈ o.after, Region.binds .any e = true → listed.getD e.on false = true) := by
    intro listed i hsz
    unfold Region.ready
    simp only [List.mem_filter, List.mem_range, Bool.and_eq_true]
    refine and_congr_right fun hi => ?_
    have e : listed.getD i true = listed.getD i false := by simp [Array.getD, show i < listed.size by omega]
    rw [e, Array.getElem?_eq_getElem hi]
    simp only [Option.map_some, Option.getD_some, Array.all_eq_true_iff_forall_mem, Bool.or_eq_true, Bool.not_eq_true', Option.some.injEq, exists_eq_left']
    refine and_congr_right fun _ => ⟨fun h1 e he hb => (h1 e he).resolve_left (by rw [hb]; simp), fun h1 e he => ?_⟩
    cases hb : Region.binds .any e with
    | false => exact .inl rfl
    | true => exact .inr (h1 e he hb)
  have none : ∀ (listed : Array Bool), listed.size = ops.size → Region.ready .any ops listed = [] → ∀ i, i < ops.size → listed.getD i false = true := by
    intro listed hsz hr i
    induction i using Nat.strongRecOn with
    | ind i ih =>
      intro hi
      cases hl : listed.getD i false with
      | true => rfl
      | false =>
        have : i ∈ Region.ready .any ops listed := (rdy listed i hsz).2 ⟨hi, hl, ops[i], Array.getElem?_eq_getElem hi, fun e he hb => by
          have := h.back i _ (Array.getElem?_eq_getElem hi) e he hb
          exact ih e.on this (by omega)⟩
        rw [hr] at this
        cases this
  intro fuel
  induction fuel with
  | zero =>
    intro listed rest ρ w a hsz hlen hrest _ hI
    have hall : ∀ i, i < ops.size → listed.getD i false = true := by
      intro i hi
      cases hl : listed.getD i false with
      | true => rfl
      | false =>
        have := hrest i hi hl
        have hr : rest = [] := List.length_eq_zero_iff.1 (by omega)
        rw [hr] at this
        cases this
    refine ⟨?_, fin _ ρ w a hall hI⟩
    rw [List.eq_nil_iff_forall_not_mem]
    intro i hi
    obtain ⟨h1, h2, _⟩ := (rdy listed i hsz).1 hi
    rw [hall i h1] at h2
    cases h2
  | succ fuel ih =>
    intro listed rest ρ w a hsz hlen hrest hcl hI
    refine ⟨fun hr => fin _ ρ w a (none listed hsz hr) hI, fun j hj => ?_⟩
    obtain ⟨hjn, hjl, o, ho, hrdy⟩ := (rdy listed j hsz).1 hj
    have hset : ∀ i, (listed.setIfInBounds j true).getD i false = true ↔ listed.getD i false = true ∨ i = j := by
      intro i
      by_cases hi : i = j
      · subst hi; simp [Array.getD_eq_getD_getElem?, hsz, hjn]
      · simp [Array.getD_eq_getD_getElem?, Array.getElem?_setIfInBounds_ne (Ne.symm hi), hi]
    refine h.step_wp hE hck hfree hcl hI ho (by rw [hjl]; simp) hrdy hset ?_
    intro ρ' w' a' hI'
    have hjr := hrest j hjn hjl
    refine ih (listed.setIfInBounds j true) (rest.erase j) ρ' w' a' (by simpa using hsz) (by rw [List.length_erase_of_mem hjr]; omega) (fun i hi hl => ?_) (fun i p hp hiL e he hb => ?_) hI'
    · have h1 : ¬(listed.getD i false = true ∨ i = j) := fun hc => by rw [(hset i).2 hc] at hl; cases hl
      have h2 : listed.getD i false = false := by
        cases hx : listed.getD i false with
        | false => rfl
        | true => exact (h1 (.inl hx)).elim
      exact (List.mem_erase_of_ne (fun e => h1 (.inr e))).2 (hrest i hi h2)
    · refine (hset e.on).2 (.inl ?_)
      rcases (hset i).1 hiL with h1 | rfl
      · exact hcl i p hp h1 e he hb
      · rw [ho] at hp
        cases hp
        exact hrdy e he hb

theorem draw_ord (hck : Sound P G E ck) {tm tm' : Tm} {σ σ' : St} (h : runDraw E pol ck ops tm σ = some (tm', σ')) (hwf : Wf σ) : ∃ T S D, T 0 = tm ∧ S 0 = σ ∧ T ops.size = tm' ∧ S ops.size = σ' ∧ Go E pol ck ops T S D := by
  obtain ⟨T, S, D, h1, h2, h3, h4, hr⟩ := runDraw_spec h
  exact ⟨T, S, D, h1, h2, h3, h4, hr, fun i hi => one_ord hck (hr.step i _ (Array.getElem?_eq_getElem hi)), by rw [h2]; exact hwf⟩

theorem draw_wp (hm : P.follows .mixedOrders = true) (hE : EnvOk P E) (hck : Sound P G E ck) {id : Nat} {tm tm' : Tm} {σ σ' : St} (h : runDraw E pol ck ops tm σ = some (tm', σ')) (hwf : Wf σ) {a : Act} (hT : TmR G ρ w tm a) (hs : Sim G E ρ σ.get w) (hf : Free ρ σ.nx σ'.nx)
    {Q : Exit → Act → World → Prop} (hQ : ∀ ρ' w' a', TmR G ρ' w' tm' a' → a'.defers = a.defers → Post G E ρ σ w ρ' σ' w' → Q .normal a' w') : (Code.region id ops true).wp P Q a w := by
  obtain ⟨T, S, D, rfl, rfl, rfl, rfl, hgo⟩ := draw_ord hck h hwf
  refine wp_region_any hm ?_
  have hheap : ({ w with drawn := w.drawn + 1 } : World).heap = w.heap := rfl
  refine hgo.any_wp (ρ0 := ρ) (w0 := w) (df := a.defers) hE hck hf (fun ρ' w' a' h1 h2 h3 h4 h5 => hQ ρ' w' a' h1 h2 ⟨h3, h4, h5⟩) ops.size (Array.replicate ops.size false) (List.range ops.size) ρ _ a (by simp) (by simp) (fun i hi _ => by simpa using hi) ?_ ?_
  · intro j o hj hl
    simp [Array.getD_eq_getD_getElem?, Array.getElem?_replicate] at hl
    split at hl <;> simp at hl
  · have hno : ∀ i, ¬((Array.replicate ops.size false).getD i false = true) := by
      intro i hl
      simp [Array.getD_eq_getD_getElem?, Array.getElem?_replicate] at hl
      split at hl <;> simp at hl
    refine ⟨⟨T 0, hT.mono (ext_heap hheap), rfl, fun t k hk h1 h2 => ?_⟩, ⟨(S 0).get, hs.heap_eq hheap, fun k ob hk => .inl (by rw [hk]; simp), fun k m hk => .inl hk, fun b hb hc l ob hd => ⟨fun hg => ?_, fun i o _ _ _ hl => (hno i hl).elim⟩⟩, fun l hd h1 h2 => ?_, ext_heap hheap, ⟨⟨rfl, rfl, rfl, Nat.le_refl _⟩, fun _ _ _ _ => rfl, fun _ _ _ => rfl, fun _ _ h => .inl h, fun _ _ _ h => .inl h⟩, rfl⟩
    · exact (hgo.noW (Nat.zero_le k) hk (fun i o ho _ h4 hd => hno i (h1 i o ho hd h4))).symm
    · rcases hgo.keep (l := l) (c := 0) (d := b) (Nat.zero_le b) hb (fun i o ho _ h4 hps => (hno i ((hc i o ho hps).1 h4)).elim) with h5 | ⟨i, o, ho, _, _, h6, h7, h8⟩
      · exact h5 ▸ hg
      · exfalso
        have h9 := hgo.lt (j := i + 1) (lt_ops ho) (h8.trans hg)
        have e1 := (hgo.ord (Nat.zero_le i) (Nat.le_of_lt (lt_ops ho))).nx
        have e2 := (hgo.ord (i := i + 1) (j := ops.size) (lt_ops ho) (Nat.le_refl _)).nx
        have := hf l (by omega) (by omega)
        rcases hd with hd | hd
        · exact hd this.1
        · exact hd this.2
    · have := hf l h1 h2
      rcases hd with hd | hd
      · exact (hd this.1).elim
      · exact (hd this.2).elim

end
end Go.VV
