/- All operations that change the store. -/
import Derived.Test.YtlppiajnonbaaaaGreatDoorVo
set_option linter.unusedVariables false
set_option linter.unusedSimpArgs false
namespace Go.VV

/-- How a store grows: no place is taken twice; a token stays or goes. -/
structure Ord (σ σ' : St) : Prop where
  nx : σ.nx ≤ σ'.nx
  old : ∀ k, σ'.get k ≠ none → σ.get k ≠ none ∨ (σ.nx ≤ k ∧ k < σ'.nx)
  tok : ∀ k m, σ'.get k = some (.k m) → σ.get k = some (.k m) ∨ (σ.nx ≤ k ∧ k < σ'.nx)

def Wf (σ : St) : Prop := ∀ k, σ.get k ≠ none → k < σ.nx

theorem Ord.refl (σ : St) : Ord σ σ := ⟨Nat.le_refl _, fun _ h => .inl h, fun _ _ h => .inl h⟩

theorem Ord.trans {a b c : St} (h : Ord a b) (k : Ord b c) : Ord a c :=
  ⟨Nat.le_trans h.nx k.nx, fun i hi => by
    rcases k.old i hi with h1 | ⟨h1, h2⟩
    · rcases h.old i h1 with h3 | ⟨h3, h4⟩
      · exact .inl h3
      · exact .inr ⟨h3, Nat.lt_of_lt_of_le h4 k.nx⟩
    · exact .inr ⟨Nat.le_trans h.nx h1, h2⟩, fun i m hi => by
    rcases k.tok i m hi with h1 | ⟨h1, h2⟩
    · rcases h.tok i m h1 with h3 | ⟨h3, h4⟩
      · exact .inl h3
      · exact .inr ⟨h3, Nat.lt_of_lt_of_le h4 k.nx⟩
    · exact .inr ⟨Nat.le_trans h.nx h1, h2⟩⟩

theorem Ord.wf {σ σ' : St} (h : Ord σ σ') (hw : Wf σ) : Wf σ' := fun k hk => by
  rcases h.old k hk with h1 | ⟨_, h2⟩
  · exact Nat.lt_of_lt_of_le (hw k h1) h.nx
  · exact h2

theorem ord_new (σ : St) (o : Ob) : Ord σ (σ.new o) := ⟨by simp [St.nx_new], fun k hk => by
  rw [St.get_new] at hk
  split at hk
  · rename_i e; exact .inr ⟨by omega, by simp [St.nx_new]; omega⟩
  · exact .inl hk, fun k m hk => by
  rw [St.get_new] at hk
  split at hk
  · rename_i e; exact .inr ⟨by omega, by simp [St.nx_new]; omega⟩
  · exact .inl hk⟩

theorem ord_set {σ : St} {l : Nat} {o o' : Ob} (h : σ.get l = some o) (hn : ∀ m, o' ≠ .k m) : Ord σ (σ.set l o') := ⟨Nat.le_refl _, fun k hk => by
  rw [St.get_set] at hk
  split at hk
  · rename_i e; exact .inl (by rw [e, h]; simp)
  · exact .inl hk, fun k m hk => by
  rw [St.get_set] at hk
  split at hk
  · simp only [Option.some.injEq] at hk; exact (hn m hk).elim
  · exact .inl hk⟩

theorem ord_kill (σ : St) (l : Nat) : Ord σ (σ.kill l) := ⟨Nat.le_refl _, fun k hk => by
  rw [St.get_kill] at hk
  split at hk
  · exact (hk rfl).elim
  · exact .inl hk, fun k m hk => by
  rw [St.get_kill] at hk
  split at hk
  · cases hk
  · exact .inl hk⟩

theorem append_ord {E : Env} {σ σ' : St} {t : TypeId} {x y c : A} (h : aAppend E σ t x y = some (c, σ')) : Ord σ σ' := by
  unfold aAppend at h
  simp only [Option.bind_eq_some_iff] at h
  obtain ⟨T, _, h⟩ := h
  split at h
  case h_2 => cases h
  simp only [Option.bind_eq_some_iff] at h
  obtain ⟨F, _, new, _, h⟩ := h
  split at h
  · cases h
  cases x <;> simp only [reduceCtorEq] at h
  case ns =>
    split at h
    · simp only [Option.some.injEq, Prod.mk.injEq] at h; rw [← h.2]; exact Ord.refl _
    · split at h
      · simp only [Option.some.injEq, Prod.mk.injEq] at h; rw [← h.2]; exact ord_new _ _
      · cases h
  case v kc cs m sz tk st =>
    split at h
    case isFalse => cases h
    split at h
    · simp only [Option.some.injEq, Prod.mk.injEq] at h; rw [← h.2]; exact Ord.refl _
    · split at h
      · simp only [Option.some.injEq, Prod.mk.injEq] at h; rw [← h.2]; exact ord_new _ _
      · split at h
        · split at h
          · simp only [Option.some.injEq, Prod.mk.injEq] at h; rw [← h.2]; exact (ord_kill _ _).trans (ord_new _ _)
          · cases h
        · cases h
        · cases h
  case w l off m sz cap =>
    split at h
    · split at h
      · rename_i hσ
        simp only [Option.map_eq_some_iff, Prod.mk.injEq] at h
        obtain ⟨cs', _, _, rfl⟩ := h
        exact ord_set hσ (fun _ h => by cases h)
      · cases h
    · split at h
      · split at h
        · simp only [Option.map_eq_some_iff, Prod.mk.injEq] at h
          obtain ⟨cs', _, _, rfl⟩ := h
          exact ord_new _ _
        · cases h
      · cases h

theorem mapFind_spec {k : A} : ∀ {es : List (A × A)} {j i : Nat} {a : A}, mapFind k es j = some (i, a) → ∃ k', es[i - j]? = some (k', a) ∧ j ≤ i ∧ aeq k k' = true := by
  intro es
  induction es with
  | nil => intro j i a h; simp [mapFind] at h
  | cons e es ih =>
    intro j i a h
    obtain ⟨k', b⟩ := e
    simp only [mapFind] at h
    split at h
    · rename_i he
      simp only [Option.some.injEq, Prod.mk.injEq] at h
      obtain ⟨rfl, rfl⟩ := h
      exact ⟨k', by simp, Nat.le_refl _, he⟩
    · obtain ⟨k2, h1, h2, h3⟩ := ih h
      refine ⟨k2, ?_, by omega, h3⟩
      have : i - j = (i - (j + 1)) + 1 := by omega
      rw [this]
      simpa using h1

section
variable {P : Program} {G : Nat} {ρ : Gh} {w w' : World} {E : Env} {H : Nat → Option Ob}

theorem sameBits_key {u : U} {k k' : A} {v v' : Value} (hk : Rel G ρ w k v) (hk' : Rel G ρ w k' v') (hp : plainKey u [k, k'] = true) (he : aeq k k' = true) : Instr.sameBits 10000 v' v = true := by
  rcases plainKey_spec hp k (by simp) with ⟨kk, n, hT, rfl⟩ | ⟨s, hT, rfl⟩
  · rcases plainKey_spec hp k' (by simp) with ⟨kk', n', hT', rfl⟩ | ⟨s', hT', rfl⟩
    · cases hk; cases hk'
      simp only [aeq, Bool.and_eq_true, beq_iff_eq] at he
      obtain ⟨rfl, rfl⟩ := he
      simp [Instr.sameBits]
    · simp [aeq] at he
  · rcases plainKey_spec hp k' (by simp) with ⟨kk', n', hT', rfl⟩ | ⟨s', hT', rfl⟩
    · simp [aeq] at he
    · cases hk with
      | s _ _ h1 => cases hk' with
        | s _ _ h2 =>
          simp only [aeq] at he
          simp only [Instr.sameBits, str_eq h2 h1]
          simp at he ⊢
          exact he.symm

theorem sim_map (hs : Sim G E ρ H w) {l blk : Nat} (hβ : ρ.β l = some blk) {es es' : List (A × A)} (hH : H l = some (.m es)) {ms' : Array MapEntry} {clock' : Nat} (hlen : es'.length = ms'.size)
    (hr : ∀ (i : Nat) (k a : A) (m : MapEntry), es'[i]? = some (k, a) → ms'[i]? = some m → Rel G ρ w k m.key ∧ Rel G ρ w a m.val) :
    (setObj blk (.map ms' clock')).run P w = .ok () (putRow w blk (.map ms' clock')) ∧ Ext ρ w ρ (putRow w blk (.map ms' clock')) ∧ Sim G E ρ (upd H l (some (.m es'))) (putRow w blk (.map ms' clock')) ∧ ∀ n, Fr ρ H w n n ρ (putRow w blk (.map ms' clock')) := by
  obtain ⟨ms, clock, hb, _, _⟩ := hs.obj l blk _ hβ hH
  have hlt := heap_lt hb
  have hrow : ∀ b n, rowSize w b = some n → rowSize (putRow w blk (.map ms' clock')) b = some n := by
    intro b n h
    by_cases hbb : b = blk
    · subst hbb; simp [rowSize, hb] at h
    · rw [rowSize_of_heap (putRow_ne hbb)]; exact h
  have e := ext_put hs hβ hrow
  refine ⟨?_, e, sim_put hs hβ hrow ⟨ms', clock', putRow_same hlt, hlen, fun i k a m h1 h2 => ⟨(hr i k a m h1 h2).1.mono e, (hr i k a m h1 h2).2.mono e⟩⟩, fun n => fr_put hβ hH n⟩
  simp [setObj, Sem.run, hb, putRow]

theorem run_mapUpdate (hE : EnvOk P E) (hs : Sim G E ρ H w) {t kt et : TypeId} {T K : TI} (hT : E.ti t = some T) (hu : T.u = .map kt et) (hK : E.ti kt = some K) {l blk : Nat} (hβ : ρ.β l = some blk) {es : List (A × A)} (hH : H l = some (.m es))
    {k c : A} {vk vc : Value} (rk : Rel G ρ w k vk) (rc : Rel G ρ w c vc) (hp : plainKey K.u (k :: es.map (·.1)) = true) :
    ∃ w', (Instr.mapUpdate t (.map (some blk)) vk vc).run P w = .ok () w' ∧ Ext ρ w ρ w' ∧
      Sim G E ρ (upd H l (some (.m (match mapFind k es 0 with | some (j, _) => es.modify j (fun _ => (k, c)) | none => es ++ [(k, c)])))) w' ∧ ∀ n, Fr ρ H w n n ρ w' := by
  obtain ⟨d, hd, hud⟩ := (hE.ti _ _ hT).1
  rw [hu] at hud
  cases d <;> simp only [uOf, reduceCtorEq, U.map.injEq] at hud
  obtain ⟨rfl, rfl⟩ := hud
  obtain ⟨ms, clock, hb, hl, hr⟩ := hs.obj l blk _ hβ hH
  have hck := run_checkKey (P := P) (empty := false) (hE.ti _ _ hK) rk (plainKey_head hp)
  have hf := run_findKey (P := P) (hE.ti _ _ hK) rk (ms := ms.toList) (by simpa using hl) (fun i k a m h1 h2 => hr i k a m h1 (by simpa using h2)) hp
  have hget : (getObj blk).run P w = .ok (.map ms clock) w := by simp [getObj, Sem.run, hb]
  unfold Instr.mapUpdate
  simp only [Sem.run_bind, run_und hd, Result.andThen_ok, hget, hck]
  cases hff : mapFind k es 0 with
  | none =>
    rw [hff] at hf
    simp only at hf
    simp only [hf, Result.andThen_ok]
    obtain ⟨g1, g2, g3, g4⟩ := sim_map (P := P) hs hβ hH (es' := es ++ [(k, c)]) (ms' := ms.push { key := vk, val := vc, born := clock }) (clock' := clock + 1) (by simp [hl]) (fun i k' a m h1 h2 => by
      rw [List.getElem?_append] at h1
      rw [Array.getElem?_push] at h2
      split at h1
      · rename_i hi
        rw [if_neg (by omega)] at h2
        exact hr i k' a m h1 h2
      · rename_i hi
        have h3 := lt_of_get h1
        simp at h3
        have : i = ms.size := by omega
        rw [if_pos this] at h2
        simp only [Option.some.injEq] at h2
        subst h2
        rw [show i - es.length = 0 by omega] at h1
        simp at h1
        obtain ⟨rfl, rfl⟩ := h1
        exact ⟨rk, rc⟩)
    exact ⟨_, g1, g2, g3, g4⟩
  | some x =>
    obtain ⟨j, b⟩ := x
    rw [hff] at hf
    obtain ⟨v, h1, h2, hj⟩ := hf
    simp only [h1, Result.andThen_ok]
    obtain ⟨k', hk', _, he⟩ := mapFind_spec hff
    rw [Nat.sub_zero] at hk'
    have hjm : j < ms.size := by omega
    have hmj : ms[j]? = some ms[j] := Array.getElem?_eq_getElem hjm
    obtain ⟨r1, r2⟩ := hr j k' b _ hk' hmj
    have hsb : Instr.sameBits 10000 ms[j].key vk = true := sameBits_key rk r1 (u := K.u) (by
      have h3 := plainKey_spec hp
      have h4 : ∀ a ∈ [k, k'], (∃ kk n, K.u = .int kk ∧ a = .i kk n) ∨ (∃ s, K.u = .string ∧ a = .s s) := by
        intro a ha
        refine h3 a ?_
        simp at ha
        rcases ha with rfl | rfl
        · simp
        · refine List.mem_cons_of_mem _ (List.mem_map.2 ⟨(a, b), List.mem_of_getElem? hk', rfl⟩)
      have one : ∀ l, (∀ a ∈ l, (∃ kk n, K.u = .int kk ∧ a = .i kk n) ∨ (∃ s, K.u = .string ∧ a = .s s)) → plainKey K.u l = true := by
        intro l
        induction l with
        | nil => intro _; rfl
        | cons a l ih =>
          intro h
          simp only [plainKey, ih (fun a ha => h a (by simp [ha])), Bool.and_true]
          rcases h a (by simp) with ⟨kk, n, e1, rfl⟩ | ⟨s, e1, rfl⟩
          · rw [e1]; simp
          · rw [e1]
      exact one _ h4) he
    have hkt : (Instr.keyThatStays (((ms[j]?).map (·.key)).getD vk) vk).run P w = .ok vk w := by
      rw [hmj]
      simp only [Option.map_some, Option.getD_some, Instr.keyThatStays, hsb, if_true, Sem.run_pure]
    simp only [Sem.run_bind, hkt, Result.andThen_ok]
    obtain ⟨g1, g2, g3, g4⟩ := sim_map (P := P) hs hβ hH (es' := es.modify j (fun _ => (k, c))) (ms' := ms.modify j fun e => { e with key := vk, val := vc }) (clock' := clock) (by simp [hl]) (fun i k2 a m h1 h2 => by
      rw [List.getElem?_modify] at h1
      rw [Array.getElem?_modify] at h2
      by_cases hij : j = i
      · subst hij
        rw [if_pos rfl] at h2
        rw [hk'] at h1
        rw [hmj] at h2
        simp at h1 h2
        obtain ⟨rfl, rfl⟩ := h1
        subst h2
        exact ⟨rk, rc⟩
      · rw [if_neg hij] at h2
        simp only [hij, if_false] at h1
        refine hr i k2 a m ?_ h2
        simpa using h1)
    exact ⟨_, g1, g2, g3, g4⟩

theorem op_eff (hE : EnvOk P E) {σ σ' : St} (hs : Sim G E ρ σ.get w) (hfr : σ.nx < σ'.nx → ρ.β σ.nx = none ∧ ρ.tk σ.nx = none) {tm : Tm} {a : Act} (hT : TmR G ρ w tm a) {pol : Pol} {o : Oper} {c : A}
    (h : aOp E pol tm σ o = some (.eff c σ')) :
    ∃ r w' ρ' v, (execOp a.eval o).run P w = .ok r w' ∧ (r = .value v ∨ (r = .skip ∧ v = undef)) ∧ Rel G ρ' w' c v ∧ Ext ρ w ρ' w' ∧ Sim G E ρ' σ'.get w' ∧ Fr ρ σ.get w σ.nx σ'.nx ρ' w' := by
  have hg := hs.gl
  obtain ⟨dst, op, type, pos, after, guard⟩ := o
  have no : ∀ {x : Option A} {q : Prop}, R.ofA x = some (R.eff c σ') → q := by
    intro x q h
    simp [R.ofA] at h
  cases op <;> simp only [aOp] at h <;> (try (cases h; done)) <;> (try (exact no h))
  case pick x y z => split at h <;> first | exact no h | cases h
  case alloc t => simp only [Option.map_eq_some_iff, reduceCtorEq, and_false, exists_false] at h
  case box t x =>
    simp only [Option.bind_eq_some_iff] at h
    obtain ⟨b, hb, h⟩ := h
    split at h <;> simp at h
  case build t ps =>
    simp only [Option.bind_eq_some_iff] at h
    obtain ⟨T, _, l, _, h⟩ := h
    split at h
    · simp only [Option.bind_eq_some_iff] at h
      obtain ⟨_, _, h⟩ := h
      exact no h
    · simp only [Option.bind_eq_some_iff] at h
      obtain ⟨_, _, h⟩ := h
      exact no h
    · cases h
  case buildSlice t n ps =>
    simp only [Option.bind_eq_some_iff] at h
    obtain ⟨T, hTi, l, hl, h⟩ := h
    split at h
    · simp only [Option.bind_eq_some_iff] at h
      obtain ⟨F, _, h⟩ := h
      split at h
      · cases h
      · simp only [Option.map_eq_some_iff] at h
        obtain ⟨cs, _, h⟩ := h
        split at h <;> cases h
    · cases h
  case load t x =>
    simp only [Option.bind_eq_some_iff] at h
    obtain ⟨b, _, T, _, h⟩ := h
    cases b <;> simp only [reduceCtorEq] at h
    · split at h
      · simp at h
      · cases h
    · exact no h
  case store t x y =>
    simp only [Option.bind_eq_some_iff] at h
    obtain ⟨b, hb, d, hd, T, hTi, h⟩ := h
    cases b <;> simp only [reduceCtorEq] at h
    rename_i l off
    split at h
    · rename_i hg2
      split at h
      · rename_i cs hσ
        simp only [Option.map_eq_some_iff, R.eff.injEq] at h
        obtain ⟨cs', hp, rfl, rfl⟩ := h
        obtain ⟨blk, hv, hβ⟩ := addr_p (ev_rel hT hg hb)
        have rd := ev_rel hT hg hd
        obtain ⟨w', g1, g2, g3, g4⟩ := row_put (P := P) hs hβ hσ hp rd.cells (rd.cells_flat hg2.2)
        refine ⟨.skip, w', ρ, undef, ?_, .inr ⟨rfl, rfl⟩, Rel.un, g2, by rw [upd_eq]; exact g3, by simpa [St.nx_set] using g4 _⟩
        have hlen : (a.eval y).cells.size = T.sz := by
          have := rd.cells.1
          rw [hg2.1] at this
          simp at this
          exact this.symm
        simp only [execOp, Instr.storeAt, hv, Instr.sureAddr, storeVar, Sem.run_bind, Sem.run_pure, Result.andThen_ok, run_size (hE.ti _ _ hTi), hlen, ne_eq, not_true_eq_false, if_false, g1]
      · cases h
    · cases h
  case nilCheck x => split at h <;> first | exact no h | cases h
  case binOp op t x y u =>
    simp only [Option.bind_eq_some_iff] at h
    obtain ⟨_, _, _, _, h⟩ := h
    exact no h
  case unOp op t x =>
    simp only [Option.bind_eq_some_iff] at h
    obtain ⟨_, _, h⟩ := h
    exact no h
  case convert s d x =>
    simp only [Option.bind_eq_some_iff] at h
    obtain ⟨b, hb, D, hD, h⟩ := h
    split at h
    · simp only [Option.bind_eq_some_iff] at h
      obtain ⟨S, _, F, _, h⟩ := h
      split at h
      · split at h <;> cases h
      · cases h
    · simp only [Option.bind_eq_some_iff] at h
      obtain ⟨S, _, h⟩ := h
      split at h
      · simp only [Option.bind_eq_some_iff] at h
        obtain ⟨F, _, h⟩ := h
        split at h
        · exact no h
        · cases h
      · cases h
    · simp only [Option.bind_eq_some_iff] at h
      obtain ⟨S, _, h⟩ := h
      split at h
      · simp only [Option.bind_eq_some_iff] at h
        obtain ⟨F, _, h⟩ := h
        split at h
        · split at h
          · exact no h
          · cases h
        · cases h
      · cases h
    · exact no h
  case makeInterface t x =>
    simp only [Option.bind_eq_some_iff] at h
    obtain ⟨_, _, _, _, h⟩ := h
    split at h
    · cases h
    · exact no h
  case makeFunc fn first cap =>
    simp only [Option.bind_eq_some_iff] at h
    obtain ⟨_, _, _, _, h⟩ := h
    exact no h
  case makeMap t r => cases r <;> simp at h
  case makeSlice t x y =>
    simp only [Option.bind_eq_some_iff] at h
    obtain ⟨T, hTi, h⟩ := h
    split at h
    · simp only [Option.bind_eq_some_iff] at h
      obtain ⟨F, _, h⟩ := h
      split at h
      · split at h <;> simp at h
      · cases h
    · cases h
  case slice t x lo hi mx =>
    simp only [Option.bind_eq_some_iff] at h
    obtain ⟨_, _, _, _, _, _, _, _, _, _, h⟩ := h
    exact no h
  case fieldAddr t x k =>
    simp only [Option.bind_eq_some_iff] at h
    obtain ⟨b, _, ⟨off, F⟩, _, h⟩ := h
    simp only at h
    split at h
    · cases h
    · cases b <;> simp only [reduceCtorEq] at h <;> exact no h
  case field t x k =>
    simp only [Option.bind_eq_some_iff] at h
    obtain ⟨b, _, ⟨off, F⟩, _, h⟩ := h
    cases b <;> simp only [reduceCtorEq] at h
    exact no h
  case indexAddr t x y =>
    simp only [Option.bind_eq_some_iff] at h
    obtain ⟨_, _, _, _, _, _, h⟩ := h
    exact no h
  case index t x y =>
    simp only [Option.bind_eq_some_iff] at h
    obtain ⟨_, _, _, _, _, _, h⟩ := h
    exact no h
  case lookup t x y ok =>
    simp only [Option.bind_eq_some_iff] at h
    obtain ⟨b, _, k, _, T, _, h⟩ := h
    split at h
    · simp only [Option.bind_eq_some_iff] at h
      obtain ⟨_, _, _, _, _, _, ⟨rd', es⟩, _, h⟩ := h
      simp only at h
      split at h
      · split at h <;> cases h
      · cases h
    · cases h
  case mapUpdate t x y z =>
    simp only [Option.bind_eq_some_iff] at h
    obtain ⟨b, hb, k, hk, d, hd, T, hTi, h⟩ := h
    split at h
    · rename_i kt et l hu
      simp only [Option.bind_eq_some_iff] at h
      obtain ⟨K, hK, h⟩ := h
      split at h
      · rename_i es hσ
        split at h
        · rename_i hp
          have r := ev_rel hT hg hb
          generalize hv : a.eval x = v at r
          cases r with
          | m _ blk hβ =>
            obtain ⟨w', g1, g2, g3, g4⟩ := run_mapUpdate (P := P) hE hs hTi hu hK hβ hσ (ev_rel hT hg hk) (ev_rel hT hg hd) hp
            refine ⟨.skip, w', ρ, undef, ?_, .inr ⟨rfl, rfl⟩, ?_⟩
            · simp only [execOp, hv, Sem.run_bind, g1, Result.andThen_ok, Sem.run_pure]
            · split at h
              · rename_i j b hmf
                simp only [Option.some.injEq, R.eff.injEq] at h
                obtain ⟨rfl, rfl⟩ := h
                rw [hmf] at g3
                exact ⟨Rel.un, g2, by rw [upd_eq]; exact g3, by simpa [St.nx_set] using g4 _⟩
              · rename_i hmf
                simp only [Option.some.injEq, R.eff.injEq] at h
                obtain ⟨rfl, rfl⟩ := h
                rw [hmf] at g3
                exact ⟨Rel.un, g2, by rw [upd_eq]; exact g3, by simpa [St.nx_set] using g4 _⟩
        · cases h
      · cases h
    · cases h
  case typeAssert x xt t ok =>
    simp only [Option.bind_eq_some_iff] at h
    obtain ⟨_, _, _, _, _, _, h⟩ := h
    split at h
    · cases h
    · exact no h
  case extract x k =>
    simp only [Option.bind_eq_some_iff] at h
    obtain ⟨b, _, h⟩ := h
    cases b <;> simp only [reduceCtorEq] at h
    exact no h
  case call c' =>
    unfold aCall at h
    simp only [Option.bind_eq_some_iff] at h
    obtain ⟨as, has, h⟩ := h
    have ras := evs_rels hT hg has
    split at h
    · split at h
      · split at h
        · exact no h
        · split at h <;> cases h
      · cases h
    · cases h
    · rename_i b hcal
      have hlist : (c'.args.map a.eval).toList = c'.args.toList.map a.eval := by simp
      rw [← hlist] at ras
      split at h
      · simp only [Option.bind_eq_some_iff] at h
        obtain ⟨u, _, h⟩ := h
        split at h
        · split at h
          · simp only [Option.bind_eq_some_iff] at h
            obtain ⟨T, _, h⟩ := h
            split at h <;> cases h
          · cases h
        · exact no h
      · exact no h
      · exact no h
      · rename_i x y
        simp only [Option.bind_eq_some_iff] at h
        obtain ⟨u, hu, z, hz, Z, hZ, h⟩ := h
        split at h
        · cases h
        · rename_i hZu
          simp only [Option.map_eq_some_iff, Prod.exists, R.eff.injEq] at h
          obtain ⟨_, _, h, rfl, rfl⟩ := h
          obtain ⟨vx, vs, hvs, rx, rl⟩ := ras.uncons
          obtain ⟨vy, vs2, hvs2, ry, rl2⟩ := rl.uncons
          have := rl2.nil_inv
          subst this
          subst hvs2
          have hargs : c'.args.map a.eval = #[vx, vy] := Array.ext' (by simpa using hvs)
          obtain ⟨v, w', ρ', g1, g2, g3, g4, g5⟩ := run_append (P := P) (ty := type) hE hs hfr hu hz hZ (fun k e => hZu k e) h rx ry
          refine ⟨.value v, w', ρ', v, ?_, .inl rfl, g2, g3, g4, g5⟩
          simp only [execOp, resolve, hcal, hargs, Sem.run_bind, Sem.run_pure, Result.andThen_ok, invoke, builtin, g1]
      · cases h

theorem eff_ord {tm : Tm} {pol : Pol} {σ σ' : St} {o : Oper} {c : A} (h : aOp E pol tm σ o = some (.eff c σ')) : Ord σ σ' := by
  obtain ⟨dst, op, type, pos, after, guard⟩ := o
  have no : ∀ {x : Option A} {q : Prop}, R.ofA x = some (R.eff c σ') → q := by
    intro x q h
    simp [R.ofA] at h
  cases op <;> simp only [aOp] at h <;> (try (cases h; done)) <;> (try (exact no h))
  case pick x y z => split at h <;> first | exact no h | cases h
  case alloc t => simp only [Option.map_eq_some_iff, reduceCtorEq, and_false, exists_false] at h
  case box t x =>
    simp only [Option.bind_eq_some_iff] at h
    obtain ⟨b, hb, h⟩ := h
    split at h <;> simp at h
  case build t ps =>
    simp only [Option.bind_eq_some_iff] at h
    obtain ⟨T, _, l, _, h⟩ := h
    split at h
    · simp only [Option.bind_eq_some_iff] at h
      obtain ⟨_, _, h⟩ := h
      exact no h
    · simp only [Option.bind_eq_some_iff] at h
      obtain ⟨_, _, h⟩ := h
      exact no h
    · cases h
  case buildSlice t n ps =>
    simp only [Option.bind_eq_some_iff] at h
    obtain ⟨T, hTi, l, hl, h⟩ := h
    split at h
    · simp only [Option.bind_eq_some_iff] at h
      obtain ⟨F, _, h⟩ := h
      split at h
      · cases h
      · simp only [Option.map_eq_some_iff] at h
        obtain ⟨cs, _, h⟩ := h
        split at h <;> cases h
    · cases h
  case load t x =>
    simp only [Option.bind_eq_some_iff] at h
    obtain ⟨b, _, T, _, h⟩ := h
    cases b <;> simp only [reduceCtorEq] at h
    · split at h
      · simp at h
      · cases h
    · exact no h
  case store t x y =>
    simp only [Option.bind_eq_some_iff] at h
    obtain ⟨b, hb, d, hd, T, hTi, h⟩ := h
    cases b <;> simp only [reduceCtorEq] at h
    split at h
    · split at h
      · rename_i hσ
        simp only [Option.map_eq_some_iff, R.eff.injEq] at h
        obtain ⟨cs', hp, rfl, rfl⟩ := h
        exact ord_set hσ (fun _ h => by cases h)
      · cases h
    · cases h
  case nilCheck x => split at h <;> first | exact no h | cases h
  case binOp op t x y u =>
    simp only [Option.bind_eq_some_iff] at h
    obtain ⟨_, _, _, _, h⟩ := h
    exact no h
  case unOp op t x =>
    simp only [Option.bind_eq_some_iff] at h
    obtain ⟨_, _, h⟩ := h
    exact no h
  case convert s d x =>
    simp only [Option.bind_eq_some_iff] at h
    obtain ⟨b, hb, D, hD, h⟩ := h
    split at h
    · simp only [Option.bind_eq_some_iff] at h
      obtain ⟨S, _, F, _, h⟩ := h
      split at h
      · split at h <;> cases h
      · cases h
    · simp only [Option.bind_eq_some_iff] at h
      obtain ⟨S, _, h⟩ := h
      split at h
      · simp only [Option.bind_eq_some_iff] at h
        obtain ⟨F, _, h⟩ := h
        split at h
        · exact no h
        · cases h
      · cases h
    · simp only [Option.bind_eq_some_iff] at h
      obtain ⟨S, _, h⟩ := h
      split at h
      · simp only [Option.bind_eq_some_iff] at h
        obtain ⟨F, _, h⟩ := h
        split at h
        · split at h
          · exact no h
          · cases h
        · cases h
      · cases h
    · exact no h
  case makeInterface t x =>
    simp only [Option.bind_eq_some_iff] at h
    obtain ⟨_, _, _, _, h⟩ := h
    split at h
    · cases h
    · exact no h
  case makeFunc fn first cap =>
    simp only [Option.bind_eq_some_iff] at h
    obtain ⟨_, _, _, _, h⟩ := h
    exact no h
  case makeMap t r => cases r <;> simp at h
  case makeSlice t x y =>
    simp only [Option.bind_eq_some_iff] at h
    obtain ⟨T, hTi, h⟩ := h
    split at h
    · simp only [Option.bind_eq_some_iff] at h
      obtain ⟨F, _, h⟩ := h
      split at h
      · split at h <;> simp at h
      · cases h
    · cases h
  case slice t x lo hi mx =>
    simp only [Option.bind_eq_some_iff] at h
    obtain ⟨_, _, _, _, _, _, _, _, _, _, h⟩ := h
    exact no h
  case fieldAddr t x k =>
    simp only [Option.bind_eq_some_iff] at h
    obtain ⟨b, _, ⟨off, F⟩, _, h⟩ := h
    simp only at h
    split at h
    · cases h
    · cases b <;> simp only [reduceCtorEq] at h <;> exact no h
  case field t x k =>
    simp only [Option.bind_eq_some_iff] at h
    obtain ⟨b, _, ⟨off, F⟩, _, h⟩ := h
    cases b <;> simp only [reduceCtorEq] at h
    exact no h
  case indexAddr t x y =>
    simp only [Option.bind_eq_some_iff] at h
    obtain ⟨_, _, _, _, _, _, h⟩ := h
    exact no h
  case index t x y =>
    simp only [Option.bind_eq_some_iff] at h
    obtain ⟨_, _, _, _, _, _, h⟩ := h
    exact no h
  case lookup t x y ok =>
    simp only [Option.bind_eq_some_iff] at h
    obtain ⟨b, _, k, _, T, _, h⟩ := h
    split at h
    · simp only [Option.bind_eq_some_iff] at h
      obtain ⟨_, _, _, _, _, _, ⟨rd', es⟩, _, h⟩ := h
      simp only at h
      split at h
      · split at h <;> cases h
      · cases h
    · cases h
  case mapUpdate t x y z =>
    simp only [Option.bind_eq_some_iff] at h
    obtain ⟨b, hb, k, hk, d, hd, T, hTi, h⟩ := h
    split at h
    · simp only [Option.bind_eq_some_iff] at h
      obtain ⟨K, hK, h⟩ := h
      split at h
      · rename_i es hσ
        split at h
        · split at h
          · simp only [Option.some.injEq, R.eff.injEq] at h
            rw [← h.2]
            exact ord_set hσ (fun _ h => by cases h)
          · simp only [Option.some.injEq, R.eff.injEq] at h
            rw [← h.2]
            exact ord_set hσ (fun _ h => by cases h)
        · cases h
      · cases h
    · cases h
  case typeAssert x xt t ok =>
    simp only [Option.bind_eq_some_iff] at h
    obtain ⟨_, _, _, _, _, _, h⟩ := h
    split at h
    · cases h
    · exact no h
  case extract x k =>
    simp only [Option.bind_eq_some_iff] at h
    obtain ⟨b, _, h⟩ := h
    cases b <;> simp only [reduceCtorEq] at h
    exact no h
  case call c' =>
    unfold aCall at h
    simp only [Option.bind_eq_some_iff] at h
    obtain ⟨as, has, h⟩ := h
    split at h
    · split at h
      · split at h
        · exact no h
        · split at h <;> cases h
      · cases h
    · cases h
    · split at h
      · simp only [Option.bind_eq_some_iff] at h
        obtain ⟨u, _, h⟩ := h
        split at h
        · split at h
          · simp only [Option.bind_eq_some_iff] at h
            obtain ⟨T, _, h⟩ := h
            split at h <;> cases h
          · cases h
        · exact no h
      · exact no h
      · exact no h
      · simp only [Option.bind_eq_some_iff] at h
        obtain ⟨u, hu, z, hz, Z, hZ, h⟩ := h
        split at h
        · cases h
        · simp only [Option.map_eq_some_iff, Prod.exists, R.eff.injEq] at h
          obtain ⟨_, _, h, rfl, rfl⟩ := h
          exact append_ord h
      · cases h

end
end Go.VV
