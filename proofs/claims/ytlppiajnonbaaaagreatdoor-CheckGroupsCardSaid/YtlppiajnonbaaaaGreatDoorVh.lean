/- Conversions, lengths, look-ups, assertions; and all operations that give a value and change nothing. -/
import Derived.Test.YtlppiajnonbaaaaGreatDoorVg
set_option linter.unusedVariables false
set_option linter.unusedSimpArgs false
namespace Go.VV
section
variable {P : Program} {G : Nat} {ρ : Gh} {w : World} {E : Env}

theorem run_aConv (hE : EnvOk P E) {s d : TypeId} {x c : A} {vx : Value} (h : aConv E s d x = some c) (hx : Rel G ρ w x vx) : ∃ v, (convert s d vx).run P w = .ok v w ∧ Rel G ρ w c v := by
  simp only [aConv, Option.bind_eq_some_iff] at h
  obtain ⟨S, hS, D, hD, h⟩ := h
  have hs := hE.ti _ _ hS
  have hd := hE.ti _ _ hD
  obtain ⟨ds, hds, hus⟩ := hs.1
  obtain ⟨dd, hdd, hud⟩ := hd.1
  rw [hud] at h
  unfold convert
  simp only [Sem.run_bind, run_und hds, run_und hdd, Result.andThen_ok]
  cases dd <;> simp only [uOf, reduceCtorEq] at h
  case int k =>
    cases hx <;> simp only [reduceCtorEq, Option.some.injEq] at h
    subst h
    exact ⟨_, rfl, .i _ _⟩
  case string =>
    cases hx <;> simp only [reduceCtorEq, Option.some.injEq] at h
    subst h
    rename_i hh
    exact ⟨_, by rfl, .s _ _ hh⟩

theorem run_aLen (hE : EnvOk P E) {t ty : TypeId} {x c : A} {vx : Value} {ats : Array TypeId} (ht : ats[0]? = some t) (h : aLen E t x = some c) (hx : Rel G ρ w x vx) :
    ∃ v, (Builtin.len_ ats ty #[vx]).run P w = .ok v w ∧ Rel G ρ w c v := by
  simp only [aLen, Option.bind_eq_some_iff] at h
  obtain ⟨T, hT, h⟩ := h
  have hok := hE.ti _ _ hT
  obtain ⟨d, hd, hu⟩ := hok.1
  rw [hu] at h
  unfold Builtin.len_
  have h0 : (#[vx] : Array Value)[0]? = some vx := rfl
  simp only [ht, h0, Sem.run_bind, run_und hd, Result.andThen_ok]
  cases d <;> simp only [uOf, reduceCtorEq] at h
  case string =>
    cases hx <;> simp only [reduceCtorEq, Option.some.injEq] at h
    subst h
    rename_i hs
    refine ⟨_, rfl, ?_⟩
    rw [← hs]
    simp only [List.length_map, goInt]
    rw [show (List.length (ByteArray.data _).toList) = (ByteArray.data _).size from rfl]
    exact .i _ _
  case array n e =>
    simp only [Option.some.injEq] at h
    subst h
    exact ⟨_, rfl, .i _ _⟩
  case slice e =>
    cases hx <;> simp only [reduceCtorEq, Option.some.injEq] at h <;> subst h <;> exact ⟨_, rfl, .i _ _⟩
  case map k e =>
    cases hx <;> simp only [reduceCtorEq, Option.some.injEq] at h
    subst h
    exact ⟨_, rfl, .i _ _⟩

theorem run_maxs (f : Int → Int → Bool) (g : Value → Value → Sem Value) (hg : ∀ k k' x y, (g (.int k x) (.int k' y)).run P w = .ok (.int k (if f x y then y else x)) w) : ∀ {l : List A} {a c : A} {vs : List Value} {v : Value},
    maxs f a l = some c → Rel G ρ w a v → Rels G ρ w l vs → ∃ r, (vs.foldlM g v).run P w = .ok r w ∧ Rel G ρ w c r := by
  intro l
  induction l with
  | nil =>
    intro a c vs v h ha hl
    have : vs = [] := hl.nil_inv
    subst this
    have : c = a := by cases a <;> simp_all [maxs]
    subst this
    exact ⟨v, rfl, ha⟩
  | cons b l ih =>
    intro a c vs v h ha hl
    cases a <;> (try (simp only [maxs, reduceCtorEq] at h; done))
    cases b <;> (try (simp only [maxs, reduceCtorEq] at h; done))
    simp only [maxs] at h
    obtain ⟨v', vs', rfl, hv', hl'⟩ := hl.uncons
    cases ha
    cases hv'
    obtain ⟨r, hr, hrel⟩ := ih h (.i _ _) hl'
    refine ⟨r, ?_, hrel⟩
    simp only [List.foldlM_cons, Sem.run_bind, hg, Result.andThen_ok]
    exact hr

theorem plainKey_spec {u : U} : ∀ {l : List A}, plainKey u l = true → ∀ a ∈ l, (∃ k n, u = .int k ∧ a = .i k n) ∨ (∃ s, u = .string ∧ a = .s s) := by
  intro l
  induction l with
  | nil => intro _ a ha; simp at ha
  | cons b l ih =>
    intro h a ha
    simp only [plainKey, Bool.and_eq_true] at h
    rcases List.mem_cons.1 ha with rfl | ha
    · have h1 := h.1
      cases u <;> (try (simp at h1; done)) <;> cases a <;> (try (simp at h1; done))
      · left; simp at h1; subst h1; exact ⟨_, _, rfl, rfl⟩
      · right; exact ⟨_, rfl, rfl⟩
    · exact ih h.2 a ha

theorem run_checkKey {t : TypeId} {T : TI} (hok : TIok P t T) {empty : Bool} {k : A} {vk : Value} (hk : Rel G ρ w k vk) (hp : plainKey T.u [k] = true) : (Instr.checkKey empty 10000 t vk).run P w = .ok () w := by
  obtain ⟨d, hd, hu⟩ := hok.1
  unfold Instr.checkKey
  simp only [Sem.run_bind, run_und hd, Result.andThen_ok]
  rcases plainKey_spec hp k (by simp) with ⟨kk, n, hT, rfl⟩ | ⟨s, hT, rfl⟩
  · rw [hu] at hT
    cases d <;> simp only [uOf, reduceCtorEq] at hT
    cases hk
    rfl
  · rw [hu] at hT
    cases d <;> simp only [uOf, reduceCtorEq] at hT
    cases hk
    rfl

theorem sameNow_eq {d : TypeDesc} {k k' : A} {vk vk' : Value} (hk : Rel G ρ w k vk) (hk' : Rel G ρ w k' vk') (hp : plainKey (uOf d) [k, k'] = true) : Instr.sameNow d vk vk' = some (aeq k k') := by
  have h1 := plainKey_spec hp k (by simp)
  have h2 := plainKey_spec hp k' (by simp)
  rcases h1 with ⟨kk, n, hT, rfl⟩ | ⟨s, hT, rfl⟩
  · rcases h2 with ⟨kk', n', hT', rfl⟩ | ⟨s', hT', rfl⟩
    · rw [hT] at hT'
      simp only [U.int.injEq] at hT'
      subst hT'
      cases d <;> simp only [uOf, reduceCtorEq] at hT
      cases hk; cases hk'
      simp [Instr.sameNow, aeq]
    · rw [hT] at hT'; cases hT'
  · rcases h2 with ⟨kk', n', hT', rfl⟩ | ⟨s', hT', rfl⟩
    · rw [hT] at hT'; cases hT'
    · cases d <;> simp only [uOf, reduceCtorEq] at hT
      cases hk with
      | s _ _ h1 => cases hk' with
        | s _ _ h2 => simp [Instr.sameNow, aeq, str_eq h1 h2]

theorem findNow_eq {d : TypeDesc} {k : A} {vk : Value} (hk : Rel G ρ w k vk) : ∀ {es : List (A × A)} {ms : List MapEntry} (j : Nat), es.length = ms.length →
    (∀ (i : Nat) (k a : A) (m : MapEntry), es[i]? = some (k, a) → ms[i]? = some m → Rel G ρ w k m.key ∧ Rel G ρ w a m.val) → plainKey (uOf d) (k :: es.map (·.1)) = true →
    match mapFind k es j with
    | some (i, a) => ∃ v, Instr.findNow d vk ms j = some (some (i, v)) ∧ Rel G ρ w a v ∧ ∃ m, ms[i - j]? = some m ∧ j ≤ i ∧ i - j < es.length
    | none => Instr.findNow d vk ms j = some none := by
  intro es
  induction es with
  | nil =>
    intro ms j hl _ _
    have : ms = [] := List.eq_nil_of_length_eq_zero hl.symm
    subst this
    rfl
  | cons e es ih =>
    intro ms j hl hr hp
    obtain ⟨k', a⟩ := e
    cases ms with
    | nil => simp at hl
    | cons m ms =>
      obtain ⟨r1, r2⟩ := hr 0 k' a m rfl rfl
      have hp2 : plainKey (uOf d) [k, k'] = true := by
        simp only [List.map_cons, plainKey, Bool.and_eq_true] at hp ⊢
        exact ⟨hp.1, hp.2.1, trivial⟩
      have hs := sameNow_eq hk r1 hp2
      simp only [mapFind, Instr.findNow, hs]
      cases haeq : aeq k k' with
      | true => exact ⟨m.val, rfl, r2, m, by simp, Nat.le_refl _, by simp⟩
      | false =>
        have hp3 : plainKey (uOf d) (k :: es.map (·.1)) = true := by
          simp only [List.map_cons, plainKey, Bool.and_eq_true] at hp ⊢
          exact ⟨hp.1, hp.2.2⟩
        have := ih (ms := ms) (j + 1) (by simpa using hl) (fun i k a m h1 h2 => hr (i + 1) k a m (by simpa using h1) (by simpa using h2)) hp3
        simp only [Bool.false_eq_true, if_false]
        cases hf : mapFind k es (j + 1) with
        | none => rw [hf] at this; exact this
        | some x =>
          obtain ⟨i, b⟩ := x
          rw [hf] at this
          obtain ⟨v, h1, h2, m', h3, h4, h5⟩ := this
          refine ⟨v, h1, h2, m', ?_, by omega, by simp; omega⟩
          have : i - j = (i - (j + 1)) + 1 := by omega
          rw [this]
          simpa using h3

theorem run_findKey {t : TypeId} {T : TI} (hok : TIok P t T) {k : A} {vk : Value} (hk : Rel G ρ w k vk) {es : List (A × A)} {ms : List MapEntry} (hl : es.length = ms.length)
    (hr : ∀ (i : Nat) (k a : A) (m : MapEntry), es[i]? = some (k, a) → ms[i]? = some m → Rel G ρ w k m.key ∧ Rel G ρ w a m.val) (hp : plainKey T.u (k :: es.map (·.1)) = true) :
    match mapFind k es 0 with
    | some (i, a) => ∃ v, (Instr.findKey t vk ms).run P w = .ok (some (i, v)) w ∧ Rel G ρ w a v ∧ i < es.length
    | none => (Instr.findKey t vk ms).run P w = .ok none w := by
  obtain ⟨d, hd, hu⟩ := hok.1
  rw [hu] at hp
  have := findNow_eq (d := d) hk 0 hl hr hp
  cases hf : mapFind k es 0 with
  | none =>
    rw [hf] at this
    simp only [Instr.findKey, Sem.run_bind, run_und hd, Result.andThen_ok, this, Sem.run_pure]
  | some x =>
    obtain ⟨i, b⟩ := x
    rw [hf] at this
    obtain ⟨v, h1, h2, m', h3, h4, h5⟩ := this
    refine ⟨v, ?_, h2, by simpa using h5⟩
    simp only [Instr.findKey, Sem.run_bind, run_und hd, Result.andThen_ok, h1, Sem.run_pure]

theorem plainKey_head {u : U} {k : A} {l : List A} (h : plainKey u (k :: l) = true) : plainKey u [k] = true := by
  simp only [plainKey, Bool.and_eq_true] at h ⊢
  exact ⟨h.1, trivial⟩

theorem run_lookup (hE : EnvOk P E) {t kt et : TypeId} {T K F : TI} (hT : E.ti t = some T) (hu : T.u = .map kt et) (hK : E.ti kt = some K) (hF : E.ti et = some F) {zero : A} (hz : ofCells F.u.agg F.zero = some zero)
    {k : A} {vk : Value} (hk : Rel G ρ w k vk) {es : List (A × A)} {ms : List MapEntry} (hl : es.length = ms.length)
    (hr : ∀ (i : Nat) (k a : A) (m : MapEntry), es[i]? = some (k, a) → ms[i]? = some m → Rel G ρ w k m.key ∧ Rel G ρ w a m.val) (hp : plainKey K.u (k :: es.map (·.1)) = true) {vm : Value}
    (hm : (vm = .map none ∧ ms = []) ∨ ∃ r clock, vm = .map (some r) ∧ (getObj r).run P w = .ok (.map ms.toArray clock) w) {ok : Bool} :
    ∃ v, (Instr.lookup t vm vk ok).run P w = .ok v w ∧ Rel G ρ w (match mapFind k es 0 with
      | some (_, r) => if ok then .t [r, .b true] else r
      | none => if ok then .t [zero, .b false] else zero) v := by
  have hok := hE.ti _ _ hT
  obtain ⟨d, hd, hud⟩ := hok.1
  rw [hu] at hud
  cases d <;> simp only [uOf, reduceCtorEq, U.map.injEq] at hud
  obtain ⟨rfl, rfl⟩ := hud
  have hc := run_checkKey (P := P) (empty := ms.toArray.isEmpty) (hE.ti _ _ hK) hk (plainKey_head hp)
  have hf := run_findKey (P := P) (hE.ti _ _ hK) hk hl hr hp
  have fin : ∀ es' : Array MapEntry, es' = ms.toArray → ∃ v, (do
      Instr.checkKey es'.isEmpty 10000 kt vk
      match ← Instr.findKey kt vk es'.toList with
      | some (_, v) => pure (if ok = true then Value.tuple #[v, Value.bool true] else v)
      | none => do
        let v ← zeroValue et
        pure (if ok = true then Value.tuple #[v, Value.bool false] else v) : Sem Value).run P w = .ok v w ∧ Rel G ρ w (match mapFind k es 0 with
      | some (_, r) => if ok then .t [r, .b true] else r
      | none => if ok then .t [zero, .b false] else zero) v := by
    rintro es' rfl
    simp only [Sem.run_bind, hc, Result.andThen_ok]
    cases hff : mapFind k es 0 with
    | none =>
      rw [hff] at hf
      obtain ⟨z, hz1, _, _, _, hz2⟩ := run_zero (G := G) (ρ := ρ) (w := w) (hE.ti _ _ hF)
      simp only [hf, Result.andThen_ok, Sem.run_bind, hz1, Sem.run_pure]
      refine ⟨_, rfl, ?_⟩
      cases ok with
      | false => exact hz2 _ hz
      | true => exact rel_t (vs := [z, .bool false]) (Rels.cons (hz2 _ hz) (Rels.cons (.b _) Rels.nil))
    | some x =>
      obtain ⟨i, a⟩ := x
      rw [hff] at hf
      obtain ⟨v, h1, h2, _⟩ := hf
      simp only [h1, Result.andThen_ok, Sem.run_pure]
      refine ⟨_, rfl, ?_⟩
      cases ok with
      | false => exact h2
      | true => exact rel_t (vs := [v, .bool true]) (Rels.cons h2 (Rels.cons (.b _) Rels.nil))
  unfold Instr.lookup
  simp only [Sem.run_bind, run_und hd, Result.andThen_ok]
  rcases hm with ⟨rfl, rfl⟩ | ⟨r, clock, rfl, hm⟩
  · obtain ⟨v, h1, h2⟩ := fin #[] rfl
    refine ⟨v, ?_, h2⟩
    simp only [Sem.run_bind, pure_bind] at h1 ⊢
    exact h1
  · obtain ⟨v, h1, h2⟩ := fin _ rfl
    refine ⟨v, ?_, h2⟩
    simp only [Sem.run_bind, hm, Result.andThen_ok, pure_bind] at h1 ⊢
    exact h1

theorem run_typeAssert (hE : EnvOk P E) {t xt : TypeId} {T : TI} (hT : E.ti t = some T) {zero : A} (hz : ofCells T.u.agg T.zero = some zero) {y c : A} {vx : Value} {ok : Bool} (hx : Rel G ρ w y vx)
    (hi : T.u.isI = false) (h : aAssert zero t ok y = some c) : ∃ v, (Instr.typeAssert vx xt t ok).run P w = .ok v w ∧ Rel G ρ w c v := by
  have hok := hE.ti _ _ hT
  obtain ⟨d, hd, hu⟩ := hok.1
  obtain ⟨z, hz1, _, _, _, hz2⟩ := run_zero (G := G) (ρ := ρ) (w := w) hok
  have hni : ∀ ms, d ≠ .interface ms := fun ms e => by rw [hu, e] at hi; simp [uOf, U.isI] at hi
  unfold Instr.typeAssert
  simp only [Sem.run_bind, run_und hd, Result.andThen_ok]
  cases hx with
  | ni =>
    cases ok with
    | false => simp [aAssert] at h
    | true =>
      simp only [aAssert, if_true, Option.some.injEq] at h
      subst h
      cases d <;> first
        | exact (hni _ rfl).elim
        | (refine ⟨_, ?_, rel_t (vs := [z, .bool false]) (Rels.cons (hz2 _ hz) (Rels.cons (.b _) Rels.nil))⟩
           simp only [if_true, Sem.run_bind, hz1, Result.andThen_ok, Sem.run_pure])
  | x u a v hv =>
    simp only [aAssert] at h
    by_cases ht : u = t
    · rw [if_pos ht] at h
      simp only [Option.some.injEq] at h
      subst h
      refine ⟨if ok then .tuple #[v, .bool true] else v, ?_, ?_⟩
      · cases d <;> first
          | exact (hni _ rfl).elim
          | (simp only [if_pos ht, Sem.run_pure])
      · cases ok with
        | false => exact hv
        | true => exact rel_t (vs := [v, .bool true]) (Rels.cons hv (Rels.cons (.b _) Rels.nil))
    · rw [if_neg ht] at h
      cases ok with
      | false => simp at h
      | true =>
        simp only [if_true, Option.some.injEq] at h
        subst h
        cases d <;> first
          | exact (hni _ rfl).elim
          | (refine ⟨_, ?_, rel_t (vs := [z, .bool false]) (Rels.cons (hz2 _ hz) (Rels.cons (.b _) Rels.nil))⟩
             simp only [if_neg ht, if_true, Sem.run_bind, hz1, Result.andThen_ok, Sem.run_pure])
  | _ => simp [aAssert] at h

theorem bytesA_spec : ∀ {cs : List A} {l : List Nat}, bytesA cs = some l → cs = l.map (fun b => A.i .u8 (b : Nat)) ∧ ∀ b ∈ l, b < 256 := by
  intro cs
  induction cs with
  | nil => intro l h; simp [bytesA] at h; subst h; exact ⟨rfl, fun b hb => by simp at hb⟩
  | cons a cs ih =>
    intro l h
    unfold bytesA at h
    split at h
    · rename_i he; cases he
    · rename_i n r he
      cases he
      split at h
      · rename_i hn
        simp only [Option.map_eq_some_iff] at h
        obtain ⟨l', hl, rfl⟩ := h
        obtain ⟨h1, h2⟩ := ih hl
        refine ⟨?_, ?_⟩
        · rw [h1]
          simp only [List.map_cons, List.cons.injEq, A.i.injEq, true_and, and_true]
          omega
        · intro b hb
          rcases List.mem_cons.1 hb with rfl | hb
          · omega
          · exact h2 b hb
      · cases h
    · cases h

theorem run_bytes {vs : List Value} {l : List Nat} (hr : Rels G ρ w (l.map fun b => A.i .u8 (b : Nat)) vs) (hb : ∀ b ∈ l, b < 256) : ∀ (s : ByteArray),
    ∃ s', (do
      let mut s := s
      for c in vs do
        let .int .u8 n := c | stuck "bytesToString: byte expected"
        s := s.push (UInt8.ofNat n.toNat)
      pure (.string s) : Sem Value).run P w = .ok (.string s') w ∧ s'.data.toList.map (·.toNat) = s.data.toList.map (·.toNat) ++ l := by
  induction l generalizing vs with
  | nil =>
    intro s
    have : vs = [] := hr.nil_inv
    subst this
    exact ⟨s, rfl, by simp⟩
  | cons b l ih =>
    intro s
    simp only [List.map_cons] at hr
    obtain ⟨v, vs', rfl, hv, hr'⟩ := hr.uncons
    cases hv
    obtain ⟨s', h1, h2⟩ := ih hr' (fun c hc => hb c (by simp [hc])) (s.push (UInt8.ofNat b))
    refine ⟨s', ?_, ?_⟩
    · simp only [List.forIn_cons, Sem.run_bind] at h1 ⊢
      simpa using h1
    · rw [h2]
      have : (UInt8.ofNat b).toNat = b := by
        have := hb b (by simp)
        simp [UInt8.toNat_ofNat', Nat.mod_eq_of_lt this]
      simp [ByteArray.push, this]

end
end Go.VV
