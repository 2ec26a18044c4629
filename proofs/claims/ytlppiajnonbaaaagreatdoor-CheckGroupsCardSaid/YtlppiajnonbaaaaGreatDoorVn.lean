/- append, in place or anew; what it does to the store. -/
import Derived.Test.YtlppiajnonbaaaaGreatDoorVm
set_option linter.unusedVariables false
set_option linter.unusedSimpArgs false
namespace Go.VV
section
variable {P : Program} {G : Nat} {ρ : Gh} {w w' : World} {E : Env} {H : Nat → Option Ob}

theorem run_append_fit (hE : EnvOk P E) {t z e : TypeId} {T Z F : TI} {ats : Array TypeId} {ty : TypeId} (ht : ats[0]? = some t) (hz : ats[1]? = some z) (hT : E.ti t = some T) (hZ : E.ti z = some Z) (hTu : T.u = .slice e) (hZu : ∀ k, Z.u ≠ .int k)
    (hF : E.ti e = some F) {base : Option Addr} {sLen sCap n : Nat} {vy : Value} (hn : (Builtin.lenOf vy).run P w = .ok n w) (hneed : sLen + n ≤ sCap) {nv : List Value}
    (hnv : (Builtin.firstCells F.sz n vy).run P w = .ok (List.toArray nv) w) (hst : match base with | some a => (storeCells (a.add (sLen * F.sz)) nv).run P w = .ok () w' | none => w' = w) :
    (Builtin.append_ ats ty #[.slice base sLen sCap, vy]).run P w = .ok (.slice base (sLen + n) sCap) w' := by
  obtain ⟨d, hd, hud⟩ := (hE.ti _ _ hT).1
  rw [hTu] at hud
  cases d <;> simp only [uOf, reduceCtorEq, U.slice.injEq] at hud
  subst hud
  obtain ⟨dz, hdz, huz⟩ := (hE.ti _ _ hZ).1
  have ha0 : (#[Value.slice base sLen sCap, vy] : Array Value)[0]? = some (.slice base sLen sCap) := rfl
  have ha1 : (#[Value.slice base sLen sCap, vy] : Array Value)[1]? = some vy := rfl
  unfold Builtin.append_
  simp only [ht, hz, ha0, ha1, Sem.run_bind, run_und hd, run_und hdz, Result.andThen_ok, run_size (hE.ti _ _ hF), Sem.run_pure]
  cases base with
  | none =>
    simp only at hst
    subst hst
    cases dz <;> first
      | (exact (hZu _ huz).elim)
      | (simp only [Bool.false_eq_true, if_false, hn, Result.andThen_ok, if_pos hneed, Sem.run_bind, Sem.run_pure, Bool.not_false, if_true, hnv])
  | some a =>
    simp only at hst
    cases dz <;> first
      | (exact (hZu _ huz).elim)
      | (simp only [Bool.false_eq_true, if_false, hn, Result.andThen_ok, if_pos hneed, Sem.run_bind, Sem.run_pure, Bool.not_false, if_true, hnv, hst])

theorem Sim.sub {H' : Nat → Option Ob} (h : Sim G E ρ H w) (hs : ∀ k ob, H' k = some ob → H k = some ob) : Sim G E ρ H' w where
  obj := fun l b o h1 h2 => h.obj l b o h1 (hs _ _ h2)
  tok := fun t n b base h1 h2 => h.tok t n b base h1 (hs _ _ h2)
  tok1 := fun t t' n n' b base base' h1 h2 h3 h4 => h.tok1 t t' n n' b base base' h1 (hs _ _ h2) h3 (hs _ _ h4)
  inj := h.inj
  sep := h.sep
  mz := h.mz
  lt := h.lt
  ltt := h.ltt
  ltM := h.ltM
  gl := h.gl

theorem Fr.weaken {H' : Nat → Option Ob} {n n' : Nat} {ρ' : Gh} (h : Fr ρ H' w n n' ρ' w') (hs : ∀ k ob, H' k = some ob → H k = some ob) : Fr ρ H w n n' ρ' w' where
  still := h.still
  heap := fun b hb hk hk2 => h.heap b hb (fun k ob hH => hk k ob (hs _ _ hH)) (fun k m base hH => hk2 k m base (hs _ _ hH))
  M := fun b hb hk => h.M b hb (fun k m base hH => hk k m base (hs _ _ hH))
  β := h.β
  tk := fun k b base hk => (h.tk k b base hk).imp id fun ⟨h1, h2, h3⟩ => ⟨h1, h2, h3.imp id fun ⟨t, m, base', h4, h5⟩ => ⟨t, m, base', hs _ _ h4, h5⟩⟩

/-- Cells are laid behind a slice that stays, in its own block. -/
theorem grow_in_place (hs : Sim G E ρ H w) {l tk st blk o cap n k sz mark : Nat} {cs new : List A} {nv : List Value} {f : Nat → Value} (hl : ρ.β l = none) (hl2 : ρ.tk l = none) (hlen : cs.length = n * sz) (hk : new.length = k * sz) (hkp : new ≠ [])
    (hcap : n + k ≤ cap) (hrow : RowAt G ρ w blk o cs f) (ht : ∃ base, ρ.tk tk = some (blk, base) ∧ (cap = 0 ∨ o = base + st)) (hN : ∃ N, rowSize w blk = some N ∧ o + cap * sz ≤ N) (hH : H tk = some (.k mark)) (hmark : mark = st + cs.length)
    (hn : Rels G ρ w new nv) (hf : ∀ (i : Nat) (a : A), new[i]? = some a → flat a = true) :
    ∃ w', (storeCells ⟨blk, o + n * sz, none⟩ nv).run P w = .ok () w' ∧ Ext ρ w (ρ.addtk l blk o (o + (cs.length + new.length))) w' ∧
      Sim G E (ρ.addtk l blk o (o + (cs.length + new.length))) (upd (upd H tk none) l (some (.k (cs.length + new.length)))) w' ∧
      Rel G (ρ.addtk l blk o (o + (cs.length + new.length))) w' (.v false (cs ++ new) (n + k) sz l 0) (.slice (some ⟨blk, o, none⟩) (n + k) cap) ∧ Fr ρ H w l (l + 1) (ρ.addtk l blk o (o + (cs.length + new.length))) w' := by
  obtain ⟨base, htk, hbase⟩ := ht
  obtain ⟨N, hN1, hN2⟩ := hN
  have hkpos : 0 < k := by
    rcases Nat.eq_zero_or_pos k with h | h
    · rw [h] at hk; simp at hk; exact (hkp hk).elim
    · exact h
  have ho : o = base + st := by
    rcases hbase with h | h
    · omega
    · exact h
  obtain ⟨hM, c, ty, fr, hb, hlv⟩ := hs.tok tk mark blk base htk hH
  have hM' : ρ.M blk = o + cs.length := by rw [hM, hmark]; omega
  have hNc : N = c.size := by simp only [rowSize, hb, Option.some.injEq] at hN1; exact hN1.symm
  have hnk : (n + k) * sz ≤ cap * sz := Nat.mul_le_mul_right _ hcap
  rw [Nat.add_mul] at hnk
  have hnl : nv.length = new.length := hn.1.symm
  have hfit : o + n * sz + nv.length ≤ c.size := by rw [hnl, hk]; omega
  have hlt := heap_lt hb
  have hrun := run_storeCells_live (P := P) blk (o + n * sz) ty fr nv 0 c w hb hlv (by omega) (flats_one hn hf)
  simp only [Nat.add_zero] at hrun
  generalize hc' : (List.take (o + n * sz) c.toList ++ nv ++ List.drop (o + n * sz + nv.length) c.toList).toArray = c' at hrun
  have hsz : c'.size = c.size := by rw [← hc']; simp; omega
  have hrow' : (putRow w blk (.cells c' ty fr)).heap[blk]? = some (.cells c' ty fr) := putRow_same hlt
  have hlow : ∀ i, i < o + n * sz → c'[i]? = c[i]? := by
    intro i hi
    rw [← hc', List.getElem?_toArray, List.getElem?_append, if_pos (by simp; omega), List.getElem?_append, if_pos (by simp; omega), List.getElem?_take, if_pos hi]
    simp
  have hmid : ∀ i, i < nv.length → c'[o + n * sz + i]? = nv[i]? := by
    intro i hi
    rw [← hc', List.getElem?_toArray, List.getElem?_append, if_pos (by simp; omega), List.getElem?_append, if_neg (by simp; omega)]
    congr 1
    simp
    omega
  have e : Ext ρ w (ρ.addtk l blk o (o + (cs.length + new.length))) (putRow w blk (.cells c' ty fr)) := by
    constructor
    · exact fun _ _ h => h
    · intro t x h
      simp only [Gh.addtk]
      rw [if_neg (fun e => by rw [e, hl2] at h; cases h)]
      exact h
    · intro b
      simp only [Gh.addtk]
      split
      · rename_i h; rw [h, hM']; omega
      · exact Nat.le_refl _
    · intro b i hi
      by_cases hbb : b = blk
      · subst hbb
        rw [hM', hlen] at hi
        simp only [cell, hrow', hb]
        exact hlow i hi
      · exact cell_of_heap (putRow_ne hbb) i
    · exact fun b n h => rowSize_putRow hb hsz h
  refine ⟨_, hrun, e, ?_, ?_, ?_⟩
  · have inv : ∀ {k b base : Nat}, (ρ.addtk l blk o (o + (cs.length + new.length))).tk k = some (b, base) → (k = l ∧ b = blk ∧ base = o) ∨ (k ≠ l ∧ ρ.tk k = some (b, base)) := by
      intro k b base h
      simp only [Gh.addtk] at h
      split at h
      · rename_i hk; simp at h; exact .inl ⟨hk, h.1.symm, h.2.symm⟩
      · rename_i hk; exact .inr ⟨hk, h⟩
    have hMb : ∀ b, b ≠ blk → (ρ.addtk l blk o (o + (cs.length + new.length))).M b = ρ.M b := fun b hb => by simp only [Gh.addtk]; rw [if_neg hb]
    have hneβ : ∀ {k b : Nat}, ρ.β k = some b → k ≠ l ∧ b ≠ blk := fun {k b} h => ⟨(fun e => by rw [e, hl] at h; cases h), (fun e => hs.sep k tk blk base (e ▸ h) htk)⟩
    have hup : ∀ {k ob}, k ≠ l → upd (upd H tk none) l (some (.k (cs.length + new.length))) k = some ob → k ≠ tk ∧ H k = some ob := by
      intro k ob hkl h
      simp only [upd, if_neg hkl] at h
      split at h
      · cases h
      · rename_i hkt; exact ⟨hkt, h⟩
    constructor
    · intro k b ob hkβ hob
      obtain ⟨h1, h2⟩ := hneβ hkβ
      exact (hs.obj k b ob hkβ (hup h1 hob).2).mono e (putRow_ne h2)
    · intro t m b base' ht hm
      rcases inv ht with ⟨rfl, rfl, rfl⟩ | ⟨hne, ht'⟩
      · simp only [upd, if_true, Option.some.injEq, Ob.k.injEq] at hm
        subst hm
        exact ⟨by simp [Gh.addtk], c', ty, fr, hrow', by rw [hsz]; exact hlv⟩
      · obtain ⟨h1, h2⟩ := hup hne hm
        have hbb : b ≠ blk := fun e => h1 (hs.tok1 t tk _ _ blk base' base (e ▸ ht') h2 htk hH)
        obtain ⟨h3, c2, ty2, fr2, h4, h5⟩ := hs.tok t m b base' ht' h2
        exact ⟨by rw [hMb b hbb]; exact h3, c2, ty2, fr2, (putRow_ne hbb).trans h4, h5⟩
    · intro t t' m m' b base1 base2 ht hm ht' hm'
      rcases inv ht with ⟨rfl, rfl, rfl⟩ | ⟨hne, ht1⟩
      · rcases inv ht' with ⟨rfl, _, _⟩ | ⟨hne', ht1'⟩
        · rfl
        · obtain ⟨h1, h2⟩ := hup hne' hm'
          exact (h1 (hs.tok1 t' tk _ _ _ _ _ ht1' h2 htk hH)).elim
      · obtain ⟨h1, h2⟩ := hup hne hm
        rcases inv ht' with ⟨rfl, rfl, rfl⟩ | ⟨hne', ht1'⟩
        · exact (h1 (hs.tok1 t tk _ _ _ _ _ ht1 h2 htk hH)).elim
        · obtain ⟨h1', h2'⟩ := hup hne' hm'
          exact hs.tok1 t t' m m' b base1 base2 ht1 h2 ht1' h2'
    · exact hs.inj
    · intro k t b base' hk ht
      rcases inv ht with ⟨rfl, rfl, rfl⟩ | ⟨_, ht'⟩
      · exact (hneβ hk).2 rfl
      · exact hs.sep k t b base' hk ht'
    · intro k b hk
      rw [hMb b (hneβ hk).2]
      exact hs.mz k b hk
    · intro k b hk
      have := hs.lt k b hk
      simpa [putRow] using this
    · intro t b base' ht
      rcases inv ht with ⟨rfl, rfl, rfl⟩ | ⟨_, ht'⟩
      · simpa [putRow] using hlt
      · have := hs.ltt t b base' ht'
        simpa [putRow] using this
    · intro b hb'
      have hb2 : w.heap.size ≤ b := by simpa [putRow] using hb'
      rw [hMb b (by omega)]
      exact hs.ltM b hb2
    · exact hs.gl.mono e
  · refine .v _ _ _ _ _ _ blk o cap (fun i => if i < cs.length then f i else nv.getD (i - cs.length) undef) (by simp [hlen, hk, Nat.add_mul]) hcap (fun h => by cases h) (fun i a ha => ?_) (fun i a ha => ?_) (fun i a ha => ?_) ?_
      ⟨o, by simp [Gh.addtk], .inr rfl⟩ ⟨c.size, by simp [rowSize, hrow', hsz], by omega⟩
    · rw [List.getElem?_append] at ha
      split at ha
      · rename_i hi
        simp only [if_pos hi]
        have := hrow.1 i a ha
        simp only [cell, hb] at this
        simp only [cell, hrow']
        rw [hlow _ (by omega)]
        exact this
      · rename_i hi
        have hi2 := lt_of_get ha
        simp only [if_neg hi, cell, hrow']
        have : o + i = o + n * sz + (i - cs.length) := by omega
        rw [this, hmid _ (by omega)]
        simp [List.getD_eq_getElem?_getD, show i - cs.length < nv.length by omega]
    · rw [List.getElem?_append] at ha
      split at ha
      · exact hrow.2.1 _ _ ha
      · exact hf _ _ ha
    · rw [List.getElem?_append] at ha
      split at ha
      · rename_i hi
        simp only [if_pos hi]
        exact (hrow.2.2 i a ha).mono e
      · rename_i hi
        simp only [if_neg hi]
        obtain ⟨v, hv, hr⟩ := hn.get ha
        have : nv.getD (i - cs.length) undef = v := by rw [List.getD_eq_getElem?_getD, hv]; rfl
        rw [this]
        exact hr.mono e
    · simp only [Gh.addtk, if_true, List.length_append]
      exact Nat.le_refl _
  · constructor
    · exact ⟨rfl, rfl, rfl, by simp [putRow]⟩
    · intro b hb' _ hk'
      exact putRow_ne (fun (e : b = blk) => hk' tk _ base hH (e ▸ htk))
    · intro b hb' hk'
      simp only [Gh.addtk]
      rw [if_neg (fun (e : b = blk) => hk' tk mark base hH (e ▸ htk))]
    · exact fun _ _ h => .inl h
    · intro k' b base' h
      simp only [Gh.addtk] at h
      split at h
      · rename_i hk'
        simp at h
        right
        exact ⟨by omega, by omega, .inr ⟨tk, mark, base, hH, by rw [← h.1]; exact htk⟩⟩
      · exact .inl h

end
end Go.VV
