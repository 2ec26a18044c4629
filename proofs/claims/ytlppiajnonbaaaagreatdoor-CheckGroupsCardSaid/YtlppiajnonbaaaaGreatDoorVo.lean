/- append, whole; stores; and all operations that change the store. -/
import Derived.Test.YtlppiajnonbaaaaGreatDoorVn
set_option linter.unusedVariables false
set_option linter.unusedSimpArgs false
namespace Go.VV
section
variable {P : Program} {G : Nat} {ρ : Gh} {w w' : World} {E : Env} {H : Nat → Option Ob}

theorem append_flat {l l' : List A} (h : ∀ (i : Nat) (a : A), l[i]? = some a → flat a = true) (h' : ∀ (i : Nat) (a : A), l'[i]? = some a → flat a = true) : ∀ (i : Nat) (a : A), (l ++ l')[i]? = some a → flat a = true := by
  intro i a ha
  rw [List.getElem?_append] at ha
  split at ha
  · exact h _ _ ha
  · exact h' _ _ ha

/-- The new block of an append. -/
theorem fin_grow (hs : Sim G E ρ H w) {l : Nat} (hl : ρ.β l = none) (hl2 : ρ.tk l = none) {c : Array Value} {e : TypeId} {cs : List A} {vs : List Value} (hr : Rels G ρ w cs vs) (hf : ∀ (i : Nat) (a : A), cs[i]? = some a → flat a = true)
    (htake : c.toList.take vs.length = vs) {n sz cap : Nat} (hlen : cs.length = n * sz) (hn : n ≤ cap) (hc : c.size = cap * sz) :
    ∃ ρ', Rel G ρ' (grown w c e) (.v false cs n sz l 0) (.slice (some ⟨w.heap.size, 0, none⟩) n cap) ∧ Ext ρ w ρ' (grown w c e) ∧ Sim G E ρ' (upd H l (some (.k cs.length))) (grown w c e) ∧ Fr ρ H w l (l + 1) ρ' (grown w c e) :=
  fin_tk (w' := grown w c e) (kc := false) hs hl hl2 rfl (live0 _) rfl rfl rfl (by rw [hr.1, htake]; exact hr) hf hlen hn (fun h => by cases h) (by omega)

theorem upd_eq {σ : St} {l : Nat} {o : Ob} : (σ.set l o).get = upd σ.get l (some o) := by funext k; rw [St.get_set]; rfl
theorem new_eq {σ : St} {o : Ob} : (σ.new o).get = upd σ.get σ.nx (some o) := by funext k; rw [St.get_new]; rfl
theorem kill_eq {σ : St} {l : Nat} : (σ.kill l).get = upd σ.get l none := by funext k; rw [St.get_kill]; rfl

theorem div_len {l fs : Nat} (h : ¬ l % fs ≠ 0) {n : Nat} (hn : l = n * fs) (hfs : fs ≠ 0) : l / fs = n := by
  rw [hn]
  exact Nat.mul_div_cancel _ (Nat.pos_of_ne_zero hfs)

theorem run_append (hE : EnvOk P E) {σ σ' : St} (hs : Sim G E ρ σ.get w) (hfr : σ.nx < σ'.nx → ρ.β σ.nx = none ∧ ρ.tk σ.nx = none) {t z : TypeId} {Z : TI} {ats : Array TypeId} {ty : TypeId} (ht : ats[0]? = some t) (hz : ats[1]? = some z)
    (hZ : E.ti z = some Z) (hZu : ∀ k, Z.u ≠ .int k) {x y c : A} {vx vy : Value} (h : aAppend E σ t x y = some (c, σ')) (rx : Rel G ρ w x vx) (ry : Rel G ρ w y vy) :
    ∃ v w' ρ', (Builtin.append_ ats ty #[vx, vy]).run P w = .ok v w' ∧ Rel G ρ' w' c v ∧ Ext ρ w ρ' w' ∧ Sim G E ρ' σ'.get w' ∧ Fr ρ σ.get w σ.nx σ'.nx ρ' w' := by
  unfold aAppend at h
  simp only [Option.bind_eq_some_iff] at h
  obtain ⟨T, hT, h⟩ := h
  split at h
  case h_2 => cases h
  rename_i e hTu
  simp only [Option.bind_eq_some_iff] at h
  obtain ⟨F, hF, new, hnew, h⟩ := h
  split at h
  · cases h
  rename_i hguard
  have hsz : F.sz ≠ 0 := fun e => hguard (.inl e)
  have hby : F.by_ ≠ 0 := fun e => hguard (.inr (.inl e))
  have hmod : ¬ new.length % F.sz ≠ 0 := fun e => hguard (.inr (.inr e))
  obtain ⟨n, nv, hn, hnv, hnr, hnf, hnl⟩ := run_src (P := P) hs hsz hnew ry
  have hk : new.length / F.sz = n := div_len hmod hnl hsz
  have hnvl : nv.length = n * F.sz := by rw [← hnr.1, hnl]
  have hnv0 := hnv w (Ext.refl _ _) (fun _ _ => rfl)
  have hnvw : ∀ w2 : World, w2.heap = w.heap → (Builtin.firstCells F.sz n vy).run P w2 = .ok (List.toArray nv) w2 := fun w2 hw => hnv w2 ⟨fun _ _ h => h, fun _ _ h => h, fun _ => Nat.le_refl _, fun b i _ => by unfold cell; rw [hw], fun b m hb => by
    unfold rowSize at hb ⊢; rw [hw]; exact hb⟩ (fun b _ => by rw [hw])
  have nil_of : n = 0 → new = [] ∧ nv = [] := fun h0 => by
    rw [h0] at hnl hnvl
    exact ⟨List.eq_nil_of_length_eq_zero (by simpa using hnl), List.eq_nil_of_length_eq_zero (by simpa using hnvl)⟩
  simp only [hk] at h
  cases x <;> simp only [reduceCtorEq] at h
  case ns =>
    cases rx
    split at h
    · rename_i h0
      simp only [Option.some.injEq, Prod.mk.injEq] at h
      obtain ⟨rfl, rfl⟩ := h
      have := run_append_fit (P := P) (w := w) (w' := w) (ty := ty) hE ht hz hT hZ hTu hZu hF (base := none) (sLen := 0) (sCap := 0) hn (by omega) hnv0 rfl
      rw [h0] at this
      exact ⟨_, _, _, this, .ns, Ext.refl _ _, hs, Fr.refl _ _⟩
    · rename_i h0
      split at h
      · rename_i hbd
        simp only [Option.some.injEq, Prod.mk.injEq] at h
        obtain ⟨rfl, rfl⟩ := h
        obtain ⟨f1, f2⟩ := hfr (by simp [St.nx_new])
        obtain ⟨cap, cc, h1, h2, h3, h4⟩ := run_append_grow (P := P) (w := w) (ty := ty) hE ht hz hT hZ hTu hZu hF (base := none) (sLen := 0) (sCap := 0) (ov := []) hn (by omega) hby (by simpa using hbd) (fun _ _ => rfl) hnvw (by simp) hnvl
        simp only [List.nil_append, Nat.zero_add] at h1 h3 h4
        obtain ⟨ρ', r1, r2, r3, r4⟩ := fin_grow (e := e) hs f1 f2 hnr hnf h3 hnl h1 h2
        exact ⟨_, _, ρ', h4, r1, r2, by rw [new_eq]; exact r3, by simpa [St.nx_new] using r4⟩
      · cases h
  case v kc cs m sz tk st =>
    cases rx with
    | v _ _ _ _ _ _ blk o cap f hl hm hkc hc hf hr hM htk hN =>
      have hrow : RowAt G ρ w blk o cs f := ⟨hc, hf, hr⟩
      split at h
      case isFalse => cases h
      rename_i hg
      obtain ⟨hsz2, hbd⟩ := hg
      subst hsz2
      split at h
      · rename_i h0
        simp only [Option.some.injEq, Prod.mk.injEq] at h
        obtain ⟨rfl, rfl⟩ := h
        obtain ⟨e1, e2⟩ := nil_of h0
        have := run_append_fit (P := P) (w := w) (w' := w) (ty := ty) hE ht hz hT hZ hTu hZu hF (base := some ⟨blk, o, none⟩) (sLen := m) (sCap := cap) hn (by omega) hnv0 (by rw [e2]; rfl)
        rw [h0, Nat.add_zero] at this
        exact ⟨_, _, _, this, .v _ _ _ _ _ _ blk o cap f hl hm hkc hc hf hr hM htk hN, Ext.refl _ _, hs, Fr.refl _ _⟩
      · rename_i h0
        obtain ⟨ov, hov, hor⟩ := run_own (P := P) (cap := cap) hl hrow
        have hovl : ov.length = m * F.sz := by rw [← hor.1, hl]
        have hovw : ∀ w2 : World, w2.heap = w.heap → (Builtin.firstCells F.sz m (.slice (some ⟨blk, o, none⟩) m cap)).run P w2 = .ok (List.toArray ov) w2 := by
          intro w2 hw
          have hrow2 : RowAt G ρ w2 blk o cs f := ⟨fun i a ha => by have := hc i a ha; unfold cell at this ⊢; rw [hw]; exact this, hf, fun i a ha => (hr i a ha).mono ⟨fun _ _ h => h, fun _ _ h => h, fun _ => Nat.le_refl _, fun b i _ => by unfold cell; rw [hw], fun b m hb => by
            unfold rowSize at hb ⊢; rw [hw]; exact hb⟩⟩
          have q := fun (w3 : World) (hw3 : w3.heap = w.heap) => run_loadCells (P := P) w3 ⟨blk, o, none⟩ (m * F.sz) f (fun j hj => by
            rw [add_at, cell_eq]
            have hj' : j < cs.length := by rw [hl]; exact hj
            have := hc j _ (List.getElem?_eq_getElem hj')
            unfold cell at this ⊢
            rw [hw3]
            exact this)
          have q1 := q w rfl
          have q2 := q w2 hw
          simp only [Builtin.firstCells] at hov ⊢
          rw [q1] at hov
          rw [q2]
          simp only [Result.ok.injEq, and_true] at hov
          rw [hov]
        have hboth : Rels G ρ w (cs ++ new) (ov ++ nv) := hor.append hnr
        have hbothf := append_flat hf hnf
        have hbl : (cs ++ new).length = (m + n) * F.sz := by rw [List.length_append, hl, hnl, Nat.add_mul]
        split at h
        · rename_i hkc'
          simp only [Option.some.injEq, Prod.mk.injEq] at h
          obtain ⟨rfl, rfl⟩ := h
          obtain ⟨f1, f2⟩ := hfr (by simp [St.nx_new])
          have hcap := hkc hkc'
          obtain ⟨cap', cc, h1, h2, h3, h4⟩ := run_append_grow (P := P) (w := w) (ty := ty) hE ht hz hT hZ hTu hZu hF (base := some ⟨blk, o, none⟩) (sLen := m) (sCap := cap) (ov := ov) hn (by omega) hby hbd hovw hnvw hovl hnvl
          obtain ⟨ρ', r1, r2, r3, r4⟩ := fin_grow (e := e) hs f1 f2 hboth hbothf h3 hbl h1 h2
          rw [List.length_append] at r3
          exact ⟨_, _, ρ', h4, r1, r2, by rw [new_eq]; exact r3, by simpa [St.nx_new] using r4⟩
        · split at h
          · rename_i mark hmk
            split at h
            · rename_i hmark
              simp only [Option.some.injEq, Prod.mk.injEq] at h
              obtain ⟨rfl, rfl⟩ := h
              obtain ⟨f1, f2⟩ := hfr (by simp [St.nx_new, St.nx_kill])
              have hget : ((σ.kill tk).new (.k (cs.length + new.length))).get = upd (upd σ.get tk none) σ.nx (some (.k (cs.length + new.length))) := by rw [new_eq, kill_eq, St.nx_kill]
              by_cases hfit : m + n ≤ cap
              · obtain ⟨w', g1, g2, g3, g4, g5⟩ := grow_in_place (P := P) (l := σ.nx) (k := n) hs f1 f2 hl hnl (fun e => h0 (by rw [e] at hnl; have := hnl.symm; simp only [List.length_nil] at this; exact (Nat.mul_eq_zero.1 this).resolve_right hsz)) hfit hrow htk hN hmk hmark hnr hnf
                have := run_append_fit (P := P) (w := w) (w' := w') (ty := ty) hE ht hz hT hZ hTu hZu hF (base := some ⟨blk, o, none⟩) (sLen := m) (sCap := cap) hn hfit hnv0 (by simp only [add_at]; exact g1)
                exact ⟨_, w', _, this, g4, g2, by rw [hget]; exact g3, by simpa [St.nx_new, St.nx_kill] using g5⟩
              · obtain ⟨cap', cc, h1, h2, h3, h4⟩ := run_append_grow (P := P) (w := w) (ty := ty) hE ht hz hT hZ hTu hZu hF (base := some ⟨blk, o, none⟩) (sLen := m) (sCap := cap) (ov := ov) hn (by omega) hby hbd hovw hnvw hovl hnvl
                have hsub : ∀ k ob, upd σ.get tk none k = some ob → σ.get k = some ob := fun k ob hk => by
                  simp only [upd] at hk
                  split at hk
                  · cases hk
                  · exact hk
                obtain ⟨ρ', r1, r2, r3, r4⟩ := fin_grow (e := e) (hs.sub hsub) f1 f2 hboth hbothf h3 hbl h1 h2
                rw [List.length_append] at r3
                exact ⟨_, _, ρ', h4, r1, r2, by rw [hget]; exact r3, by simpa [St.nx_new, St.nx_kill] using r4.weaken hsub⟩
            · cases h
          · cases h
          · cases h
  case w l off m sz cap =>
    cases rx with
    | w _ _ _ _ _ blk hβ hm hN =>
      split at h
      · rename_i hg
        obtain ⟨hsz2, hfit⟩ := hg
        subst hsz2
        split at h
        · rename_i cs hσ
          simp only [Option.map_eq_some_iff, Prod.mk.injEq] at h
          obtain ⟨cs', hp, rfl, rfl⟩ := h
          obtain ⟨w', g1, g2, g3, g4⟩ := row_put (P := P) hs hβ hσ hp hnr hnf
          have := run_append_fit (P := P) (w := w) (w' := w') (ty := ty) hE ht hz hT hZ hTu hZu hF (base := some ⟨blk, off, none⟩) (sLen := m) (sCap := cap) hn hfit hnv0 (by simp only [add_at]; exact g1)
          obtain ⟨N, hN1, hN2⟩ := hN
          exact ⟨_, w', ρ, this, .w _ _ _ _ _ blk hβ hfit ⟨N, g2.row _ _ hN1, hN2⟩, g2, by rw [upd_eq]; exact g3, by simpa [St.nx_set] using g4 _⟩
        · cases h
      · rename_i hng
        split at h
        · rename_i hg
          obtain ⟨hsz2, hbd⟩ := hg
          subst hsz2
          split at h
          · rename_i cs hσ
            simp only [Option.map_eq_some_iff, Prod.mk.injEq] at h
            obtain ⟨old, hold, rfl, rfl⟩ := h
            obtain ⟨f1, f2⟩ := hfr (by simp [St.nx_new])
            obtain ⟨f, hrow⟩ := (hs.obj l blk _ hβ hσ).row
            obtain ⟨ov, hov, hor, hof⟩ := run_cells (P := P) hrow hold
            obtain ⟨hb, _, holl, hg⟩ := takeN_spec hold
            have hovl : ov.length = m * F.sz := by rw [← hor.1, holl]
            have hovw : ∀ w2 : World, w2.heap = w.heap → (Builtin.firstCells F.sz m (.slice (some ⟨blk, off, none⟩) m cap)).run P w2 = .ok (List.toArray ov) w2 := by
              intro w2 hw
              have q := fun (w3 : World) (hw3 : w3.heap = w.heap) => run_loadCells (P := P) w3 ⟨blk, off, none⟩ (m * F.sz) (fun j => f (off + j)) (fun j hj => by
                rw [add_at, cell_eq]
                have := hrow.1 (off + j) _ (List.getElem?_eq_getElem (show off + j < cs.length by omega))
                rw [Nat.zero_add] at this
                unfold cell at this ⊢
                rw [hw3]
                exact this)
              have q1 := q w rfl
              have q2 := q w2 hw
              simp only [Nat.zero_add] at hov
              simp only [Builtin.firstCells]
              rw [q1] at hov
              rw [q2]
              simp only [Result.ok.injEq, and_true] at hov
              rw [hov]
            have hboth : Rels G ρ w (old ++ new) (ov ++ nv) := hor.append hnr
            have hbl : (old ++ new).length = (m + n) * F.sz := by rw [List.length_append, holl, hnl, Nat.add_mul]
            obtain ⟨cap', cc, h1, h2, h3, h4⟩ := run_append_grow (P := P) (w := w) (ty := ty) hE ht hz hT hZ hTu hZu hF (base := some ⟨blk, off, none⟩) (sLen := m) (sCap := cap) (ov := ov) hn (by
              rcases Nat.lt_or_ge cap (m + n) with h | h
              · exact h
              · exact (hng ⟨rfl, h⟩).elim) hby hbd hovw hnvw hovl hnvl
            obtain ⟨ρ', r1, r2, r3, r4⟩ := fin_grow (e := e) hs f1 f2 hboth (append_flat hof hnf) h3 hbl h1 h2
            rw [List.length_append] at r3
            exact ⟨_, _, ρ', h4, r1, r2, by rw [new_eq]; exact r3, by simpa [St.nx_new] using r4⟩
          · cases h
        · cases h

end
end Go.VV
