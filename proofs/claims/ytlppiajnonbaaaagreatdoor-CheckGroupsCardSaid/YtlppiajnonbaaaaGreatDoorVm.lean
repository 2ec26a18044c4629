/- append. -/
import Derived.Test.YtlppiajnonbaaaaGreatDoorVl
set_option linter.unusedVariables false
set_option linter.unusedSimpArgs false
namespace Go.VV
section
variable {P : Program} {G : Nat} {ρ : Gh} {w w' : World} {E : Env}

theorem growBy_le (newLen : Nat) : ∀ (r c : Nat), Builtin.growBy newLen r c ≤ max c (2 * newLen + 192) := by
  intro r
  induction r with
  | zero => intro c; simp [Builtin.growBy]; omega
  | succ r ih =>
    intro c
    simp only [Builtin.growBy]
    split
    · omega
    · have := ih (c + (c + 768) / 4)
      omega

theorem nextcap_le {need cap : Nat} (h : cap < need) : Builtin.nextslicecap need cap ≤ 2 * need + 192 := by
  unfold Builtin.nextslicecap
  split
  · omega
  · split
    · omega
    · have := growBy_le need 4 cap
      omega

/-- What is appended: its length and cells. -/
theorem run_src {σ : St} (hs : Sim G E ρ σ.get w) {fs : Nat} (hfs : fs ≠ 0) {y : A} {vy : Value} {new : List A} (h : srcA σ fs y = some new) (ry : Rel G ρ w y vy) :
    ∃ n vs, (Builtin.lenOf vy).run P w = .ok n w ∧ (∀ w2, Ext ρ w ρ w2 → (∀ b, b < w.heap.size → w2.heap[b]? = w.heap[b]?) → (Builtin.firstCells fs n vy).run P w2 = .ok (List.toArray vs) w2) ∧ Rels G ρ w new vs ∧
      (∀ (i : Nat) (a : A), new[i]? = some a → flat a = true) ∧ new.length = n * fs := by
  unfold srcA at h
  split at h
  · simp at h; subst h
    cases ry
    exact ⟨0, [], rfl, fun _ _ _ => rfl, Rels.nil, fun i a ha => by simp at ha, by simp⟩
  · split at h
    · rename_i l hf
      simp only [Option.some.injEq] at h
      subst h
      cases ry with
      | s _ sb hsb =>
        have hlen : l.length = sb.size := by rw [← hsb]; simp
        refine ⟨sb.size, l.map fun b => Value.int .u8 (b : Nat), rfl, fun w2 _ _ => ?_, ⟨by simp, fun i x v hx hv => ?_⟩, fun i x hx => ?_, by simp [hf, hlen]⟩
        · simp only [Builtin.firstCells, Sem.run_pure]
          congr 1
          apply Array.ext'
          rw [← hsb]
          simp
        · simp only [List.getElem?_map, Option.map_eq_some_iff] at hx hv
          obtain ⟨b, hb, rfl⟩ := hx
          obtain ⟨b', hb', rfl⟩ := hv
          rw [hb] at hb'
          simp only [Option.some.injEq] at hb'
          subst hb'
          exact .i _ _
        · simp only [List.getElem?_map, Option.map_eq_some_iff] at hx
          obtain ⟨b, _, rfl⟩ := hx
          rfl
    · cases h
  · split at h
    · rename_i kc cs n sz tk st hsz
      simp only [Option.some.injEq] at h
      obtain rfl : new = cs := h.symm
      subst hsz
      cases ry with
      | v _ _ _ _ _ _ blk o cap f hl hn hk hc hf hr hM ht hN =>
        obtain ⟨vs, hv, hrs, _⟩ := run_cells (P := P) (off := 0) (n := n * sz) (l := new) (cs := new) ⟨hc, hf, hr⟩ (by simp [takeN, ← hl])
        refine ⟨n, vs, rfl, fun w2 e hw => ?_, hrs, hf, hl⟩
        obtain ⟨vs2, hv2, hrs2, _⟩ := run_cells (P := P) (w := w2) (G := G) (ρ := ρ) (off := 0) (n := n * sz) (l := new) (cs := new) (blk := blk) (base := o) (f := f)
          ⟨fun i a ha => (e.cell blk _ (by have := lt_of_get ha; omega)).trans (hc i a ha), hf, fun i a ha => (hr i a ha).mono e⟩ (by simp [takeN, ← hl])
        simp only [Builtin.firstCells]
        simp only [Nat.add_zero] at hv2 hv
        rw [hv2]
        have : vs2 = vs := by
          have q := run_loadCells (P := P) w2 ⟨blk, o, none⟩ (n * sz) f (fun j hj => by
            rw [add_at, cell_eq]
            have hj' : j < new.length := by rw [hl]; exact hj
            rw [e.cell blk _ (by omega)]
            exact hc j _ (List.getElem?_eq_getElem hj'))
          have q2 := run_loadCells (P := P) w ⟨blk, o, none⟩ (n * sz) f (fun j hj => by
            rw [add_at, cell_eq]
            have hj' : j < new.length := by rw [hl]; exact hj
            exact hc j _ (List.getElem?_eq_getElem hj'))
          rw [q] at hv2
          rw [q2] at hv
          simp only [Result.ok.injEq, and_true] at hv hv2
          have e1 := congrArg Array.toList hv
          have e2 := congrArg Array.toList hv2
          simp at e1 e2
          rw [← e1, ← e2]
        rw [this]
    · cases h
  · split at h
    · rename_i l off n sz cap hsz
      subst hsz
      split at h
      · rename_i cs hσ
        cases ry with
        | w _ _ _ _ _ blk hβ hn hN =>
          have hob := hs.obj l blk _ hβ hσ
          obtain ⟨f, hrow⟩ := hob.row
          obtain ⟨vs, hv, hrs, hf⟩ := run_cells (P := P) hrow h
          obtain ⟨_, _, hlen, _⟩ := takeN_spec h
          refine ⟨n, vs, rfl, fun w2 e hw => ?_, hrs, hf, hlen⟩
          simp only [Builtin.firstCells]
          simp only [Nat.zero_add] at hv
          have hlt := hs.lt l blk hβ
          have same : ∀ i, w2.cell? ⟨blk, i, none⟩ = w.cell? ⟨blk, i, none⟩ := fun i => by rw [cell_eq, cell_eq]; exact cell_of_heap (hw blk hlt) i
          obtain ⟨hbound, _, _, hg⟩ := takeN_spec h
          have c1 : ∀ j, j < n * sz → w.cell? ((⟨blk, off, none⟩ : Addr).add j) = some (f (off + j)) := fun j hj => by
            rw [add_at, cell_eq]
            have := hrow.1 (off + j) _ (List.getElem?_eq_getElem (show off + j < cs.length by omega))
            rwa [Nat.zero_add] at this
          have q := run_loadCells (P := P) w2 ⟨blk, off, none⟩ (n * sz) (fun j => f (off + j)) (fun j hj => by
            have := c1 j hj
            rw [add_at] at this ⊢
            rw [same]; exact this)
          have q2 := run_loadCells (P := P) w ⟨blk, off, none⟩ (n * sz) (fun j => f (off + j)) c1
          rw [q2] at hv
          rw [q]
          simp only [Result.ok.injEq, and_true] at hv
          rw [hv]
      · cases h
    · cases h
  · cases h

/-- The first cells of the slice that is appended to. -/
theorem run_own {fs : Nat} {cs : List A} {n blk o cap : Nat} {f : Nat → Value} (hl : cs.length = n * fs) (hrow : RowAt G ρ w blk o cs f) :
    ∃ vs, (Builtin.firstCells fs n (.slice (some ⟨blk, o, none⟩) n cap)).run P w = .ok (List.toArray vs) w ∧ Rels G ρ w cs vs := by
  obtain ⟨vs, hv, hrs, _⟩ := run_cells (P := P) (off := 0) (n := n * fs) (l := cs) (cs := cs) hrow (by simp [takeN, ← hl])
  exact ⟨vs, by simpa [Builtin.firstCells] using hv, hrs⟩

/-- The world behind an append that takes a new block. -/
def grown (w : World) (c : Array Value) (e : TypeId) : World := { w with heap := w.heap.push (.cells c e), drawn := w.drawn + 1 }

theorem run_append_grow (hE : EnvOk P E) {t z e : TypeId} {T Z F : TI} {ats : Array TypeId} {ty : TypeId} (ht : ats[0]? = some t) (hz : ats[1]? = some z) (hT : E.ti t = some T) (hZ : E.ti z = some Z) (hTu : T.u = .slice e) (hZu : ∀ k, Z.u ≠ .int k)
    (hF : E.ti e = some F) {base : Option Addr} {sLen sCap n : Nat} {vy : Value} (hn : (Builtin.lenOf vy).run P w = .ok n w) (hneed : sCap < sLen + n) (hby : F.by_ ≠ 0) (hbd : (sLen + n) * F.by_ < 2 ^ 40) {ov nv : List Value}
    (hov : ∀ w2 : World, w2.heap = w.heap → (Builtin.firstCells F.sz sLen (.slice base sLen sCap)).run P w2 = .ok (List.toArray ov) w2)
    (hnv : ∀ w2 : World, w2.heap = w.heap → (Builtin.firstCells F.sz n vy).run P w2 = .ok (List.toArray nv) w2) (hol : ov.length = sLen * F.sz) (hnl : nv.length = n * F.sz) :
    ∃ cap c, sLen + n ≤ cap ∧ c.size = cap * F.sz ∧ c.toList.take (ov ++ nv).length = ov ++ nv ∧ (Builtin.append_ ats ty #[.slice base sLen sCap, vy]).run P w = .ok (.slice (some ⟨w.heap.size, 0, none⟩) (sLen + n) cap) (grown w c e) := by
  obtain ⟨d, hd, hud⟩ := (hE.ti _ _ hT).1
  rw [hTu] at hud
  cases d <;> simp only [uOf, reduceCtorEq, U.slice.injEq] at hud
  subst hud
  obtain ⟨dz, hdz, huz⟩ := (hE.ti _ _ hZ).1
  obtain ⟨zz, hzz, zr, zf, zs, _⟩ := run_zero (P := P) (G := 0) (ρ := ⟨fun _ => none, fun _ => none, fun _ => 0⟩) (w := w) (hE.ti _ _ hF)
  generalize hcap : (Question.appendCap (sLen + n) sCap e).cut (w.tape w.drawn (.appendCap (sLen + n) sCap e)) = cap
  have hcl : sLen + n ≤ cap := by rw [← hcap]; simp only [Question.cut]; omega
  have hzz2 : ∀ w2 : World, (zeroValue e).run P w2 = .ok zz w2 := by
    intro w2
    obtain ⟨i, z0, hi, _, _, hz0, _⟩ := (hE.ti _ _ hF).2.1
    have e1 : (zeroValue e).run P w = .ok z0 w := by simp [zeroValue, typeInfo, hi, hz0]
    rw [e1] at hzz
    simp only [Result.ok.injEq, and_true] at hzz
    subst hzz
    simp [zeroValue, typeInfo, hi, hz0]
  let c : Array Value := ov.toArray ++ nv.toArray ++ Builtin.zeroCells zz.cells (cap - (sLen + n))
  have hcs : c.size = cap * F.sz := by
    simp only [c, Array.size_append, List.size_toArray, Builtin.zeroCells, Array.size_map, Array.size_range, hol, hnl, zs]
    rw [← Nat.add_mul, ← Nat.add_mul]
    congr 1
    omega
  refine ⟨cap, c, hcl, hcs, ?_, ?_⟩
  · simp only [c, Array.toList_append]
    rw [List.take_append_of_le_length (by simp)]
    rw [List.take_of_length_le (by simp)]
  · have ha0 : (#[Value.slice base sLen sCap, vy] : Array Value)[0]? = some (.slice base sLen sCap) := rfl
    have ha1 : (#[Value.slice base sLen sCap, vy] : Array Value)[1]? = some vy := rfl
    obtain ⟨i, hi, hi1, hi2⟩ := run_info (P := P) (hE.ti _ _ hF)
    have hcapn : ¬ (sLen + n ≤ sCap) := by omega
    have hnb : ¬ (Builtin.nextslicecap (sLen + n) sCap * F.by_ > 2 ^ 48) := by
      have h1 := nextcap_le hneed
      have h2 : Builtin.nextslicecap (sLen + n) sCap * F.by_ ≤ (2 * (sLen + n) + 192) * F.by_ := Nat.mul_le_mul_right _ h1
      rw [Nat.add_mul, Nat.mul_assoc] at h2
      have h3 : F.by_ ≤ (sLen + n) * F.by_ := Nat.le_mul_of_pos_left _ (by omega)
      have e40 : 2 ^ 40 = 1099511627776 := rfl
      have e48 : 2 ^ 48 = 281474976710656 := rfl
      omega
    have hof : ¬ (((sLen + n : Nat) : Int) > IntKind.i64.max ∧ (False ∨ F.by_ = 0)) := fun h => by
      rcases h.2 with h | h
      · exact h
      · exact hby h
    unfold Builtin.append_
    simp only [ht, hz, ha0, ha1, Sem.run_bind, run_und hd, run_und hdz, Result.andThen_ok, run_size (hE.ti _ _ hF), Sem.run_pure]
    cases dz <;> first
      | (exact (hZu _ huz).elim)
      | (simp only [Bool.false_eq_true, if_false, hn, Result.andThen_ok, if_neg hcapn, hi, hi1, if_neg hof, if_neg hnb, Sem.run_bind, Sem.run_pure, run_choose, Question.forced, hcap, run_askRoom, hov _ rfl, hnv _ rfl, hzz2, newRow, run_newObj]
         simp only [Result.andThen_ok, Bool.not_false, if_true, hov { heap := w.heap, tape := w.tape, drawn := w.drawn + 1, os := w.os, output := w.output } rfl, hnv { heap := w.heap, tape := w.tape, drawn := w.drawn + 1, os := w.os, output := w.output } rfl]
         rfl)

end
end Go.VV
