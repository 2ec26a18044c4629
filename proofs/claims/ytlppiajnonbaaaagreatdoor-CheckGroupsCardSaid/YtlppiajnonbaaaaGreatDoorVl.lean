/- Operations that change a row or a map, and append. -/
import Derived.Test.YtlppiajnonbaaaaGreatDoorVk
set_option linter.unusedVariables false
set_option linter.unusedSimpArgs false
namespace Go.VV

def putRow (w : World) (g : Nat) (O : Obj) : World := { w with heap := w.heap.setIfInBounds g O }

section
variable {P : Program} {G : Nat} {ρ : Gh} {w w' : World} {E : Env} {H : Nat → Option Ob}

theorem putRow_same {g : Nat} {O : Obj} (h : g < w.heap.size) : (putRow w g O).heap[g]? = some O := by
  simp [putRow, h]

theorem putRow_ne {g b : Nat} {O : Obj} (h : b ≠ g) : (putRow w g O).heap[b]? = w.heap[b]? := by
  simp only [putRow]
  rw [Array.getElem?_setIfInBounds_ne (Ne.symm h)]

theorem putRow_putRow {g : Nat} {O O' : Obj} : putRow (putRow w g O) g O' = putRow w g O' := by
  simp [putRow, Array.setIfInBounds_setIfInBounds]

theorem putRow_self {g : Nat} {O : Obj} (h : w.heap[g]? = some O) : putRow w g O = w := by
  have hlt : g < w.heap.size := by
    rcases Nat.lt_or_ge g w.heap.size with h' | h'
    · exact h'
    · rw [Array.getElem?_eq_none h'] at h; cases h
  simp only [putRow]
  have : w.heap.setIfInBounds g O = w.heap := by
    apply Array.ext
    · simp
    · intro i h1 h2
      rw [Array.getElem_setIfInBounds]
      split
      · rename_i e
        subst e
        rw [Array.getElem?_eq_getElem hlt] at h
        simpa using h.symm
      · rfl
  rw [this]

theorem heap_lt {g : Nat} {O : Obj} (h : w.heap[g]? = some O) : g < w.heap.size := by
  rcases Nat.lt_or_ge g w.heap.size with h' | h'
  · exact h'
  · rw [Array.getElem?_eq_none h'] at h; cases h

theorem setCell_putRow {g i : Nat} {c : Array Value} {t : TypeId} {fr : Nat × Nat} (h : w.heap[g]? = some (.cells c t fr)) (v : Value) : w.setCell ⟨g, i, none⟩ v = putRow w g (.cells (c.setIfInBounds i v) t fr) := by
  have hlt := heap_lt h
  simp only [World.setCell, putRow]
  simp only [World.mk.injEq, and_true, true_and]
  apply Array.ext
  · simp
  · intro j h1 h2
    rw [Array.getElem_setIfInBounds, Array.getElem_modify]
    split
    · rename_i e
      subst e
      rw [Array.getElem?_eq_getElem hlt] at h
      simp only [Option.some.injEq] at h
      rw [h]
      simp
    · rfl

theorem run_storeCells_live (g o : Nat) (t : TypeId) (fr : Nat × Nat) : ∀ (vs : List Value) (i : Nat) (cur : Array Value) (w : World), w.heap[g]? = some (.cells cur t fr) → live cur.size fr → o + i + vs.length ≤ cur.size →
    (∀ v ∈ vs, v.oneCell' = true) →
    (storeCells ⟨g, o, none⟩ vs i).run P w = .ok () (putRow w g (.cells (cur.toList.take (o + i) ++ vs ++ cur.toList.drop (o + i + vs.length)).toArray t fr)) := by
  intro vs
  induction vs with
  | nil =>
    intro i cur w hg _ _ _
    simp only [storeCells, List.append_nil, List.length_nil, Nat.add_zero, List.take_append_drop, Array.toArray_toList]
    rw [putRow_self hg]
    rfl
  | cons v rest ih =>
    intro i cur w hg hlv hl h1
    simp only [List.length_cons] at hl
    have hi : o + i < cur.size := by omega
    have hlt := heap_lt hg
    have hcell : w.cell? ⟨g, o + i, none⟩ = some cur[o + i] := by simp [World.cell?, hg, hi]
    have hfro : w.frozen? ⟨g, o + i, none⟩ = false := by
      simp only [World.frozen?, hg]
      have := hlv (o + i) hi
      simp only [Bool.and_eq_false_iff, decide_eq_false_iff_not]
      omega
    have hst : (store ((⟨g, o, none⟩ : Addr).add i) v).run P w = .ok () (putRow w g (.cells (cur.setIfInBounds (o + i) v) t fr)) := by
      rw [add_at, run_store P w _ v _ (h1 v (by simp)), hcell]
      simp only [hfro, Bool.false_eq_true, if_false]
      rw [setCell_putRow hg]
    have ih := ih (i + 1) (cur.setIfInBounds (o + i) v) (putRow w g (.cells (cur.setIfInBounds (o + i) v) t fr)) (putRow_same hlt) (by simpa using hlv) (by simp; omega) (fun x hx => h1 x (by simp [hx]))
    simp only [storeCells, Sem.run_bind, hst, Result.andThen_ok, ih, putRow_putRow]
    have e := list_seg_step cur.toList (o + i) v rest (by simp; omega)
    have : (List.take (o + (i + 1)) (cur.setIfInBounds (o + i) v).toList ++ rest ++ List.drop (o + (i + 1) + rest.length) (cur.setIfInBounds (o + i) v).toList) =
        (List.take (o + i) cur.toList ++ v :: rest ++ List.drop (o + i + (v :: rest).length) cur.toList) := by
      rw [Array.toList_setIfInBounds, ← Nat.add_assoc]
      simpa using e
    rw [this]

theorem flat_one {a : A} {v : Value} (h : Rel G ρ w a v) (hf : flat a = true) : v.oneCell' = true := by
  cases h <;> first | rfl | (simp [flat] at hf)

theorem flats_one {l : List A} {vs : List Value} (h : Rels G ρ w l vs) (hf : ∀ (i : Nat) (a : A), l[i]? = some a → flat a = true) : ∀ v ∈ vs, v.oneCell' = true := by
  intro v hv
  obtain ⟨i, hi, rfl⟩ := List.getElem_of_mem hv
  have hil : i < l.length := by rw [h.1]; exact hi
  exact flat_one (h.2 i _ _ (List.getElem?_eq_getElem hil) (List.getElem?_eq_getElem hi)) (hf i _ (List.getElem?_eq_getElem hil))

theorem rowSize_putRow {g : Nat} {c c' : Array Value} {t : TypeId} {fr : Nat × Nat} (hg : w.heap[g]? = some (.cells c t fr)) (hs : c'.size = c.size) {b n : Nat} (h : rowSize w b = some n) :
    rowSize (putRow w g (.cells c' t fr)) b = some n := by
  by_cases hb : b = g
  · subst hb
    simp only [rowSize, hg, Option.some.injEq] at h
    simp only [rowSize, putRow_same (heap_lt hg), hs, h]
  · rw [rowSize_of_heap (putRow_ne hb)]; exact h

theorem ext_put (hs : Sim G E ρ H w) {l blk : Nat} (hβ : ρ.β l = some blk) {O : Obj} (hrow : ∀ b n, rowSize w b = some n → rowSize (putRow w blk O) b = some n) : Ext ρ w ρ (putRow w blk O) where
  β := fun _ _ h => h
  tk := fun _ _ h => h
  M := fun _ => Nat.le_refl _
  cell := fun b i hi => by
    by_cases hb : b = blk
    · subst hb; have := hs.mz l b hβ; omega
    · exact cell_of_heap (putRow_ne hb) i
  row := hrow

theorem sim_put (hs : Sim G E ρ H w) {l blk : Nat} (hβ : ρ.β l = some blk) {O : Obj} (hrow : ∀ b n, rowSize w b = some n → rowSize (putRow w blk O) b = some n) {ob : Ob} (hob : ObR G ρ (putRow w blk O) blk ob) :
    Sim G E ρ (upd H l (some ob)) (putRow w blk O) := by
  have e := ext_put hs hβ hrow
  have hsz : (putRow w blk O).heap.size = w.heap.size := by simp [putRow]
  have hb : ∀ {t b base}, ρ.tk t = some (b, base) → b ≠ blk := fun ht h => hs.sep l _ blk _ hβ (h ▸ ht)
  have hne : ∀ {k b}, ρ.β k = some b → k ≠ l → b ≠ blk := fun hk hkl h => hkl (hs.inj _ _ blk (h ▸ hk) hβ)
  have hnt : ∀ {t x}, ρ.tk t = some x → H t ≠ none → True := fun _ _ => trivial
  constructor
  · intro k b o hk ho
    by_cases hkl : k = l
    · subst hkl
      rw [hβ] at hk
      simp only [Option.some.injEq] at hk
      subst hk
      simp only [upd, if_true, Option.some.injEq] at ho
      subst ho
      exact hob
    · simp only [upd, if_neg hkl] at ho
      exact (hs.obj k b o hk ho).mono e (putRow_ne (hne hk hkl))
  · intro t n b base ht hn
    have : t ≠ l ∨ t = l := by omega
    by_cases htl : t = l
    · subst htl
      simp only [upd, if_true, Option.some.injEq] at hn
      subst hn
      exact hob.elim
    · simp only [upd, if_neg htl] at hn
      obtain ⟨h1, c, ty, fr, h2, h3⟩ := hs.tok t n b base ht hn
      exact ⟨h1, c, ty, fr, (putRow_ne (hb ht)).trans h2, h3⟩
  · intro t t' n n' b base base' ht hn ht' hn'
    by_cases htl : t = l
    · subst htl
      simp only [upd, if_true, Option.some.injEq] at hn
      subst hn
      exact hob.elim
    · by_cases htl' : t' = l
      · subst htl'
        simp only [upd, if_true, Option.some.injEq] at hn'
        subst hn'
        exact hob.elim
      · simp only [upd, if_neg htl] at hn
        simp only [upd, if_neg htl'] at hn'
        exact hs.tok1 t t' n n' b base base' ht hn ht' hn'
  · exact hs.inj
  · exact hs.sep
  · exact hs.mz
  · intro k b h; rw [hsz]; exact hs.lt k b h
  · intro t b base h; rw [hsz]; exact hs.ltt t b base h
  · intro b h; rw [hsz] at h; exact hs.ltM b h
  · exact hs.gl.mono e

theorem fr_put {l blk : Nat} (hβ : ρ.β l = some blk) {ob : Ob} (hH : H l = some ob) {O : Obj} (n : Nat) : Fr ρ H w n n ρ (putRow w blk O) where
  still := ⟨rfl, rfl, rfl, by simp [putRow]⟩
  heap := fun b _ hk _ => putRow_ne (fun e => hk l ob hH (e ▸ hβ))
  M := fun _ _ _ => rfl
  β := fun _ _ h => .inl h
  tk := fun _ _ _ h => .inl h

theorem rels_pre {cs : List A} {c : Array Value} {t : TypeId} {fr : Nat × Nat} (_h1 : cs.length ≤ c.size) (h2 : ∀ (i : Nat) (a : A) (v : Value), cs[i]? = some a → c[i]? = some v → Rel G ρ w a v) : Rels G ρ w cs (c.toList.take cs.length) := by
  refine ⟨by simp; omega, fun i a v ha hv => ?_⟩
  rw [List.getElem?_take, if_pos (lt_of_get ha)] at hv
  exact h2 i a v ha (by simpa using hv)

/-- Cells of a row are written. -/
theorem row_put (hs : Sim G E ρ H w) {l blk off : Nat} {cs new cs' : List A} {nv : List Value} (hβ : ρ.β l = some blk) (hH : H l = some (.c cs)) (hp : putN cs off new = some cs') (hn : Rels G ρ w new nv)
    (hf : ∀ (i : Nat) (a : A), new[i]? = some a → flat a = true) : ∃ w', (storeCells ⟨blk, off, none⟩ nv).run P w = .ok () w' ∧ Ext ρ w ρ w' ∧ Sim G E ρ (upd H l (some (.c cs'))) w' ∧ ∀ n, Fr ρ H w n n ρ w' := by
  obtain ⟨c, t, fr, h1, h2, h3, h4, h5⟩ := hs.obj l blk _ hβ hH
  have hpre := rels_pre (t := t) (fr := fr) h2 h5
  obtain ⟨hlen, hr⟩ := putN_rels hp hpre hn
  have hlen' : off + nv.length ≤ cs.length := by simp at hlen; omega
  have hrun := run_storeCells_live (P := P) blk off t fr nv 0 c w h1 h3 (by omega) (flats_one hn hf)
  simp only [Nat.add_zero] at hrun
  have hsz : (List.take off c.toList ++ nv ++ List.drop (off + nv.length) c.toList).toArray.size = c.size := by simp; omega
  refine ⟨_, hrun, ext_put hs hβ (fun b n h => rowSize_putRow h1 hsz h), sim_put hs hβ (fun b n h => rowSize_putRow h1 hsz h) ?_, fun n => fr_put hβ hH n⟩
  have e := ext_put hs hβ (fun b n h => rowSize_putRow h1 hsz h)
  refine ⟨_, t, fr, putRow_same (heap_lt h1), ?_, ?_, putN_flat hp h4 hf, ?_⟩
  · rw [hsz, putN_length hp]; exact h2
  · rw [hsz]; exact h3
  · intro i a v ha hv
    refine (hr.2 i a v ha ?_).mono e
    have hi : i < cs.length := by have := lt_of_get ha; rwa [putN_length hp] at this
    rw [List.getElem?_toArray] at hv
    rw [← hv]
    simp only [List.getElem?_append, List.getElem?_take, List.getElem?_drop, List.length_take, List.length_append, Array.length_toList]
    have m1 : min off (min cs.length c.size) = off := by omega
    have m2 : min off c.size = off := by omega
    rw [m1, m2]
    by_cases i1 : i < off
    · rw [if_pos (show i < off + nv.length by omega), if_pos (show i < off + nv.length by omega)]
      rw [if_pos i1, if_pos i1, if_pos hi, if_pos i1, if_pos i1]
    · by_cases i2 : i < off + nv.length
      · rw [if_pos i2, if_pos i2, if_neg i1, if_neg i1]
      · rw [if_neg i2, if_neg i2, if_pos (by omega)]

end
end Go.VV
