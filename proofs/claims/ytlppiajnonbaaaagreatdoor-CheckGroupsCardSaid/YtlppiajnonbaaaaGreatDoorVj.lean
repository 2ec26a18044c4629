/- The whole store stands for memory; a new object, a changed row. -/
import Derived.Test.YtlppiajnonbaaaaGreatDoorVi
set_option linter.unusedVariables false
set_option linter.unusedSimpArgs false
namespace Go.VV

/-- The store (as a function) stands for memory. -/
structure Sim (G : Nat) (E : Env) (ρ : Gh) (H : Nat → Option Ob) (w : World) : Prop where
  obj : ∀ l blk ob, ρ.β l = some blk → H l = some ob → ObR G ρ w blk ob
  tok : ∀ t n blk base, ρ.tk t = some (blk, base) → H t = some (.k n) → ρ.M blk = base + n ∧ ∃ c ty fr, w.heap[blk]? = some (.cells c ty fr) ∧ live c.size fr
  tok1 : ∀ t t' n n' blk base base', ρ.tk t = some (blk, base) → H t = some (.k n) → ρ.tk t' = some (blk, base') → H t' = some (.k n') → t = t'
  inj : ∀ l l' blk, ρ.β l = some blk → ρ.β l' = some blk → l = l'
  sep : ∀ l t blk base, ρ.β l = some blk → ρ.tk t = some (blk, base) → False
  mz : ∀ l blk, ρ.β l = some blk → ρ.M blk = 0
  lt : ∀ l blk, ρ.β l = some blk → blk < w.heap.size
  ltt : ∀ t blk base, ρ.tk t = some (blk, base) → blk < w.heap.size
  ltM : ∀ b, w.heap.size ≤ b → ρ.M b = 0
  gl : GlOk G ρ w E

def upd (H : Nat → Option Ob) (l : Nat) (o : Option Ob) : Nat → Option Ob := fun k => if k = l then o else H k

def Gh.addβ (ρ : Gh) (l b : Nat) : Gh := { ρ with β := fun k => if k = l then some b else ρ.β k }
def Gh.addtk (ρ : Gh) (l b base m : Nat) : Gh := { ρ with tk := fun k => if k = l then some (b, base) else ρ.tk k, M := fun k => if k = b then m else ρ.M k }

/-- The streams and the tape stay; no block goes. -/
structure Still (w w' : World) : Prop where
  os : w'.os = w.os
  tape : w'.tape = w.tape
  output : w'.output = w.output
  size : w.heap.size ≤ w'.heap.size

theorem Still.refl (w : World) : Still w w := ⟨rfl, rfl, rfl, Nat.le_refl _⟩
theorem Still.trans {a b c : World} (h : Still a b) (k : Still b c) : Still a c := ⟨k.os.trans h.os, k.tape.trans h.tape, k.output.trans h.output, Nat.le_trans h.size k.size⟩

section
variable {P : Program} {G : Nat} {ρ : Gh} {w w' : World} {E : Env} {H : Nat → Option Ob}

theorem cell_of_heap {b : Nat} (h : w'.heap[b]? = w.heap[b]?) (i : Nat) : cell w' b i = cell w b i := by unfold cell; rw [h]
theorem rowSize_of_heap {b : Nat} (h : w'.heap[b]? = w.heap[b]?) : rowSize w' b = rowSize w b := by unfold rowSize; rw [h]

theorem rowSize_lt {b n : Nat} (h : rowSize w b = some n) : b < w.heap.size := by
  unfold rowSize at h
  rcases Nat.lt_or_ge b w.heap.size with hl | hl
  · exact hl
  · rw [Array.getElem?_eq_none hl] at h; cases h

theorem heap_push {O : Obj} (hh : w'.heap = w.heap.push O) {b : Nat} (hb : b < w.heap.size) : w'.heap[b]? = w.heap[b]? := by
  rw [hh, Array.getElem?_push, if_neg (by omega)]

theorem heap_push_new {O : Obj} (hh : w'.heap = w.heap.push O) : w'.heap[w.heap.size]? = some O := by
  rw [hh, Array.getElem?_push, if_pos rfl]

theorem ext_push_β (hs : Sim G E ρ H w) {O : Obj} (hh : w'.heap = w.heap.push O) {l : Nat} (hl : ρ.β l = none) : Ext ρ w (ρ.addβ l w.heap.size) w' where
  β := fun k b h => by
    simp only [Gh.addβ]
    rw [if_neg (fun e => by rw [e, hl] at h; cases h)]
    exact h
  tk := fun _ _ h => h
  M := fun _ => Nat.le_refl _
  cell := fun b i hi => cell_of_heap (heap_push hh (by
    rcases Nat.lt_or_ge b w.heap.size with h | h
    · exact h
    · have := hs.ltM b h; omega)) i
  row := fun b n h => by rw [rowSize_of_heap (heap_push hh (rowSize_lt h))]; exact h

theorem ext_push_tk (hs : Sim G E ρ H w) {O : Obj} (hh : w'.heap = w.heap.push O) {l m : Nat} (hl : ρ.tk l = none) : Ext ρ w (ρ.addtk l w.heap.size 0 m) w' where
  β := fun _ _ h => h
  tk := fun k b h => by
    simp only [Gh.addtk]
    rw [if_neg (fun e => by rw [e, hl] at h; cases h)]
    exact h
  M := fun b => by
    simp only [Gh.addtk]
    split
    · rename_i e; rw [e, hs.ltM _ (Nat.le_refl _)]; exact Nat.zero_le _
    · exact Nat.le_refl _
  cell := fun b i hi => cell_of_heap (heap_push hh (by
    rcases Nat.lt_or_ge b w.heap.size with h | h
    · exact h
    · have := hs.ltM b h; omega)) i
  row := fun b n h => by rw [rowSize_of_heap (heap_push hh (rowSize_lt h))]; exact h

/-- An object stands for a block that has not changed. -/
theorem ObR.mono {ρ' : Gh} (e : Ext ρ w ρ' w') {blk : Nat} {ob : Ob} (hb : w'.heap[blk]? = w.heap[blk]?) (h : ObR G ρ w blk ob) : ObR G ρ' w' blk ob := by
  cases ob with
  | c cs =>
    obtain ⟨c, t, fr, h1, h2, h3, h4, h5⟩ := h
    exact ⟨c, t, fr, hb.trans h1, h2, h3, h4, fun i a v ha hv => (h5 i a v ha hv).mono e⟩
  | m es =>
    obtain ⟨ms, clock, h1, h2, h3⟩ := h
    exact ⟨ms, clock, hb.trans h1, h2, fun i k a m h h' => ⟨(h3 i k a m h h').1.mono e, (h3 i k a m h h').2.mono e⟩⟩
  | k n => exact h

theorem sim_push_β (hs : Sim G E ρ H w) {O : Obj} (hh : w'.heap = w.heap.push O) {l : Nat} (hl : ρ.β l = none) (hl2 : ρ.tk l = none) {ob : Ob} (hob : ObR G (ρ.addβ l w.heap.size) w' w.heap.size ob) :
    Sim G E (ρ.addβ l w.heap.size) (upd H l (some ob)) w' := by
  have e := ext_push_β hs hh hl
  have hsz : w'.heap.size = w.heap.size + 1 := by rw [hh, Array.size_push]
  have inv : ∀ {k b : Nat}, (ρ.addβ l w.heap.size).β k = some b → (k = l ∧ b = w.heap.size) ∨ (k ≠ l ∧ ρ.β k = some b ∧ b < w.heap.size) := by
    intro k b h
    simp only [Gh.addβ] at h
    split at h
    · rename_i hk; simp at h; exact .inl ⟨hk, h.symm⟩
    · rename_i hk; exact .inr ⟨hk, h, hs.lt k b h⟩
  constructor
  · intro k b o hk ho
    rcases inv hk with ⟨rfl, rfl⟩ | ⟨hne, hk', hb⟩
    · simp only [upd, if_true, Option.some.injEq] at ho
      subst ho
      exact hob
    · simp only [upd, if_neg hne] at ho
      exact (hs.obj k b o hk' ho).mono e (heap_push hh hb)
  · intro t n blk base ht hn
    have hne : t ≠ l := fun h => by rw [h] at ht; simp only [Gh.addβ] at ht; rw [hl2] at ht; cases ht
    simp only [upd, if_neg hne] at hn
    obtain ⟨h1, c, ty, fr, h2, h3⟩ := hs.tok t n blk base ht hn
    exact ⟨h1, c, ty, fr, (heap_push hh (hs.ltt t blk base ht)).trans h2, h3⟩
  · intro t t' n n' blk base base' ht hn ht' hn'
    have hne : t ≠ l := fun h => by rw [h] at ht; simp only [Gh.addβ] at ht; rw [hl2] at ht; cases ht
    have hne' : t' ≠ l := fun h => by rw [h] at ht'; simp only [Gh.addβ] at ht'; rw [hl2] at ht'; cases ht'
    simp only [upd, if_neg hne] at hn
    simp only [upd, if_neg hne'] at hn'
    exact hs.tok1 t t' n n' blk base base' ht hn ht' hn'
  · intro k k' b h h'
    rcases inv h with ⟨rfl, rfl⟩ | ⟨hne, hk, hb⟩
    · rcases inv h' with ⟨rfl, _⟩ | ⟨_, _, hb'⟩
      · rfl
      · omega
    · rcases inv h' with ⟨rfl, rfl⟩ | ⟨_, hk', _⟩
      · omega
      · exact hs.inj k k' b hk hk'
  · intro k t b base h ht
    rcases inv h with ⟨rfl, rfl⟩ | ⟨_, hk, _⟩
    · have := hs.ltt t _ base ht; omega
    · exact hs.sep k t b base hk ht
  · intro k b h
    rcases inv h with ⟨rfl, rfl⟩ | ⟨_, hk, _⟩
    · exact hs.ltM _ (Nat.le_refl _)
    · exact hs.mz k b hk
  · intro k b h
    rcases inv h with ⟨rfl, rfl⟩ | ⟨_, hk, hb⟩ <;> omega
  · intro t b base h
    have := hs.ltt t b base h; omega
  · intro b hb
    exact hs.ltM b (by omega)
  · exact hs.gl.mono e

theorem sim_push_tk (hs : Sim G E ρ H w) {c : Array Value} {ty : TypeId} {fr : Nat × Nat} (hh : w'.heap = w.heap.push (.cells c ty fr)) (hfr : live c.size fr) {l m : Nat} (hl : ρ.β l = none) (hl2 : ρ.tk l = none) :
    Sim G E (ρ.addtk l w.heap.size 0 m) (upd H l (some (.k m))) w' := by
  have e := ext_push_tk (m := m) hs hh hl2
  have hsz : w'.heap.size = w.heap.size + 1 := by rw [hh, Array.size_push]
  have inv : ∀ {k b base : Nat}, (ρ.addtk l w.heap.size 0 m).tk k = some (b, base) → (k = l ∧ b = w.heap.size ∧ base = 0) ∨ (k ≠ l ∧ ρ.tk k = some (b, base) ∧ b < w.heap.size) := by
    intro k b base h
    simp only [Gh.addtk] at h
    split at h
    · rename_i hk; simp at h; exact .inl ⟨hk, h.1.symm, h.2.symm⟩
    · rename_i hk; exact .inr ⟨hk, h, hs.ltt k b base h⟩
  have hM : ∀ b, b < w.heap.size → (ρ.addtk l w.heap.size 0 m).M b = ρ.M b := fun b hb => by simp only [Gh.addtk]; rw [if_neg (by omega)]
  have hneβ : ∀ {k b : Nat}, ρ.β k = some b → k ≠ l := fun h e => by rw [e, hl] at h; cases h
  constructor
  · intro k b o hk ho
    simp only [upd, if_neg (hneβ hk)] at ho
    exact (hs.obj k b o hk ho).mono e (heap_push hh (hs.lt k b hk))
  · intro t n blk base ht hn
    rcases inv ht with ⟨rfl, rfl, rfl⟩ | ⟨hne, ht', hb⟩
    · simp only [upd, if_true, Option.some.injEq, Ob.k.injEq] at hn
      subst hn
      exact ⟨by simp [Gh.addtk], c, ty, fr, heap_push_new hh, hfr⟩
    · simp only [upd, if_neg hne] at hn
      obtain ⟨h1, c, ty, fr, h2, h3⟩ := hs.tok t n blk base ht' hn
      exact ⟨by rw [hM _ hb]; exact h1, c, ty, fr, (heap_push hh hb).trans h2, h3⟩
  · intro t t' n n' blk base base' ht hn ht' hn'
    rcases inv ht with ⟨rfl, rfl, rfl⟩ | ⟨hne, ht1, hb⟩
    · rcases inv ht' with ⟨rfl, _, _⟩ | ⟨_, _, hb'⟩
      · rfl
      · omega
    · rcases inv ht' with ⟨rfl, rfl, _⟩ | ⟨hne', ht1', _⟩
      · omega
      · simp only [upd, if_neg hne] at hn
        simp only [upd, if_neg hne'] at hn'
        exact hs.tok1 t t' n n' blk base base' ht1 hn ht1' hn'
  · exact hs.inj
  · intro k t b base h ht
    rcases inv ht with ⟨rfl, rfl, rfl⟩ | ⟨_, ht', _⟩
    · have := hs.lt k _ h; omega
    · exact hs.sep k t b base h ht'
  · intro k b h
    rw [hM _ (hs.lt k b h)]
    exact hs.mz k b h
  · intro k b h
    have := hs.lt k b h; omega
  · intro t b base h
    rcases inv h with ⟨rfl, rfl, rfl⟩ | ⟨_, _, hb⟩ <;> omega
  · intro b hb
    simp only [Gh.addtk]
    rw [if_neg (by omega)]
    exact hs.ltM b (by omega)
  · exact hs.gl.mono e

end
end Go.VV
