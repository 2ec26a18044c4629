/- Reading rows, '==', sums and comparisons: what the abstract machine gives, the model gives. -/
import Derived.Test.YtlppiajnonbaaaaGreatDoorVd
import Derived.Laws.Strings
set_option linter.unusedVariables false
set_option linter.unusedSimpArgs false
namespace Go.VV

theorem add_at (b o i : Nat) : (⟨b, o, none⟩ : Addr).add i = ⟨b, o + i, none⟩ := by
  unfold Addr.add
  split
  · rename_i h; subst h; rfl
  · rfl

/-- Not frozen, wherever there is a cell. -/
def live (n : Nat) (fr : Nat × Nat) : Prop := ∀ i, i < n → ¬ (fr.1 ≤ i ∧ i < fr.2)

/-- An object stands for a block. -/
def ObR (G : Nat) (ρ : Gh) (w : World) (blk : Nat) : Ob → Prop
  | .c cs => ∃ c t fr, w.heap[blk]? = some (.cells c t fr) ∧ cs.length ≤ c.size ∧ live c.size fr ∧ (∀ (i : Nat) (a : A), cs[i]? = some a → flat a = true) ∧
      ∀ (i : Nat) (a : A) (v : Value), cs[i]? = some a → c[i]? = some v → Rel G ρ w a v
  | .m es => ∃ ms clock, w.heap[blk]? = some (.map ms clock) ∧ es.length = ms.size ∧
      ∀ (i : Nat) (k a : A) (m : MapEntry), es[i]? = some (k, a) → ms[i]? = some m → Rel G ρ w k m.key ∧ Rel G ρ w a m.val
  | .k _ => False

section
variable {P : Program} {G : Nat} {ρ : Gh} {w : World} {E : Env}

/-- A row of cells in memory that stand for a list. -/
def RowAt (G : Nat) (ρ : Gh) (w : World) (blk base : Nat) (cs : List A) (f : Nat → Value) : Prop :=
  (∀ (i : Nat) (a : A), cs[i]? = some a → cell w blk (base + i) = some (f i)) ∧ (∀ (i : Nat) (a : A), cs[i]? = some a → flat a = true) ∧ ∀ (i : Nat) (a : A), cs[i]? = some a → Rel G ρ w a (f i)

theorem ObR.row {blk : Nat} {cs : List A} (h : ObR G ρ w blk (.c cs)) : ∃ f, RowAt G ρ w blk 0 cs f := by
  obtain ⟨c, t, fr, hb, hl, _, hf, hr⟩ := h
  refine ⟨fun i => c.getD i undef, fun i a ha => ?_, hf, fun i a ha => ?_⟩
  · have hi : i < c.size := Nat.lt_of_lt_of_le (lt_of_get ha) hl
    simp [cell, hb, hi, Array.getD_eq_getD_getElem?]
  · have hi : i < c.size := Nat.lt_of_lt_of_le (lt_of_get ha) hl
    refine hr i a _ ha ?_
    simp [hi, Array.getD_eq_getD_getElem?]

theorem takeN_spec {cs l : List A} {off n : Nat} (h : takeN cs off n = some l) : off + n ≤ cs.length ∧ l = (cs.drop off).take n ∧ l.length = n ∧ ∀ (i : Nat) (a : A), l[i]? = some a → cs[off + i]? = some a := by
  unfold takeN at h
  split at h
  · rename_i hl
    simp at h
    subst h
    refine ⟨hl, rfl, by simp; omega, fun i a ha => ?_⟩
    rw [List.getElem?_take] at ha
    split at ha
    · rwa [List.getElem?_drop] at ha
    · cases ha
  · cases h

/-- Some cells of a row, read one by one. -/
theorem run_cells {blk base off n : Nat} {cs l : List A} {f : Nat → Value} (hr : RowAt G ρ w blk base cs f) (h : takeN cs off n = some l) :
    ∃ vs : List Value, (loadCells ⟨blk, base + off, none⟩ n).run P w = .ok vs.toArray w ∧ Rels G ρ w l vs ∧ ∀ (i : Nat) (a : A), l[i]? = some a → flat a = true := by
  obtain ⟨hl, rfl, hn, hg⟩ := takeN_spec h
  refine ⟨(List.range n).map fun j => f (off + j), ?_, ⟨by simp at hn ⊢; omega, fun i a v ha hv => ?_⟩, fun i a ha => hr.2.1 _ a (hg i a ha)⟩
  · refine run_loadCells w _ n _ fun j hj => ?_
    rw [add_at, cell_eq, Nat.add_assoc]
    have hj' : off + j < cs.length := by omega
    exact hr.1 _ _ (List.getElem?_eq_getElem hj')
  · have hi : i < n := by have := lt_of_get ha; rw [hn] at this; exact this
    simp [hi] at hv
    subst hv
    exact hr.2.2 _ a (hg i a ha)

theorem rel_g {l : List A} {vs : List Value} (h : Rels G ρ w l vs) (hf : ∀ (i : Nat) (a : A), l[i]? = some a → flat a = true) : Rel G ρ w (.g l) (.agg vs.toArray) :=
  .g l vs.toArray (by simpa using h.1) hf (fun i a v ha hv => h.2 i a v ha (by simpa using hv))

theorem rel_t {l : List A} {vs : List Value} (h : Rels G ρ w l vs) : Rel G ρ w (.t l) (.tuple vs.toArray) :=
  .t l vs.toArray (by simpa using h.1) (fun i a v ha hv => h.2 i a v ha (by simpa using hv))

/-- A value of a type, read out of a row. -/
theorem run_loadA {t : TypeId} {T : TI} (hT : TIok P t T) {blk base off : Nat} {cs : List A} {f : Nat → Value} (hr : RowAt G ρ w blk base cs f) {a : A} (h : loadA T.u.agg cs off T.sz = some a) :
    ∃ v, (loadVar t ⟨blk, base + off, none⟩).run P w = .ok v w ∧ Rel G ρ w a v := by
  unfold loadA at h
  cases hg : T.u.agg with
  | true =>
    rw [hg] at h
    simp only [if_true, Option.map_eq_some_iff] at h
    obtain ⟨l, hl, rfl⟩ := h
    obtain ⟨vs, hv, hrel, hf⟩ := run_cells (P := P) hr hl
    refine ⟨.agg vs.toArray, ?_, rel_g hrel hf⟩
    simp [loadVar, run_isAgg hT, hg, run_size hT, hv]
  | false =>
    rw [hg] at h
    simp only [Bool.false_eq_true, if_false] at h
    refine ⟨f off, ?_, hr.2.2 _ a h⟩
    have := hr.1 _ a h
    rw [← cell_eq] at this
    simp [loadVar, run_isAgg hT, hg, this]

theorem ofCells_spec {agg : Bool} {l : List A} {a : A} (h : ofCells agg l = some a) : if agg then a = .g l else l = [a] := by
  unfold ofCells at h
  cases agg with
  | true => simp at h; exact h.symm
  | false =>
    simp only [Bool.false_eq_true, if_false] at h ⊢
    split at h
    · simp at h; rw [h]
    · cases h

/-- A part of a struct's value. -/
theorem run_part {t : TypeId} {T : TI} (hT : TIok P t T) {cs l : List A} {vs : Array Value} {off : Nat} (hr : Rels G ρ w cs vs.toList) (hf : ∀ (i : Nat) (a : A), cs[i]? = some a → flat a = true)
    (h : takeN cs off T.sz = some l) {a : A} (ha : ofCells T.u.agg l = some a) : ∃ v, (part t vs off).run P w = .ok v w ∧ Rel G ρ w a v := by
  obtain ⟨hl, rfl, hn, hg⟩ := takeN_spec h
  have hs := ofCells_spec ha
  cases hg' : T.u.agg with
  | true =>
    rw [hg'] at hs
    simp only [if_true] at hs
    subst hs
    have hr' := (hr.drop off).take T.sz
    refine ⟨.agg (vs.extract off (off + T.sz)), ?_, ?_⟩
    · simp [part, run_isAgg hT, hg', run_size hT]
    · have e : vs.extract off (off + T.sz) = ((vs.toList.drop off).take T.sz).toArray := by
        apply Array.ext'
        simp [List.extract_eq_drop_take']
      rw [e]
      exact rel_g hr' (fun i a ha => hf _ a (hg i a ha))
  | false =>
    rw [hg'] at hs
    simp only [Bool.false_eq_true, if_false] at hs
    have h0 : cs[off]? = some a := by simpa using hg 0 a (by rw [hs]; rfl)
    obtain ⟨v, hv, hrel⟩ := hr.get h0
    refine ⟨v, ?_, hrel⟩
    have hv' : vs[off]? = some v := by simpa using hv
    simp [part, run_isAgg hT, hg', hv']

theorem run_partA {t : TypeId} {T : TI} (hT : TIok P t T) {cs : List A} {vs : Array Value} {off : Nat} (hr : Rels G ρ w cs vs.toList) (hf : ∀ (i : Nat) (a : A), cs[i]? = some a → flat a = true)
    {a : A} (h : loadA T.u.agg cs off T.sz = some a) : ∃ v, (part t vs off).run P w = .ok v w ∧ Rel G ρ w a v := by
  unfold loadA at h
  cases hg : T.u.agg with
  | true =>
    rw [hg] at h
    simp only [if_true, Option.map_eq_some_iff] at h
    obtain ⟨l, hl, rfl⟩ := h
    exact run_part hT hr hf hl (by simp [ofCells, hg])
  | false =>
    rw [hg] at h
    simp only [Bool.false_eq_true, if_false] at h
    obtain ⟨v, hv, hrel⟩ := hr.get h
    refine ⟨v, ?_, hrel⟩
    have hv' : vs[off]? = some v := by simpa using hv
    simp [part, run_isAgg hT, hg, hv']

theorem Rel.g_inv {l : List A} {v : Value} (h : Rel G ρ w (.g l) v) : ∃ vs, v = .agg vs ∧ Rels G ρ w l vs.toList ∧ ∀ (i : Nat) (a : A), l[i]? = some a → flat a = true := by
  cases h with
  | g _ vs hl hf r => exact ⟨vs, rfl, ⟨by simpa using hl, fun i a v ha hv => r i a v ha (by simpa using hv)⟩, hf⟩

theorem Rel.t_inv {l : List A} {v : Value} (h : Rel G ρ w (.t l) v) : ∃ vs, v = .tuple vs ∧ Rels G ρ w l vs.toList := by
  cases h with
  | t _ vs hl r => exact ⟨vs, rfl, ⟨by simpa using hl, fun i a v ha hv => r i a v ha (by simpa using hv)⟩⟩

theorem str_eq {l l' : List Nat} {s s' : ByteArray} (h : s.data.toList.map (·.toNat) = l) (h' : s'.data.toList.map (·.toNat) = l') : (s == s') = (l == l') := by
  subst h; subst h'
  show (s.data == s'.data) = _
  rw [Bool.eq_iff_iff]
  simp only [beq_iff_eq]
  rw [List.map_inj_right (fun x y h => UInt8.toNat_inj.1 h)]
  exact ⟨fun e => by rw [e], fun e => Array.ext' e⟩

theorem bytesLess_eq : ∀ (x y : List UInt8), Op.bytesLess x y = listLess (x.map (·.toNat)) (y.map (·.toNat))
  | _, [] => by simp [Op.bytesLess, listLess]
  | [], _ :: _ => by simp [Op.bytesLess, listLess]
  | a :: x, b :: y => by
    simp only [Op.bytesLess, listLess, List.map_cons, bytesLess_eq x y]
    have h1 : (decide (a < b)) = decide (a.toNat < b.toNat) := by rw [decide_eq_decide]; exact UInt8.lt_iff_toNat_lt
    have h2 : (a == b) = (a.toNat == b.toNat) := by rw [Bool.eq_iff_iff]; simp [UInt8.toNat_inj]
    rw [h1, h2]

theorem run_strOp {op : BinOp} {l l' : List Nat} {s s' : ByteArray} (h : s.data.toList.map (·.toNat) = l) (h' : s'.data.toList.map (·.toNat) = l') {c : A} (hc : strOp op l l' = some c) :
    ∃ v, (Op.stringOp op s s').run P w = .ok v w ∧ Rel G ρ w c v := by
  have he : (s.data.toList == s'.data.toList) = (l == l') := by
    rw [← h, ← h', Bool.eq_iff_iff]
    simp only [beq_iff_eq]
    exact (List.map_inj_right (fun x y h => UInt8.toNat_inj.1 h)).symm
  have hl : Op.bytesLess s.data.toList s'.data.toList = listLess l l' := by rw [bytesLess_eq, h, h']
  have hs : s.size = l.length := by rw [← h]; simp
  have hs' : s'.size = l'.length := by rw [← h']; simp
  cases op <;> simp only [strOp] at hc <;> try (cases hc; done)
  case add =>
    split at hc
    · rename_i hlen
      simp at hc; subst hc
      have hb : ¬ ((s.size + s'.size : Nat) : Int) > IntKind.i64.max := by
        have : IntKind.i64.max = 9223372036854775807 := rfl
        omega
      refine ⟨.string (s ++ s'), by simp only [Op.stringOp]; rw [if_neg hb]; rfl, .s _ _ ?_⟩
      simp [h, h']
    · cases hc
  all_goals
    simp only [Option.some.injEq] at hc; subst hc
    refine ⟨_, by simp only [Op.stringOp]; rfl, ?_⟩
    simp only [ByteArray.toList_eq, he, hl]
    exact .b _

end
end Go.VV
