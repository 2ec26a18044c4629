/- How abstract values and stores stand for the model's: the relation, and that it lasts while memory grows. -/
import Derived.Test.YtlppiajnonbaaaaGreatDoorVb
set_option linter.unusedVariables false
set_option linter.unusedSimpArgs false
namespace Go.VV

theorem Tr.get_setF {α : Type} (o : Option α) : ∀ (f : Nat) (t : Tr α) (k : Nat), k < f → ∀ k', (Tr.setF f t k o).get k' = if k' = k then o else t.get k' := by
  intro f
  induction f with
  | zero => intro t k h; omega
  | succ f ih =>
    intro t k hk k'
    have hq : k ≠ 0 → k / 2 < f := fun h => by omega
    have hq' : k ≠ 0 → k / 2 - 1 < f := fun h => by omega
    cases t with
    | e =>
      simp only [Tr.setF]
      by_cases h0 : k = 0
      · subst h0; simp only [if_true, Tr.get]
        by_cases h : k' = 0
        · simp [h]
        · simp [h]
      · simp only [h0, if_false]
        by_cases h1 : k % 2 = 1
        · simp only [h1, if_true, Tr.get]
          by_cases h : k' = 0
          · subst h; simp [Ne.symm h0]
          · simp only [h, if_false]
            by_cases h2 : k' % 2 = 1
            · simp only [h2, if_true, ih _ _ (hq h0), Tr.get]
              by_cases h3 : k' = k
              · subst h3; simp
              · rw [if_neg (by omega), if_neg h3]
            · simp only [h2, if_false]; rw [if_neg (by intro e; subst e; exact h2 h1)]
        · simp only [h1, if_false, Tr.get]
          by_cases h : k' = 0
          · subst h; simp [Ne.symm h0]
          · simp only [h, if_false]
            by_cases h2 : k' % 2 = 1
            · simp only [h2, if_true]; rw [if_neg (by intro e; subst e; exact h1 h2)]
            · simp only [h2, if_false, ih _ _ (hq' h0), Tr.get]
              by_cases h3 : k' = k
              · subst h3; simp
              · rw [if_neg (by omega), if_neg h3]
    | n x l r =>
      simp only [Tr.setF]
      by_cases h0 : k = 0
      · subst h0; simp only [if_true, Tr.get]
        by_cases h : k' = 0
        · simp [h]
        · simp [h]
      · simp only [h0, if_false]
        by_cases h1 : k % 2 = 1
        · simp only [h1, if_true, Tr.get]
          by_cases h : k' = 0
          · subst h; simp [Ne.symm h0]
          · simp only [h, if_false]
            by_cases h2 : k' % 2 = 1
            · simp only [h2, if_true, ih _ _ (hq h0)]
              by_cases h3 : k' = k
              · subst h3; simp
              · rw [if_neg (by omega), if_neg h3]
            · simp only [h2, if_false]; rw [if_neg (by intro e; subst e; exact h2 h1)]
        · simp only [h1, if_false, Tr.get]
          by_cases h : k' = 0
          · subst h; simp [Ne.symm h0]
          · simp only [h, if_false]
            by_cases h2 : k' % 2 = 1
            · simp only [h2, if_true]; rw [if_neg (by intro e; subst e; exact h1 h2)]
            · simp only [h2, if_false, ih _ _ (hq' h0)]
              by_cases h3 : k' = k
              · subst h3; simp
              · rw [if_neg (by omega), if_neg h3]

theorem Tr.get_set {α : Type} (t : Tr α) (k : Nat) (o : Option α) (k' : Nat) : (t.set k o).get k' = if k' = k then o else t.get k' :=
  Tr.get_setF o (k + 1) t k (by omega) k'

theorem Tr.get_e {α : Type} (k : Nat) : (Tr.e : Tr α).get k = none := rfl

theorem St.get_set (σ : St) (l : Nat) (o : Ob) (l' : Nat) : (σ.set l o).get l' = if l' = l then some o else σ.get l' := Tr.get_set ..
theorem St.get_kill (σ : St) (l : Nat) (l' : Nat) : (σ.kill l).get l' = if l' = l then none else σ.get l' := Tr.get_set ..
theorem St.get_new (σ : St) (o : Ob) (l' : Nat) : (σ.new o).get l' = if l' = σ.nx then some o else σ.get l' := Tr.get_set ..
theorem St.nx_set (σ : St) (l : Nat) (o : Ob) : (σ.set l o).nx = σ.nx := rfl
theorem St.nx_kill (σ : St) (l : Nat) : (σ.kill l).nx = σ.nx := rfl
theorem St.nx_new (σ : St) (o : Ob) : (σ.new o).nx = σ.nx + 1 := rfl

theorem Tm.get_put (t : Tm) (d : Tmp) (a : A) (k : Nat) : (t.put (some d) a).get k = if k = d then a else t.get k := by
  unfold Tm.put Tm.get
  rw [Tr.get_set]
  split <;> rfl

/-- Where the store's objects lie: rows and maps; tokens (block, first cell); how many cells of a block stay. -/
structure Gh where
  β : Nat → Option Nat
  tk : Nat → Option (Nat × Nat)
  M : Nat → Nat

def cell (w : World) (b i : Nat) : Option Value :=
  match w.heap[b]? with
  | some (.cells c _ _) => c[i]?
  | _ => none

def rowSize (w : World) (b : Nat) : Option Nat :=
  match w.heap[b]? with
  | some (.cells c _ _) => some c.size
  | _ => none

theorem cell_eq (w : World) (b i : Nat) : w.cell? ⟨b, i, none⟩ = cell w b i := by
  unfold World.cell? cell
  cases w.heap[b]? with
  | none => rfl
  | some o => cases o <;> rfl

inductive Rel (G : Nat) (ρ : Gh) (w : World) : A → Value → Prop
  | b (x : Bool) : Rel G ρ w (.b x) (.bool x)
  | i (k : IntKind) (n : Int) : Rel G ρ w (.i k n) (.int k n)
  | s (l : List Nat) (sb : ByteArray) (h : sb.data.toList.map (·.toNat) = l) : Rel G ρ w (.s l) (.string sb)
  | np : Rel G ρ w .np (.pointer none)
  | ns : Rel G ρ w .ns (.slice none 0 0)
  | nm : Rel G ρ w .nm (.map none)
  | nf : Rel G ρ w .nf .nilFunc
  | ni : Rel G ρ w .ni .nilIface
  | p (l off blk : Nat) (h : ρ.β l = some blk) : Rel G ρ w (.p l off) (.pointer (some ⟨blk, off, none⟩))
  | q (cs : List A) (off blk base : Nat) (f : Nat → Value) (hc : ∀ (i : Nat) (a : A), cs[i]? = some a → cell w blk (base + i) = some (f i)) (hf : ∀ (i : Nat) (a : A), cs[i]? = some a → flat a = true)
      (hr : ∀ (i : Nat) (a : A), cs[i]? = some a → Rel G ρ w a (f i)) (hM : base + cs.length ≤ ρ.M blk) : Rel G ρ w (.q cs off) (.pointer (some ⟨blk, base + off, none⟩))
  | h (t : Nat) : Rel G ρ w (.h t) (.pointer (some ⟨G, t, none⟩))
  | v (kc : Bool) (cs : List A) (n sz t st blk o cap : Nat) (f : Nat → Value) (hl : cs.length = n * sz) (hn : n ≤ cap) (hk : kc = true → cap = n)
      (hc : ∀ (i : Nat) (a : A), cs[i]? = some a → cell w blk (o + i) = some (f i)) (hf : ∀ (i : Nat) (a : A), cs[i]? = some a → flat a = true)
      (hr : ∀ (i : Nat) (a : A), cs[i]? = some a → Rel G ρ w a (f i)) (hM : o + cs.length ≤ ρ.M blk)
      (ht : ∃ base, ρ.tk t = some (blk, base) ∧ (cap = 0 ∨ o = base + st)) (hN : ∃ N, rowSize w blk = some N ∧ o + cap * sz ≤ N) :
      Rel G ρ w (.v kc cs n sz t st) (.slice (some ⟨blk, o, none⟩) n cap)
  | w (l off n sz cap blk : Nat) (h : ρ.β l = some blk) (hn : n ≤ cap) (hN : ∃ N, rowSize w blk = some N ∧ off + cap * sz ≤ N) :
      Rel G ρ w (.w l off n sz cap) (.slice (some ⟨blk, off, none⟩) n cap)
  | m (l blk : Nat) (h : ρ.β l = some blk) : Rel G ρ w (.m l) (.map (some blk))
  | f (fn : Fn) (first cap : List A) (fs cs : Array Value) (h1 : first.length = fs.size) (h2 : cap.length = cs.size)
      (r1 : ∀ (i : Nat) (a : A) (v : Value), first[i]? = some a → fs[i]? = some v → Rel G ρ w a v) (r2 : ∀ (i : Nat) (a : A) (v : Value), cap[i]? = some a → cs[i]? = some v → Rel G ρ w a v) : Rel G ρ w (.f fn first cap) (.func fn fs cs)
  | x (t : TypeId) (a : A) (v : Value) (h : Rel G ρ w a v) : Rel G ρ w (.x t a) (.iface t v)
  | g (cs : List A) (vs : Array Value) (h : cs.length = vs.size) (hf : ∀ (i : Nat) (a : A), cs[i]? = some a → flat a = true)
      (r : ∀ (i : Nat) (a : A) (v : Value), cs[i]? = some a → vs[i]? = some v → Rel G ρ w a v) : Rel G ρ w (.g cs) (.agg vs)
  | t (cs : List A) (vs : Array Value) (h : cs.length = vs.size) (r : ∀ (i : Nat) (a : A) (v : Value), cs[i]? = some a → vs[i]? = some v → Rel G ρ w a v) : Rel G ρ w (.t cs) (.tuple vs)

/-- Memory has grown: what stays has stayed. -/
structure Ext (ρ : Gh) (w : World) (ρ' : Gh) (w' : World) : Prop where
  β : ∀ l b, ρ.β l = some b → ρ'.β l = some b
  tk : ∀ t x, ρ.tk t = some x → ρ'.tk t = some x
  M : ∀ b, ρ.M b ≤ ρ'.M b
  cell : ∀ b i, i < ρ.M b → cell w' b i = cell w b i
  row : ∀ b n, rowSize w b = some n → rowSize w' b = some n

theorem Ext.refl (ρ : Gh) (w : World) : Ext ρ w ρ w := ⟨fun _ _ h => h, fun _ _ h => h, fun _ => Nat.le_refl _, fun _ _ _ => rfl, fun _ _ h => h⟩

theorem Ext.trans {ρ1 ρ2 ρ3 : Gh} {w1 w2 w3 : World} (h : Ext ρ1 w1 ρ2 w2) (k : Ext ρ2 w2 ρ3 w3) : Ext ρ1 w1 ρ3 w3 :=
  ⟨fun l b e => k.β l b (h.β l b e), fun l b e => k.tk l b (h.tk l b e), fun b => Nat.le_trans (h.M b) (k.M b),
    fun b i hi => (k.cell b i (Nat.lt_of_lt_of_le hi (h.M b))).trans (h.cell b i hi), fun b n e => k.row b n (h.row b n e)⟩

theorem lt_of_get {α : Type} {l : List α} {i : Nat} {a : α} (h : l[i]? = some a) : i < l.length := (List.getElem?_eq_some_iff.1 h).1

theorem Rel.mono {G : Nat} {ρ ρ' : Gh} {w w' : World} (e : Ext ρ w ρ' w') {a : A} {v : Value} (h : Rel G ρ w a v) : Rel G ρ' w' a v := by
  induction h with
  | b x => exact .b x
  | i k n => exact .i k n
  | s l sb h => exact .s l sb h
  | np => exact .np
  | ns => exact .ns
  | nm => exact .nm
  | nf => exact .nf
  | ni => exact .ni
  | p l off blk h => exact .p l off blk (e.β _ _ h)
  | q cs off blk base f hc hf hr hM ih =>
    exact .q cs off blk base f (fun i a h => (e.cell blk _ (by have := lt_of_get h; omega)).trans (hc i a h)) hf (fun i a h => ih i a h) (Nat.le_trans hM (e.M _))
  | h t => exact .h t
  | v kc cs n sz t st blk o cap f hl hn hk hc hf hr hM ht hN ih =>
    obtain ⟨base, ht, hb⟩ := ht
    obtain ⟨N, hN, hb2⟩ := hN
    exact .v kc cs n sz t st blk o cap f hl hn hk (fun i a h => (e.cell blk _ (by have := lt_of_get h; omega)).trans (hc i a h)) hf (fun i a h => ih i a h) (Nat.le_trans hM (e.M _))
      ⟨base, e.tk _ _ ht, hb⟩ ⟨N, e.row _ _ hN, hb2⟩
  | w l off n sz cap blk h hn hN =>
    obtain ⟨N, hN, hb2⟩ := hN
    exact .w l off n sz cap blk (e.β _ _ h) hn ⟨N, e.row _ _ hN, hb2⟩
  | m l blk h => exact .m l blk (e.β _ _ h)
  | f fn first cap fs cs h1 h2 r1 r2 i1 i2 => exact .f fn first cap fs cs h1 h2 (fun i a v h h' => i1 i a v h h') (fun i a v h h' => i2 i a v h h')
  | x t a v h ih => exact .x t a v ih
  | g cs vs h hf r ih => exact .g cs vs h hf (fun i a v h h' => ih i a v h h')
  | t cs vs h r ih => exact .t cs vs h (fun i a v h h' => ih i a v h h')

/-- Lists of values that stand for one another. -/
def Rels (G : Nat) (ρ : Gh) (w : World) (l : List A) (vs : List Value) : Prop :=
  l.length = vs.length ∧ ∀ (i : Nat) (a : A) (v : Value), l[i]? = some a → vs[i]? = some v → Rel G ρ w a v

theorem Rels.mono {G : Nat} {ρ ρ' : Gh} {w w' : World} (e : Ext ρ w ρ' w') {l : List A} {vs : List Value} (h : Rels G ρ w l vs) : Rels G ρ' w' l vs :=
  ⟨h.1, fun i a v ha hv => (h.2 i a v ha hv).mono e⟩

theorem Rels.nil {G : Nat} {ρ : Gh} {w : World} : Rels G ρ w [] [] := ⟨rfl, fun i a v h => by simp at h⟩

theorem Rels.cons {G : Nat} {ρ : Gh} {w : World} {a : A} {v : Value} {l : List A} {vs : List Value} (h : Rel G ρ w a v) (hl : Rels G ρ w l vs) : Rels G ρ w (a :: l) (v :: vs) := by
  refine ⟨by simp [hl.1], fun i a' v' ha hv => ?_⟩
  cases i with
  | zero => simp at ha hv; subst ha; subst hv; exact h
  | succ i => simp at ha hv; exact hl.2 i a' v' ha hv

theorem Rels.append {G : Nat} {ρ : Gh} {w : World} {l l' : List A} {vs vs' : List Value} (h : Rels G ρ w l vs) (h' : Rels G ρ w l' vs') : Rels G ρ w (l ++ l') (vs ++ vs') := by
  refine ⟨by simp [h.1, h'.1], fun i a v ha hv => ?_⟩
  rw [List.getElem?_append] at ha hv
  rw [h.1] at ha
  split at ha
  · rename_i hi; rw [if_pos hi] at hv; exact h.2 i a v ha hv
  · rename_i hi; rw [if_neg hi] at hv; exact h'.2 _ a v ha hv

theorem Rels.drop {G : Nat} {ρ : Gh} {w : World} {l : List A} {vs : List Value} (h : Rels G ρ w l vs) (n : Nat) : Rels G ρ w (l.drop n) (vs.drop n) := by
  refine ⟨by simp [h.1], fun i a v ha hv => ?_⟩
  rw [List.getElem?_drop] at ha hv
  exact h.2 _ a v ha hv

theorem Rels.take {G : Nat} {ρ : Gh} {w : World} {l : List A} {vs : List Value} (h : Rels G ρ w l vs) (n : Nat) : Rels G ρ w (l.take n) (vs.take n) := by
  refine ⟨by simp [h.1], fun i a v ha hv => ?_⟩
  rw [List.getElem?_take] at ha hv
  split at ha
  · rename_i hi; rw [if_pos hi] at hv; exact h.2 i a v ha hv
  · cases ha

theorem Rels.get {G : Nat} {ρ : Gh} {w : World} {l : List A} {vs : List Value} (h : Rels G ρ w l vs) {i : Nat} {a : A} (ha : l[i]? = some a) : ∃ v, vs[i]? = some v ∧ Rel G ρ w a v := by
  have hi := lt_of_get ha
  have hv : vs[i]? = some (vs[i]'(by rw [← h.1]; exact hi)) := List.getElem?_eq_getElem _
  exact ⟨_, hv, h.2 i a _ ha hv⟩

theorem Rels.uncons {G : Nat} {ρ : Gh} {w : World} {a : A} {l : List A} {vs : List Value} (h : Rels G ρ w (a :: l) vs) : ∃ v vs', vs = v :: vs' ∧ Rel G ρ w a v ∧ Rels G ρ w l vs' := by
  cases vs with
  | nil => have := h.1; simp at this
  | cons v vs' =>
    exact ⟨v, vs', rfl, h.2 0 a v rfl rfl, by have := h.1; simpa using this, fun i a' v' ha hv => h.2 (i + 1) a' v' (by simpa using ha) (by simpa using hv)⟩

theorem Rels.nil_inv {G : Nat} {ρ : Gh} {w : World} {vs : List Value} (h : Rels G ρ w [] vs) : vs = [] := List.eq_nil_of_length_eq_zero h.1.symm

theorem Rels.replicate {G : Nat} {ρ : Gh} {w : World} {l : List A} {vs : List Value} (h : Rels G ρ w l vs) : Rels G ρ w l vs := h

/-- The cells of values that stand for one another do so too. -/
theorem Rel.cells {G : Nat} {ρ : Gh} {w : World} {a : A} {v : Value} (h : Rel G ρ w a v) : Rels G ρ w a.cells v.cells.toList := by
  cases h
  case g cs vs h hf r => exact ⟨by simpa [A.cells, Value.cells] using h, fun i a v ha hv => r i a v ha (by simpa [Value.cells] using hv)⟩
  all_goals
    refine Rels.cons ?_ Rels.nil
    first
      | exact .b _ | exact .i _ _ | exact .s _ _ ‹_› | exact .np | exact .ns | exact .nm | exact .nf | exact .ni | exact .p _ _ _ ‹_›
      | exact .q _ _ _ _ _ ‹_› ‹_› ‹_› ‹_› | exact .h _ | exact .v _ _ _ _ _ _ _ _ _ _ ‹_› ‹_› ‹_› ‹_› ‹_› ‹_› ‹_› ‹_› ‹_› | exact .w _ _ _ _ _ _ ‹_› ‹_› ‹_› | exact .m _ _ ‹_›
      | exact .f _ _ _ _ _ ‹_› ‹_› ‹_› ‹_› | exact .x _ _ _ ‹_› | exact .t _ _ ‹_› ‹_›

theorem Rel.cells_flat {G : Nat} {ρ : Gh} {w : World} {a : A} {v : Value} (h : Rel G ρ w a v) (hn : notT a = true) : ∀ (i : Nat) (c : A), a.cells[i]? = some c → flat c = true := by
  cases h
  case g cs vs h hf r => exact hf
  case t => simp [notT] at hn
  all_goals
    intro i c hc
    cases i with
    | zero => simp [A.cells] at hc; subst hc; rfl
    | succ i => simp [A.cells] at hc

end Go.VV
