/- Equal truths; an operation looks at its names alone; what stands before an operation. -/
import Derived.Test.YtlppiajnonbaaaaGreatDoorVr
import Derived.CheckFast
set_option linter.unusedVariables false
set_option linter.unusedSimpArgs false
namespace Go.VV

mutual
theorem aeq_eq : ∀ {a b : A}, aeq a b = true → a = b := by
  intro a b h
  cases a <;> cases b <;> simp only [aeq, Bool.and_eq_true, beq_iff_eq, Bool.false_eq_true] at h <;> (try (simp_all; done))
  · rw [aeqs_eq h.1, h.2]
  · rw [h.1.1.1.1.1, aeqs_eq h.1.1.1.1.2, h.1.1.1.2, h.1.1.2, h.1.2, h.2]
  · rw [h.1.1, aeqs_eq h.1.2, aeqs_eq h.2]
  · rw [h.1, aeq_eq h.2]
  · rw [aeqs_eq h]
  · rw [aeqs_eq h]
theorem aeqs_eq : ∀ {a b : List A}, aeqs a b = true → a = b := by
  intro a b h
  cases a <;> cases b <;> simp only [aeqs, Bool.and_eq_true, Bool.false_eq_true] at h <;> (try rfl)
  · rw [aeq_eq h.1, aeqs_eq h.2]
end

theorem eqbe_eq : ∀ {a b : List (A × A)}, eqbe a b = true → a = b := by
  intro a
  induction a with
  | nil => intro b h; cases b <;> simp [eqbe] at h ⊢
  | cons x a ih =>
    intro b h
    cases b with
    | nil => simp [eqbe] at h
    | cons y b =>
      obtain ⟨x1, x2⟩ := x
      obtain ⟨y1, y2⟩ := y
      simp only [eqbe, Bool.and_eq_true] at h
      rw [aeq_eq h.1.1, aeq_eq h.1.2, ih h.2]

theorem oeqb_eq {a b : Option Ob} (h : oeqb a b = true) : a = b := by
  cases a <;> cases b <;> simp only [oeqb, Bool.false_eq_true] at h <;> (try rfl)
  rename_i a b
  cases a <;> cases b <;> simp only [Ob.eqb, Bool.false_eq_true, beq_iff_eq] at h
  · rw [aeqs_eq h]
  · rw [eqbe_eq h]
  · rw [h]

section
variable {E : Env} {tm tm' : Tm}

theorem ev_congr {x : Operand} (h : ∀ t, x = .tmp t → tm.get t = tm'.get t) : ev E tm x = ev E tm' x := by
  cases x <;> simp only [ev]
  rename_i t
  rw [h t rfl]

theorem evs_congr : ∀ {xs : List Operand}, (∀ x ∈ xs, ∀ t, x = .tmp t → tm.get t = tm'.get t) → evs E tm xs = evs E tm' xs
  | [], _ => rfl
  | x :: l, h => by
    simp only [evs]
    rw [ev_congr (h x (by simp)), evs_congr (fun y hy => h y (by simp [hy]))]

theorem parts_congr : ∀ {xs : List (Nat × Operand)}, (∀ x ∈ xs, ∀ t, x.2 = .tmp t → tm.get t = tm'.get t) → parts E tm xs = parts E tm' xs
  | [], _ => rfl
  | (i, x) :: l, h => by
    simp only [parts]
    rw [ev_congr (h (i, x) (by simp)), parts_congr (fun y hy => h y (by simp [hy]))]

theorem aOp_congr {pol : Pol} {σ : St} {o : Oper} (h : ∀ t, .tmp t ∈ o.op.operands → tm.get t = tm'.get t) : aOp E pol tm σ o = aOp E pol tm' σ o := by
  obtain ⟨dst, op, type, pos, after, guard⟩ := o
  have e1 : ∀ x, x ∈ op.operands → ev E tm x = ev E tm' x := fun x hx => ev_congr (fun t ht => h t (ht ▸ hx))
  have el : ∀ xs : Array Operand, (∀ x ∈ xs, x ∈ op.operands) → evs E tm xs.toList = evs E tm' xs.toList := fun xs hx => evs_congr (fun x h1 t ht => h t (ht ▸ hx x (Array.mem_toList_iff.1 h1)))
  clear h
  cases op
  case alloc t => rfl
  case move x => simp only [aOp, e1 x (by simp [Op.operands])]
  case assign x => simp only [aOp, e1 x (by simp [Op.operands])]
  case pick c x y => simp only [aOp, e1 c (by simp [Op.operands]), e1 x (by simp [Op.operands]), e1 y (by simp [Op.operands])]
  case box t x => simp only [aOp, e1 x (by simp [Op.operands])]
  case build t ps =>
    have : parts E tm ps.toList = parts E tm' ps.toList := parts_congr fun x hx t ht => by
      have := e1 x.2 (by simp only [Op.operands, List.mem_toArray, List.mem_map]; exact ⟨x, hx, rfl⟩)
      rw [ht] at this
      simpa [ev] using this
    simp only [aOp, this]
  case buildSlice t n ps =>
    have : parts E tm ps.toList = parts E tm' ps.toList := parts_congr fun x hx t ht => by
      have := e1 x.2 (by simp only [Op.operands, List.mem_toArray, List.mem_map]; exact ⟨x, hx, rfl⟩)
      rw [ht] at this
      simpa [ev] using this
    simp only [aOp, this]
  case load t x => simp only [aOp, e1 x (by simp [Op.operands])]
  case store t x y => simp only [aOp, e1 x (by simp [Op.operands]), e1 y (by simp [Op.operands])]
  case nilCheck x => simp only [aOp, e1 x (by simp [Op.operands])]
  case binOp b t x y u => simp only [aOp, e1 x (by simp [Op.operands]), e1 y (by simp [Op.operands])]
  case unOp b t x => simp only [aOp, e1 x (by simp [Op.operands])]
  case convert s d x => simp only [aOp, e1 x (by simp [Op.operands])]
  case makeInterface t x => simp only [aOp, e1 x (by simp [Op.operands])]
  case makeFunc fn first cap => simp only [aOp, el first (by simp [Op.operands]; intro x hx; exact .inl hx), el cap (by simp [Op.operands]; intro x hx; exact .inr hx)]
  case makeMap t r => cases r <;> rfl
  case makeSlice t x y => simp only [aOp, e1 x (by simp [Op.operands]), e1 y (by simp [Op.operands])]
  case slice t x lo hi mx =>
    have e2 : ∀ y, y ∈ (Op.slice t x lo hi mx).operands → ev E tm y = ev E tm' y := e1
    simp only [Op.operands, Array.mem_append, List.mem_toArray, List.mem_cons, List.not_mem_nil, or_false, Option.mem_toArray] at e2
    cases lo <;> cases hi <;> cases mx <;> simp only [aOp, e2 x (by simp)] <;> (try rw [e2 _ (.inl (.inl (.inr rfl)))]) <;> (try rw [e2 _ (.inl (.inr rfl))]) <;> (try rw [e2 _ (.inr rfl)])
  case fieldAddr t x k => simp only [aOp, e1 x (by simp [Op.operands])]
  case field t x k => simp only [aOp, e1 x (by simp [Op.operands])]
  case indexAddr t x y => simp only [aOp, e1 x (by simp [Op.operands]), e1 y (by simp [Op.operands])]
  case index t x y => simp only [aOp, e1 x (by simp [Op.operands]), e1 y (by simp [Op.operands])]
  case lookup t x y ok => simp only [aOp, e1 x (by simp [Op.operands]), e1 y (by simp [Op.operands])]
  case mapUpdate t x y z => simp only [aOp, e1 x (by simp [Op.operands]), e1 y (by simp [Op.operands]), e1 z (by simp [Op.operands])]
  case typeAssert x xt t ok => simp only [aOp, e1 x (by simp [Op.operands])]
  case extract x k => simp only [aOp, e1 x (by simp [Op.operands])]
  case call c =>
    simp only [aOp]
    unfold aCall
    have h2 := el c.args (by intro x hx; simp only [Op.operands, Call.operands, Array.mem_append]; exact .inr hx)
    cases hc : c.callee with
    | value f => simp only [h2, e1 f (by simp [Op.operands, Call.operands, hc])]
    | invoke r m => simp only [h2]
    | builtin b => simp only [h2]
  all_goals rfl

end

/-- A set of operations that holds with each what it waits for. -/
def Closed (ops : Array Oper) (L : Nat → Prop) : Prop := ∀ j o, ops[j]? = some o → L j → ∀ e ∈ o.after, Region.binds .any e = true → L e.on

theorem before_size (ops : Array Oper) : (Region.before ops).size = ops.size := by
  unfold Region.before
  rw [← Array.foldl_toList]
  have : ∀ (l : List Oper) (acc : Array Nat), (l.foldl (fun (acc : Array Nat) o => acc.push (o.after.foldl (fun s e => if Region.binds .any e then s ||| 2 ^ e.on ||| acc.getD e.on 0 else s) 0)) acc).size = acc.size + l.length := by
    intro l
    induction l with
    | nil => intro acc; simp
    | cons o l ih => intro acc; rw [List.foldl_cons, ih]; simp; omega
  rw [this]; simp

theorem before_spec (ops : Array Oper) (L : Nat → Prop) (hL : Closed ops L) : ∀ j o, ops[j]? = some o → (∀ e ∈ o.after, Region.binds .any e = true → L e.on) → ∀ i, ((Region.before ops).getD j 0).testBit i = true → L i := by
  have main : ∀ (l : List Oper) (acc : Array Nat), (∀ j, ops[acc.size + j]? = l[j]?) → (∀ j, j < acc.size → ∀ o, ops[j]? = some o → (∀ e ∈ o.after, Region.binds .any e = true → L e.on) → ∀ i, (acc.getD j 0).testBit i = true → L i) →
      ∀ j, j < acc.size + l.length → ∀ o, ops[j]? = some o → (∀ e ∈ o.after, Region.binds .any e = true → L e.on) → ∀ i,
        ((l.foldl (fun (acc : Array Nat) o => acc.push (o.after.foldl (fun s e => if Region.binds .any e then s ||| 2 ^ e.on ||| acc.getD e.on 0 else s) 0)) acc).getD j 0).testBit i = true → L i := by
    intro l
    induction l with
    | nil => intro acc _ h j hj; exact h j (by simpa using hj)
    | cons o l ih =>
      intro acc hops h
      rw [List.foldl_cons]
      have hsz : ∀ x, (acc.push x).size + l.length = acc.size + (o :: l).length := by intro x; simp; omega
      intro j hj
      refine ih (acc.push _) (fun k => ?_) (fun k hk => ?_) j (by rw [hsz]; exact hj)
      · rw [Array.size_push, Nat.add_assoc, Nat.add_comm 1 k, hops (k + 1)]; simp
      · rw [Array.size_push] at hk
        intro p hp hafter i hbit
        rcases Nat.lt_or_ge k acc.size with hlt | hge
        · refine h k hlt p hp hafter i ?_
          simpa [Array.getD_eq_getD_getElem?, Array.getElem?_push, Nat.ne_of_lt hlt] using hbit
        · have hk' : k = acc.size := by omega
          subst hk'
          have hpo : p = o := by
            have := hops 0
            rw [Nat.add_zero, hp] at this
            simpa using this
          subst hpo
          simp only [Array.getD_eq_getD_getElem?, Array.getElem?_push, if_pos rfl, Option.getD_some] at hbit
          rw [← Array.foldl_toList] at hbit
          have fold : ∀ (es : List Edge) (s : Nat), (∀ e ∈ es, Region.binds .any e = true → L e.on) → (∀ i, s.testBit i = true → L i) → ∀ i, (es.foldl (fun s e => if Region.binds .any e then s ||| 2 ^ e.on ||| (acc[e.on]?.getD 0) else s) s).testBit i = true → L i := by
            intro es
            induction es with
            | nil => intro s _ hs i hi; exact hs i hi
            | cons e es ih2 =>
              intro s hes hs i hi
              rw [List.foldl_cons] at hi
              refine ih2 _ (fun e' he' => hes e' (by simp [he'])) (fun i' hi' => ?_) i hi
              split at hi'
              · rename_i hb
                simp only [Nat.testBit_or, Bool.or_eq_true] at hi'
                rcases hi' with (hi' | hi') | hi'
                · exact hs i' hi'
                · rw [Nat.testBit_two_pow] at hi'
                  simp at hi'
                  exact hi' ▸ hes e (by simp) hb
                · rcases Nat.lt_or_ge e.on acc.size with h1 | h1
                  · cases hq : ops[e.on]? with
                    | none =>
                      rw [Array.getElem?_eq_none_iff] at hq
                      have := hops 0
                      rw [Nat.add_zero, hp] at this
                      have := (Array.getElem?_eq_some_iff.1 hp).1
                      omega
                    | some q =>
                      exact h e.on h1 q hq (fun e' he' hb' => hL e.on q hq (hes e (by simp) hb) e' he' hb') i' (by rw [Array.getD_eq_getD_getElem?]; exact hi')
                  · rw [Array.getElem?_eq_none h1] at hi'; simp at hi'
              · exact hs i' hi'
          exact fold p.after.toList 0 (fun e he => hafter e (Array.mem_toList_iff.1 he)) (fun i hi => by simp at hi) i (by simpa using hbit)
  intro j o hj hafter i hi
  have hjl : j < ops.size := (Array.getElem?_eq_some_iff.1 hj).1
  have := main ops.toList #[] (fun j => by simp) (fun j hj => by simp at hj) j (by simpa using hjl) o hj hafter i
  rw [Array.foldl_toList] at this
  exact this hi

end Go.VV
