/- '==' and the other operations of two values: what the abstract machine gives, the model gives. -/
import Derived.Test.YtlppiajnonbaaaaGreatDoorVe
set_option linter.unusedVariables false
set_option linter.unusedSimpArgs false
namespace Go.VV
section
variable {P : Program} {G : Nat} {ρ : Gh} {w : World} {E : Env}

theorem run_fields (eq : TypeId → Value → Value → Sem Bool) (eqa : TypeId → A → A → Option Bool) (hE : EnvOk P E)
    (heq : ∀ t x y r vx vy, eqa t x y = some r → Rel G ρ w x vx → Rel G ρ w y vy → (eq t vx vy).run P w = .ok r w) {xs ys : List A} {vx vy : Array Value}
    (hx : Rels G ρ w xs vx.toList) (hy : Rels G ρ w ys vy.toList) (hfx : ∀ (i : Nat) (a : A), xs[i]? = some a → flat a = true) (hfy : ∀ (i : Nat) (a : A), ys[i]? = some a → flat a = true) :
    ∀ (fs : List Field) (r : Bool), (∀ f ∈ fs, f.name ≠ "_") → eqFs E eqa (fs.map fun f => (f.offset, f.type)) xs ys = some r →
      (do
        for f in fs do
          if f.name ≠ "_" then
            if !(← eq f.type (← part f.type vx f.offset) (← part f.type vy f.offset)) then return false
        pure true : Sem Bool).run P w = .ok r w := by
  intro fs
  induction fs with
  | nil => intro r _ h; simp [eqFs] at h; subst h; simp
  | cons f fs ih =>
    intro r hn h
    simp only [List.map_cons, eqFs, Option.bind_eq_some_iff] at h
    obtain ⟨T, hT, cx, hcx, cy, hcy, x, hx', y, hy', b, hb, h⟩ := h
    have hok := hE.ti _ _ hT
    obtain ⟨v1, r1, e1⟩ := run_part hok hx hfx hcx hx'
    obtain ⟨v2, r2, e2⟩ := run_part hok hy hfy hcy hy'
    have e3 := heq _ _ _ _ _ _ hb e1 e2
    have hn' := hn f (by simp)
    cases b with
    | true =>
      simp only [if_true] at h
      have := ih r (fun f hf => hn f (by simp [hf])) h
      simp only [List.forIn_cons, hn', ne_eq, not_false_eq_true, if_true, Sem.run_bind, r1, r2, e3, Result.andThen_ok] at this ⊢
      simpa using this
    | false =>
      simp at h; subst h
      simp [hn', r1, r2, e3]

theorem eqOk_spec {t : TypeId} (h : eqOk P t = true) : P.stoodInHeld t = false ∧ P.eqGuardType P.depth t = false ∧ ∀ fs, P.underlying t = some (.struct fs) → ∀ f ∈ fs.toList, f.name ≠ "_" := by
  unfold eqOk at h
  simp only [Bool.and_eq_true, Bool.not_eq_true'] at h
  refine ⟨h.1.1, h.1.2, fun fs hf f hm => ?_⟩
  rw [hf] at h
  have := List.all_eq_true.1 h.2 f hm
  simpa using this

theorem run_eqA (hE : EnvOk P E) : ∀ (d : Nat) (t : TypeId) (x y : A) (r : Bool) (vx vy : Value), eqA E d t x y = some r → Rel G ρ w x vx → Rel G ρ w y vy →
    ∀ k, (Op.equalIn (d + k) t vx vy).run P w = .ok r w := by
  intro d
  induction d with
  | zero => intro t x y r vx vy h; simp [eqA] at h
  | succ d ih =>
    intro t x y r vx vy h hx hy k
    rw [show d + 1 + k = (d + k) + 1 by omega]
    simp only [eqA, Option.bind_eq_some_iff] at h
    obtain ⟨T, hT, h⟩ := h
    have hok := hE.ti _ _ hT
    obtain ⟨u, hu, hTu⟩ := hok.1
    unfold Op.equalIn
    simp only [Sem.run_bind, run_und hu, Result.andThen_ok]
    split at h
    case h_22 => cases h
    case h_21 fs xs ys hfs =>
      rw [hTu] at hfs
      cases u <;> simp only [uOf, reduceCtorEq, U.struct.injEq] at hfs
      rename_i fs'
      subst hfs
      split at h
      · rename_i heq
        obtain ⟨h1, h2, h3⟩ := eqOk_spec (hok.2.2 heq)
        obtain ⟨v1, rfl, r1, f1⟩ := hx.g_inv
        obtain ⟨v2, rfl, r2, f2⟩ := hy.g_inv
        have := run_fields (P := P) (fun t => Op.equalIn (d + k) t) (eqA E d) hE (fun t x y r vx vy h hx hy => ih t x y r vx vy h hx hy k) r1 r2 f1 f2 fs'.toList r (h3 fs' hu) h
        simp only [Sem.run_bind, run_program, Result.andThen_ok, h1, Bool.false_eq_true, if_false]
        simpa using this
      · cases h
    all_goals
      rename_i hTu'
      rw [hTu] at hTu'
      cases u <;> simp only [uOf, reduceCtorEq, U.int.injEq, U.ptr.injEq, U.iface.injEq, U.slice.injEq, U.map.injEq] at hTu'
      cases hx
      cases hy
    case h_2 =>
      split at h
      · rename_i hk
        simp only [Option.some.injEq] at h
        subst h
        simp [hk]
      · cases h
    case h_3 =>
      rename_i hs1 _ hs2
      simp only [Option.some.injEq] at h
      subst h
      simp [str_eq hs1 hs2]
    all_goals
      simp only [Option.some.injEq] at h
      subst h
      simp

def plainEq : Value → Bool
  | .int _ _ | .float _ _ | .complex _ _ _ | .string _ => false
  | _ => true

theorem binOp_eql {t : TypeId} {x y : Value} (h : plainEq x = true) : binOp .eql t x y = (do pure (.bool (← Op.equal t x y))) := by
  cases x <;> first | (simp [plainEq] at h; done) | (cases y <;> rfl)

theorem binOp_neq {t : TypeId} {x y : Value} (h : plainEq x = true) : binOp .neq t x y = (do pure (.bool (!(← Op.equal t x y)))) := by
  cases x <;> first | (simp [plainEq] at h; done) | (cases y <;> rfl)

def isIface : U → Bool
  | .iface _ => true
  | _ => false

theorem eqA_plain (hE : EnvOk P E) {d : Nat} {t : TypeId} {T : TI} (hT : E.ti t = some T) {x y : A} {r : Bool} {vx vy : Value} (h : eqA E (d + 1) t x y = some r) (hx : Rel G ρ w x vx) (hy : Rel G ρ w y vy)
    (hi : ∀ k a k' b, x = .i k a → y = .i k' b → False) (hs : ∀ a b, x = .s a → y = .s b → False) {op : BinOp} {ox oy : Operand} (hc : isIface T.u = true → (isC ox || isC oy) = true) :
    plainEq vx = true ∧ (eqGuard op t ox oy vx vy).run P w = .ok () w := by
  simp only [eqA, hT, Option.bind_some] at h
  have hok := hE.ti _ _ hT
  split at h
  case h_22 => cases h
  case h_21 fs xs ys hfs =>
    obtain ⟨v1, rfl, r1, f1⟩ := hx.g_inv
    obtain ⟨v2, rfl, r2, f2⟩ := hy.g_inv
    refine ⟨rfl, ?_⟩
    split at h
    · rename_i heq
      obtain ⟨h1, h2, h3⟩ := eqOk_spec (hok.2.2 heq)
      cases op <;> simp [eqGuard, h2]
    · cases h
  case h_2 => exact (hi _ _ _ _ rfl rfl).elim
  case h_3 => exact (hs _ _ rfl rfl).elim
  case h_7 hTu =>
    cases hx
    cases hy
    refine ⟨rfl, ?_⟩
    have := hc (by rw [hTu]; rfl)
    cases op <;> simp only [eqGuard] <;> (try rfl)
    all_goals
      cases ox <;> cases oy <;> first | (simp [isC] at this; done) | simp
  all_goals
    cases hx
    cases hy
    refine ⟨rfl, ?_⟩
    cases op <;> simp [eqGuard]

theorem pv_run {s : Sem Value} {c : A} (h : pv s = some c) : ∃ v, s.run P w = .ok v w ∧ Rel G ρ w c v := by
  unfold pv at h
  split at h
  · simp at h; subst h; exact ⟨_, rfl, .i _ _⟩
  · simp at h; subst h; exact ⟨_, rfl, .b _⟩
  · cases h

theorem run_aBin (hE : EnvOk P E) {op : BinOp} {t : TypeId} {ox oy : Operand} {x y c : A} {vx vy : Value} (h : aBin E op t (isC ox || isC oy) x y = some c) (hx : Rel G ρ w x vx) (hy : Rel G ρ w y vy) :
    ∃ v, (do eqGuard op t ox oy vx vy; binOp op t vx vy : Sem Value).run P w = .ok v w ∧ Rel G ρ w c v := by
  unfold aBin at h
  split at h
  · cases hx
    cases hy
    have hg : ∀ k a k' b, (eqGuard op t ox oy (.int k a) (.int k' b)).run P w = .ok () w := fun k a k' b => by cases op <;> simp [eqGuard]
    simp only [Sem.run_bind, hg, Result.andThen_ok]
    split at h
    · exact pv_run h
    · exact pv_run h
    all_goals
      split at h
      · rename_i hk
        subst hk
        first
          | (split at h
             · cases h
             · obtain ⟨v, hv, hr⟩ := pv_run (P := P) (G := G) (ρ := ρ) (w := w) h
               exact ⟨v, by simpa [binOp] using hv, hr⟩)
          | (obtain ⟨v, hv, hr⟩ := pv_run (P := P) (G := G) (ρ := ρ) (w := w) h
             refine ⟨v, ?_, hr⟩
             first | (simpa [binOp] using hv) | (cases op <;> first | (simpa [binOp] using hv) | (simp_all; done)))
      · cases h
  · cases hx
    cases hy
    rename_i s1 h1 s2 h2
    have hg : (eqGuard op t ox oy (.string s1) (.string s2)).run P w = .ok () w := by cases op <;> simp [eqGuard]
    obtain ⟨v, hv, hr⟩ := run_strOp (P := P) (G := G) (ρ := ρ) (w := w) h1 h2 h
    refine ⟨v, ?_, hr⟩
    simp only [Sem.run_bind, hg, Result.andThen_ok]
    cases op <;> first | (simpa [binOp] using hv) | (simp [strOp] at h; done)
  · rename_i hi hs
    simp only [Option.bind_eq_some_iff] at h
    obtain ⟨T, hT, h⟩ := h
    split at h
    · rename_i hcst
      have hc : isIface T.u = true → (isC ox || isC oy) = true := by
        intro hif
        cases hu : T.u <;> rw [hu] at hif hcst <;> simp [isIface] at hif
        simpa [ifaceOk] using hcst
      split at h
      · simp only [Option.map_eq_some_iff] at h
        obtain ⟨r, hr, rfl⟩ := h
        obtain ⟨h1, h2⟩ := eqA_plain (op := .eql) hE hT hr hx hy (fun k a k' b e e' => hi _ _ _ _ e e') (fun a b e e' => hs _ _ e e') hc
        have h3 := run_eqA (P := P) (w := w) hE 20 t x y r vx vy hr hx hy 9980
        refine ⟨.bool r, ?_, .b _⟩
        simp only [Sem.run_bind, h2, Result.andThen_ok, binOp_eql h1, Op.equal, Op.maxDepth]
        rw [show (20 + 9980 : Nat) = 10000 from rfl] at h3
        rw [h3]
        rfl
      · simp only [Option.map_eq_some_iff] at h
        obtain ⟨r, hr, rfl⟩ := h
        obtain ⟨h1, h2⟩ := eqA_plain (op := .neq) hE hT hr hx hy (fun k a k' b e e' => hi _ _ _ _ e e') (fun a b e e' => hs _ _ e e') hc
        have h3 := run_eqA (P := P) (w := w) hE 20 t x y r vx vy hr hx hy 9980
        refine ⟨.bool (!r), ?_, .b _⟩
        simp only [Sem.run_bind, h2, Result.andThen_ok, binOp_neq h1, Op.equal, Op.maxDepth]
        rw [show (20 + 9980 : Nat) = 10000 from rfl] at h3
        rw [h3]
        rfl
      · cases h
    · cases h

theorem run_aUn {op : UnOp} {x c : A} {vx : Value} (h : aUn op x = some c) (hx : Rel G ρ w x vx) : ∃ v, (Op.unary op vx).run P w = .ok v w ∧ Rel G ρ w c v := by
  unfold aUn at h
  split at h
  · cases hx; exact pv_run h
  · cases hx; exact pv_run h
  · cases h

end
end Go.VV
