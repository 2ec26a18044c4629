/- Every operation that gives a value and changes nothing: what the abstract machine gives, the model gives. -/
import Derived.Test.YtlppiajnonbaaaaGreatDoorVh
set_option linter.unusedVariables false
set_option linter.unusedSimpArgs false
namespace Go.VV
section
variable {P : Program} {G : Nat} {ρ : Gh} {w : World} {E : Env}

theorem ofA_eq {a : Option A} {rd : Option Nat} {c : A} (h : R.ofA a = some (.val rd c)) : a = some c ∧ rd = none := by
  unfold R.ofA at h
  simp only [Option.map_eq_some_iff, R.val.injEq] at h
  obtain ⟨x, hx, rfl, rfl⟩ := h
  exact ⟨hx, rfl⟩

theorem orel_of {tm : Tm} {a : Act} (hT : TmR G ρ w tm a) (hg : GlOk G ρ w E) {x : Option Operand} {y : Option A} (h : (match x with | none => some none | some z => (ev E tm z).map some) = some y) : ORel G ρ w y (x.map a.eval) := by
  cases x with
  | none => simp at h; subst h; trivial
  | some z =>
    simp only [Option.map_eq_some_iff] at h
    obtain ⟨c, hc, rfl⟩ := h
    exact ev_rel hT hg hc

theorem addr_p {l off : Nat} {v : Value} (h : Rel G ρ w (.p l off) v) : ∃ blk, v = .pointer (some ⟨blk, off, none⟩) ∧ ρ.β l = some blk := by
  cases h with
  | p _ _ blk h => exact ⟨blk, rfl, h⟩

theorem addr_q {cs : List A} {off : Nat} {v : Value} (h : Rel G ρ w (.q cs off) v) : ∃ blk base f, v = .pointer (some ⟨blk, base + off, none⟩) ∧ RowAt G ρ w blk base cs f ∧ base + cs.length ≤ ρ.M blk := by
  cases h with
  | q _ _ blk base f hc hf hr hM => exact ⟨blk, base, f, rfl, ⟨hc, hf, hr⟩, hM⟩

theorem conv_head (hE : EnvOk P E) {s d e : TypeId} {S D F : TI} (hS : E.ti s = some S) (hD : E.ti d = some D) (hF : E.ti e = some F) (hSu : S.u = .slice e) (hDu : D.u = .string) (hFu : F.u = .int .u8) {x : Value}
    (hx : x = .slice none 0 0 ∨ ∃ p n c, x = .slice (some p) n c) : (convert s d x).run P w = (Conv.bytesToString x).run P w := by
  obtain ⟨ds, hds, hus⟩ := (hE.ti _ _ hS).1
  obtain ⟨dd, hdd, hud⟩ := (hE.ti _ _ hD).1
  obtain ⟨df, hdf, huf⟩ := (hE.ti _ _ hF).1
  rw [hSu] at hus
  rw [hDu] at hud
  rw [hFu] at huf
  cases ds <;> simp only [uOf, reduceCtorEq, U.slice.injEq] at hus
  cases dd <;> simp only [uOf, reduceCtorEq] at hud
  cases df <;> simp only [uOf, reduceCtorEq, U.int.injEq] at huf
  subst hus; subst huf
  unfold convert
  simp only [Sem.run_bind, run_und hds, run_und hdd, Result.andThen_ok]
  rcases hx with rfl | ⟨p, n, c, rfl⟩
  · simp only [Sem.run_bind, run_und hdf, Result.andThen_ok]
  · simp only [Sem.run_bind, run_und hdf, Result.andThen_ok]

theorem op_val (hE : EnvOk P E) {tm : Tm} {a : Act} (hT : TmR G ρ w tm a) (hg : GlOk G ρ w E) {pol : Pol} {σ : St} {o : Oper} {rd : Option Nat} {c : A} (h : aOp E pol tm σ o = some (.val rd c))
    (hrd : ∀ l blk ob, rd = some l → ρ.β l = some blk → σ.get l = some ob → ObR G ρ w blk ob) :
    ∃ v, (execOp a.eval o).run P w = .ok (.value v) w ∧ Rel G ρ w c v := by
  obtain ⟨dst, op, type, pos, after, guard⟩ := o
  have ret : ∀ {s : Sem Value} {v : Value}, s.run P w = .ok v w → (do pure (Next.value (← s)) : Sem Next).run P w = .ok (.value v) w := by
    intro s v hs
    simp only [Sem.run_bind, hs, Result.andThen_ok, Sem.run_pure]
  cases op <;> simp only [aOp] at h <;> (try (cases h; done))
  case move x =>
    have h1 := ofA_eq h
    clear h
    obtain ⟨h, rfl⟩ := h1
    exact ⟨_, rfl, ev_rel hT hg h⟩
  case assign x =>
    have h1 := ofA_eq h
    clear h
    obtain ⟨h, rfl⟩ := h1
    exact ⟨_, rfl, ev_rel hT hg h⟩
  case pick x y z =>
    split at h
    · rename_i hx
      have h1 := ofA_eq h
      clear h
      obtain ⟨h, rfl⟩ := h1
      have r := ev_rel hT hg hx
      refine ⟨a.eval y, ?_, ev_rel hT hg h⟩
      generalize hv : a.eval x = v at r
      cases r
      simp [execOp, hv, asBool]
    · rename_i hx
      have h1 := ofA_eq h
      clear h
      obtain ⟨h, rfl⟩ := h1
      have r := ev_rel hT hg hx
      refine ⟨a.eval z, ?_, ev_rel hT hg h⟩
      generalize hv : a.eval x = v at r
      cases r
      simp [execOp, hv, asBool]
    · cases h
  case alloc t => simp only [Option.map_eq_some_iff, reduceCtorEq, and_false, exists_false] at h
  case box t x =>
    simp only [Option.bind_eq_some_iff] at h
    obtain ⟨b, hb, h⟩ := h
    split at h <;> simp at h
  case build t ps =>
    simp only [Option.bind_eq_some_iff] at h
    obtain ⟨T, hTi, l, hl, h⟩ := h
    have hp := parts_rels hT hg hl
    have hrd0 : rd = none := by
      split at h
      · simp only [Option.bind_eq_some_iff] at h
        obtain ⟨pl, _, h⟩ := h
        exact (ofA_eq h).2
      · simp only [Option.bind_eq_some_iff] at h
        obtain ⟨pl, _, h⟩ := h
        exact (ofA_eq h).2
      · cases h
    subst hrd0
    obtain ⟨v, hv, hr⟩ := run_build (P := P) (G := G) (ρ := ρ) (w := w) hE hTi (l := l) (ps := ps.map fun (i, x) => (i, a.eval x)) (by simpa using hp.1) (fun i k c hc => by
      obtain ⟨x, hx, hr⟩ := hp.2 i k c hc
      refine ⟨a.eval x, ?_, hr⟩
      simp only [Array.toList_map, List.getElem?_map, hx, Option.map_some]) h
    exact ⟨v, ret hv, hr⟩
  case buildSlice t n ps =>
    simp only [Option.bind_eq_some_iff] at h
    obtain ⟨T, hTi, l, hl, h⟩ := h
    split at h
    · simp only [Option.bind_eq_some_iff] at h
      obtain ⟨F, _, h⟩ := h
      split at h
      · cases h
      · simp only [Option.map_eq_some_iff] at h
        obtain ⟨cs, _, h⟩ := h
        split at h <;> cases h
    · cases h
  case load t x =>
    simp only [Option.bind_eq_some_iff] at h
    obtain ⟨b, hb, T, hTi, h⟩ := h
    have hok := hE.ti _ _ hTi
    have r := ev_rel hT hg hb
    cases b <;> simp only [reduceCtorEq] at h
    case p l off =>
      obtain ⟨blk, hv, hβ⟩ := addr_p r
      split at h
      · rename_i cs hσ
        simp only [Option.map_eq_some_iff, R.val.injEq] at h
        obtain ⟨c', hc, rfl, rfl⟩ := h
        obtain ⟨f, hrow⟩ := (hrd l blk _ rfl hβ hσ).row
        obtain ⟨v, hv', hr⟩ := run_loadA (P := P) hok hrow hc
        refine ⟨v, ?_, hr⟩
        simp only [Nat.zero_add] at hv'
        simp [execOp, Instr.loadAt, Instr.sureAddr, hv, hv']
      · cases h
    case q cs off =>
      have h1 := ofA_eq h
      clear h
      obtain ⟨h, rfl⟩ := h1
      obtain ⟨blk, base, f, hv, hrow, _⟩ := addr_q r
      obtain ⟨v, hv', hr⟩ := run_loadA (P := P) hok hrow h
      refine ⟨v, ?_, hr⟩
      simp [execOp, Instr.loadAt, Instr.sureAddr, hv, hv']
  case store t x y =>
    simp only [Option.bind_eq_some_iff] at h
    obtain ⟨b, hb, d, hd, T, hTi, h⟩ := h
    cases b <;> simp only [reduceCtorEq] at h
    split at h
    · split at h
      · simp at h
      · cases h
    · cases h
  case nilCheck x =>
    split at h
    all_goals first
      | (rename_i hx
         have h1 := ofA_eq h
         clear h
         obtain ⟨h, rfl⟩ := h1
         simp only [Option.some.injEq] at h
         subst h
         have r := ev_rel hT hg hx
         refine ⟨a.eval x, ?_, r⟩
         generalize hv : a.eval x = v at r
         cases r
         simp [execOp, hv])
      | (cases h)
  case binOp op t x y u =>
    simp only [Option.bind_eq_some_iff] at h
    obtain ⟨b, hb, d, hd, h⟩ := h
    have h1 := ofA_eq h
    clear h
    obtain ⟨h, rfl⟩ := h1
    obtain ⟨v, hv, hr⟩ := run_aBin (P := P) hE h (ev_rel hT hg hb) (ev_rel hT hg hd)
    exact ⟨v, ret hv, hr⟩
  case unOp op t x =>
    simp only [Option.bind_eq_some_iff] at h
    obtain ⟨b, hb, h⟩ := h
    have h1 := ofA_eq h
    clear h
    obtain ⟨h, rfl⟩ := h1
    obtain ⟨v, hv, hr⟩ := run_aUn (P := P) h (ev_rel hT hg hb)
    exact ⟨v, ret hv, hr⟩
  case convert s d x =>
    simp only [Option.bind_eq_some_iff] at h
    obtain ⟨b, hb, D, hD, h⟩ := h
    have r := ev_rel hT hg hb
    split at h
    · simp only [Option.bind_eq_some_iff] at h
      obtain ⟨S, _, F, _, h⟩ := h
      split at h
      · split at h <;> cases h
      · cases h
    · rename_i hDu
      simp only [Option.bind_eq_some_iff] at h
      obtain ⟨S, hS, h⟩ := h
      split at h
      · rename_i e hSu
        simp only [Option.bind_eq_some_iff] at h
        obtain ⟨F, hF, h⟩ := h
        split at h
        · rename_i hFu
          have h1 := ofA_eq h
          clear h
          obtain ⟨h, rfl⟩ := h1
          simp only [Option.some.injEq] at h
          subst h
          refine ⟨_, ret (v := .string .empty) ?_, .s _ _ rfl⟩
          have := conv_head (P := P) hE hS hD hF hSu hDu hFu (w := w) (x := a.eval x) (by
            generalize hv : a.eval x = v at r
            cases r
            exact .inl rfl)
          rw [this]
          generalize hv : a.eval x = v at r
          cases r
          rfl
        · cases h
      · cases h
    · rename_i cs n _ _ _ hDu
      simp only [Option.bind_eq_some_iff] at h
      obtain ⟨S, hS, h⟩ := h
      split at h
      · rename_i e hSu
        simp only [Option.bind_eq_some_iff] at h
        obtain ⟨F, hF, h⟩ := h
        split at h
        · rename_i hFu
          split at h
          · rename_i hn
            have h1 := ofA_eq h
            clear h
            obtain ⟨h, rfl⟩ := h1
            simp only [Option.map_eq_some_iff] at h
            obtain ⟨l, hl, rfl⟩ := h
            obtain ⟨hcs, hbd⟩ := bytesA_spec hl
            generalize hv : a.eval x = v at r
            cases r with
            | v _ _ _ sz _ _ blk o cap f hlen hnc hkc hc hf hr hM ht hN =>
              have hrow : RowAt G ρ w blk o cs f := ⟨hc, hf, hr⟩
              obtain ⟨vs, hv1, hrs, _⟩ := run_cells (P := P) (off := 0) (n := n) (l := cs) hrow (by simp [takeN, hn])
              rw [hcs] at hrs
              obtain ⟨s', hs1, hs2⟩ := run_bytes (P := P) hrs hbd ByteArray.empty
              refine ⟨.string s', ret ?_, .s _ _ (by simpa using hs2)⟩
              rw [hv]
              have := conv_head (P := P) hE hS hD hF hSu hDu hFu (w := w) (x := .slice (some ⟨blk, o, none⟩) n cap) (.inr ⟨_, _, _, rfl⟩)
              rw [this]
              unfold Conv.bytesToString
              simp only [Nat.add_zero] at hv1
              simp only [Sem.run_bind, hv1, Result.andThen_ok]
              simp at hs1 ⊢
              exact hs1
          · cases h
        · cases h
      · cases h
    · have h1 := ofA_eq h
      clear h
      obtain ⟨h, rfl⟩ := h1
      obtain ⟨v, hv, hr⟩ := run_aConv (P := P) hE h r
      exact ⟨v, ret hv, hr⟩
  case makeInterface t x =>
    simp only [Option.bind_eq_some_iff] at h
    obtain ⟨b, hb, T, hTi, h⟩ := h
    split at h
    · cases h
    · rename_i hi
      have h1 := ofA_eq h
      clear h
      obtain ⟨h, rfl⟩ := h1
      simp only [Option.some.injEq] at h
      subst h
      obtain ⟨d, hd, hu⟩ := (hE.ti _ _ hTi).1
      refine ⟨.iface t (a.eval x), ?_, .x _ _ _ (ev_rel hT hg hb)⟩
      have : (Instr.makeInterface t (a.eval x)).run P w = .ok (.iface t (a.eval x)) w := by
        unfold Instr.makeInterface
        simp only [Sem.run_bind, run_und hd, Result.andThen_ok]
        cases d <;> first | rfl | (rw [hu] at hi; simp [uOf, U.isI] at hi)
      exact ret this
  case makeFunc fn first cap =>
    simp only [Option.bind_eq_some_iff] at h
    obtain ⟨l, hl, k, hk, h⟩ := h
    have h1 := ofA_eq h
    clear h
    obtain ⟨h, rfl⟩ := h1
    simp only [Option.some.injEq] at h
    subst h
    have r1 := evs_rels hT hg hl
    have r2 := evs_rels hT hg hk
    refine ⟨.func fn (first.map a.eval) (cap.map a.eval), rfl, .f _ _ _ _ _ (by simpa using r1.1) (by simpa using r2.1) (fun i c v hc hv => r1.2 i c v hc (by simpa using hv)) (fun i c v hc hv => r2.2 i c v hc (by simpa using hv))⟩
  case makeMap t r => cases r <;> simp at h
  case makeSlice t x y =>
    simp only [Option.bind_eq_some_iff] at h
    obtain ⟨T, hTi, h⟩ := h
    split at h
    · simp only [Option.bind_eq_some_iff] at h
      obtain ⟨F, _, h⟩ := h
      split at h
      · split at h <;> simp at h
      · cases h
    · cases h
  case slice t x lo hi mx =>
    simp only [Option.bind_eq_some_iff] at h
    obtain ⟨b, hb, T, hTi, lo', hlo, hi', hhi, mx', hmx, h⟩ := h
    have h1 := ofA_eq h
    clear h
    obtain ⟨h, rfl⟩ := h1
    obtain ⟨v, hv, hr⟩ := run_aSlice (P := P) hE hTi h (ev_rel hT hg hb) (orel_of hT hg hlo) (orel_of hT hg hhi) (orel_of hT hg hmx)
    exact ⟨v, ret hv, hr⟩
  case fieldAddr t x k =>
    simp only [Option.bind_eq_some_iff] at h
    obtain ⟨b, hb, ⟨off, F⟩, hf, h⟩ := h
    simp only at h
    split at h
    · cases h
    · rename_i hz
      have r := ev_rel hT hg hb
      cases b <;> simp only [reduceCtorEq] at h
      case p l o =>
        have h1 := ofA_eq h
        clear h
        obtain ⟨h, rfl⟩ := h1
        simp only [Option.some.injEq] at h
        subst h
        obtain ⟨blk, hv, hβ⟩ := addr_p r
        refine ⟨_, ret (by rw [hv]; exact run_field_addr hE hf hz), .p _ _ _ hβ⟩
      case q cs o =>
        have h1 := ofA_eq h
        clear h
        obtain ⟨h, rfl⟩ := h1
        simp only [Option.some.injEq] at h
        subst h
        obtain ⟨blk, base, f, hv, hrow, hM⟩ := addr_q r
        refine ⟨_, ret (by rw [hv]; exact run_field_addr hE hf hz), ?_⟩
        rw [Nat.add_assoc]
        exact .q _ _ _ _ f hrow.1 hrow.2.1 hrow.2.2 hM
  case field t x k =>
    simp only [Option.bind_eq_some_iff] at h
    obtain ⟨b, hb, ⟨off, F⟩, hf, h⟩ := h
    cases b <;> simp only [reduceCtorEq] at h
    have h1 := ofA_eq h
    clear h
    obtain ⟨h, rfl⟩ := h1
    obtain ⟨v, hv, hr⟩ := run_field (P := P) hE hf (ev_rel hT hg hb) h
    exact ⟨v, ret hv, hr⟩
  case indexAddr t x y =>
    simp only [Option.bind_eq_some_iff] at h
    obtain ⟨b, hb, d, hd, n, hn, h⟩ := h
    have h1 := ofA_eq h
    clear h
    obtain ⟨h, rfl⟩ := h1
    obtain ⟨v, hv, hr⟩ := run_indexAddr (P := P) hE hn h (ev_rel hT hg hb) (ev_rel hT hg hd)
    exact ⟨v, ret hv, hr⟩
  case index t x y =>
    simp only [Option.bind_eq_some_iff] at h
    obtain ⟨b, hb, d, hd, n, hn, h⟩ := h
    have h1 := ofA_eq h
    clear h
    obtain ⟨h, rfl⟩ := h1
    obtain ⟨v, hv, hr⟩ := run_index (P := P) hE hn h (ev_rel hT hg hb) (ev_rel hT hg hd)
    exact ⟨v, ret hv, hr⟩
  case lookup t x y ok =>
    simp only [Option.bind_eq_some_iff] at h
    obtain ⟨b, hb, k, hk, T, hTi, h⟩ := h
    split at h
    · rename_i kt et hu
      simp only [Option.bind_eq_some_iff] at h
      obtain ⟨K, hK, F, hF, zero, hz, ⟨rd', es⟩, hm, h⟩ := h
      simp only at h
      split at h
      · rename_i hp
        have r := ev_rel hT hg hb
        have rk := ev_rel hT hg hk
        have key : rd' = rd ∧ c = (match mapFind k es 0 with
          | some (_, r) => if ok then .t [r, .b true] else r
          | none => if ok then .t [zero, .b false] else zero) := by
          split at h <;> (rename_i hmf; rw [hmf]; simp only [Option.some.injEq, R.val.injEq] at h; exact ⟨h.1, h.2.symm⟩)
        obtain ⟨rfl, rfl⟩ := key
        have fin : ∃ ms : List MapEntry, es.length = ms.length ∧ (∀ (i : Nat) (k a : A) (m : MapEntry), es[i]? = some (k, a) → ms[i]? = some m → Rel G ρ w k m.key ∧ Rel G ρ w a m.val) ∧
            ((a.eval x = .map none ∧ ms = []) ∨ ∃ r clock, a.eval x = .map (some r) ∧ (getObj r).run P w = .ok (.map ms.toArray clock) w) := by
          cases b <;> simp only [mapA, reduceCtorEq] at hm
          case nm =>
            simp only [Option.some.injEq, Prod.mk.injEq] at hm
            obtain ⟨rfl, rfl⟩ := hm
            generalize hv : a.eval x = v at r
            cases r
            exact ⟨[], rfl, fun i k a m h => by simp at h, .inl ⟨rfl, rfl⟩⟩
          case m l =>
            split at hm
            · rename_i es' hσ
              simp only [Option.some.injEq, Prod.mk.injEq] at hm
              obtain ⟨rfl, rfl⟩ := hm
              generalize hv : a.eval x = v at r
              cases r with
              | m _ blk hβ =>
                obtain ⟨ms, clock, hb', hl, hr⟩ := hrd l blk _ rfl hβ hσ
                refine ⟨ms.toList, by simpa using hl, fun i k a m h1 h2 => hr i k a m h1 (by simpa using h2), .inr ⟨blk, clock, rfl, ?_⟩⟩
                simp [getObj, Sem.run, hb']
            · cases hm
        obtain ⟨ms, hl, hr, hvm⟩ := fin
        obtain ⟨v, hv, hrel⟩ := run_lookup (P := P) (ok := ok) hE hTi hu hK hF hz rk hl hr hp hvm
        exact ⟨v, ret hv, hrel⟩
      · cases h
    · cases h
  case mapUpdate t x y z =>
    simp only [Option.bind_eq_some_iff] at h
    obtain ⟨b, hb, k, hk, d, hd, T, hTi, h⟩ := h
    split at h
    · simp only [Option.bind_eq_some_iff] at h
      obtain ⟨K, _, h⟩ := h
      split at h
      · split at h
        · split at h <;> cases h
        · cases h
      · cases h
    · cases h
  case typeAssert x xt t ok =>
    simp only [Option.bind_eq_some_iff] at h
    obtain ⟨b, hb, T, hTi, zero, hz, h⟩ := h
    split at h
    · cases h
    · rename_i hi
      have h1 := ofA_eq h
      clear h
      obtain ⟨h, rfl⟩ := h1
      obtain ⟨v, hv, hr⟩ := run_typeAssert (P := P) (xt := xt) hE hTi hz (ev_rel hT hg hb) (by simpa using hi) h
      exact ⟨v, ret hv, hr⟩
  case extract x k =>
    simp only [Option.bind_eq_some_iff] at h
    obtain ⟨b, hb, h⟩ := h
    cases b <;> simp only [reduceCtorEq] at h
    rename_i vs
    have h1 := ofA_eq h
    clear h
    obtain ⟨h, rfl⟩ := h1
    have r := ev_rel hT hg hb
    obtain ⟨vs', hv, hrs⟩ := r.t_inv
    obtain ⟨v, hv', hr⟩ := hrs.get h
    refine ⟨v, ?_, hr⟩
    have hv2 : vs'[k]? = some v := by simpa using hv'
    simp [execOp, Instr.extract, hv, hv2]
  case call c' =>
    unfold aCall at h
    simp only [Option.bind_eq_some_iff] at h
    obtain ⟨as, has, h⟩ := h
    have ras := evs_rels hT hg has
    split at h
    · rename_i x hcal
      split at h
      · rename_i k first cap hx
        split at h
        · rename_i g hext
          have h1 := ofA_eq h
          clear h
          obtain ⟨h, rfl⟩ := h1
          have rx := ev_rel hT hg hx
          generalize hvx : a.eval x = vx at rx
          cases rx with
          | f _ _ _ fs cs l1 l2 r1 r2 =>
            have rall : Rels G ρ w (first ++ as ++ cap) (fs.toList ++ (c'.args.map a.eval).toList ++ cs.toList) := by
              refine (Rels.append ?_ (by simpa using ras)).append ?_
              · exact ⟨by simpa using l1, fun i a v ha hv => r1 i a v ha (by simpa using hv)⟩
              · exact ⟨by simpa using l2, fun i a v ha hv => r2 i a v ha (by simpa using hv)⟩
            obtain ⟨v, hv, hr⟩ := hE.ext k g hext G ρ w _ _ _ h rall.1 rall.2
            refine ⟨v, ?_, hr⟩
            have e : (fs.toList ++ (c'.args.map a.eval).toList ++ cs.toList).toArray = fs ++ c'.args.map a.eval ++ cs := by apply Array.ext'; simp
            rw [e] at hv
            simp only [execOp, resolve, hcal, hvx, Deferred.ofValue, Sem.run_bind, Sem.run_pure, Result.andThen_ok, invoke, hv]
        · split at h <;> cases h
      · cases h
    · cases h
    · rename_i b hcal
      have hres : ∀ (s : Sem Value) (v : Value), s.run P w = .ok v w → (∀ k, builtin b c'.argTypes type k (c'.args.map a.eval) = do pure (Next.value (← s))) →
          (execOp a.eval { dst := dst, op := .call c', type := type, pos := pos, after := after, guard := guard }).run P w = .ok (.value v) w := by
        intro s v hs hb
        simp only [execOp, resolve, hcal]
        simp only [Sem.run_bind, Sem.run_pure, Result.andThen_ok, invoke]
        rw [hb]
        simp only [Sem.run_bind, hs, Result.andThen_ok, Sem.run_pure]
      have hlist : (c'.args.map a.eval).toList = c'.args.toList.map a.eval := by simp
      rw [← hlist] at ras
      generalize hargs : c'.args.map a.eval = args at ras hres
      split at h
      · rename_i x
        simp only [Option.bind_eq_some_iff] at h
        obtain ⟨u, hu, h⟩ := h
        obtain ⟨vx, vs, hvs, rx, rnil⟩ := ras.uncons
        have := rnil.nil_inv
        subst this
        have hargs2 : args = #[vx] := Array.ext' (by simpa using hvs)
        subst hargs2
        split at h
        · rename_i l
          split at h
          · rename_i es hσ
            simp only [Option.bind_eq_some_iff] at h
            obtain ⟨T, hTi, h⟩ := h
            split at h
            · rename_i kt et hTu
              simp only [Option.some.injEq, R.val.injEq] at h
              obtain ⟨rfl, rfl⟩ := h
              obtain ⟨d, hd, hud⟩ := (hE.ti _ _ hTi).1
              rw [hTu] at hud
              cases d <;> simp only [uOf, reduceCtorEq] at hud
              cases rx with
              | m _ blk hβ =>
                obtain ⟨ms, clock, hb', hl, hr⟩ := hrd l blk _ rfl hβ hσ
                refine ⟨_, hres (Builtin.len_ c'.argTypes type #[.map (some blk)]) (goInt ms.size) ?_ (fun _ => rfl), by rw [hl]; exact .i _ _⟩
                unfold Builtin.len_
                have h0 : (#[Value.map (some blk)] : Array Value)[0]? = some (.map (some blk)) := rfl
                simp only [hu, h0, Sem.run_bind, run_und hd, Result.andThen_ok]
                simp [getObj, Sem.run, hb']
            · cases h
          · cases h
        · have h1 := ofA_eq h
          clear h
          obtain ⟨h, rfl⟩ := h1
          obtain ⟨v, hv, hr⟩ := run_aLen (P := P) (ty := type) hE hu h rx
          exact ⟨v, hres _ v hv (fun _ => rfl), hr⟩
      · rename_i x l
        have h1 := ofA_eq h
        clear h
        obtain ⟨h, rfl⟩ := h1
        obtain ⟨vx, vs, hvs, rx, rl⟩ := ras.uncons
        obtain ⟨v, hv, hr⟩ := run_maxs (P := P) (w := w) (fun x y => y > x) Builtin.max2 (fun k k' x y => by simp [Builtin.max2]) h rx rl
        refine ⟨v, hres (Builtin.max_ c'.argTypes type args) v ?_ (fun _ => rfl), hr⟩
        unfold Builtin.max_
        rw [hvs]
        exact hv
      · rename_i x l
        have h1 := ofA_eq h
        clear h
        obtain ⟨h, rfl⟩ := h1
        obtain ⟨vx, vs, hvs, rx, rl⟩ := ras.uncons
        obtain ⟨v, hv, hr⟩ := run_maxs (P := P) (w := w) (fun x y => y < x) Builtin.min2 (fun k k' x y => by simp [Builtin.min2]) h rx rl
        refine ⟨v, hres (Builtin.min_ c'.argTypes type args) v ?_ (fun _ => rfl), hr⟩
        unfold Builtin.min_
        rw [hvs]
        exact hv
      · simp only [Option.bind_eq_some_iff] at h
        obtain ⟨_, _, _, _, _, _, h⟩ := h
        split at h
        · cases h
        · simp only [Option.map_eq_some_iff, reduceCtorEq, and_false, exists_false] at h
      · cases h

end
end Go.VV
