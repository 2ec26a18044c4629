/- Operations that make a new object. -/
import Derived.Test.YtlppiajnonbaaaaGreatDoorVj
import Derived.IntWalk
set_option linter.unusedVariables false
set_option linter.unusedSimpArgs false
namespace Go.VV

/-- What a piece of work leaves as it was: 'H' the store ahead of it, places from n on below n' are its own. -/
structure Fr (ρ : Gh) (H : Nat → Option Ob) (w : World) (n n' : Nat) (ρ' : Gh) (w' : World) : Prop where
  still : Still w w'
  heap : ∀ b, b < w.heap.size → (∀ k ob, H k = some ob → ρ.β k ≠ some b) → (∀ k m base, H k = some (.k m) → ρ.tk k ≠ some (b, base)) → w'.heap[b]? = w.heap[b]?
  M : ∀ b, b < w.heap.size → (∀ k m base, H k = some (.k m) → ρ.tk k ≠ some (b, base)) → ρ'.M b = ρ.M b
  β : ∀ k b, ρ'.β k = some b → ρ.β k = some b ∨ (n ≤ k ∧ k < n' ∧ w.heap.size ≤ b)
  tk : ∀ k b base, ρ'.tk k = some (b, base) → ρ.tk k = some (b, base) ∨ (n ≤ k ∧ k < n' ∧ (w.heap.size ≤ b ∨ ∃ t m base', H t = some (.k m) ∧ ρ.tk t = some (b, base')))

section
variable {P : Program} {G : Nat} {ρ : Gh} {w w' : World} {E : Env} {H : Nat → Option Ob}

theorem Fr.refl (n n' : Nat) : Fr ρ H w n n' ρ w := ⟨Still.refl w, fun _ _ _ _ => rfl, fun _ _ _ => rfl, fun _ _ h => .inl h, fun _ _ _ h => .inl h⟩

theorem still_push {O : Obj} (hh : w'.heap = w.heap.push O) (h1 : w'.os = w.os) (h2 : w'.tape = w.tape) (h3 : w'.output = w.output) : Still w w' := ⟨h1, h2, h3, by rw [hh, Array.size_push]; omega⟩

theorem fr_push_β {O : Obj} (hh : w'.heap = w.heap.push O) (h1 : w'.os = w.os) (h2 : w'.tape = w.tape) (h3 : w'.output = w.output) (l : Nat) : Fr ρ H w l (l + 1) (ρ.addβ l w.heap.size) w' where
  still := still_push hh h1 h2 h3
  heap := fun b hb _ _ => heap_push hh hb
  M := fun _ _ _ => rfl
  β := fun k b h => by
    simp only [Gh.addβ] at h
    split at h
    · rename_i hk; simp at h; right; omega
    · exact .inl h
  tk := fun _ _ _ h => .inl h

theorem fr_push_tk {O : Obj} (hh : w'.heap = w.heap.push O) (h1 : w'.os = w.os) (h2 : w'.tape = w.tape) (h3 : w'.output = w.output) (l m : Nat) : Fr ρ H w l (l + 1) (ρ.addtk l w.heap.size 0 m) w' where
  still := still_push hh h1 h2 h3
  heap := fun b hb _ _ => heap_push hh hb
  M := fun b hb _ => by simp only [Gh.addtk]; rw [if_neg (by omega)]
  β := fun _ _ h => .inl h
  tk := fun k b base h => by
    simp only [Gh.addtk] at h
    split at h
    · rename_i hk; simp at h; right; exact ⟨by omega, by omega, .inl (by omega)⟩
    · exact .inl h

theorem fin_β (hs : Sim G E ρ H w) {l : Nat} (hl : ρ.β l = none) (hl2 : ρ.tk l = none) {O : Obj} (hh : w'.heap = w.heap.push O) (h1 : w'.os = w.os) (h2 : w'.tape = w.tape) (h3 : w'.output = w.output) {ob : Ob} {c : A} {v : Value}
    (hob : ∀ ρ', Ext ρ w ρ' w' → ObR G ρ' w' w.heap.size ob) (hc : ∀ ρ', Ext ρ w ρ' w' → ρ'.β l = some w.heap.size → Rel G ρ' w' c v) :
    ∃ ρ', Rel G ρ' w' c v ∧ Ext ρ w ρ' w' ∧ Sim G E ρ' (upd H l (some ob)) w' ∧ Fr ρ H w l (l + 1) ρ' w' := by
  have e := ext_push_β hs hh hl
  exact ⟨_, hc _ e (by simp [Gh.addβ]), e, sim_push_β hs hh hl hl2 (hob _ e), fr_push_β hh h1 h2 h3 l⟩

theorem row_new {O : Obj} {c : Array Value} {ty : TypeId} {fr : Nat × Nat} (hO : O = .cells c ty fr) (hh : w'.heap = w.heap.push O) (hfr : live c.size fr) {cs : List A} (hr : Rels G ρ w cs c.toList) (hf : ∀ (i : Nat) (a : A), cs[i]? = some a → flat a = true) :
    ∀ ρ', Ext ρ w ρ' w' → ObR G ρ' w' w.heap.size (.c cs) := by
  intro ρ' e
  subst hO
  refine ⟨c, ty, fr, heap_push_new hh, by have := hr.1; simp at this; omega, hfr, hf, fun i a v ha hv => (hr.2 i a v ha (by simpa using hv)).mono e⟩

theorem live0 (n : Nat) : live n (0, 0) := fun i _ h => by simp at h

/-- A new slice that stays: 'c' the block's cells, the first of them the slice's. -/
theorem fin_tk (hs : Sim G E ρ H w) {l : Nat} (hl : ρ.β l = none) (hl2 : ρ.tk l = none) {c : Array Value} {ty : TypeId} {fr : Nat × Nat} (hh : w'.heap = w.heap.push (.cells c ty fr)) (hfr : live c.size fr) (h1 : w'.os = w.os) (h2 : w'.tape = w.tape)
    (h3 : w'.output = w.output) {cs : List A} (hr : Rels G ρ w cs (c.toList.take cs.length)) (hf : ∀ (i : Nat) (a : A), cs[i]? = some a → flat a = true) {kc : Bool} {n sz cap : Nat} (hlen : cs.length = n * sz) (hn : n ≤ cap)
    (hkc : kc = true → cap = n) (hcap : cap * sz ≤ c.size) :
    ∃ ρ', Rel G ρ' w' (.v kc cs n sz l 0) (.slice (some ⟨w.heap.size, 0, none⟩) n cap) ∧ Ext ρ w ρ' w' ∧ Sim G E ρ' (upd H l (some (.k cs.length))) w' ∧ Fr ρ H w l (l + 1) ρ' w' := by
  have e := ext_push_tk (m := cs.length) hs hh hl2
  have hrow : w'.heap[w.heap.size]? = some (.cells c ty fr) := heap_push_new hh
  have hle : cs.length ≤ c.size := by have := hr.1; simp at this; omega
  refine ⟨_, .v kc cs n sz l 0 w.heap.size 0 cap (fun i => c.getD i undef) hlen hn hkc (fun i a ha => ?_) hf (fun i a ha => ?_) (by simp [Gh.addtk]) ⟨0, by simp [Gh.addtk], .inr rfl⟩ ⟨c.size, by simp [rowSize, hrow], by simpa using hcap⟩, e,
    sim_push_tk hs hh hfr hl hl2, fr_push_tk hh h1 h2 h3 l _⟩
  · have hi : i < c.size := Nat.lt_of_lt_of_le (lt_of_get ha) hle
    simp [cell, hrow, hi]
  · have hi : i < c.size := Nat.lt_of_lt_of_le (lt_of_get ha) hle
    refine (hr.2 i a _ ha ?_).mono e
    rw [List.getElem?_take, if_pos (lt_of_get ha)]
    simp [hi]

theorem repeat_rels {z : List A} {vs : List Value} (hr : Rels G ρ w z vs) (hz : z ≠ []) : ∀ n, Rels G ρ w (repeatA z n) ((List.range (n * z.length)).map fun i => vs[i % vs.length]!) := by
  intro n
  have hpos : 0 < z.length := List.length_pos_iff.2 hz
  have hget : ∀ n i a, (repeatA z n)[i]? = some a → z[i % z.length]? = some a := by
    intro n
    induction n with
    | zero => intro i a h; simp [repeatA] at h
    | succ n ih =>
      intro i a h
      simp only [repeatA] at h
      rw [List.getElem?_append] at h
      split at h
      · rename_i hi; rw [Nat.mod_eq_of_lt hi]; exact h
      · rename_i hi
        have := ih _ _ h
        rwa [← Nat.mod_eq_sub_mod (by omega)] at this
  have hlen : ∀ n, (repeatA z n).length = n * z.length := by
    intro n
    induction n with
    | zero => simp [repeatA]
    | succ n ih => simp only [repeatA, List.length_append, ih, Nat.add_mul]; omega
  refine ⟨by simp [hlen], fun i a v ha hv => ?_⟩
  have hi : i < n * z.length := by have := lt_of_get ha; rwa [hlen] at this
  simp only [List.getElem?_map, List.getElem?_range hi, Option.map_some, Option.some.injEq] at hv
  subst hv
  have h1 := hget _ _ _ ha
  obtain ⟨v, hv, hrel⟩ := hr.get h1
  rw [hr.1] at hv
  have hv2 : i % vs.length < vs.length := lt_of_get hv
  rw [getElem!_pos vs _ hv2]
  rw [List.getElem?_eq_getElem hv2] at hv
  simp only [Option.some.injEq] at hv
  rw [hv]
  exact hrel

theorem repeat_flat {z : List A} (hf : ∀ (i : Nat) (a : A), z[i]? = some a → flat a = true) : ∀ n (i : Nat) (a : A), (repeatA z n)[i]? = some a → flat a = true := by
  intro n
  induction n with
  | zero => intro i a h; simp [repeatA] at h
  | succ n ih =>
    intro i a h
    simp only [repeatA] at h
    rw [List.getElem?_append] at h
    split at h
    · exact hf _ _ h
    · exact ih _ _ h

theorem repeat_zero_len {z : List A} (hz : z = []) : ∀ n, repeatA z n = [] := by
  intro n
  induction n with
  | zero => rfl
  | succ n ih => simp [repeatA, hz] at ih ⊢; exact ih

theorem op_new (hE : EnvOk P E) (hs : Sim G E ρ H w) {tm : Tm} {a : Act} (hT : TmR G ρ w tm a) {pol : Pol} {σ : St} {o : Oper} {c : A} {ob : Ob} (h : aOp E pol tm σ o = some (.new c ob))
    (hl : ρ.β σ.nx = none) (hl2 : ρ.tk σ.nx = none) :
    ∃ v w' ρ', (execOp a.eval o).run P w = .ok (.value v) w' ∧ Rel G ρ' w' c v ∧ Ext ρ w ρ' w' ∧ Sim G E ρ' (upd H σ.nx (some ob)) w' ∧ Fr ρ H w σ.nx (σ.nx + 1) ρ' w' := by
  have hg := hs.gl
  obtain ⟨dst, op, type, pos, after, guard⟩ := o
  have ret : ∀ {s : Sem Value} {v : Value} {w' : World}, s.run P w = .ok v w' → (do pure (Next.value (← s)) : Sem Next).run P w = .ok (.value v) w' := by
    intro s v w' hs
    simp only [Sem.run_bind, hs, Result.andThen_ok, Sem.run_pure]
  have no : ∀ {x : Option A} {q : Prop}, R.ofA x = some (R.new c ob) → q := by
    intro x q h
    simp [R.ofA] at h
  cases op <;> simp only [aOp] at h <;> (try (cases h; done)) <;> (try (exact no h))
  case alloc t =>
    simp only [Option.map_eq_some_iff, R.new.injEq] at h
    obtain ⟨T, hTi, rfl, rfl⟩ := h
    obtain ⟨z, hz, zr, zf, zs, _⟩ := run_zero (P := P) (G := G) (ρ := ρ) (w := w) (hE.ti _ _ hTi)
    let w' : World := { w with heap := w.heap.push (.cells z.cells t) }
    obtain ⟨ρ', r1, r2, r3, r4⟩ := fin_β (w' := w') hs hl hl2 rfl rfl rfl rfl (row_new (w' := w') rfl rfl (live0 _) zr zf) (c := .p σ.nx 0) (v := .pointer (some ⟨w.heap.size, 0, none⟩)) (fun ρ' e hb => .p _ _ _ hb)
    refine ⟨_, w', ρ', ret ?_, r1, r2, r3, r4⟩
    simp only [Instr.alloc, Sem.run_bind, hz, Result.andThen_ok, newVar, newRow, run_newObj, Sem.run_pure]
    rfl
  case box t x =>
    simp only [Option.bind_eq_some_iff] at h
    obtain ⟨b, hb, h⟩ := h
    split at h
    · rename_i hnt
      simp only [Option.some.injEq, R.new.injEq] at h
      obtain ⟨rfl, rfl⟩ := h
      have r := ev_rel hT hg hb
      let w' : World := { w with heap := w.heap.push (.cells (a.eval x).cells t) }
      obtain ⟨ρ', r1, r2, r3, r4⟩ := fin_β (w' := w') hs hl hl2 rfl rfl rfl rfl (row_new (w' := w') rfl rfl (live0 _) r.cells (r.cells_flat hnt)) (c := .p σ.nx 0) (v := .pointer (some ⟨w.heap.size, 0, none⟩)) (fun ρ' e hb => .p _ _ _ hb)
      refine ⟨_, w', ρ', ret ?_, r1, r2, r3, r4⟩
      simp only [Instr.box, Sem.run_bind, newVar, newRow, run_newObj, Result.andThen_ok, Sem.run_pure]
      rfl
    · cases h
  case pick x y z => split at h <;> first | exact no h | cases h
  case build t ps =>
    simp only [Option.bind_eq_some_iff] at h
    obtain ⟨T, _, l, _, h⟩ := h
    split at h
    · simp only [Option.bind_eq_some_iff] at h
      obtain ⟨_, _, h⟩ := h
      exact no h
    · simp only [Option.bind_eq_some_iff] at h
      obtain ⟨_, _, h⟩ := h
      exact no h
    · cases h
  case buildSlice t n ps =>
    simp only [Option.bind_eq_some_iff] at h
    obtain ⟨T, hTi, l, hlp, h⟩ := h
    split at h
    · rename_i e hu
      simp only [Option.bind_eq_some_iff] at h
      obtain ⟨F, hF, h⟩ := h
      split at h
      · cases h
      · rename_i hsz
        simp only [Option.map_eq_some_iff] at h
        obtain ⟨cs, hcs, h⟩ := h
        have hp := parts_rels hT hg hlp
        obtain ⟨d, hd, hud⟩ := (hE.ti _ _ hTi).1
        rw [hu] at hud
        cases d <;> simp only [uOf, reduceCtorEq, U.slice.injEq] at hud
        subst hud
        obtain ⟨z, hz, zr, zf, zs, _⟩ := run_zero (P := P) (G := G) (ρ := ρ) (w := w) (hE.ti _ _ hF)
        have hzl : F.zero.length = F.sz := by rw [zr.1]; simpa using zs
        have hne : F.zero ≠ [] := by intro e; rw [e] at hzl; simp at hzl; omega
        have hrep := repeat_rels zr hne n
        have hlen : ∀ m, (repeatA F.zero m).length = m * F.sz := by
          intro m
          rw [(repeat_rels zr hne m).1, hzl]; simp
        have hfill := run_fillA (ps := (ps.map fun (i, x) => (i, a.eval x)).toList) (vs := (Array.range (n * F.sz)).map (z.cells[· % z.cells.size]!)) hcs (by simpa using hp.1) (fun i k c hc => by
          obtain ⟨x, hx, hr⟩ := hp.2 i k c hc
          exact ⟨a.eval x, by simp only [Array.toList_map, List.getElem?_map, hx, Option.map_some], hr⟩) (by
            rw [hzl] at hrep
            have e1 : (fun i => z.cells.toList[i % z.cells.toList.length]!) = fun x => z.cells[x % z.cells.size]! := by funext i; simp [getElem!_def]
            rw [e1] at hrep
            simp only [Array.toList_map, Array.toList_range]
            exact hrep) (repeat_flat zf n)
        obtain ⟨vs', g1, g2, g3, g4⟩ := hfill
        have hcl : cs.length = n * F.sz := by rw [g2.1]; simp [g3]
        let w' : World := { w with heap := w.heap.push (.cells vs' e) }
        have hrun : (Instr.buildSlice t n (ps.map fun (i, x) => (i, a.eval x))).run P w = .ok (.slice (some ⟨w.heap.size, 0, none⟩) n n) w' := by
          unfold Instr.buildSlice
          simp only [Sem.run_bind, run_und hd, Result.andThen_ok, run_size (hE.ti _ _ hF)]
          rw [if_neg (by omega)]
          by_cases h0 : n * F.sz = 0
          · rw [if_pos h0]
            rw [h0] at g1
            simp only [Sem.run_bind, Sem.run_pure, Result.andThen_ok, h0]
            have : (Array.range 0).map (fun x => (#[] : Array Value)[x % (#[] : Array Value).size]!) = (Array.range 0).map (fun x => z.cells[x % z.cells.size]!) := by simp
            rw [this, g1]
            simp only [Sem.run_bind, newRow, run_newObj, Result.andThen_ok, Sem.run_pure]
            rfl
          · rw [if_neg h0]
            simp only [Sem.run_bind, hz, Sem.run_pure, Result.andThen_ok]
            rw [g1]
            simp only [Sem.run_bind, newRow, run_newObj, Result.andThen_ok, Sem.run_pure]
            rfl
        split at h
        · simp only [R.new.injEq] at h
          obtain ⟨rfl, rfl⟩ := h
          obtain ⟨ρ', r1, r2, r3, r4⟩ := fin_β (w' := w') hs hl hl2 rfl rfl rfl rfl (row_new (w' := w') rfl rfl (live0 _) g2 g4) (c := .w σ.nx 0 n F.sz n) (v := .slice (some ⟨w.heap.size, 0, none⟩) n n)
            (fun ρ' e hb => .w _ _ _ _ _ _ hb (Nat.le_refl _) ⟨n * F.sz, by
              have : w'.heap[w.heap.size]? = some (.cells vs' _) := heap_push_new (w := w) rfl
              simp only [rowSize, this]
              rw [← hcl, g2.1]; simp, by simp⟩)
          exact ⟨_, w', ρ', ret hrun, r1, r2, r3, r4⟩
        · simp only [R.new.injEq] at h
          obtain ⟨rfl, rfl⟩ := h
          have hlv : cs.length = vs'.size := by rw [g2.1]; simp
          obtain ⟨ρ', r1, r2, r3, r4⟩ := fin_tk (w' := w') (kc := true) (cap := n) hs hl hl2 rfl (live0 _) rfl rfl rfl (cs := cs) (by rw [List.take_of_length_le (by simp; omega)]; exact g2) g4 hcl (Nat.le_refl _) (fun _ => rfl) (by omega)
          exact ⟨_, w', ρ', ret hrun, r1, r2, r3, r4⟩
    · cases h
  case load t x =>
    simp only [Option.bind_eq_some_iff] at h
    obtain ⟨b, _, T, _, h⟩ := h
    cases b <;> simp only [reduceCtorEq] at h
    · split at h
      · simp at h
      · cases h
    · exact no h
  case store t x y =>
    simp only [Option.bind_eq_some_iff] at h
    obtain ⟨b, _, d, _, T, _, h⟩ := h
    cases b <;> simp only [reduceCtorEq] at h
    split at h
    · split at h
      · simp at h
      · cases h
    · cases h
  case nilCheck x => split at h <;> first | exact no h | cases h
  case binOp op t x y u =>
    simp only [Option.bind_eq_some_iff] at h
    obtain ⟨_, _, _, _, h⟩ := h
    exact no h
  case unOp op t x =>
    simp only [Option.bind_eq_some_iff] at h
    obtain ⟨_, _, h⟩ := h
    exact no h
  case convert s d x =>
    simp only [Option.bind_eq_some_iff] at h
    obtain ⟨b, hb, D, hD, h⟩ := h
    split at h
    · rename_i e l hDu
      simp only [Option.bind_eq_some_iff] at h
      obtain ⟨S, hS, F, hF, h⟩ := h
      split at h
      · rename_i hFu
        split at h
        · rename_i hsz
          simp only [Option.some.injEq, R.new.injEq] at h
          obtain ⟨rfl, rfl⟩ := h
          have r := ev_rel hT hg hb
          generalize hv : a.eval x = v at r
          cases r with
          | s _ sb hsb =>
            have hok := hE.ti _ _ hD
            obtain ⟨dd, hdd, hud⟩ := hok.1
            obtain ⟨df, hdf, huf⟩ := (hE.ti _ _ hF).1
            rw [hDu] at hud
            rw [hFu] at huf
            cases dd <;> simp only [uOf, reduceCtorEq, U.slice.injEq] at hud
            cases df <;> simp only [uOf, reduceCtorEq, U.int.injEq] at huf
            subst hud; subst huf
            have hlen : l.length = sb.size := by rw [← hsb]; simp
            generalize hcap : (Question.appendCap sb.size 0 e).cut (w.tape w.drawn (.appendCap sb.size 0 e)) = cap
            have hcl : sb.size ≤ cap := by rw [← hcap]; simp only [Question.cut]; omega
            let cc : Array Value := (sb.data.map fun b => Value.int .u8 b.toNat) ++ Array.replicate (cap - sb.size) (.int .u8 0)
            have hcc : cc.size = cap := by simp [cc]; omega
            let w' : World := { w with heap := w.heap.push (.cells cc e (cc.size, cc.size + 1)), drawn := w.drawn + 1 }
            have hfr : live cc.size (cc.size, cc.size + 1) := fun i hi h => by simp at h; omega
            have hrel : Rels G ρ w (l.map fun b => A.i .u8 (b : Nat)) (cc.toList.take (l.map fun b => A.i .u8 (b : Nat)).length) := by
              have e1 : cc.toList.take (l.map fun b => A.i .u8 (b : Nat)).length = l.map fun b => Value.int .u8 (b : Nat) := by
                simp only [cc, Array.toList_append, Array.toList_map, List.length_map]
                rw [List.take_append_of_le_length (by simp [hlen])]
                rw [List.take_of_length_le (by simp [hlen]), ← hsb, List.map_map]
                rfl
              rw [e1]
              refine ⟨by simp, fun i x v hx hv => ?_⟩
              simp only [List.getElem?_map, Option.map_eq_some_iff] at hx hv
              obtain ⟨b, hb, rfl⟩ := hx
              obtain ⟨b', hb', rfl⟩ := hv
              rw [hb] at hb'
              simp only [Option.some.injEq] at hb'
              subst hb'
              exact .i _ _
            obtain ⟨ρ', r1, r2, r3, r4⟩ := fin_tk (w' := w') (kc := false) (n := l.length) (sz := 1) (cap := cap) hs hl hl2 rfl hfr rfl rfl rfl hrel (fun i x hx => by
              simp only [List.getElem?_map, Option.map_eq_some_iff] at hx
              obtain ⟨b, _, rfl⟩ := hx
              rfl) (by simp) (by omega) (fun h => by cases h) (by omega)
            simp only [List.length_map] at r3
            refine ⟨_, w', ρ', ?_, r1, r2, r3, r4⟩
            simp only [execOp, hv]
            refine ret ?_
            unfold convert
            obtain ⟨ds, hds, _⟩ := (hE.ti _ _ hS).1
            simp only [Sem.run_bind, run_und hds, run_und hdd, Result.andThen_ok]
            have hst : (Conv.stringToBytes e sb).run P w = .ok (.slice (some ⟨w.heap.size, 0, none⟩) l.length cap) w' := by
              unfold Conv.stringToBytes
              simp only [Sem.run_bind, run_choose, Question.forced, Bool.false_eq_true, if_false, Result.andThen_ok, hcap, newRow, run_newObj, Sem.run_pure, markStringish, run_shape]
              have hsh : World.shape? { w with heap := w.heap.push (.cells cc e), drawn := w.drawn + 1 } w.heap.size = some (e, cc.size) := by
                simp [World.shape?]
              have hfz : World.freeze { w with heap := w.heap.push (.cells cc e), drawn := w.drawn + 1 } { block := w.heap.size, off := cc.size } 1 = w' := by
                simp only [World.freeze, w']
                rw [if_neg (by omega)]
                simp only [World.mk.injEq, and_true, true_and]
                apply Array.ext
                · simp
                · intro i h1 h2
                  simp only [Array.getElem_modify, Array.getElem_push]
                  split
                  · rename_i hi
                    subst hi
                    simp
                  · rename_i hi
                    have : i < w.heap.size := by simp at h2; omega
                    simp [this]
              rw [hsh]
              simp only [run_freeze, Result.andThen_ok, hlen]
              exact congrArg _ hfz
            cases ds <;> simp only [Sem.run_bind, run_und hdf, Result.andThen_ok, hst]
        · cases h
      · cases h
    · simp only [Option.bind_eq_some_iff] at h
      obtain ⟨S, _, h⟩ := h
      split at h
      · simp only [Option.bind_eq_some_iff] at h
        obtain ⟨F, _, h⟩ := h
        split at h
        · exact no h
        · cases h
      · cases h
    · simp only [Option.bind_eq_some_iff] at h
      obtain ⟨S, _, h⟩ := h
      split at h
      · simp only [Option.bind_eq_some_iff] at h
        obtain ⟨F, _, h⟩ := h
        split at h
        · split at h
          · exact no h
          · cases h
        · cases h
      · cases h
    · exact no h
  case makeInterface t x =>
    simp only [Option.bind_eq_some_iff] at h
    obtain ⟨_, _, _, _, h⟩ := h
    split at h
    · cases h
    · exact no h
  case makeFunc fn first cap =>
    simp only [Option.bind_eq_some_iff] at h
    obtain ⟨_, _, _, _, h⟩ := h
    exact no h
  case makeMap t r =>
    cases r with
    | some r => simp at h
    | none =>
      simp only [Option.some.injEq, R.new.injEq] at h
      obtain ⟨rfl, rfl⟩ := h
      let w' : World := { w with heap := w.heap.push (.map #[] 0) }
      obtain ⟨ρ', r1, r2, r3, r4⟩ := fin_β (w' := w') hs hl hl2 rfl rfl rfl rfl (ob := .m []) (fun ρ' e => ⟨#[], 0, heap_push_new (w := w) rfl, rfl, fun i k a m h => by simp at h⟩) (c := .m σ.nx) (v := .map (some w.heap.size)) (fun ρ' e hb => .m _ _ hb)
      refine ⟨_, w', ρ', ret ?_, r1, r2, r3, r4⟩
      simp only [Instr.makeMap, Option.map_none]
      rfl
  case makeSlice t x y =>
    simp only [Option.bind_eq_some_iff] at h
    obtain ⟨T, hTi, h⟩ := h
    split at h
    · rename_i e hu
      simp only [Option.bind_eq_some_iff] at h
      obtain ⟨F, hF, h⟩ := h
      split at h
      · rename_i n k hx hy
        split at h
        · rename_i hb
          obtain ⟨b1, b2, b3, b4, b5, b6⟩ := hb
          simp only [Option.some.injEq, R.new.injEq] at h
          obtain ⟨rfl, rfl⟩ := h
          obtain ⟨d, hd, hud⟩ := (hE.ti _ _ hTi).1
          rw [hu] at hud
          cases d <;> simp only [uOf, reduceCtorEq, U.slice.injEq] at hud
          subst hud
          obtain ⟨z, hz, zr, zf, zs, _⟩ := run_zero (P := P) (G := G) (ρ := ρ) (w := w) (hE.ti _ _ hF)
          have hne : F.zero ≠ [] := by intro e; rw [e] at b6; simp at b6; omega
          have hrep := repeat_rels zr hne k.toNat
          obtain ⟨i, hi, hi1, hi2⟩ := run_info (P := P) (hE.ti _ _ hF)
          let w' : World := { w with heap := w.heap.push (.cells ((Array.range (k.toNat * F.sz)).map (z.cells[· % z.cells.size]!)) e) }
          have e1 : (fun i => z.cells.toList[i % z.cells.toList.length]!) = fun x => z.cells[x % z.cells.size]! := by funext i; simp [getElem!_def]
          rw [e1, b6] at hrep
          have hv1 := ev_rel hT hg hx
          have hv2 := ev_rel hT hg hy
          generalize hvx : a.eval x = vx at hv1
          generalize hvy : a.eval y = vy at hv2
          cases hv1
          cases hv2
          have wr : ∀ m : Int, 0 ≤ m → m < 2 ^ 40 → IntKind.i64.wrap m = m := by
            intro m h1 h2
            exact IntWalk.i64_in _ (by have : (2 : Int) ^ 40 = 1099511627776 := rfl
                                       omega)
          have hrun : (Instr.makeSlice t (.int .i64 n) (.int .i64 k)).run P w = .ok (.slice (some ⟨w.heap.size, 0, none⟩) n.toNat k.toNat) w' := by
            unfold Instr.makeSlice
            simp only [Sem.run_bind, run_und hd, Result.andThen_ok, asInt, asIntOf, Sem.run_pure, hi, hi1, wr n b2 (by omega), wr k (by omega) b5]
            have t1 : (decide (k < 0) || decide ((F.by_ : Int) * k > 2 ^ 48)) = false := by
              rw [Int.mul_comm]
              have : (2 : Int) ^ 40 < 2 ^ 48 := by decide
              simp; omega
            have t2 : (decide (n < 0)) = false := by simp; omega
            have t3 : decide (n > k) = false := by simp; omega
            simp only [t1, t2, t3, Bool.or_self, Bool.false_eq_true, if_false, Sem.run_bind, run_askRoom, Result.andThen_ok, run_size (hE.ti _ _ hF)]
            by_cases h0 : k.toNat * F.sz = 0
            · simp only [h0, if_true, Sem.run_pure, Sem.run_bind, Result.andThen_ok, newRow, run_newObj]
              have : (Array.range 0).map (fun x => (#[] : Array Value)[x % (#[] : Array Value).size]!) = (Array.range (k.toNat * F.sz)).map (fun x => z.cells[x % z.cells.size]!) := by rw [h0]; simp
              rw [this]
            · simp only [if_neg h0, Sem.run_bind, hz, Sem.run_pure, Result.andThen_ok, newRow, run_newObj]
              rfl
          have hlen : (repeatA F.zero k.toNat).length = k.toNat * F.sz := by rw [hrep.1]; simp
          obtain ⟨ρ', r1, r2, r3, r4⟩ := fin_β (w' := w') hs hl hl2 rfl rfl rfl rfl (row_new (w' := w') rfl rfl (live0 _) (by simp only [Array.toList_map, Array.toList_range]; exact hrep) (repeat_flat zf _)) (c := .w σ.nx 0 n.toNat F.sz k.toNat)
            (v := .slice (some ⟨w.heap.size, 0, none⟩) n.toNat k.toNat) (fun ρ' e' hb => .w _ _ _ _ _ _ hb (by omega) ⟨k.toNat * F.sz, by
              have : w'.heap[w.heap.size]? = some (.cells ((Array.range (k.toNat * F.sz)).map (z.cells[· % z.cells.size]!)) e) := heap_push_new (w := w) rfl
              simp only [rowSize, this]
              simp, by simp⟩)
          refine ⟨_, w', ρ', ?_, r1, r2, r3, r4⟩
          simp only [execOp, hvx, hvy]
          exact ret hrun
        · cases h
      · cases h
    · cases h
  case slice t x lo hi mx =>
    simp only [Option.bind_eq_some_iff] at h
    obtain ⟨_, _, _, _, _, _, _, _, _, _, h⟩ := h
    exact no h
  case fieldAddr t x k =>
    simp only [Option.bind_eq_some_iff] at h
    obtain ⟨b, _, ⟨off, F⟩, _, h⟩ := h
    simp only at h
    split at h
    · cases h
    · cases b <;> simp only [reduceCtorEq] at h <;> exact no h
  case field t x k =>
    simp only [Option.bind_eq_some_iff] at h
    obtain ⟨b, _, ⟨off, F⟩, _, h⟩ := h
    cases b <;> simp only [reduceCtorEq] at h
    exact no h
  case indexAddr t x y =>
    simp only [Option.bind_eq_some_iff] at h
    obtain ⟨_, _, _, _, _, _, h⟩ := h
    exact no h
  case index t x y =>
    simp only [Option.bind_eq_some_iff] at h
    obtain ⟨_, _, _, _, _, _, h⟩ := h
    exact no h
  case lookup t x y ok =>
    simp only [Option.bind_eq_some_iff] at h
    obtain ⟨b, _, k, _, T, _, h⟩ := h
    split at h
    · simp only [Option.bind_eq_some_iff] at h
      obtain ⟨_, _, _, _, _, _, ⟨rd', es⟩, _, h⟩ := h
      simp only at h
      split at h
      · split at h <;> cases h
      · cases h
    · cases h
  case mapUpdate t x y z =>
    simp only [Option.bind_eq_some_iff] at h
    obtain ⟨b, hb, k, hk, d, hd, T, hTi, h⟩ := h
    split at h
    · simp only [Option.bind_eq_some_iff] at h
      obtain ⟨K, _, h⟩ := h
      split at h
      · split at h
        · split at h <;> cases h
        · cases h
      · cases h
    · cases h
  case typeAssert x xt t ok =>
    simp only [Option.bind_eq_some_iff] at h
    obtain ⟨_, _, _, _, _, _, h⟩ := h
    split at h
    · cases h
    · exact no h
  case extract x k =>
    simp only [Option.bind_eq_some_iff] at h
    obtain ⟨b, _, h⟩ := h
    cases b <;> simp only [reduceCtorEq] at h
    exact no h
  case call c' =>
    unfold aCall at h
    simp only [Option.bind_eq_some_iff] at h
    obtain ⟨as, has, h⟩ := h
    split at h
    · split at h
      · split at h
        · exact no h
        · split at h <;> cases h
      · cases h
    · cases h
    · split at h
      · simp only [Option.bind_eq_some_iff] at h
        obtain ⟨u, _, h⟩ := h
        split at h
        · split at h
          · simp only [Option.bind_eq_some_iff] at h
            obtain ⟨T, _, h⟩ := h
            split at h <;> cases h
          · cases h
        · exact no h
      · exact no h
      · exact no h
      · simp only [Option.bind_eq_some_iff] at h
        obtain ⟨_, _, _, _, _, _, h⟩ := h
        split at h
        · cases h
        · simp at h
      · cases h

end
end Go.VV
