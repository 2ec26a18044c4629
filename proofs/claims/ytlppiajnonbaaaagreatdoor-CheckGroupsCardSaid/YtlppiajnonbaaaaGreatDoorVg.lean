/- Structs out of parts, slices, places and the other operations that only reckon: what the abstract machine gives, the model gives. -/
import Derived.Test.YtlppiajnonbaaaaGreatDoorVf
set_option linter.unusedVariables false
set_option linter.unusedSimpArgs false
namespace Go.VV
section
variable {P : Program} {G : Nat} {ρ : Gh} {w : World} {E : Env}

theorem parts_rels {tm : Tm} {a : Act} (h : TmR G ρ w tm a) (hg : GlOk G ρ w E) : ∀ {xs : List (Nat × Operand)} {l : List (Nat × A)}, parts E tm xs = some l →
    l.length = xs.length ∧ ∀ (i k : Nat) (c : A), l[i]? = some (k, c) → ∃ x, xs[i]? = some (k, x) ∧ Rel G ρ w c (a.eval x) := by
  intro xs
  induction xs with
  | nil => intro l he; simp [parts] at he; subst he; exact ⟨rfl, fun i k c hc => by simp at hc⟩
  | cons x xs ih =>
    intro l he
    obtain ⟨k0, x⟩ := x
    simp only [parts, Option.bind_eq_some_iff, Option.map_eq_some_iff] at he
    obtain ⟨c, hc, l', hl, rfl⟩ := he
    obtain ⟨h1, h2⟩ := ih hl
    refine ⟨by simp [h1], fun i k c' hc' => ?_⟩
    cases i with
    | zero => simp at hc'; obtain ⟨rfl, rfl⟩ := hc'; exact ⟨x, rfl, ev_rel h hg hc⟩
    | succ i => simpa using h2 i k c' (by simpa using hc')

theorem foldl_put (off : Nat) : ∀ (vs : List Value) (j : Nat) (cur : Array Value), off + j + vs.length ≤ cur.size →
    ((vs.zipIdx j).foldl (fun cs (c, j) => cs.setIfInBounds (off + j) c) cur).toList = cur.toList.take (off + j) ++ vs ++ cur.toList.drop (off + j + vs.length) := by
  intro vs
  induction vs with
  | nil => intro j cur _; simp
  | cons v vs ih =>
    intro j cur h
    simp only [List.length_cons] at h
    simp only [List.zipIdx_cons, List.foldl_cons]
    rw [ih (j + 1) (cur.setIfInBounds (off + j) v) (by simp; omega)]
    have := list_seg_step cur.toList (off + j) v vs (by simp; omega)
    simp only [Array.toList_setIfInBounds, List.length_cons]
    rw [show off + (j + 1) = off + j + 1 by omega]
    exact this

theorem putN_rels {cs new cs' : List A} {vs nv : List Value} {off : Nat} (h : putN cs off new = some cs') (hr : Rels G ρ w cs vs) (hn : Rels G ρ w new nv) :
    off + nv.length ≤ vs.length ∧ Rels G ρ w cs' (vs.take off ++ nv ++ vs.drop (off + nv.length)) := by
  unfold putN at h
  split at h
  · rename_i hl
    simp at h; subst h
    rw [← hn.1, ← hr.1]
    refine ⟨hl, ?_⟩
    rw [hn.1] at hl ⊢
    rw [← List.append_assoc]
    exact ((hr.take off).append hn).append (hr.drop _)
  · cases h

theorem putN_flat {cs new cs' : List A} {off : Nat} (h : putN cs off new = some cs') (hc : ∀ (i : Nat) (a : A), cs[i]? = some a → flat a = true) (hn : ∀ (i : Nat) (a : A), new[i]? = some a → flat a = true) :
    ∀ (i : Nat) (a : A), cs'[i]? = some a → flat a = true := by
  unfold putN at h
  split at h
  · simp at h; subst h
    intro i a ha
    rw [← List.append_assoc, List.getElem?_append] at ha
    split at ha
    · rw [List.getElem?_append] at ha
      split at ha
      · rw [List.getElem?_take] at ha
        split at ha
        · exact hc _ _ ha
        · cases ha
      · exact hn _ _ ha
    · rw [List.getElem?_drop] at ha
      exact hc _ _ ha
  · cases h

theorem putN_length {cs new cs' : List A} {off : Nat} (h : putN cs off new = some cs') : cs'.length = cs.length := by
  unfold putN at h
  split at h
  · simp at h; subst h; simp; omega
  · cases h

theorem run_fillA {place : Nat → Option (Nat × Nat)} : ∀ {l : List (Nat × A)} {ps : List (Nat × Value)} {cells cs : List A} {vs : Array Value}, fillA place cells l = some cs → l.length = ps.length →
    (∀ (i k : Nat) (c : A), l[i]? = some (k, c) → ∃ v, ps[i]? = some (k, v) ∧ Rel G ρ w c v) → Rels G ρ w cells vs.toList → (∀ (i : Nat) (a : A), cells[i]? = some a → flat a = true) →
    ∃ vs', Instr.fill place vs ps = some vs' ∧ Rels G ρ w cs vs'.toList ∧ vs'.size = vs.size ∧ (∀ (i : Nat) (a : A), cs[i]? = some a → flat a = true) := by
  intro l
  induction l with
  | nil =>
    intro ps cells cs vs h hl _ hr hf
    simp [fillA] at h; subst h
    have : ps = [] := List.eq_nil_of_length_eq_zero hl.symm
    subst this
    exact ⟨vs, rfl, hr, rfl, hf⟩
  | cons x l ih =>
    intro ps cells cs vs h hl hp hr hf
    obtain ⟨k, c⟩ := x
    cases ps with
    | nil => simp at hl
    | cons y ps =>
      obtain ⟨v, hv, hrel⟩ := hp 0 k c rfl
      simp at hv; subst hv
      simp only [fillA, Option.bind_eq_some_iff] at h
      obtain ⟨⟨off, size⟩, hpl, h⟩ := h
      simp only at h
      split at h
      · rename_i hsz
        simp only [Option.bind_eq_some_iff] at h
        obtain ⟨cs1, h1, h2⟩ := h
        obtain ⟨hlen, hr1⟩ := putN_rels h1 hr hrel.cells
        have hf1 := putN_flat h1 hf (hrel.cells_flat hsz.2)
        have hsize : v.cells.size = size := by rw [← hsz.1, hrel.cells.1]; simp
        have e := foldl_put off v.cells.toList 0 vs (by simpa using hlen)
        simp only [Nat.add_zero] at e
        obtain ⟨vs', g1, g2, g3, g4⟩ := ih (ps := ps) (vs := v.cells.zipIdx.foldl (fun cs (c, j) => cs.setIfInBounds (off + j) c) vs) h2 (by simpa using hl)
          (fun i k c hc => by simpa using hp (i + 1) k c (by simpa using hc)) (by
            have : (v.cells.zipIdx.foldl (fun cs (c, j) => cs.setIfInBounds (off + j) c) vs).toList = ((v.cells.toList.zipIdx 0).foldl (fun cs (c, j) => cs.setIfInBounds (off + j) c) vs).toList := by
              rw [← Array.foldl_toList]; simp
            rw [this, e]; exact hr1) hf1
        have hsz' : (v.cells.zipIdx.foldl (fun cs (c, j) => cs.setIfInBounds (off + j) c) vs).size = vs.size := by
          have : (v.cells.zipIdx.foldl (fun cs (c, j) => cs.setIfInBounds (off + j) c) vs).toList = ((v.cells.toList.zipIdx 0).foldl (fun cs (c, j) => cs.setIfInBounds (off + j) c) vs).toList := by
              rw [← Array.foldl_toList]; simp
          rw [← Array.length_toList, this, e]
          simp at hlen ⊢
          omega
        refine ⟨vs', ?_, g2, g3.trans hsz', g4⟩
        have hlen' : ¬ (off + v.cells.size > vs.size) := by simp at hlen; omega
        simp only [Instr.fill, hpl, hsize, ne_eq, not_true_eq_false, decide_false, Bool.false_or]
        rw [hsize] at hlen'
        simp only [hlen', decide_false, Bool.false_eq_true, if_false]
        exact g1
      · cases h

theorem placesOf_run (hE : EnvOk P E) : ∀ {fs : List Field} {l : List (Nat × Nat)}, placesOf E (fs.map fun f => (f.offset, f.type)) = some l →
    (fs.mapM (fun f => do pure (f.offset, ← sizeOf f.type)) : Sem _).run P w = .ok l w := by
  intro fs
  induction fs with
  | nil => intro l h; simp [placesOf] at h; subst h; rfl
  | cons f fs ih =>
    intro l h
    simp only [List.map_cons, placesOf, Option.bind_eq_some_iff, Option.map_eq_some_iff] at h
    obtain ⟨T, hT, l', hl, rfl⟩ := h
    simp only [List.mapM_cons, Sem.run_bind, run_size (hE.ti _ _ hT), Result.andThen_ok, Sem.run_pure, ih hl]

theorem run_build (hE : EnvOk P E) {t : TypeId} {T : TI} (hT : E.ti t = some T) {l : List (Nat × A)} {ps : Array (Nat × Value)} (hl : l.length = ps.toList.length)
    (hp : ∀ (i k : Nat) (c : A), l[i]? = some (k, c) → ∃ v, ps.toList[i]? = some (k, v) ∧ Rel G ρ w c v) {c : A}
    (h : (match T.u with
      | .struct fs => (placesOf E fs).bind fun pl => R.ofA ((fillA (fun k => pl[k]?) T.zero l).map .g)
      | .array _ e => (E.ti e).bind fun F => R.ofA ((fillA (fun k => some (k * F.sz, F.sz)) T.zero l).map .g)
      | _ => none) = some (.val none c)) : ∃ v, (Instr.build t ps).run P w = .ok v w ∧ Rel G ρ w c v := by
  have hok := hE.ti _ _ hT
  obtain ⟨d, hd, hu⟩ := hok.1
  obtain ⟨z, hz, zr, zf, zs, _⟩ := run_zero (G := G) (ρ := ρ) (w := w) hok
  unfold Instr.build
  simp only [Sem.run_bind, hz, Result.andThen_ok, run_und hd]
  rw [hu] at h
  cases d <;> simp only [uOf, reduceCtorEq] at h
  case struct fs =>
    simp only [Option.bind_eq_some_iff, R.ofA, Option.map_eq_some_iff] at h
    obtain ⟨pl, hpl, b, ⟨cs, hcs, rfl⟩, hb⟩ := h
    cases hb
    have hm := placesOf_run (P := P) (w := w) hE hpl
    obtain ⟨vs', g1, g2, g3, g4⟩ := run_fillA hcs hl hp zr zf
    have hm' : (fs.mapM (fun f => do pure (f.offset, ← sizeOf f.type)) : Sem _).run P w = .ok pl.toArray w := by
      rw [← Array.toArray_toList (xs := fs), List.mapM_toArray]
      simp only [Sem.run_map, hm, Result.andThen_ok]
    refine ⟨.agg vs', ?_, .g cs vs' (by simpa using g2.1) g4 (fun i a v ha hv => g2.2 i a v ha (by simpa using hv))⟩
    simp only [Sem.run_bind, hm', Result.andThen_ok]
    have : (fun (x : Nat) => pl.toArray[x]?) = fun (k : Nat) => pl[k]? := by funext k; simp
    rw [this, g1]
    rfl
  case array n e =>
    simp only [Option.bind_eq_some_iff, R.ofA, Option.map_eq_some_iff] at h
    obtain ⟨F, hF, b, ⟨cs, hcs, rfl⟩, hb⟩ := h
    cases hb
    obtain ⟨vs', g1, g2, g3, g4⟩ := run_fillA hcs hl hp zr zf
    refine ⟨.agg vs', ?_, .g cs vs' (by simpa using g2.1) g4 (fun i a v ha hv => g2.2 i a v ha (by simpa using hv))⟩
    simp only [Sem.run_bind, run_size (hE.ti _ _ hF), Result.andThen_ok]
    rw [g1]
    rfl

theorem run_bound {x : A} {vx : Value} {dflt y r : Nat} {code : BoundsCode} (h : bnd (some x) dflt y = some r) (hx : Rel G ρ w x vx) : (Instr.sliceBound vx y code).run P w = .ok r w := by
  cases x <;> simp only [bnd, reduceCtorEq] at h
  cases hx
  split at h
  · rename_i k n hn
    simp only [Option.some.injEq] at h
    subst h
    simp only [Instr.sliceBound, asIntOf, Sem.run_bind, Sem.run_pure, Result.andThen_ok]
    rw [if_pos hn]
    rfl
  · cases h

theorem bnd_le {x : Option A} {d y r : Nat} (h : bnd x d y = some r) (hd : d ≤ y) : r ≤ y := by
  cases x with
  | none => simp [bnd] at h; omega
  | some x =>
    cases x <;> simp only [bnd, reduceCtorEq] at h
    split at h
    · simp only [Option.some.injEq] at h; omega
    · cases h

/-- An operand that may be lacking. -/
def ORel (G : Nat) (ρ : Gh) (w : World) : Option A → Option Value → Prop
  | none, none => True
  | some a, some v => Rel G ρ w a v
  | _, _ => False

theorem run_bounds {isSlice : Bool} {len cap : Nat} {lo hi : Option A} {vlo vhi : Option Value} {h k : Nat} (hlen : len ≤ cap) (hh : bnd hi len cap = some h) (hk : bnd lo 0 h = some k) (rl : ORel G ρ w lo vlo)
    (rh : ORel G ρ w hi vhi) : (Instr.sliceBounds isSlice len cap vlo vhi none).run P w = .ok (k, h, cap) w := by
  unfold Instr.sliceBounds
  cases hi with
  | none =>
    cases vhi with
    | some _ => exact rh.elim
    | none =>
      simp [bnd] at hh; subst hh
      cases lo with
      | none =>
        cases vlo with
        | some _ => exact rl.elim
        | none => simp [bnd] at hk; subst hk; simp
      | some lo =>
        cases vlo with
        | none => exact rl.elim
        | some vlo => simp [run_bound hk rl]
  | some hi =>
    cases vhi with
    | none => exact rh.elim
    | some vhi =>
      cases lo with
      | none =>
        cases vlo with
        | some _ => exact rl.elim
        | none => simp [bnd] at hk; subst hk; simp [run_bound hh rh]
      | some lo =>
        cases vlo with
        | none => exact rl.elim
        | some vlo => simp [run_bound hh rh, run_bound hk rl]

theorem run_bounds3 {isSlice : Bool} {len cap m h k : Nat} {lo hi mx : Option A} {vlo vhi vmx : Option Value} {d1 d2 : Nat} (hm : bnd mx d1 cap = some m) (hh : bnd hi d2 m = some h) (hk : bnd lo 0 h = some k)
    (rl : ORel G ρ w lo vlo) (rh : ORel G ρ w hi vhi) (rm : ORel G ρ w mx vmx) (h1 : hi.isSome = true) (h2 : mx.isSome = true) : (Instr.sliceBounds isSlice len cap vlo vhi vmx).run P w = .ok (k, h, m) w := by
  cases hi with
  | none => simp at h1
  | some hi =>
    cases mx with
    | none => simp at h2
    | some mx =>
      cases vhi with
      | none => exact rh.elim
      | some vhi =>
        cases vmx with
        | none => exact rm.elim
        | some vmx =>
          unfold Instr.sliceBounds
          cases lo with
          | none =>
            cases vlo with
            | some _ => exact rl.elim
            | none => simp [bnd] at hk; subst hk; simp [run_bound hm rm, run_bound hh rh]
          | some lo =>
            cases vlo with
            | none => exact rl.elim
            | some vlo => simp [run_bound hm rm, run_bound hh rh, run_bound hk rl]

/-- A piece of a slice that stays. -/
theorem rel_v_slice {kc kc' : Bool} {cs : List A} {n sz t st h k m : Nat} {blk o cap : Nat} {f : Nat → Value} (hl : cs.length = n * sz) (hkn : k ≤ h) (hhn : h ≤ n) (hm : h ≤ m) (hmc : m ≤ cap) (hkc : kc' = true → m = h)
    (hc : ∀ (i : Nat) (a : A), cs[i]? = some a → cell w blk (o + i) = some (f i)) (hf : ∀ (i : Nat) (a : A), cs[i]? = some a → flat a = true)
    (hr : ∀ (i : Nat) (a : A), cs[i]? = some a → Rel G ρ w a (f i)) (hM : o + cs.length ≤ ρ.M blk) (ht : ∃ base, ρ.tk t = some (blk, base) ∧ (cap = 0 ∨ o = base + st)) (hN : ∃ N, rowSize w blk = some N ∧ o + cap * sz ≤ N) :
    Rel G ρ w (.v kc' ((cs.take (h * sz)).drop (k * sz)) (h - k) sz t (st + k * sz)) (.slice (if m = k then some ⟨blk, o, none⟩ else some ⟨blk, o + k * sz, none⟩) (h - k) (m - k)) := by
  have hks : k * sz ≤ h * sz := Nat.mul_le_mul_right _ hkn
  have hhs : h * sz ≤ n * sz := Nat.mul_le_mul_right _ hhn
  have hlen : ((cs.take (h * sz)).drop (k * sz)).length = (h - k) * sz := by
    rw [List.length_drop, List.length_take, hl, Nat.sub_mul]; omega
  have hget : ∀ (i : Nat) (a : A), ((cs.take (h * sz)).drop (k * sz))[i]? = some a → cs[k * sz + i]? = some a := by
    intro i a ha
    rw [List.getElem?_drop, List.getElem?_take] at ha
    split at ha
    · exact ha
    · cases ha
  obtain ⟨base, ht, hb⟩ := ht
  obtain ⟨N, hN, hN2⟩ := hN
  by_cases hmk : m = k
  · have hhk : h = k := by omega
    subst hhk
    rw [if_pos hmk]
    refine .v _ _ _ _ _ _ blk o (m - h) f hlen (by omega) (fun _ => by omega) (fun i a ha => ?_) (fun i a ha => hf _ a (hget i a ha)) (fun i a ha => ?_) ?_ ⟨base, ht, .inl (by omega)⟩ ⟨N, hN, ?_⟩
    · have := lt_of_get ha; rw [hlen] at this; simp at this
    · have := lt_of_get ha; rw [hlen] at this; simp at this
    · rw [hlen]; simp; omega
    · rw [hmk]; simp; have := Nat.zero_le (cap * sz); omega
  · rw [if_neg hmk]
    refine .v _ _ _ _ _ _ blk (o + k * sz) (m - k) (fun i => f (k * sz + i)) hlen (by omega) (fun e => by have := hkc e; omega) (fun i a ha => ?_) (fun i a ha => hf _ a (hget i a ha)) (fun i a ha => hr _ a (hget i a ha)) ?_ ⟨base, ht, ?_⟩ ⟨N, hN, ?_⟩
    · rw [Nat.add_assoc]; exact hc _ a (hget i a ha)
    · rw [hlen]
      have : k * sz + (h - k) * sz = h * sz := by rw [Nat.sub_mul]; omega
      omega
    · right
      rcases hb with hb | hb
      · omega
      · omega
    · have : k * sz + (m - k) * sz = m * sz := by rw [Nat.sub_mul]; have := Nat.mul_le_mul_right sz (show k ≤ m by omega); omega
      have h2 : m * sz ≤ cap * sz := Nat.mul_le_mul_right _ hmc
      omega

theorem run_aSlice (hE : EnvOk P E) {t : TypeId} {T : TI} (hT : E.ti t = some T) {x c : A} {vx : Value} {lo hi mx : Option A} {vlo vhi vmx : Option Value}
    (h : sliceA E T x lo hi mx = some c) (hx : Rel G ρ w x vx) (rl : ORel G ρ w lo vlo) (rh : ORel G ρ w hi vhi) (rm : ORel G ρ w mx vmx) :
    ∃ v, (Instr.sliceAt t vx vlo vhi vmx).run P w = .ok v w ∧ Rel G ρ w c v := by
  have hok := hE.ti _ _ hT
  obtain ⟨d, hd, hu⟩ := hok.1
  unfold sliceA at h
  rw [hu] at h
  unfold Instr.sliceAt
  simp only [Sem.run_bind, run_und hd, Result.andThen_ok]
  cases d <;> simp only [uOf, reduceCtorEq] at h
  case string =>
    split at h
    · rename_i l
      cases vmx with
      | some _ => exact rm.elim
      | none =>
        cases hx with
        | s _ sb hs =>
          simp only [aSlice, Option.bind_eq_some_iff, Option.map_eq_some_iff] at h
          obtain ⟨h', hh, k, hk, rfl⟩ := h
          have hlen : sb.size = l.length := by rw [← hs]; simp
          rw [← hlen] at hh
          have hb := run_bounds (P := P) (isSlice := false) (Nat.le_refl sb.size) hh hk rl rh
          refine ⟨.string (sb.extract k h'), ?_, .s _ _ ?_⟩
          · unfold Instr.slice
            simp only [Sem.run_bind, run_und hd, Result.andThen_ok, Option.isSome_none, Bool.false_eq_true, if_false]
            simp only [Sem.run_bind, Result.andThen_ok, hb, Sem.run_pure]
          · rw [ByteArray.data_extract, Array.toList_extract, List.extract_eq_drop_take', List.map_drop, List.map_take, hs]
    · cases h
  case slice e =>
    simp only [Option.bind_eq_some_iff] at h
    obtain ⟨F, hF, h⟩ := h
    have hsz := fun w => run_size (P := P) (hE.ti _ _ hF) w
    have key : ∀ (a : Option Addr) (len cap k h m : Nat), (Instr.sliceBounds true len cap vlo vhi vmx).run P w = .ok (k, h, m) w →
        (Instr.slice t (.slice a len cap) vlo vhi vmx).run P w = .ok (.slice (if m = k then a else a.map (·.add (k * F.sz))) (h - k) (m - k)) w := by
      intro a len cap k h m hb
      unfold Instr.slice
      simp only [Sem.run_bind, run_und hd, Result.andThen_ok, hb, hsz, Sem.run_pure]
    split at h
    · cases h
    · rename_i kc cs n sz tk st
      cases vmx with
      | some _ => exact rm.elim
      | none =>
        split at h
        · rename_i hs
          subst hs
          simp only [aSlice, Option.bind_eq_some_iff, Option.map_eq_some_iff] at h
          obtain ⟨h', hh, k, hk, rfl⟩ := h
          cases hx with
          | v _ _ _ _ _ _ blk o cap f hl hn hkc hc hf hr hM ht hN =>
            have hh' : bnd hi n cap = some h' := by
              cases hi with
              | none => simpa [bnd] using hh
              | some hi =>
                cases hi <;> simp only [bnd, reduceCtorEq] at hh ⊢
                split at hh
                · rename_i hb; rw [if_pos (by omega)]; exact hh
                · cases hh
            have hb := run_bounds (P := P) (isSlice := true) hn hh' hk rl rh
            have h1 := bnd_le hk (Nat.zero_le _)
            have h2 := bnd_le hh (Nat.le_refl _)
            refine ⟨_, key _ _ _ _ _ _ hb, ?_⟩
            have := rel_v_slice (kc := kc) (kc' := kc && h' == n) (m := cap) hl h1 h2 (by omega) (Nat.le_refl _) (fun e => by simp at e; have := hkc e.1; omega) hc hf hr hM ht hN
            simpa [add_at] using this
        · cases h
    · rename_i l off n sz cap
      cases vmx with
      | some _ => exact rm.elim
      | none =>
        split at h
        · rename_i hs
          subst hs
          simp only [aSlice, Option.bind_eq_some_iff, Option.map_eq_some_iff] at h
          obtain ⟨h', hh, k, hk, rfl⟩ := h
          cases hx with
          | w _ _ _ _ _ blk hβ hn hN =>
            have hb := run_bounds (P := P) (isSlice := true) hn hh hk rl rh
            have h1 := bnd_le hk (Nat.zero_le _)
            have h2 := bnd_le hh hn
            refine ⟨_, key _ _ _ _ _ _ hb, ?_⟩
            obtain ⟨N, hN, hN2⟩ := hN
            have hmul : k * F.sz + (cap - k) * F.sz = cap * F.sz := by rw [Nat.sub_mul]; have := Nat.mul_le_mul_right F.sz (show k ≤ cap by omega); omega
            have := Rel.w (G := G) (ρ := ρ) (w := w) l (if cap = k then off else off + k * F.sz) (h' - k) F.sz (cap - k) blk hβ (by omega) ⟨N, hN, by
              split
              · rename_i e; rw [e]; simp; omega
              · omega⟩
            split
            · rename_i e; rw [if_pos e] at this; exact this
            · rename_i e; rw [if_neg e] at this; simpa [add_at] using this
        · cases h
    · rename_i hnv hnw
      cases vmx with
      | some _ => exact rm.elim
      | none =>
        cases x <;> simp only [aSlice, reduceCtorEq] at h
        case s hs => exact (hs _ rfl).elim
        case v => exact (hnv _ _ _ _ _ _ rfl).elim
        case w => exact (hnw _ _ _ _ _ rfl).elim
        case ns =>
          cases hx
          simp only [Option.bind_eq_some_iff, Option.map_eq_some_iff] at h
          obtain ⟨h', hh, k, hk, rfl⟩ := h
          have hb := run_bounds (P := P) (isSlice := true) (Nat.le_refl 0) hh hk rl rh
          have h2 := bnd_le hh (Nat.le_refl _)
          have h1 := bnd_le hk (Nat.zero_le _)
          refine ⟨_, key _ _ _ _ _ _ hb, ?_⟩
          have e1 : h' = 0 := by omega
          have e2 : k = 0 := by omega
          subst e1; subst e2
          exact .ns
    · rename_i kc cs n sz tk st m
      cases vmx with
      | none => exact rm.elim
      | some vm =>
        split at h
        · rename_i hs
          subst hs
          split at h
          · rename_i hsome
            simp only [aSlice3, Option.bind_eq_some_iff] at h
            obtain ⟨c', hm', h', hh, h⟩ := h
            split at h
            · rename_i hhc
              subst hhc
              simp only [Option.map_eq_some_iff] at h
              obtain ⟨k, hk, rfl⟩ := h
              cases hx with
              | v _ _ _ _ _ _ blk o cap f hl hn hkc hc hf hr hM ht hN =>
                have hm2 : bnd (some m) n cap = some h' := by
                  cases m <;> simp only [bnd, reduceCtorEq] at hm' ⊢
                  split at hm'
                  · rename_i hb; rw [if_pos (by omega)]; exact hm'
                  · cases hm'
                have hb := run_bounds3 (P := P) (isSlice := true) (len := n) hm2 hh hk rl rh rm hsome rfl
                have h1 := bnd_le hk (Nat.zero_le _)
                have h2 := bnd_le hm' (Nat.le_refl _)
                refine ⟨_, key _ _ _ _ _ _ hb, ?_⟩
                have := rel_v_slice (kc := kc) (kc' := true) (m := h') hl h1 h2 (Nat.le_refl _) (by omega) (fun _ => rfl) hc hf hr hM ht hN
                simpa [add_at] using this
            · cases h
          · cases h
        · cases h
    · rename_i hnv m
      cases vmx with
      | none => exact rm.elim
      | some vm =>
        split at h
        · rename_i hsome
          cases x <;> simp only [aSlice3, reduceCtorEq] at h
          case v => exact (m _ _ _ _ _ _ rfl).elim
          case ns =>
            cases hx
            simp only [Option.bind_eq_some_iff, Option.map_eq_some_iff] at h
            obtain ⟨c', hm', h', hh, k, hk, rfl⟩ := h
            have hb := run_bounds3 (P := P) (isSlice := true) (len := 0) (cap := 0) (m := c') (h := h') (d1 := 0) (d2 := 0) hm' (by
              have := bnd_le hm' (Nat.le_refl _)
              have e : c' = 0 := by omega
              rw [e]; exact hh) hk rl rh rm hsome rfl
            have h3 := bnd_le hm' (Nat.le_refl _)
            have h2 := bnd_le hh (Nat.le_refl _)
            have h1 := bnd_le hk (Nat.zero_le _)
            refine ⟨_, key _ _ _ _ _ _ hb, ?_⟩
            have e1 : h' = 0 := by omega
            have e2 : k = 0 := by omega
            have e3 : c' = 0 := by omega
            subst e1; subst e2; subst e3
            exact .ns
        · cases h

theorem run_field_addr (hE : EnvOk P E) {t : TypeId} {k off : Nat} {F : TI} (h : fieldAt? E t k = some (off, F)) (hz : F.sz ≠ 0) {blk o : Nat} :
    (Instr.fieldAt t (.pointer (some ⟨blk, o, none⟩)) k).run P w = .ok (.pointer (some ⟨blk, o + off, none⟩)) w := by
  simp only [fieldAt?, Option.bind_eq_some_iff] at h
  obtain ⟨T, hT, h⟩ := h
  have hok := hE.ti _ _ hT
  obtain ⟨d, hd, hu⟩ := hok.1
  rw [hu] at h
  cases d <;> simp only [uOf, reduceCtorEq] at h
  rename_i fs
  simp only [Option.bind_eq_some_iff, Option.map_eq_some_iff, Prod.mk.injEq] at h
  obtain ⟨⟨off', u⟩, hf, F', hF, rfl, rfl⟩ := h
  rw [List.getElem?_map] at hf
  simp only [Option.map_eq_some_iff, Prod.mk.injEq] at hf
  obtain ⟨fd, hfd, rfl, rfl⟩ := hf
  have hfd' : fs[k]? = some fd := by simpa using hfd
  unfold Instr.fieldAt
  simp only [Sem.run_bind, run_und hd, Result.andThen_ok, hfd', Instr.sureAddr, Sem.run_pure, fieldPlace, run_size (hE.ti _ _ hF)]
  rw [if_neg hz]
  simp [add_at]

theorem run_field (hE : EnvOk P E) {t : TypeId} {k off : Nat} {F : TI} (h : fieldAt? E t k = some (off, F)) {cs : List A} {vx : Value} (hx : Rel G ρ w (.g cs) vx) {c : A} (hc : loadA F.u.agg cs off F.sz = some c) :
    ∃ v, (Instr.field t vx k).run P w = .ok v w ∧ Rel G ρ w c v := by
  simp only [fieldAt?, Option.bind_eq_some_iff] at h
  obtain ⟨T, hT, h⟩ := h
  have hok := hE.ti _ _ hT
  obtain ⟨d, hd, hu⟩ := hok.1
  rw [hu] at h
  cases d <;> simp only [uOf, reduceCtorEq] at h
  rename_i fs
  simp only [Option.bind_eq_some_iff, Option.map_eq_some_iff, Prod.mk.injEq] at h
  obtain ⟨⟨off', u⟩, hf, F', hF, rfl, rfl⟩ := h
  rw [List.getElem?_map] at hf
  simp only [Option.map_eq_some_iff, Prod.mk.injEq] at hf
  obtain ⟨fd, hfd, rfl, rfl⟩ := hf
  have hfd' : fs[k]? = some fd := by simpa using hfd
  obtain ⟨vs, rfl, r, fl⟩ := hx.g_inv
  obtain ⟨v, hv, hrel⟩ := run_partA (P := P) (hE.ti _ _ hF) r fl hc
  refine ⟨v, ?_, hrel⟩
  unfold Instr.field
  simp only [Sem.run_bind, run_und hd, Result.andThen_ok, hfd', asAgg, Sem.run_pure, hv]

theorem run_indexAddr (hE : EnvOk P E) {t : TypeId} {x y c : A} {vx vy : Value} {n : Int} (hn : aInt y = some n) (h : aIndexAddr E t x n = some c) (hx : Rel G ρ w x vx) (hy : Rel G ρ w y vy) :
    ∃ v, (Instr.indexAt t vx vy).run P w = .ok v w ∧ Rel G ρ w c v := by
  obtain ⟨ki, rfl⟩ : ∃ k', y = .i k' n := by cases y <;> simp_all [aInt]
  cases hy
  simp only [aIndexAddr, Option.bind_eq_some_iff] at h
  obtain ⟨T, hT, h⟩ := h
  have hok := hE.ti _ _ hT
  obtain ⟨d, hd, hu⟩ := hok.1
  rw [hu] at h
  unfold Instr.indexAt
  simp only [asIntOf, Sem.run_bind, Sem.run_pure, Result.andThen_ok, run_und hd]
  cases d <;> simp only [uOf, reduceCtorEq] at h
  case slice e =>
    cases hx <;> simp only [reduceCtorEq, Option.bind_eq_some_iff] at h
    case v kc cs len sz tk st blk o cap f hl hnc hkc hc hf hr hM ht hN =>
      obtain ⟨F, hF, h⟩ := h
      split at h
      · rename_i hb
        simp only [Option.some.injEq] at h
        subst h
        refine ⟨.pointer (some ⟨blk, o + n.toNat * sz, none⟩), ?_, .q cs (n.toNat * sz) blk o f hc hf hr hM⟩
        simp only [Sem.run_bind, Sem.run_pure, Result.andThen_ok, run_und hd]
        rw [if_pos ⟨hb.1, hb.2.1⟩]
        simp [run_size (hE.ti _ _ hF), hb.2.2, add_at]
      · cases h
    case w l off len sz cap blk hβ hnc hN =>
      obtain ⟨F, hF, h⟩ := h
      split at h
      · rename_i hb
        simp only [Option.some.injEq] at h
        subst h
        refine ⟨.pointer (some ⟨blk, off + n.toNat * sz, none⟩), ?_, .p _ _ _ hβ⟩
        simp only [Sem.run_bind, Sem.run_pure, Result.andThen_ok, run_und hd]
        rw [if_pos ⟨hb.1, hb.2.1⟩]
        simp [run_size (hE.ti _ _ hF), hb.2.2, add_at]
      · cases h
  case array len e =>
    cases hx <;> simp only [reduceCtorEq, Option.bind_eq_some_iff] at h
    case p l off blk hβ =>
      obtain ⟨F, hF, h⟩ := h
      split at h
      · rename_i hb
        simp only [Option.some.injEq] at h
        subst h
        refine ⟨.pointer (some ⟨blk, off + n.toNat * F.sz, none⟩), ?_, .p _ _ _ hβ⟩
        simp only [Instr.sureAddr, Sem.run_bind, Sem.run_pure, Result.andThen_ok, run_und hd]
        rw [if_pos hb]
        simp [run_size (hE.ti _ _ hF), add_at]
      · cases h
    case q cs off blk base f hc hf hr hM =>
      obtain ⟨F, hF, h⟩ := h
      split at h
      · rename_i hb
        simp only [Option.some.injEq] at h
        subst h
        refine ⟨.pointer (some ⟨blk, base + (off + n.toNat * F.sz), none⟩), ?_, .q cs _ blk base f hc hf hr hM⟩
        simp only [Instr.sureAddr, Sem.run_bind, Sem.run_pure, Result.andThen_ok, run_und hd]
        rw [if_pos hb]
        simp [run_size (hE.ti _ _ hF), add_at, Nat.add_assoc]
      · cases h

theorem run_index (hE : EnvOk P E) {t : TypeId} {x y c : A} {vx vy : Value} {n : Int} (hn : aInt y = some n) (h : aIndex E t x n = some c) (hx : Rel G ρ w x vx) (hy : Rel G ρ w y vy) :
    ∃ v, (Instr.index t vx vy).run P w = .ok v w ∧ Rel G ρ w c v := by
  obtain ⟨ki, rfl⟩ : ∃ k', y = .i k' n := by cases y <;> simp_all [aInt]
  cases hy
  simp only [aIndex, Option.bind_eq_some_iff] at h
  obtain ⟨T, hT, h⟩ := h
  have hok := hE.ti _ _ hT
  obtain ⟨d, hd, hu⟩ := hok.1
  rw [hu] at h
  unfold Instr.index
  simp only [asIntOf, Sem.run_bind, Sem.run_pure, Result.andThen_ok, run_und hd]
  cases d <;> simp only [uOf, reduceCtorEq] at h
  case string =>
    cases hx <;> simp only [reduceCtorEq] at h
    case s l sb hs =>
      split at h
      · rename_i h0
        simp only [Option.map_eq_some_iff] at h
        obtain ⟨b, hb, rfl⟩ := h
        rw [← hs] at hb
        simp only [List.getElem?_map, Option.map_eq_some_iff] at hb
        obtain ⟨u, hu', rfl⟩ := hb
        have hlt : n.toNat < sb.size := by simpa using lt_of_get hu'
        have hu2 : sb[n.toNat]? = some u := by
          rw [getElem?_pos sb n.toNat hlt]
          rw [List.getElem?_eq_getElem (by simpa using hlt)] at hu'
          show some (sb.data[n.toNat]'(hlt)) = some u
          simpa using hu'
        refine ⟨.int .u8 u.toNat, ?_, .i _ _⟩
        simp only [if_pos h0, hu2, Sem.run_pure]
      · cases h
  case array len e =>
    cases hx <;> simp only [reduceCtorEq, Option.bind_eq_some_iff] at h
    case g cs vs hl hf r =>
      obtain ⟨F, hF, h⟩ := h
      split at h
      · rename_i hb
        obtain ⟨v, hv, hrel⟩ := run_partA (P := P) (hE.ti _ _ hF) (vs := vs) ⟨by simpa using hl, fun i a v ha hv => r i a v ha (by simpa using hv)⟩ hf h
        refine ⟨v, ?_, hrel⟩
        simp only []
        rw [if_pos hb]
        simp [run_size (hE.ti _ _ hF), hv]
      · cases h

end
end Go.VV
