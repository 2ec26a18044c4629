/- The fast machine's frames and store. Printed by wip/vv/genXFb.py. -/
import Derived.Test.YtlppiajnonbaaaaGreatDoorFa
import Derived.Test.YtlppiajnonbaaaaGreatDoorVc
set_option linter.unusedVariables false
set_option linter.unusedSimpArgs false
namespace Go.VV
noncomputable section

structure N8 (α : Type) where
  c0 : α
  c1 : α
  c2 : α
  c3 : α
  c4 : α
  c5 : α
  c6 : α
  c7 : α
structure FW8 (α : Type) where r : N8 α → α
structure PW8 (α : Type) where r : N8 α → α → (N8 α → Bool) → Bool
def sel8 {α : Type} (d : Nat) : FW8 α := (Nat.rec (motive := fun _ => FW8 α) ⟨fun t => t.c0⟩ (fun d _ => (Nat.rec (motive := fun _ => FW8 α) ⟨fun t => t.c1⟩ (fun d _ => (Nat.rec (motive := fun _ => FW8 α) ⟨fun t => t.c2⟩ (fun d _ => (Nat.rec (motive := fun _ => FW8 α) ⟨fun t => t.c3⟩ (fun d _ => (Nat.rec (motive := fun _ => FW8 α) ⟨fun t => t.c4⟩ (fun d _ => (Nat.rec (motive := fun _ => FW8 α) ⟨fun t => t.c5⟩ (fun d _ => (Nat.rec (motive := fun _ => FW8 α) ⟨fun t => t.c6⟩ (fun d _ => ⟨fun t => t.c7⟩) d)) d)) d)) d)) d)) d)) d)
def rep8 {α : Type} (d : Nat) : PW8 α := (Nat.rec (motive := fun _ => PW8 α) ⟨fun t x k => N8.rec (motive := fun _ => Bool) (fun _ b c d e f g h => k ⟨x, b, c, d, e, f, g, h⟩) t⟩ (fun d _ => (Nat.rec (motive := fun _ => PW8 α) ⟨fun t x k => N8.rec (motive := fun _ => Bool) (fun a _ c d e f g h => k ⟨a, x, c, d, e, f, g, h⟩) t⟩ (fun d _ => (Nat.rec (motive := fun _ => PW8 α) ⟨fun t x k => N8.rec (motive := fun _ => Bool) (fun a b _ d e f g h => k ⟨a, b, x, d, e, f, g, h⟩) t⟩ (fun d _ => (Nat.rec (motive := fun _ => PW8 α) ⟨fun t x k => N8.rec (motive := fun _ => Bool) (fun a b c _ e f g h => k ⟨a, b, c, x, e, f, g, h⟩) t⟩ (fun d _ => (Nat.rec (motive := fun _ => PW8 α) ⟨fun t x k => N8.rec (motive := fun _ => Bool) (fun a b c d _ f g h => k ⟨a, b, c, d, x, f, g, h⟩) t⟩ (fun d _ => (Nat.rec (motive := fun _ => PW8 α) ⟨fun t x k => N8.rec (motive := fun _ => Bool) (fun a b c d e _ g h => k ⟨a, b, c, d, e, x, g, h⟩) t⟩ (fun d _ => (Nat.rec (motive := fun _ => PW8 α) ⟨fun t x k => N8.rec (motive := fun _ => Bool) (fun a b c d e f _ h => k ⟨a, b, c, d, e, f, x, h⟩) t⟩ (fun d _ => ⟨fun t x k => N8.rec (motive := fun _ => Bool) (fun a b c d e f g _ => k ⟨a, b, c, d, e, f, g, x⟩) t⟩) d)) d)) d)) d)) d)) d)) d)

/-- What stands in a place, in plain words. -/
def N8.get {α : Type} (t : N8 α) (d : Nat) : α := (sel8 d).r t
def N8.put {α : Type} (t : N8 α) (d : Nat) (x : α) : N8 α := match d with
  | 0 => { t with c0 := x }
  | 1 => { t with c1 := x }
  | 2 => { t with c2 := x }
  | 3 => { t with c3 := x }
  | 4 => { t with c4 := x }
  | 5 => { t with c5 := x }
  | 6 => { t with c6 := x }
  | _ => { t with c7 := x }
theorem rep8_eq {α : Type} (d : Nat) (t : N8 α) (x : α) (k : N8 α → Bool) : (rep8 d).r t x k = k (t.put d x) := by
  match d with
  | 0 | 1 | 2 | 3 | 4 | 5 | 6 => rfl
  | _ + 7 => rfl
theorem N8.get_put {α : Type} (t : N8 α) (x : α) {d d' : Nat} (h : d < 8) (h' : d' < 8) : (t.put d x).get d' = if d' = d then x else t.get d' := by
  match d, d', h, h' with
  | 0, 0, _, _ => rfl
  | 0, 1, _, _ => rfl
  | 0, 2, _, _ => rfl
  | 0, 3, _, _ => rfl
  | 0, 4, _, _ => rfl
  | 0, 5, _, _ => rfl
  | 0, 6, _, _ => rfl
  | 0, 7, _, _ => rfl
  | 1, 0, _, _ => rfl
  | 1, 1, _, _ => rfl
  | 1, 2, _, _ => rfl
  | 1, 3, _, _ => rfl
  | 1, 4, _, _ => rfl
  | 1, 5, _, _ => rfl
  | 1, 6, _, _ => rfl
  | 1, 7, _, _ => rfl
  | 2, 0, _, _ => rfl
  | 2, 1, _, _ => rfl
  | 2, 2, _, _ => rfl
  | 2, 3, _, _ => rfl
  | 2, 4, _, _ => rfl
  | 2, 5, _, _ => rfl
  | 2, 6, _, _ => rfl
  | 2, 7, _, _ => rfl
  | 3, 0, _, _ => rfl
  | 3, 1, _, _ => rfl
  | 3, 2, _, _ => rfl
  | 3, 3, _, _ => rfl
  | 3, 4, _, _ => rfl
  | 3, 5, _, _ => rfl
  | 3, 6, _, _ => rfl
  | 3, 7, _, _ => rfl
  | 4, 0, _, _ => rfl
  | 4, 1, _, _ => rfl
  | 4, 2, _, _ => rfl
  | 4, 3, _, _ => rfl
  | 4, 4, _, _ => rfl
  | 4, 5, _, _ => rfl
  | 4, 6, _, _ => rfl
  | 4, 7, _, _ => rfl
  | 5, 0, _, _ => rfl
  | 5, 1, _, _ => rfl
  | 5, 2, _, _ => rfl
  | 5, 3, _, _ => rfl
  | 5, 4, _, _ => rfl
  | 5, 5, _, _ => rfl
  | 5, 6, _, _ => rfl
  | 5, 7, _, _ => rfl
  | 6, 0, _, _ => rfl
  | 6, 1, _, _ => rfl
  | 6, 2, _, _ => rfl
  | 6, 3, _, _ => rfl
  | 6, 4, _, _ => rfl
  | 6, 5, _, _ => rfl
  | 6, 6, _, _ => rfl
  | 6, 7, _, _ => rfl
  | 7, 0, _, _ => rfl
  | 7, 1, _, _ => rfl
  | 7, 2, _, _ => rfl
  | 7, 3, _, _ => rfl
  | 7, 4, _, _ => rfl
  | 7, 5, _, _ => rfl
  | 7, 6, _, _ => rfl
  | 7, 7, _, _ => rfl

/-- A frame: 512 temporaries. -/
abbrev En := N8 (N8 (N8 A))
structure GW where g : En → A
structure SW where s : En → A → (En → Bool) → Bool
def mkG (n : Nat) : GW := ⟨fun t => (sel8 (Nat.mod n 8)).r ((sel8 (Nat.mod (Nat.div n 8) 8)).r ((sel8 (Nat.mod (Nat.div n 64) 8)).r t))⟩
def mkS (n : Nat) : SW := ⟨fun t x k => (rep8 (Nat.mod n 8)).r ((sel8 (Nat.mod (Nat.div n 8) 8)).r ((sel8 (Nat.mod (Nat.div n 64) 8)).r t)) x fun u => (rep8 (Nat.mod (Nat.div n 8) 8)).r ((sel8 (Nat.mod (Nat.div n 64) 8)).r t) u fun v => (rep8 (Nat.mod (Nat.div n 64) 8)).r t v k⟩
def En.get (e : En) (n : Nat) : A := (mkG n).g e
def En.put (e : En) (n : Nat) (x : A) : En := N8.put e (n / 64 % 8) (N8.put (N8.get e (n / 64 % 8)) (n / 8 % 8) (N8.put (N8.get (N8.get e (n / 64 % 8)) (n / 8 % 8)) (n % 8) x))
theorem mkS_eq (n : Nat) (e : En) (x : A) (k : En → Bool) : (mkS n).s e x k = k (e.put n x) := by
  show (rep8 _).r _ x (fun u => (rep8 _).r _ u fun v => (rep8 _).r e v k) = _
  rw [rep8_eq, rep8_eq, rep8_eq]
  rfl
theorem En.get_eq (e : En) (n : Nat) : e.get n = N8.get (N8.get (N8.get e (n / 64 % 8)) (n / 8 % 8)) (n % 8) := rfl
theorem En.get_put (e : En) (x : A) {n m : Nat} (hn : n < 512) (hm : m < 512) : (e.put n x).get m = if m = n then x else e.get m := by
  rw [En.get_eq, En.get_eq]
  unfold En.put
  have lt : ∀ a : Nat, a % 8 < 8 := fun a => Nat.mod_lt _ (by decide)
  rw [N8.get_put _ _ (lt _) (lt _)]
  by_cases h1 : m / 64 % 8 = n / 64 % 8
  · rw [if_pos h1, N8.get_put _ _ (lt _) (lt _)]
    by_cases h2 : m / 8 % 8 = n / 8 % 8
    · rw [if_pos h2, N8.get_put _ _ (lt _) (lt _)]
      by_cases h3 : m % 8 = n % 8
      · rw [if_pos h3, if_pos (by omega)]
      · rw [if_neg h3, if_neg (by omega), h1, h2]
    · rw [if_neg h2, if_neg (by omega), h1]
  · rw [if_neg h1, if_neg (by omega)]

def z8 {α : Type} (a : α) : N8 α := ⟨a, a, a, a, a, a, a, a⟩
def eZ : En := z8 (z8 (z8 un))
theorem z8_get {α : Type} (a : α) (d : Nat) : (z8 a).get d = a := by
  match d with
  | 0 | 1 | 2 | 3 | 4 | 5 | 6 => rfl
  | _ + 7 => rfl
theorem eZ_get (n : Nat) : eZ.get n = un := by
  rw [En.get_eq]; unfold eZ; rw [z8_get, z8_get, z8_get]

/-- It stands for the frame's temporaries. -/
def Rep (e : En) (tm : Tm) : Prop := ∀ k, k < 512 → e.get k = tm.get k
theorem Rep.put {e : En} {tm : Tm} (h : Rep e tm) {d : Nat} (hd : d < 512) (x : A) : Rep (e.put d x) (tm.put (some d) x) := by
  intro k hk
  rw [En.get_put _ _ hd hk, Tm.get_put, h k hk]

/-! ### the store: each object with the time when it was laid or changed last -/
structure SO where
  st : Nat
  ob : Ob
structure FS where
  nx : Nat
  ctr : Nat
  hp : Tr SO

def Tr.mapR (t : Tr SO) : Tr Ob := Tr.rec .e (fun o _ _ ihl ihr => .n (Option.rec none (fun x => some x.ob) o) ihl ihr) t
theorem Tr.mapR_n (o : Option SO) (l r : Tr SO) : (Tr.n o l r).mapR = .n (o.map SO.ob) l.mapR r.mapR := by cases o <;> rfl
theorem Tr.mapR_get : ∀ (t : Tr SO) (k : Nat), t.mapR.get k = (t.get k).map SO.ob
  | .e, _ => rfl
  | .n o l r, k => by
    show (Tr.n (Option.rec none (fun x => some x.ob) o) l.mapR r.mapR).get k = _
    simp only [Tr.get]
    split
    · cases o <;> rfl
    · split
      · exact Tr.mapR_get l _
      · exact Tr.mapR_get r _
theorem Tr.mapR_setF : ∀ (f : Nat) (t : Tr SO) (k : Nat) (o : Option SO), (Tr.setF f t k o).mapR = Tr.setF f t.mapR k (o.map SO.ob)
  | 0, _, _, _ => rfl
  | f + 1, .e, k, o => by
    show (Tr.setF (f + 1) Tr.e k o).mapR = Tr.setF (f + 1) Tr.e k (o.map SO.ob)
    simp only [Tr.setF]
    split
    · rw [Tr.mapR_n]; rfl
    · split
      · rw [Tr.mapR_n, Tr.mapR_setF f]; rfl
      · rw [Tr.mapR_n, Tr.mapR_setF f]; rfl
  | f + 1, .n x l r, k, o => by
    rw [Tr.mapR_n]
    simp only [Tr.setF]
    split
    · rw [Tr.mapR_n]
    · split
      · rw [Tr.mapR_n, Tr.mapR_setF f]
      · rw [Tr.mapR_n, Tr.mapR_setF f]

def FS.toSt (s : FS) : St := FS.rec (fun nx _ hp => ⟨nx, hp.mapR⟩) s
theorem FS.toSt_get (s : FS) (l : Nat) : s.toSt.get l = (s.hp.get l).map SO.ob := Tr.mapR_get _ _
theorem FS.toSt_nx (s : FS) : s.toSt.nx = s.nx := rfl

def Tr.gK {α : Type} (t : Tr α) : Nat → (α → Bool) → Bool :=
  Tr.rec (fun _ _ => false) (fun o _ _ ihl ihr k K => Nat.rec (Option.rec false K o) (fun k' _ => Nat.rec (ihl (Nat.div k' 2) K) (fun _ _ => ihr (Nat.div k' 2) K) (Nat.mod k' 2)) k) t
theorem Tr.gK_inv {α : Type} : ∀ {t : Tr α} {k : Nat} {K : α → Bool}, t.gK k K = true → ∃ a, t.get k = some a ∧ K a = true
  | .e, _, _, h => absurd h Bool.false_ne_true
  | .n o l r, 0, K, h => by
    cases o with
    | none => exact absurd h Bool.false_ne_true
    | some a => exact ⟨a, rfl, h⟩
  | .n o l r, k + 1, K, h => by
    simp only [Tr.get]
    rw [if_neg (Nat.succ_ne_zero k)]
    change Nat.rec (motive := fun _ => Bool) (l.gK (Nat.div k 2) K) (fun _ _ => r.gK (Nat.div k 2) K) (Nat.mod k 2) = true at h
    rcases Nat.mod_two_eq_zero_or_one k with h2 | h2
    · rw [show Nat.mod k 2 = 0 from h2] at h
      have h3 : l.gK (Nat.div k 2) K = true := h
      obtain ⟨a, h4, h5⟩ := Tr.gK_inv h3
      rw [if_pos (by omega), show (k + 1) / 2 = Nat.div k 2 from by show (k + 1) / 2 = k / 2; omega]
      exact ⟨a, h4, h5⟩
    · rw [show Nat.mod k 2 = 1 from h2] at h
      have h3 : r.gK (Nat.div k 2) K = true := h
      obtain ⟨a, h4, h5⟩ := Tr.gK_inv h3
      rw [if_neg (by omega), show (k + 1) / 2 - 1 = Nat.div k 2 from by show (k + 1) / 2 - 1 = k / 2; omega]
      exact ⟨a, h4, h5⟩

def Tr.sK {α : Type} (f : Nat) : Tr α → Nat → Option α → (Tr α → Bool) → Bool :=
  Nat.rec (fun t _ _ K => K t) (fun _ ih t k o K =>
    Tr.rec (Nat.rec (K (.n o .e .e)) (fun k' _ => Nat.rec (ih .e (Nat.div k' 2) o fun l => K (.n none l .e)) (fun _ _ => ih .e (Nat.div k' 2) o fun r => K (.n none .e r)) (Nat.mod k' 2)) k)
      (fun x l r _ _ => Nat.rec (K (.n o l r)) (fun k' _ => Nat.rec (ih l (Nat.div k' 2) o fun l => K (.n x l r)) (fun _ _ => ih r (Nat.div k' 2) o fun r => K (.n x l r)) (Nat.mod k' 2)) k) t) f
theorem Tr.sK_eq {α : Type} : ∀ (f : Nat) (t : Tr α) (k : Nat) (o : Option α) (K : Tr α → Bool), Tr.sK f t k o K = K (Tr.setF f t k o)
  | 0, _, _, _, _ => rfl
  | f + 1, .e, 0, _, _ => rfl
  | f + 1, .n _ _ _, 0, _, _ => rfl
  | f + 1, .e, k + 1, o, K => by
    show Nat.rec (motive := fun _ => Bool) (Tr.sK f .e (Nat.div k 2) o fun l => K (.n none l .e)) (fun _ _ => Tr.sK f .e (Nat.div k 2) o fun r => K (.n none .e r)) (Nat.mod k 2) = _
    simp only [Tr.setF]
    rw [if_neg (Nat.succ_ne_zero k)]
    rcases Nat.mod_two_eq_zero_or_one k with h2 | h2
    · rw [show Nat.mod k 2 = 0 from h2]
      show Tr.sK f .e (Nat.div k 2) o (fun l => K (.n none l .e)) = _
      rw [Tr.sK_eq f, if_pos (by omega), show (k + 1) / 2 = Nat.div k 2 from by show (k + 1) / 2 = k / 2; omega]
    · rw [show Nat.mod k 2 = 1 from h2]
      show Tr.sK f .e (Nat.div k 2) o (fun r => K (.n none .e r)) = _
      rw [Tr.sK_eq f, if_neg (by omega), show (k + 1) / 2 - 1 = Nat.div k 2 from by show (k + 1) / 2 - 1 = k / 2; omega]
  | f + 1, .n x l r, k + 1, o, K => by
    show Nat.rec (motive := fun _ => Bool) (Tr.sK f l (Nat.div k 2) o fun l => K (.n x l r)) (fun _ _ => Tr.sK f r (Nat.div k 2) o fun r => K (.n x l r)) (Nat.mod k 2) = _
    simp only [Tr.setF]
    rw [if_neg (Nat.succ_ne_zero k)]
    rcases Nat.mod_two_eq_zero_or_one k with h2 | h2
    · rw [show Nat.mod k 2 = 0 from h2]
      show Tr.sK f l (Nat.div k 2) o (fun l => K (.n x l r)) = _
      rw [Tr.sK_eq f, if_pos (by omega), show (k + 1) / 2 = Nat.div k 2 from by show (k + 1) / 2 = k / 2; omega]
    · rw [show Nat.mod k 2 = 1 from h2]
      show Tr.sK f r (Nat.div k 2) o (fun r => K (.n x l r)) = _
      rw [Tr.sK_eq f, if_neg (by omega), show (k + 1) / 2 - 1 = Nat.div k 2 from by show (k + 1) / 2 - 1 = k / 2; omega]

/-- Later: times rise; what is older than then stands as it stood. -/
structure Le (s s' : FS) : Prop where
  inv : (∀ l so, s.hp.get l = some so → so.st < s.ctr) → ∀ l so, s'.hp.get l = some so → so.st < s'.ctr
  ctr : s.ctr ≤ s'.ctr
  old : ∀ l so, s'.hp.get l = some so → so.st < s.ctr → s.hp.get l = some so
theorem Le.refl (s : FS) : Le s s := ⟨fun h => h, Nat.le_refl _, fun _ _ h _ => h⟩
theorem Le.trans {a b c : FS} (h : Le a b) (k : Le b c) : Le a c :=
  ⟨fun i => k.inv (h.inv i), Nat.le_trans h.ctr k.ctr, fun l so h1 h2 => h.old l so (k.old l so h1 (Nat.lt_of_lt_of_le h2 h.ctr)) h2⟩

/-- An object at a place, as of now. -/
def FS.wr (s : FS) (l : Nat) (ob : Ob) : FS := ⟨s.nx, s.ctr + 1, s.hp.set l (some ⟨s.ctr, ob⟩)⟩
def FS.rm (s : FS) (l : Nat) : FS := ⟨s.nx, s.ctr + 1, s.hp.set l none⟩
def FS.nw (s : FS) (ob : Ob) : FS := ⟨s.nx + 1, s.ctr + 1, s.hp.set s.nx (some ⟨s.ctr, ob⟩)⟩
theorem le_set {s : FS} {nx l : Nat} {o : Option SO} (h : ∀ so, o = some so → so.st = s.ctr) : Le s ⟨nx, s.ctr + 1, s.hp.set l o⟩ where
  inv := fun i l' so h' => by
    rw [Tr.get_set] at h'
    split at h'
    · have := h so h'; show so.st < s.ctr + 1; omega
    · have := i l' so h'; show so.st < s.ctr + 1; omega
  ctr := Nat.le_succ _
  old := fun l' so h' h2 => by
    rw [Tr.get_set] at h'
    split at h'
    · have := h so h'; omega
    · exact h'
theorem FS.le_wr (s : FS) (l : Nat) (ob : Ob) : Le s (s.wr l ob) := le_set (by rintro so h; cases h; rfl)
theorem FS.le_rm (s : FS) (l : Nat) : Le s (s.rm l) := le_set (by rintro so h; cases h)
theorem FS.le_nw (s : FS) (ob : Ob) : Le s (s.nw ob) := le_set (by rintro so h; cases h; rfl)
theorem FS.toSt_wr (s : FS) (l : Nat) (ob : Ob) : (s.wr l ob).toSt = s.toSt.set l ob := by
  show (⟨s.nx, (Tr.set s.hp l (some ⟨s.ctr, ob⟩)).mapR⟩ : St) = _
  unfold Tr.set
  rw [Tr.mapR_setF]; rfl
theorem FS.toSt_rm (s : FS) (l : Nat) : (s.rm l).toSt = s.toSt.kill l := by
  show (⟨s.nx, (Tr.set s.hp l none).mapR⟩ : St) = _
  unfold Tr.set
  rw [Tr.mapR_setF]; rfl
theorem FS.toSt_nw (s : FS) (ob : Ob) : (s.nw ob).toSt = s.toSt.new ob := by
  show (⟨s.nx + 1, (Tr.set s.hp s.nx (some ⟨s.ctr, ob⟩)).mapR⟩ : St) = _
  unfold Tr.set
  rw [Tr.mapR_setF]; rfl

def getF (s : FS) (l : Nat) (K : Ob → Bool) : Bool := FS.rec (motive := fun _ => Bool) (fun _ _ hp => hp.gK l fun so => SO.rec (motive := fun _ => Bool) (fun _ ob => K ob) so) s
theorem getF_inv {s : FS} {l : Nat} {K : Ob → Bool} (h : getF s l K = true) : ∃ ob, s.toSt.get l = some ob ∧ K ob = true := by
  obtain ⟨so, h1, h2⟩ := Tr.gK_inv (t := s.hp) h
  exact ⟨so.ob, by rw [FS.toSt_get, h1]; rfl, h2⟩
def onC (o : Ob) (K : List A → Bool) : Bool := Ob.rec (motive := fun _ => Bool) K (fun _ => false) (fun _ => false) o
theorem onC_inv {o : Ob} {K : List A → Bool} (h : onC o K = true) : ∃ cs, o = .c cs ∧ K cs = true := by
  cases o with | c cs => exact ⟨cs, rfl, h⟩ | _ => exact absurd h Bool.false_ne_true
def onK (o : Ob) (K : Nat → Bool) : Bool := Ob.rec (motive := fun _ => Bool) (fun _ => false) (fun _ => false) K o
theorem onK_inv {o : Ob} {K : Nat → Bool} (h : onK o K = true) : ∃ n, o = .k n ∧ K n = true := by
  cases o with | k n => exact ⟨n, rfl, h⟩ | _ => exact absurd h Bool.false_ne_true
def onM (o : Ob) (K : List (A × A) → Bool) : Bool := Ob.rec (motive := fun _ => Bool) (fun _ => false) K (fun _ => false) o
theorem onM_inv {o : Ob} {K : List (A × A) → Bool} (h : onM o K = true) : ∃ es, o = .m es ∧ K es = true := by
  cases o with | m es => exact ⟨es, rfl, h⟩ | _ => exact absurd h Bool.false_ne_true
/-- The cells of a row. -/
def rowF (s : FS) (l : Nat) (K : List A → Bool) : Bool := getF s l fun o => onC o K
theorem rowF_inv {s : FS} {l : Nat} {K : List A → Bool} (h : rowF s l K = true) : ∃ cs, s.toSt.get l = some (.c cs) ∧ K cs = true := by
  obtain ⟨ob, h1, h2⟩ := getF_inv h
  obtain ⟨cs, rfl, h3⟩ := onC_inv h2
  exact ⟨cs, h1, h3⟩

def wrF (s : FS) (l : Nat) (ob : Ob) (K : FS → Bool) : Bool := FS.rec (motive := fun _ => Bool) (fun nx ctr hp => kN (Nat.succ ctr) fun c => Tr.sK (Nat.succ l) hp l (some ⟨ctr, ob⟩) fun hp => K ⟨nx, c, hp⟩) s
theorem wrF_eq (s : FS) (l : Nat) (ob : Ob) (K : FS → Bool) : wrF s l ob K = K (s.wr l ob) := by
  cases s with | mk nx ctr hp => show kN (Nat.succ ctr) (fun c => Tr.sK (Nat.succ l) hp l (some ⟨ctr, ob⟩) fun hp => K ⟨nx, c, hp⟩) = _; rw [kN_eq, Tr.sK_eq]; rfl
def rmF (s : FS) (l : Nat) (K : FS → Bool) : Bool := FS.rec (motive := fun _ => Bool) (fun nx ctr hp => kN (Nat.succ ctr) fun c => Tr.sK (Nat.succ l) hp l none fun hp => K ⟨nx, c, hp⟩) s
theorem rmF_eq (s : FS) (l : Nat) (K : FS → Bool) : rmF s l K = K (s.rm l) := by
  cases s with | mk nx ctr hp => show kN (Nat.succ ctr) (fun c => Tr.sK (Nat.succ l) hp l none fun hp => K ⟨nx, c, hp⟩) = _; rw [kN_eq, Tr.sK_eq]; rfl
/-- A new object; its place. -/
def nwF (s : FS) (ob : Ob) (K : Nat → FS → Bool) : Bool := FS.rec (motive := fun _ => Bool) (fun nx ctr hp => kN (Nat.succ ctr) fun c => kN (Nat.succ nx) fun n => Tr.sK (Nat.succ nx) hp nx (some ⟨ctr, ob⟩) fun hp => K nx ⟨n, c, hp⟩) s
theorem nwF_eq (s : FS) (ob : Ob) (K : Nat → FS → Bool) : nwF s ob K = K s.nx (s.nw ob) := by
  cases s with | mk nx ctr hp => show kN (Nat.succ ctr) (fun c => kN (Nat.succ nx) fun n => Tr.sK (Nat.succ nx) hp nx (some ⟨ctr, ob⟩) fun hp => K nx ⟨n, c, hp⟩) = _; rw [kN_eq, kN_eq, Tr.sK_eq]; rfl
def nxF (s : FS) (K : Nat → Bool) : Bool := FS.rec (motive := fun _ => Bool) (fun nx _ _ => K nx) s
theorem nxF_eq (s : FS) (K : Nat → Bool) : nxF s K = K s.nx := by cases s; rfl

def Tr.gD {α : Type} (t : Tr α) : Nat → Bool → (α → Bool) → Bool :=
  Tr.rec (fun _ z _ => z) (fun o _ _ ihl ihr k z K => Nat.rec (Option.rec z K o) (fun k' _ => Nat.rec (ihl (Nat.div k' 2) z K) (fun _ _ => ihr (Nat.div k' 2) z K) (Nat.mod k' 2)) k) t
theorem Tr.gD_inv {α : Type} : ∀ {t : Tr α} {k : Nat} {z : Bool} {K : α → Bool}, t.gD k z K = true → (t.get k = none ∧ z = true) ∨ ∃ a, t.get k = some a ∧ K a = true
  | .e, _, _, _, h => .inl ⟨rfl, h⟩
  | .n o l r, 0, z, K, h => by
    cases o with
    | none => exact .inl ⟨rfl, h⟩
    | some a => exact .inr ⟨a, rfl, h⟩
  | .n o l r, k + 1, z, K, h => by
    simp only [Tr.get]
    rw [if_neg (Nat.succ_ne_zero k)]
    change Nat.rec (motive := fun _ => Bool) (l.gD (Nat.div k 2) z K) (fun _ _ => r.gD (Nat.div k 2) z K) (Nat.mod k 2) = true at h
    rcases Nat.mod_two_eq_zero_or_one k with h2 | h2
    · rw [show Nat.mod k 2 = 0 from h2] at h
      have h3 : l.gD (Nat.div k 2) z K = true := h
      rw [if_pos (by omega), show (k + 1) / 2 = Nat.div k 2 from by show (k + 1) / 2 = k / 2; omega]
      exact Tr.gD_inv h3
    · rw [show Nat.mod k 2 = 1 from h2] at h
      have h3 : r.gD (Nat.div k 2) z K = true := h
      rw [if_neg (by omega), show (k + 1) / 2 - 1 = Nat.div k 2 from by show (k + 1) / 2 - 1 = k / 2; omega]
      exact Tr.gD_inv h3

/-- Does the place hold at both times what was laid at one time? -/
def sameF (s s' : FS) (l : Nat) : Bool := FS.rec (motive := fun _ => Bool) (fun _ _ hp => FS.rec (motive := fun _ => Bool) (fun _ _ hp' => hp.gD l (hp'.gD l true fun _ => false) fun so => hp'.gK l fun so' => SO.rec (motive := fun _ => Bool) (fun a _ => SO.rec (motive := fun _ => Bool) (fun b _ => Nat.beq a b) so') so) s') s
theorem sameF_inv {s s' : FS} {l : Nat} (h : sameF s s' l = true) (hl : Le s s') (hi : ∀ l so, s.hp.get l = some so → so.st < s.ctr) : s.toSt.get l = s'.toSt.get l := by
  rcases Tr.gD_inv (t := s.hp) (z := s'.hp.gD l true fun _ => false) (K := fun so => s'.hp.gK l fun so' => SO.rec (motive := fun _ => Bool) (fun a _ => SO.rec (motive := fun _ => Bool) (fun b _ => Nat.beq a b) so') so) h with ⟨h1, h2⟩ | ⟨so, h1, h2⟩
  · rcases Tr.gD_inv h2 with ⟨h3, _⟩ | ⟨_, _, h3⟩
    · rw [FS.toSt_get, FS.toSt_get, h1, h3]
    · exact absurd h3 Bool.false_ne_true
  · obtain ⟨so', h3, h4⟩ := Tr.gK_inv h2
    have h5 : so.st = so'.st := Nat.eq_of_beq_eq_true h4
    have h6 := hl.old l so' h3 (by rw [← h5]; exact hi l so h1)
    rw [FS.toSt_get, FS.toSt_get, h3, h6]

end
end Go.VV
