/- The fast machine's code: regions, blocks, loops, functions. -/
import Derived.Test.YtlppiajnonbaaaaGreatDoorFd
set_option linter.unusedVariables false
set_option linter.unusedSimpArgs false
namespace Go.VV
noncomputable section
variable {E : Env} {pol : Pol}

/-- An operation, turned into what the machine does. -/
def cCall (E : Env) (pol : Pol) (o : Oper) (c : Call) : KW := match c.callee with
  | .value (.func f) => cArgs E c.args.toList fun ws => match E.ext f with
    | some g => extK g ws
    | none => if E.en f then callK f ws else failK
  | .builtin .len => match c.args.toList, c.argTypes[0]? with
    | [y], some u => match E.ti u with
      | some T => match T.u with
        | .string => cX E y lenSK
        | .slice _ => cX E y lenVK
        | _ => genK E pol o
      | none => failK
    | _, _ => failK
  | .builtin .append => match c.args.toList, c.argTypes[0]?, c.argTypes[1]? with
    | [y, z], some t, some t' => match E.ti t, E.ti t' with
      | some T, some Z => match T.u with
        | .slice u => match Z.u with
          | .int _ => failK
          | _ => match E.ti u with
            | some F => if F.sz = 0 ∨ F.by_ = 0 then failK else cX E y fun y => cX E z fun z => appendK F y z
            | none => failK
        | _ => failK
      | _, _ => failK
    | _, _, _ => failK
  | _ => genK E pol o
theorem cCall_ok {o : Oper} {c : Call} (ho : o.op = .call c) : KOk E pol (cCall E pol o c) o := by
  unfold cCall
  split
  · rename_i f hc
    refine cArgs_ok fun ws hw => ?_
    split
    · rename_i g hg; exact extK_ok hw hg hc ho
    · rename_i hx
      split
      · rename_i he; exact callK_ok hw hx he hc ho
      · exact failK_ok
  · rename_i hc
    split
    · rename_i y u ha hu
      split
      · rename_i T hT
        split
        · rename_i hs; exact cX_ok fun w hw => lenSK_ok hw ha hu hT hs hc ho
        · rename_i v hs; exact cX_ok fun w hw => lenVK_ok hw ha hu hT hs hc ho
        · exact genK_ok o
      · exact failK_ok
    · exact failK_ok
  · rename_i hc
    split
    · rename_i y z t t' ha ht ht'
      split
      · rename_i T Z hT hZ
        split
        · rename_i u hTu
          split
          · exact failK_ok
          · rename_i hnot
            split
            · rename_i F hF
              split
              · exact failK_ok
              · rename_i hz
                exact cX_ok fun y hy => cX_ok fun z hz' => appendK_ok hy hz' ha ht ht' hZ (fun kd hk => hnot kd hk) hT hTu hF (fun h => hz (.inl h)) (fun h => hz (.inr h)) hc ho
            · exact failK_ok
        · exact failK_ok
      · exact failK_ok
    · exact failK_ok
  · exact genK_ok o

def cBin (E : Env) (pol : Pol) (o : Oper) (op : BinOp) (t : TypeId) (oy oz : Operand) : KW := match E.ti t with
  | some T => match T.u with
    | .int _ => match intW op with
      | some w => cX E oy fun y => cX E oz fun z => binIK (genK E pol o) w y z
      | none => genK E pol o
    | .string => match strW op with
      | some w => cX E oy fun y => cX E oz fun z => binSK (genK E pol o) w y z
      | none => genK E pol o
    | _ => match nilW T.u, op with
      | some w, .eql => if ifaceOk T.u (isC oy || isC oz) then cX E oy fun y => cX E oz fun z => binNK w false y z else failK
      | some w, .neq => if ifaceOk T.u (isC oy || isC oz) then cX E oy fun y => cX E oz fun z => binNK w true y z else failK
      | _, _ => genK E pol o
  | none => genK E pol o
theorem cBin_ok {o : Oper} {op : BinOp} {t t' : TypeId} {oy oz : Operand} (ho : o.op = .binOp op t oy oz t') : KOk E pol (cBin E pol o op t oy oz) o := by
  unfold cBin
  split
  · rename_i T hT
    split
    · split
      · rename_i w hw; exact cX_ok fun y hy => cX_ok fun z hz => binIK_ok (genK_ok o) hw hy hz ho
      · exact genK_ok o
    · split
      · rename_i w hw; exact cX_ok fun y hy => cX_ok fun z hz => binSK_ok (genK_ok o) hw hy hz ho
      · exact genK_ok o
    · split
      · rename_i w hw
        split
        · rename_i hif; exact cX_ok fun y hy => cX_ok fun z hz => binNK_ok (neg := false) hT hw hif hy hz ho
        · exact failK_ok
      · rename_i w hw
        split
        · rename_i hif; exact cX_ok fun y hy => cX_ok fun z hz => binNK_ok (neg := true) hT hw hif hy hz ho
        · exact failK_ok
      · exact genK_ok o
  · exact genK_ok o

def cSlice (E : Env) (pol : Pol) (o : Oper) (t : TypeId) (oy : Operand) (ol oh : Option Operand) : KW := match E.ti t with
  | some T => match T.u with
    | .string => cX E oy fun y => cNt E ol fun lo => cNt E oh fun hi => slSK y lo hi
    | .slice u => match E.ti u with
      | some F => cX E oy fun y => cNt E ol fun lo => cNt E oh fun hi => slVK (genK E pol o) F y lo hi
      | none => failK
    | _ => genK E pol o
  | none => failK
theorem cSlice_ok {o : Oper} {t : TypeId} {oy : Operand} {ol oh : Option Operand} (ho : o.op = .slice t oy ol oh none) : KOk E pol (cSlice E pol o t oy ol oh) o := by
  unfold cSlice
  split
  · rename_i T hT
    split
    · rename_i hu; exact cX_ok fun y hy => cNt_ok fun lo hl => cNt_ok fun hi hh => slSK_ok hy hl hh hT hu ho
    · rename_i u hu
      split
      · rename_i F hF; exact cX_ok fun y hy => cNt_ok fun lo hl => cNt_ok fun hi hh => slVK_ok (genK_ok o) hy hl hh hT hu hF ho
      · exact failK_ok
    · exact genK_ok o
  · exact failK_ok

def cBuild (E : Env) (pol : Pol) (o : Oper) (t : TypeId) (ps : Array (Nat × Operand)) : KW := match E.ti t with
  | some T => match T.u with
    | .struct fs => match placesOf E fs with
      | some pl => cParts E (fun k => pl[k]?) ps.toList fun b => buildK T.zero b
      | none => failK
    | _ => genK E pol o
  | none => failK
theorem cBuild_ok {o : Oper} {t : TypeId} {ps : Array (Nat × Operand)} (ho : o.op = .build t ps) : KOk E pol (cBuild E pol o t ps) o := by
  unfold cBuild
  split
  · rename_i T hT
    split
    · rename_i fs hu
      split
      · rename_i pl hp; exact cParts_ok fun b hb => buildK_ok hT hu hp hb ho
      · exact failK_ok
    · exact genK_ok o
  · exact failK_ok

def cLit (E : Env) (pol : Pol) (o : Oper) (t : TypeId) (n : Nat) (ps : Array (Nat × Operand)) : KW := match E.ti t with
  | some T => match T.u with
    | .slice u => match E.ti u with
      | some F => if F.sz = 0 ∨ n * F.sz > 2 ^ 24 then failK else if pol t then genK E pol o else cParts E (fun k => some (k * F.sz, F.sz)) ps.toList fun b => litK (repeatA F.zero n) n F.sz b
      | none => failK
    | _ => failK
  | none => failK
theorem cLit_ok {o : Oper} {t : TypeId} {n : Nat} {ps : Array (Nat × Operand)} (ho : o.op = .buildSlice t n ps) : KOk E pol (cLit E pol o t n ps) o := by
  unfold cLit
  split
  · rename_i T hT
    split
    · rename_i u hu
      split
      · rename_i F hF
        split
        · exact failK_ok
        · rename_i hz
          split
          · exact genK_ok o
          · rename_i hp; exact cParts_ok fun b hb => litK_ok hT hu hF hz (by simpa using hp) hb ho
      · exact failK_ok
    · exact failK_ok
  · exact failK_ok

def cIA (E : Env) (pol : Pol) (o : Oper) (t : TypeId) (oy oz : Operand) : KW := match E.ti t with
  | some T => match T.u with
    | .slice u => match E.ti u with
      | some F => cX E oy fun y => cX E oz fun z => iaK F y z
      | none => failK
    | _ => genK E pol o
  | none => failK
theorem cIA_ok {o : Oper} {t : TypeId} {oy oz : Operand} (ho : o.op = .indexAddr t oy oz) : KOk E pol (cIA E pol o t oy oz) o := by
  unfold cIA
  split
  · rename_i T hT
    split
    · rename_i u hu
      split
      · rename_i F hF; exact cX_ok fun y hy => cX_ok fun z hz => iaK_ok hT hu hF hy hz ho
      · exact failK_ok
    · exact genK_ok o
  · exact failK_ok

def cIx (E : Env) (pol : Pol) (o : Oper) (t : TypeId) (oy oz : Operand) : KW := match E.ti t with
  | some T => match T.u with
    | .string => cX E oy fun y => cX E oz fun z => ixK y z
    | _ => genK E pol o
  | none => failK
theorem cIx_ok {o : Oper} {t : TypeId} {oy oz : Operand} (ho : o.op = .index t oy oz) : KOk E pol (cIx E pol o t oy oz) o := by
  unfold cIx
  split
  · rename_i T hT
    split
    · rename_i hu; exact cX_ok fun y hy => cX_ok fun z hz => ixK_ok hT hu hy hz ho
    · exact genK_ok o
  · exact failK_ok

def cMu (E : Env) (t : TypeId) (oy oz ou : Operand) : KW := match E.ti t with
  | some T => match T.u with
    | .map kt _ => match E.ti kt with
      | some K => cX E oy fun y => cX E oz fun z => cX E ou fun u => muK K y z u
      | none => failK
    | _ => failK
  | none => failK
theorem cMu_ok {o : Oper} {t : TypeId} {oy oz ou : Operand} (ho : o.op = .mapUpdate t oy oz ou) : KOk E pol (cMu E t oy oz ou) o := by
  unfold cMu
  split
  · rename_i T hT
    split
    · rename_i kt et hu
      split
      · rename_i K hK; exact cX_ok fun y hy => cX_ok fun z hz => cX_ok fun u hu' => muK_ok hy hz hu' hT hu hK ho
      · exact failK_ok
    · exact failK_ok
  · exact failK_ok

def cConv (E : Env) (pol : Pol) (o : Oper) (a d : TypeId) (oy : Operand) : KW := match E.ti a, E.ti d with
  | some _, some D => match D.u with
    | .int kd => cX E oy fun y => cvK (genK E pol o) kd y
    | _ => genK E pol o
  | _, _ => failK
theorem cConv_ok {o : Oper} {a d : TypeId} {oy : Operand} (ho : o.op = .convert a d oy) : KOk E pol (cConv E pol o a d oy) o := by
  unfold cConv
  split
  · rename_i S D hS hD
    split
    · rename_i kd hu; exact cX_ok fun y hy => cvK_ok (genK_ok o) hS hD hu hy ho
    · exact genK_ok o
  · exact failK_ok

def cK (E : Env) (pol : Pol) (o : Oper) : KW := match o.op with
  | .move x => cX E x mvK
  | .assign x => cX E x mvK
  | .pick c y z => cX E c fun c => cX E y fun y => cX E z fun z => pickK c y z
  | .alloc t => match E.ti t with
    | some T => allocK T
    | none => failK
  | .box _ y => cX E y boxK
  | .build t ps => cBuild E pol o t ps
  | .buildSlice t n ps => cLit E pol o t n ps
  | .load t y => match E.ti t with
    | some T => cX E y fun y => loadK T y
    | none => failK
  | .store t y z => match E.ti t with
    | some T => cX E y fun y => cX E z fun z => storeK T y z
    | none => failK
  | .nilCheck y => cX E y fun y => ncK (genK E pol o) y
  | .binOp op t y z _ => cBin E pol o op t y z
  | .unOp .not _ y => cX E y fun y => notK (genK E pol o) y
  | .convert a d y => cConv E pol o a d y
  | .makeInterface t y => match E.ti t with
    | some T => if T.u.isI then failK else cX E y fun y => mkiK t y
    | none => failK
  | .slice t y lo hi none => cSlice E pol o t y lo hi
  | .fieldAddr t y k => match fieldAt? E t k with
    | some (off, F) => if F.sz = 0 then failK else cX E y fun y => faK off y
    | none => failK
  | .field t y k => match fieldAt? E t k with
    | some (off, F) => cX E y fun y => fdK off F y
    | none => failK
  | .indexAddr t y z => cIA E pol o t y z
  | .index t y z => cIx E pol o t y z
  | .extract y k => cX E y fun y => exK k y
  | .mapUpdate t y z u => cMu E t y z u
  | .call c => cCall E pol o c
  | _ => genK E pol o

theorem cK_ok (o : Oper) : KOk E pol (cK E pol o) o := by
  unfold cK
  split
  · rename_i x ho; exact cX_ok fun w hw => mvK_ok hw fun tm σ => by simp only [aOp, ho]
  · rename_i x ho; exact cX_ok fun w hw => mvK_ok hw fun tm σ => by simp only [aOp, ho]
  · rename_i c y z ho; exact cX_ok fun c hc => cX_ok fun y hy => cX_ok fun z hz => pickK_ok hc hy hz ho
  · rename_i t ho
    split
    · rename_i T hT; exact allocK_ok hT ho
    · exact failK_ok
  · rename_i t y ho; exact cX_ok fun w hw => boxK_ok hw ho
  · rename_i t ps ho; exact cBuild_ok ho
  · rename_i t n ps ho; exact cLit_ok ho
  · rename_i t y ho
    split
    · rename_i T hT; exact cX_ok fun w hw => loadK_ok hT hw ho
    · exact failK_ok
  · rename_i t y z ho
    split
    · rename_i T hT; exact cX_ok fun y hy => cX_ok fun z hz => storeK_ok hT hy hz ho
    · exact failK_ok
  · rename_i y ho; exact cX_ok fun w hw => ncK_ok (genK_ok o) hw ho
  · rename_i op t y z t' ho; exact cBin_ok ho
  · rename_i t y ho; exact cX_ok fun w hw => notK_ok (genK_ok o) hw ho
  · rename_i a d y ho; exact cConv_ok ho
  · rename_i t y ho
    split
    · rename_i T hT
      split
      · exact failK_ok
      · rename_i hu; exact cX_ok fun w hw => mkiK_ok hT (by simpa using hu) hw ho
    · exact failK_ok
  · rename_i t y lo hi ho; exact cSlice_ok ho
  · rename_i t y k ho
    split
    · rename_i off F hF
      split
      · exact failK_ok
      · rename_i hz; exact cX_ok fun w hw => faK_ok hF hz hw ho
    · exact failK_ok
  · rename_i t y k ho
    split
    · rename_i off F hF; exact cX_ok fun w hw => fdK_ok hF hw ho
    · exact failK_ok
  · rename_i t y z ho; exact cIA_ok ho
  · rename_i t y z ho; exact cIx_ok ho
  · rename_i y k ho; exact cX_ok fun w hw => exK_ok hw ho
  · rename_i t y z u ho; exact cMu_ok ho
  · rename_i c ho; exact cCall_ok ho
  · exact genK_ok o

/-! ### one operation -/
structure OW where run : CKF → En → FS → (Option Nat → En → FS → Bool) → Bool
structure DW where d : En → A → (En → Bool) → Bool
structure GdW where g : En → Bool → Bool → Bool
def failO : OW := ⟨fun _ _ _ _ => false⟩

def cDst (nt : Nat) (d : Option Tmp) (K : DW → OW) : OW := match d with
  | none => K ⟨fun e _ k => k e⟩
  | some d => if d < nt ∧ d < 512 then K ⟨fun e a k => (mkS d).s e a k⟩ else failO
def cGd (nt : Nat) (ops : Array Oper) (o : Oper) (K : GdW → OW) : OW := match o.guard with
  | none => K ⟨fun _ t _ => t⟩
  | some (j, want) => match (ops[j]?).bind (·.dst) with
    | some d => if d < nt ∧ d < 512 then K ⟨fun e t u => onB ((mkG d).g e) (fun c => Bool.rec (xB c u t) (xB c t u) want) u⟩ else failO
    | none => K ⟨fun _ _ u => u⟩
def cO (E : Env) (pol : Pol) (nt : Nat) (ops : Array Oper) (o : Oper) : OW := cDst nt o.dst fun d => cGd nt ops o fun g =>
  ⟨fun ck e s k => g.g e ((cK E pol o).run ck e s fun rd a s' => d.d e a fun e' => k rd e' s') (d.d e un fun e' => k none e' s)⟩

def OOk (E : Env) (pol : Pol) (nt : Nat) (ops : Array Oper) (w : OW) (o : Oper) : Prop := ∀ (ckF : CKF) (ck : CK), CkOk ckF ck → ∀ (e : En) (tm : Tm) (s : FS) (k : Option Nat → En → FS → Bool), Rep e tm → nt ≤ tm.nt → Iv s → w.run ckF e s k = true →
  ∃ rd e' tm' s', oneOp E pol ck ops o tm s.toSt = some (rd, tm', s'.toSt) ∧ Rep e' tm' ∧ tm'.nt = tm.nt ∧ Le s s' ∧ k rd e' s' = true

theorem failO_ok {nt : Nat} {ops : Array Oper} {o : Oper} : OOk E pol nt ops failO o := fun _ _ _ _ _ _ _ _ _ _ h => absurd h Bool.false_ne_true
theorem oneOp_step {ck : CK} {ops : Array Oper} {o : Oper} {tm : Tm} {σ : St} (hf : tm.fits o.dst = true) (hw : wantedA ops tm o = true) : oneOp E pol ck ops o tm σ = (aStep E pol ck tm σ o).map fun (rd, a, σ') => (rd, tm.put o.dst a, σ') := by
  unfold oneOp aStep
  rw [if_pos hf, if_pos hw]
  cases aOp E pol tm σ o with
  | none => rfl
  | some r =>
    cases r with
    | call f args => simp only [Option.bind_some, rStep]; cases ck f args σ <;> rfl
    | _ => rfl

def DOk (nt : Nat) (d : Option Tmp) (w : DW) : Prop := ∀ (e : En) (tm : Tm) (a : A) (k : En → Bool), Rep e tm → nt ≤ tm.nt → w.d e a k = true → tm.fits d = true ∧ (tm.put d a).nt = tm.nt ∧ ∃ e', Rep e' (tm.put d a) ∧ k e' = true
theorem cDst_ok {nt : Nat} {d : Option Tmp} {K : DW → OW} {ops : Array Oper} {o : Oper} (h : ∀ w, DOk nt d w → OOk E pol nt ops (K w) o) : OOk E pol nt ops (cDst nt d K) o := by
  unfold cDst
  split
  · exact h _ fun e tm a k hr _ hk => ⟨rfl, rfl, e, hr, hk⟩
  · rename_i d
    split
    · rename_i hd
      refine h _ fun e tm a k hr hn hk => ?_
      have hk : (mkS d).s e a k = true := hk
      rw [mkS_eq] at hk
      exact ⟨decide_eq_true (Nat.lt_of_lt_of_le hd.1 hn), rfl, _, hr.put hd.2 a, hk⟩
    · exact failO_ok
def GOk (nt : Nat) (ops : Array Oper) (o : Oper) (w : GdW) : Prop := ∀ (e : En) (tm : Tm) (t u : Bool), Rep e tm → nt ≤ tm.nt → w.g e t u = true → (wantedA ops tm o = true ∧ t = true) ∨ (wantedA ops tm o = false ∧ u = true)
theorem cGd_ok {nt : Nat} {K : GdW → OW} {ops : Array Oper} {o : Oper} (h : ∀ w, GOk nt ops o w → OOk E pol nt ops (K w) o) : OOk E pol nt ops (cGd nt ops o K) o := by
  unfold cGd
  split
  · rename_i hg
    exact h _ fun e tm t u _ _ ht => .inl ⟨by simp only [wantedA, hg], ht⟩
  · rename_i j want hg
    split
    · rename_i d hd
      split
      · rename_i hlt
        refine h _ fun e tm t u hr hn ht => ?_
        have ht : onB (e.get d) (fun c => Bool.rec (xB c u t) (xB c t u) want) u = true := ht
        rw [hr d hlt.2, onB_eq] at ht
        have hdn : decide (d < tm.nt) = true := decide_eq_true (Nat.lt_of_lt_of_le hlt.1 hn)
        split at ht
        · rename_i c hc
          simp only [wantedA, hg, hd, hdn, hc, Bool.true_and]
          cases want <;> cases c <;> simp [xB_eq] at ht <;> simp [ht]
        · rename_i hc
          right
          refine ⟨?_, ht⟩
          simp only [wantedA, hg, hd, hdn, Bool.true_and]
      · exact failO_ok
    · rename_i hd
      exact h _ fun e tm t u _ _ ht => .inr ⟨by simp only [wantedA, hg, hd], ht⟩

theorem cO_ok (nt : Nat) (ops : Array Oper) (o : Oper) : OOk E pol nt ops (cO E pol nt ops o) o := by
  refine cDst_ok fun d hd => cGd_ok fun g hg => ?_
  intro ckF ck hc e tm s k hr hn hi h
  rcases hg e tm _ _ hr hn h with ⟨hw, h⟩ | ⟨hw, h⟩
  · obtain ⟨rd, a, s', h1, h2, h3⟩ := cK_ok o ckF ck hc e tm s _ hr hi h
    obtain ⟨h4, h5, e', h6, h7⟩ := hd e tm a _ hr hn h3
    exact ⟨rd, e', _, s', by rw [oneOp_step h4 hw, h1]; rfl, h6, h5, h2, h7⟩
  · obtain ⟨h4, h5, e', h6, h7⟩ := hd e tm un _ hr hn h
    exact ⟨none, e', _, s, by unfold oneOp; rw [if_pos h4, if_neg (by simp [hw])], h6, h5, Le.refl s, h7⟩

end
end Go.VV
