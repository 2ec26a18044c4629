/- Known functions of the fast machine: errors.As at one pointer type; functions of no arguments that come to a truth. -/
import Derived.Test.YtlppiajnonbaaaaGreatDoorFf
import Derived.Test.YtlppiajnonbaaaaGreatDoorVy
set_option linter.unusedVariables false
set_option linter.unusedSimpArgs false
namespace Go.VV
noncomputable section

def asF (te tp : TypeId) : PF := fun args s k => List.rec (motive := fun _ => Bool) false (fun a l _ => List.rec (motive := fun _ => Bool) false (fun b l _ => List.rec (motive := fun _ => Bool)
  (clI a (k (.b false) s) (onX a (fun t v => onP v (fun l' o' => onX b (fun u w => onP w (fun l off => xB (Nat.beq t te) (xB (Nat.beq u tp) (rowF s l fun cs => putNK [.p l' o'] off cs fun cs' => wrF s l (.c cs') fun s' => k (.b true) s') false) false) false) false) false) false))
  (fun _ _ _ => false) l) l) args
theorem asF_ok (te tp : TypeId) (f : FuncId) (args : List A) (s : FS) (k : A → FS → Bool) (h : asF te tp args s k = true) : ∃ a s', asP te tp f args s.toSt = some (a, s'.toSt) ∧ Le s s' ∧ k a s' = true := by
  match args with
  | [] => exact absurd h Bool.false_ne_true
  | [a] => exact absurd h Bool.false_ne_true
  | a :: b :: c :: l => exact absurd h Bool.false_ne_true
  | [a, b] =>
    have h : clI a (k (.b false) s) (onX a (fun t v => onP v (fun l' o' => onX b (fun u w => onP w (fun l off => xB (Nat.beq t te) (xB (Nat.beq u tp) (rowF s l fun cs => putNK [.p l' o'] off cs fun cs' => wrF s l (.c cs') fun s' => k (.b true) s') false) false) false) false) false) false) = true := h
    rcases clI_inv h with ⟨ha, h1⟩ | ⟨_, h1⟩
    · subst ha; exact ⟨.b false, s, rfl, Le.refl s, h1⟩
    · obtain ⟨t, v, ha, h2⟩ := onX_inv h1
      obtain ⟨l', o', hv, h3⟩ := onP_inv h2
      obtain ⟨u, w, hb, h4⟩ := onX_inv h3
      obtain ⟨l, off, hw, h5⟩ := onP_inv h4
      obtain ⟨h6, h7⟩ := xB_and h5
      obtain ⟨h8, h9⟩ := xB_and h7
      obtain ⟨cs, h10, h11⟩ := rowF_inv h9
      obtain ⟨cs', h12, h13⟩ := putNK_inv h11
      rw [wrF_eq] at h13
      refine ⟨.b true, s.wr l (.c cs'), ?_, FS.le_wr s l _, h13⟩
      rw [ha, hv, hb, hw]
      simp only [asP]
      rw [if_pos ⟨Nat.eq_of_beq_eq_true h6, Nat.eq_of_beq_eq_true h8⟩, h10]
      simp only [h12, Option.bind_some, St.setK_eq, FS.toSt_wr]

def clF (b : Bool) : PF := fun args s k => List.rec (motive := fun _ => Bool) (k (.b b) s) (fun _ _ _ => false) args
theorem clF_ok (b : Bool) (f : FuncId) (args : List A) (s : FS) (k : A → FS → Bool) (h : clF b args s k = true) : ∃ a s', closedP b f args s.toSt = some (a, s'.toSt) ∧ Le s s' ∧ k a s' = true := by
  match args with
  | [] => exact ⟨.b b, s, rfl, Le.refl s, h⟩
  | a :: l => exact absurd h Bool.false_ne_true

/-- A truth. -/
def isB (a : A) : Bool := onB a (fun b => b) false
theorem isB_true {a : A} (h : isB a = true) : a = .b true := by
  obtain ⟨b, ha, hb⟩ := onB_inv h
  rw [ha, hb]
end
end Go.VV
