/- CheckGroups: known functions; one closed case. -/
import Derived.Test.YtlppiajnonbaaaaGreatDoorBase
import Derived.Test.YtlppiajnonbaaaaGreatDoorFg
set_option linter.unusedVariables false
set_option linter.unusedSimpArgs false
namespace Go.Proofs.YtlppiajnonbaaaaGreatDoor
open Go Go.VV
noncomputable section
set_option maxRecDepth 1000000

def Fp1 : FuncId → Option PF := fun f => if f = 58 then some (asF 73 126) else none
theorem pf1 : PfOk F1 Fp1 := by
  intro f
  by_cases h : f = 58
  · subst h
    exact ⟨fun g hg => ⟨asP 73 126, rfl, by cases hg; exact fun args s k _ h => asF_ok 73 126 58 args s k h⟩, fun h => by cases h⟩
  · refine ⟨fun g hg => ?_, fun _ => ?_⟩
    · simp only [Fp1, if_neg h, reduceCtorEq] at hg
    · simp only [F1, if_neg h]

theorem alive_run : callF E (fun _ => false) F1 Fp1 1000 8 [] ⟨0, 0, .e⟩ (fun a _ => isB a) = true := by kernel_rfl
theorem alive_ev : ∃ σ, call E (fun _ => false) F1 1000 8 [] ⟨0, .e⟩ = some (.b true, σ) := by
  obtain ⟨a, σ, h1, h2⟩ := runF pf1 alive_run
  rw [isB_true h2] at h1
  exact ⟨σ, h1⟩

def F2 : Fns := { fn := fnTab.get, prim := fun k => if k = 58 then some (asP 73 126) else if k = 8 then some (closedP true) else none }
theorem f2Ok : FnsOk Tryz.prog 10 E F2 where
  fn := fun k f h => by simpa using Tr.allP_get fn_all h
  prim := fun k g h => by
    simp only [F2] at h
    split at h
    · rename_i hk
      subst hk
      simp only [Option.some.injEq] at h
      subst h
      exact as58
    · split at h
      · rename_i hk
        subst hk
        simp only [Option.some.injEq] at h
        subst h
        obtain ⟨σ, hσ⟩ := alive_ev
        exact closed_prim pureGl (sound1 1000) hσ
      · cases h
theorem sound2 (n : Nat) : Sound Tryz.prog 10 E (call E (fun _ => false) F2 n) := call_sound mixed envOk f2Ok n

def Fp2 : FuncId → Option PF := fun f => if f = 58 then some (asF 73 126) else if f = 8 then some (clF true) else none
theorem pf2 : PfOk F2 Fp2 := by
  intro f
  by_cases h : f = 58
  · subst h
    exact ⟨fun g hg => ⟨asP 73 126, rfl, by cases hg; exact fun args s k _ h => asF_ok 73 126 58 args s k h⟩, fun h => by cases h⟩
  · by_cases h' : f = 8
    · subst h'
      exact ⟨fun g hg => ⟨closedP true, rfl, by cases hg; exact fun args s k _ h => clF_ok true 8 args s k h⟩, fun h => by cases h⟩
    · refine ⟨fun g hg => ?_, fun _ => ?_⟩
      · simp only [Fp2, if_neg h, if_neg h', reduceCtorEq] at hg
      · simp only [F2, if_neg h, if_neg h']

/-- The law at i and at each of some j. -/
def caseOk (i j : Nat) : Bool := callF E (fun _ => false) F2 Fp2 1000 3 [.i .i64 (Int.ofNat i), .i .i64 (Int.ofNat j)] ⟨0, 0, .e⟩ (fun a _ => isB a)
def casesOk (i : Nat) (l : List Nat) : Bool := List.rec (motive := fun _ => Bool) true (fun j _ ih => xB (caseOk i j) ih false) l
theorem casesOk_mem {i j : Nat} : ∀ {l : List Nat}, casesOk i l = true → j ∈ l → caseOk i j = true
  | [], _, hj => absurd hj List.not_mem_nil
  | k :: l, h, hj => by
    obtain ⟨h1, h2⟩ := xB_and h
    rcases List.mem_cons.1 hj with rfl | hj
    · exact h1
    · exact casesOk_mem h2 hj
end
end Go.Proofs.YtlppiajnonbaaaaGreatDoor
