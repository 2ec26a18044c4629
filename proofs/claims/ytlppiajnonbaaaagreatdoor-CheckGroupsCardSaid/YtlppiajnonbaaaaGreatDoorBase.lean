/- The seat's environment, its functions, and that both are so. Numbers put by hand per seat: globals 10, types 73 126 44 168 145, functions 58 160. -/
import Derived.Test.YtlppiajnonbaaaaGreatDoorTab
import Derived.Test.YtlppiajnonbaaaaGreatDoorAs
import Derived.Test.YtlppiajnonbaaaaGreatDoorVy
import Derived.KernelRfl
set_option linter.unusedVariables false
set_option linter.unusedSimpArgs false
namespace Go.Proofs.YtlppiajnonbaaaaGreatDoor
open Go Go.VV
set_option maxRecDepth 100000

def E : Env := { ti := tiTab.get, gl := fun g => if g = 0 then some [.x 168 (.g [.h 44])] else none, en := fun k => (enTab.get k).isSome, ext := fun k => if k = 160 then some ibE else none }

theorem envOk : EnvOk Tryz.prog E where
  ti := tab_ok ti_all
  en := en_ok en_all
  ext := by
    intro k g h
    simp only [E] at h
    split at h
    · rename_i hk
      subst hk
      simp only [Option.some.injEq] at h
      subst h
      exact ib_ext Tryz.func160 (by kernel_rfl) (by kernel_rfl) (by kernel_rfl) (by kernel_rfl)
    · cases h

theorem mixed : Tryz.prog.follows .mixedOrders = true := by kernel_rfl

def more (e t : Addr) (w : World) : World := (((w.alloc (.cells #[.pointer (some t)] 126)).alloc (.cells #[.pointer (some ⟨10, 126, none⟩), .pointer (some ⟨w.heap.size, 0, none⟩), .int .u64 150] 145)).alloc (.cells #[.pointer (some ⟨10, 126, none⟩), .pointer (some ⟨w.heap.size, 0, none⟩), .int .u64 150] 145)).alloc (.cells #[.pointer (some e)] 73)

theorem more_ok (e t : Addr) (w : World) : Still w (more e t w) ∧ ∀ b, b < w.heap.size → (more e t w).heap[b]? = w.heap[b]? := by
  refine ⟨⟨rfl, rfl, rfl, ?_⟩, fun b hb => ?_⟩
  · simp only [more, World.alloc, Array.size_push]; omega
  · simp only [more, World.alloc]
    rw [Array.getElem?_push_lt (by simp; omega), Array.getElem_push_lt (by simp; omega), Array.getElem_push_lt (by simp; omega), Array.getElem_push_lt (by omega), Array.getElem?_eq_getElem hb]

theorem gval_eq {ρ : Gh} {w : World} {v : Value} (h : Rel 10 ρ w (.x 168 (.g [.h 44])) v) : v = .iface 168 (.agg #[.pointer (some ⟨10, 44, none⟩)]) := by
  cases h with
  | x _ _ u h =>
    cases h with
    | g _ vs hl _ r =>
      obtain ⟨l⟩ := vs
      match l, hl with
      | [y], _ =>
        have := r 0 _ y rfl rfl
        cases this
        rfl

theorem as58 : ∀ args σ r σ', asP 73 126 58 args σ = some (r, σ') → Ord σ σ' ∧ ∀ ρ w vs, Wf σ → Sim 10 E ρ σ.get w → Free ρ σ.nx σ'.nx → Rels 10 ρ w args vs →
    Calls Tryz.prog 58 vs.toArray w fun e w' => ∃ v ρ', e = .returned v ∧ Rel 10 ρ' w' r v ∧ Post 10 E ρ σ w ρ' σ' w' :=
  as_prim (g := 0) (gv := .x 168 (.g [.h 44])) as_nil rfl more_ok fun ρ e t old gval w hr hg ht hf => by
    rw [gval_eq hr] at hg
    exact as_hit e t old w hg ht hf

noncomputable def F1 : Fns := { fn := fnTab.get, prim := fun k => if k = 58 then some (asP 73 126) else none }

theorem f1Ok : FnsOk Tryz.prog 10 E F1 where
  fn := fun k f h => by simpa using Tr.allP_get fn_all h
  prim := fun k g h => by
    simp only [F1] at h
    split at h
    · rename_i hk
      subst hk
      simp only [Option.some.injEq] at h
      subst h
      exact as58
    · cases h

theorem sound1 (n : Nat) : Sound Tryz.prog 10 E (call E (fun _ => false) F1 n) := call_sound mixed envOk f1Ok n

theorem pureGl : PureGl E := fun g cs h => by
  simp only [E] at h
  split at h
  · simp only [Option.some.injEq] at h; subst h; rfl
  · cases h

/-- It comes to true. -/
def isT : Option (A × St) → Bool
  | some (.b true, _) => true
  | _ => false
theorem isT_spec {x : Option (A × St)} (h : isT x = true) : ∃ σ, x = some (.b true, σ) := by
  unfold isT at h
  split at h
  · exact ⟨_, rfl⟩
  · cases h
end Go.Proofs.YtlppiajnonbaaaaGreatDoor
