/-
  frankpledgelaw19.CheckGroups, called with any two ints, returns true and leaves what it was handed.
  Conditions: none beyond the row's own (the listed package-level variables hold what the program's text lays; the card ties them).
-/
import Derived.Test.YtlppiajnonbaaaaGreatDoorCgC
import Derived.Test.YtlppiajnonbaaaaGreatDoorCards
import Derived.Test.YtlppiajnonbaaaaGreatDoorTie
import Derived.WalkKit
import Derived.ProofKit
import Derived.OpenShut
import Derived.LaidHandle
import Derived.Lay
import Derived.Stop.Joined
import Derived.SevenTiedAt
set_option linter.unusedVariables false
set_option linter.unusedSimpArgs false
namespace Go.Proofs.YtlppiajnonbaaaaGreatDoor
open Go Go.VV Go.ChangeShapes Go.WideShapes Go.ChangeAt Go.RowKit
set_option maxRecDepth 100000

theorem own : ownKnob Tryz.prog.godebug = none := by kernel_rfl
theorem gEt : Tryz.prog.globalNamed "errors.errorType" = some 0 := by kernel_rfl
theorem tRt : (Tryz.prog.cutTypes.find? (·.1 == "internal/reflectlite.rtype")).map (·.2) = some 168 := by kernel_rfl
theorem oneRow : ((List.range Tryz.prog.types.size).filter fun t => Tryz.prog.rowNamed t [101, 114, 114, 111, 114]) = [44] := by kernel_rfl
theorem hdl : typeHandle Tryz.prog 44 = .pointer (some ⟨10, 44, none⟩) := by kernel_rfl
theorem laid_handles : (Rows.checkGroupsRow.laid.filter fun x => x.2.handleName?.isSome) = [("errors.errorType", Rows.laid_errors_errorType)] := by kernel_rfl

theorem handle_of_laid {W : World} (h : laidMetH Tryz.prog Rows.checkGroupsRow.laid W) : W.cell? ⟨0, 0, none⟩ = some (.iface 168 (.agg #[.pointer (some ⟨10, 44, none⟩)])) := by
  unfold laidMetH at h
  rw [laid_handles] at h
  obtain ⟨name, u, ty, e1, e2, e3, e4, e5⟩ := h.2 _ (List.mem_singleton.2 rfl)
  have en : name = [101, 114, 114, 111, 114] := (Option.some.inj e1).symm
  subst en
  obtain rfl := Option.some.inj (tRt.symm.trans e2)
  have hm : ty ∈ (List.range Tryz.prog.types.size).filter fun t => Tryz.prog.rowNamed t [101, 114, 114, 111, 114] := List.mem_filter.2 ⟨List.mem_range.2 e3, e4⟩
  rw [oneRow] at hm
  obtain rfl := List.mem_singleton.1 hm
  rw [hdl] at e5
  simpa using World.var?_cell gEt e5 0

theorem glOk {W : World} (h : W.cell? ⟨0, 0, none⟩ = some (.iface 168 (.agg #[.pointer (some ⟨10, 44, none⟩)]))) : GlOk 10 ⟨fun _ => none, fun _ => none, fun b => (rowSize W b).getD 0⟩ W E := by
  intro g cs hg
  simp only [E] at hg
  split at hg
  · rename_i hk
    subst hk
    simp only [Option.some.injEq] at hg
    subst hg
    rw [cell_eq] at h
    have hsz : 0 + [A.x 168 (.g [.h 44])].length ≤ (rowSize W 0).getD 0 := by
      unfold cell at h
      unfold rowSize
      split at h
      · rename_i c t f hc
        have := (Array.getElem?_eq_some_iff.1 h).1
        show 0 + 1 ≤ c.size
        omega
      · cases h
    refine Rel.q [.x 168 (.g [.h 44])] 0 0 0 (fun _ => .iface 168 (.agg #[.pointer (some ⟨10, 44, none⟩)])) (fun i a ha => ?_) (fun i a ha => ?_) (fun i a ha => ?_) hsz
    · match i, ha with
      | 0, _ => exact h
    · match i, ha with
      | 0, ha => cases ha; rfl
    · match i, ha with
      | 0, ha =>
        cases ha
        refine Rel.x _ _ _ (Rel.g _ _ rfl (fun i a ha => ?_) (fun i a v ha hv => ?_))
        · match i, ha with
          | 0, ha => cases ha; rfl
        · match i, ha, hv with
          | 0, ha, hv => cases ha; cases hv; exact Rel.h 44
  · cases hg

/-- What the machine says, of the program itself. -/
theorem law_calls (a b : Int) (ha : -9223372036854775808 ≤ a ∧ a ≤ 9223372036854775807) (hb : -9223372036854775808 ≤ b ∧ b ≤ 9223372036854775807) (W : World) (hL : laidMetH Tryz.prog Rows.checkGroupsRow.laid W) :
    Calls Tryz.prog 3 #[.int .i64 a, .int .i64 b] W fun e W' => e = .returned (.bool true) ∧ W.keptBut W' (fun _ => False) := by
  obtain ⟨σ, h⟩ := law_ev a b ha hb
  have := Go.VV.start (sound2 1000) h (w := W) (vs := [.int .i64 a, .int .i64 b]) (fun ρ => Rels.cons (.i _ _) (Rels.cons (.i _ _) Rels.nil)) (glOk (handle_of_laid hL)) rfl
  refine this.mono ?_
  rintro e W' ⟨v, rfl, hv, hk, _⟩
  refine ⟨?_, hk⟩
  have := hv ⟨fun _ => none, fun _ => none, fun _ => 0⟩ W
  cases this
  rfl

theorem contract (H : Type) (enc : TypeId × Value → H) (W : World) (base : Nat) (args : Array Value) (ds gs : List (DataW H)) (before : List MemPlace)
    (hval : ∀ (j : Nat) t v, Tryz.f3.params[j]? = some t → args[j]? = some v → Value.okWide Tryz.prog W .any base t v)
    (hW : DataW.Whole enc Tryz.prog Tryz.f3.params.toList Rows.checkGroupsSpec.vars false W args.toList ds gs before) (hL : laidMetH Tryz.prog Rows.checkGroupsRow.laid W) :
    Calls Tryz.prog 3 args W fun e W' => ∃ v, e = .returned v ∧ Rows.checkGroupsSpec.post enc Tryz.prog Tryz.f3 false true false false W args v W' := by
  have hW' := hW
  obtain ⟨p, q, hA0, hV, rfl, hfz, hnd⟩ := hW
  have hA : DataW.TrodAll enc Tryz.prog W 0 (fun _ => true) true Tryz.f3.params.toList args.toList ds p := hA0
  rw [Tryz.params3] at hA hval
  obtain ⟨v0, vs0, d0, ds0, p0, q0, hargs, rfl, rfl, h0, r0⟩ := trodAll_cons hA
  obtain ⟨v1, vs1, d1, ds1, p1, q1, rfl, rfl, rfl, h1, r1⟩ := trodAll_cons r0
  obtain ⟨rfl, rfl, rfl⟩ := trodAll_nil r1
  obtain rfl : args = #[v0, v1] := by cases args; simp_all
  obtain ⟨rfl, rfl⟩ := trodVars_none hV
  obtain ⟨a, rfl, rfl, rfl, wa⟩ := open_int Tryz.underlying3 (hval 0 3 v0 rfl rfl) h0
  obtain ⟨b, rfl, rfl, rfl, wb⟩ := open_int Tryz.underlying3 (hval 1 3 v1 rfl rfl) h1
  clear hA0
  simp only [List.append_nil] at hW'
  have ha : -9223372036854775808 ≤ a ∧ a ≤ 9223372036854775807 := by simpa [Lit.wf, IntKind.min, IntKind.max, IntKind.signed, IntKind.bits] using wa
  have hb : -9223372036854775808 ≤ b ∧ b ≤ 9223372036854775807 := by simpa [Lit.wf, IntKind.min, IntKind.max, IntKind.signed, IntKind.bits] using wb
  refine (law_calls a b ha hb W hL).mono fun e W' ⟨he, hk⟩ => ?_
  subst he
  refine ⟨_, rfl, _, _, _, [], [], [], hW', ?_, ?_, rfl, World.keptBut_mono (fun p hp => hp.elim) hk, fun h => by cases h⟩
  · exact trodAll_mk1 (shut_bool Tryz.underlying4 true)
  · exact trodAll_cons_mk (shut_int Tryz.underlying3 wa) (trodAll_mk1 (shut_int Tryz.underlying3 wb))

/-- The listed variables that are plain data. -/
def plainLaid : List (String × DataW Unit) := Rows.checkGroupsRow.laid.filter fun x => x.2.handleName?.isNone
/-- A world that meets the condition: the settled one, the handle laid by hand, the rest by the kit's function. -/
noncomputable def world0 (os : Os) : World :=
  { World.holding Tryz.prog os ⟨#[], #[], []⟩ with heap := (World.holding Tryz.prog os ⟨#[], #[], []⟩).heap.modify 0 fun
      | .cells _ t frozen => .cells #[.iface 168 (.agg #[.pointer (some ⟨10, 44, none⟩)])] t frozen
      | o => o }
noncomputable def laidWorld (os : Os) : World := (world0 os).layVars Tryz.prog plainLaid
theorem laidWorld_os (os : Os) : (laidWorld os).os = os := by unfold laidWorld; rw [World.layVars_os]; rfl
theorem laid_met (os : Os) (args : Array Value) : laidMetH Tryz.prog Rows.checkGroupsRow.laid ((laidWorld os).forCall (fun _ _ => 0) ⟨#[], args, []⟩).memory := by
  refine laidMetH_of_parts ?_ (by kernel_rfl)
  have e1 : (plainLaid.filter fun x => (plainLaid.map (·.1)).contains x.1) = plainLaid := List.filter_eq_self.2 fun x hx => List.contains_iff_mem.2 (List.mem_map.2 ⟨x, hx, rfl⟩)
  have e2 : (plainLaid.filter fun x => !(plainLaid.map (·.1)).contains x.1) = [] := List.filter_eq_nil_iff.2 fun x hx => by rw [List.contains_iff_mem.2 (List.mem_map.2 ⟨x, hx, rfl⟩)]; simp
  have h : laidMet Tryz.prog plainLaid (laidWorld os) := laidMet_layVars (w0 := world0 os) (plainLaid.map (·.1)) [] (by rw [e1]; rfl) (by rw [e1]; kernel_rfl) (by rw [e1]; kernel_rfl) (by rw [e2]; exact LaidIn.none)
  exact h.of_heap (by simp [World.memory, World.forCall, Input.heap])

theorem lifted (os : Os) (started : os.Started) (H : Type) (enc : TypeId × Value → H) :
    ReturnsInHanded {} Tryz.checked os 3 .any (fun w args => (Rows.checkGroupsSpec.pre enc Tryz.prog Tryz.f3 [] false w args ∧ laidMetH Tryz.prog Rows.checkGroupsRow.laid w) ∧ sizedMet enc Tryz.prog Tryz.f3 (OpenSpec.ofChange Rows.checkGroupsSpec) false w args)
      (Rows.checkGroupsSpec.post enc Tryz.prog Tryz.f3 false true false false) := by
  refine returnsInHanded_of_change_and (C := Tryz.checked) (X := fun w _ => laidMetH Tryz.prog Rows.checkGroupsRow.laid w) (fun _ _ _ hh h => h.of_heap hh) own started (by kernel_rfl) Tryz.func3
    (ChangeSpec.witness_shaped (enc := enc) (C := Tryz.checked) (os := os) (X := fun w _ => laidMetH Tryz.prog Rows.checkGroupsRow.laid w) false (laidWorld os) #[.int .i64 0, .int .i64 0] 8 (laidWorld_os os)
      (World.shaped_of_ZipB (by kernel_rfl) (by kernel_rfl)) (by kernel_rfl) (by kernel_rfl) (by kernel_rfl) (laid_met os _)) ?_
  intro W base args ds gs before hval hW _ _ hL _
  exact contract H enc W base args ds gs before hval hW hL

theorem said : Rows.CheckGroupsSaid :=
  OpenClaim.holds_of_wide 3 Tryz.f3 rfl rfl rfl rfl rfl rfl rfl ⟨rfl, rfl, rfl, rfl, rfl⟩ rfl rfl rfl rfl rfl (by kernel_rfl) Tryz.func3 (by kernel_rfl)
    (of_decide_eq_true (by kernel_rfl)) (by unfold Func.isWrapper; first | (rw [if_pos (by decide +kernel)]; kernel_rfl) | (rw [if_neg (by decide +kernel)]; exact ⟨rfl, rfl⟩))
    (fun os started H enc _ => lifted os started H enc)

theorem plain (f : FuncId) (fn : Func) (hf : Tryz.pinned.checked.prog.funcNamed "frankpledge/frankpledgelaw19.CheckGroups" = some f) (hfn : Tryz.pinned.checked.prog.funcs[f]? = some fn) :
    true = Tryz.pinned.checked.prog.looks [] ∧ ∀ (j : Nat) t, fn.params[j]? = some t → Tryz.pinned.checked.prog.wantsStandIn t = false := by
  obtain rfl : f = 3 := Option.some.inj ((show Tryz.prog.funcNamed "frankpledge/frankpledgelaw19.CheckGroups" = some 3 by kernel_rfl).symm.trans hf) |>.symm
  obtain rfl : fn = Tryz.f3 := (Option.some.inj (Tryz.func3.symm.trans hfn)).symm
  refine ⟨by kernel_rfl, fun j t ht => ?_⟩
  rw [Tryz.params3] at ht
  have hm : t ∈ [3, 3] := by simpa using Array.mem_of_getElem? ht
  have hall : ([3, 3].all fun u => !Tryz.prog.wantsStandIn u) = true := by kernel_rfl
  exact (show Tryz.prog.wantsStandIn t = false by simpa using List.all_eq_true.1 hall t hm)

theorem checkGroups_holds : Rows.CheckGroupsCardSaid :=
  Claim7.holds_tied_plain_at .later [] _ _ _ _ said (fun _ h => by cases h) (by kernel_rfl) (fun _ h => by cases h) checkGroups_row_tie rfl ⟨rfl, rfl⟩ (by kernel_rfl) rfl plain (by kernel_rfl)
#print axioms checkGroups_holds
end Go.Proofs.YtlppiajnonbaaaaGreatDoor
