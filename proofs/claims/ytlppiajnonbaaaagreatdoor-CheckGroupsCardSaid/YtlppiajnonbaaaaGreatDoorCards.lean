/-
  DERIVED. GIVEN WITH THE SEED: THE CARDS: each row of YtlppiajnonbaaaaGreatDoorRows.lean that lists a variable, with what it lists TIED to the program's text (the seventh form; the later family's looks); each row that meets fmt, with fmt's text TOLD by the authors' own Lean function (tested against real Go, not proved from fmt's source: count such statements apart). THE CARD IS WHAT COUNTS. Prove the row's statement (the work); the ties are given (YtlppiajnonbaaaaGreatDoorTie.lean); close each card by the builder's one call (the guide's Derived/Test/ToyasCard.lean, 'card_holds'). Laid BY PROGRAM, IN A SANDBOX (cutbox-door.mjs). By AI agents, Wed Nov 11 2026. No macro, syntax, notation, axiom, sorry.
-/
import Derived.Test.YtlppiajnonbaaaaGreatDoorRows
import GoSem.ClaimSeven
namespace Go.Proofs.YtlppiajnonbaaaaGreatDoor
namespace Rows

/-- THE TIED CARD OF 'frankpledgelaw19.CheckGroups'. -/
def checkGroupsCard : Claim7 := { stood := { row := checkGroupsRow, standIns := [], harness := (true, "78dd8ed46e9ac0c625f80d0ac7e9c71f4ad845e336f4e8242a0acb5cd6dfa008"), looks := true }, kinds := [], alts := [], laidByText := true, laidKinds := [.data, .data, .data, .data, .handle, .sentinel, .sentinel, .pinned, .pinned], laidTests := true, laidLooks := .later }
def CheckGroupsCardSaid : Prop := Claim7.holds Tryz.pinned (.plain (OpenSpec.ofChange checkGroupsSpec)) checkGroupsCard

/-- THE SECOND FORM's CARD OF 'frankpledgelaw19.CheckGroups'. -/
def checkGroupsUptoCard : Claim7 := { stood := { row := checkGroupsUptoRow, standIns := [], harness := (true, "78dd8ed46e9ac0c625f80d0ac7e9c71f4ad845e336f4e8242a0acb5cd6dfa008"), looks := true }, kinds := [], alts := [], laidByText := true, laidKinds := [.data, .data, .data, .data, .handle, .sentinel, .sentinel, .pinned, .pinned], laidTests := true, laidLooks := .later }
def CheckGroupsUptoCardSaid : Prop := Claim7.holds Tryz.pinned (.plain (OpenSpec.upto checkGroupsSpec)) checkGroupsUptoCard
end Rows
end Go.Proofs.YtlppiajnonbaaaaGreatDoor
