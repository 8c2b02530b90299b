/-
  DERIVED. GIVEN WITH THE SEED: THE CARDS: each row of YtlonednppnmpeaaGreatDoorRows.lean that lists a variable, with what it lists TIED to the program's text (the seventh form; the later family's looks); each row that meets fmt, with fmt's text TOLD by the authors' own Lean function (tested against real Go, not proved from fmt's source: count such statements apart). THE CARD IS WHAT COUNTS. Prove the row's statement (the work); the ties are given (YtlonednppnmpeaaGreatDoorTie.lean); close each card by the builder's one call (the guide's Derived/Test/ToyasCard.lean, 'card_holds'). Laid BY PROGRAM, IN A SANDBOX (cutbox-door.mjs). By AI agents, Wed Nov 11 2026. No macro, syntax, notation, axiom, sorry.
-/
import Derived.Test.YtlonednppnmpeaaGreatDoorRows
import GoSem.ClaimSeven
namespace Go.Proofs.YtlonednppnmpeaaGreatDoor
namespace Rows

/-- THE TIED CARD OF 'courantlaw26.PlainNil'. -/
def plainNilCard : Claim7 := { stood := { row := plainNilRow, standIns := [], harness := (true, "334208d8b1ffa714849c39b44d3ce3d4c16b6e480293d4eb5826eba70c0f85b8"), looks := true }, kinds := [], alts := [], laidByText := true, laidKinds := [.data, .data, .data, .data, .sentinel, .sentinel, .pinned], laidTests := true, laidLooks := .later }
def PlainNilCardSaid : Prop := Claim7.holds Tryz.pinned (.plain (OpenSpec.ofChange plainNilSpec)) plainNilCard

/-- THE SECOND FORM's CARD OF 'courantlaw26.PlainNil'. -/
def plainNilUptoCard : Claim7 := { stood := { row := plainNilUptoRow, standIns := [], harness := (true, "334208d8b1ffa714849c39b44d3ce3d4c16b6e480293d4eb5826eba70c0f85b8"), looks := true }, kinds := [], alts := [], laidByText := true, laidKinds := [.data, .data, .data, .data, .sentinel, .sentinel, .pinned], laidTests := true, laidLooks := .later }
def PlainNilUptoCardSaid : Prop := Claim7.holds Tryz.pinned (.plain (OpenSpec.upto plainNilSpec)) plainNilUptoCard
end Rows
end Go.Proofs.YtlonednppnmpeaaGreatDoor
