/-
  DERIVED. GIVEN WITH THE SEED: THE CARDS: each row of YtlcaelckplknnaaGreatDoorRows.lean that lists a variable, with what it lists TIED to the program's text (the seventh form; the later family's looks); each row that meets fmt, with fmt's text TOLD by the authors' own Lean function (tested against real Go, not proved from fmt's source: count such statements apart). THE CARD IS WHAT COUNTS. Prove the row's statement (the work); the ties are given (YtlcaelckplknnaaGreatDoorTie.lean); close each card by the builder's one call (the guide's Derived/Test/ToyasCard.lean, 'card_holds'). Laid BY PROGRAM, IN A SANDBOX (cutbox-door.mjs). By AI agents, Wed Nov 11 2026. No macro, syntax, notation, axiom, sorry.
-/
import Derived.Test.YtlcaelckplknnaaGreatDoorRows
import GoSem.ClaimSeven
namespace Go.Proofs.YtlcaelckplknnaaGreatDoor
namespace Rows

/-- THE TIED CARD OF 'tumbrellaw31.SchedNil'. -/
def schedNilCard : Claim7 := { stood := { row := schedNilRow, standIns := [], harness := (true, "59462c9d92d5e98250e2ca64217c16dbd22a6e292eed7c5d1dc6b9bf0e318d3f"), looks := true }, kinds := [], alts := [], laidByText := true, laidKinds := [.data], laidTests := true, laidLooks := .later }
def SchedNilCardSaid : Prop := Claim7.holds Tryz.pinned (.plain (OpenSpec.ofChange schedNilSpec)) schedNilCard

/-- THE SECOND FORM's CARD OF 'tumbrellaw31.SchedNil'. -/
def schedNilUptoCard : Claim7 := { stood := { row := schedNilUptoRow, standIns := [], harness := (true, "59462c9d92d5e98250e2ca64217c16dbd22a6e292eed7c5d1dc6b9bf0e318d3f"), looks := true }, kinds := [], alts := [], laidByText := true, laidKinds := [.data], laidTests := true, laidLooks := .later }
def SchedNilUptoCardSaid : Prop := Claim7.holds Tryz.pinned (.plain (OpenSpec.upto schedNilSpec)) schedNilUptoCard
end Rows
end Go.Proofs.YtlcaelckplknnaaGreatDoor
