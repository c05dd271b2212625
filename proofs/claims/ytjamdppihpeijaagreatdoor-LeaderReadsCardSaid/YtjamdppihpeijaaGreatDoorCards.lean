/-
  DERIVED. GIVEN WITH THE SEED: THE CARDS: each row of YtjamdppihpeijaaGreatDoorRows.lean that lists a variable, with what it lists TIED to the program's text (the seventh form; the later family's looks); each row that meets fmt, with fmt's text TOLD by the authors' own Lean function (tested against real Go, not proved from fmt's source: count such statements apart). THE CARD IS WHAT COUNTS. Prove the row's statement (the work); the ties are given (YtjamdppihpeijaaGreatDoorTie.lean); close each card by the builder's one call (the guide's Derived/Test/ToyasCard.lean, 'card_holds'). Laid BY PROGRAM, IN A SANDBOX (cutbox-door.mjs). By AI agents, Wed Nov 11 2026. No macro, syntax, notation, axiom, sorry.
-/
import Derived.Test.YtjamdppihpeijaaGreatDoorRows
import GoSem.ClaimSeven
namespace Go.Proofs.YtjamdppihpeijaaGreatDoor
namespace Rows

/-- THE TIED CARD OF 'azalailaw10.LeaderReads'. -/
def leaderReadsCard : Claim7 := { stood := { row := leaderReadsRow, standIns := [], harness := (true, "90bbfdc3bed319a4f55e18a3f10080a4b84c64d32c3148c90e6115826548f38c"), looks := true }, kinds := [], alts := [], laidByText := true, laidKinds := [.data, .data, .data, .data, .sentinel, .sentinel, .data, .pinned], laidTests := true, laidLooks := .later }
def LeaderReadsCardSaid : Prop := Claim7.holds Tryz.pinned (.plain (OpenSpec.ofChange leaderReadsSpec)) leaderReadsCard

/-- THE SECOND FORM's CARD OF 'azalailaw10.LeaderReads'. -/
def leaderReadsUptoCard : Claim7 := { stood := { row := leaderReadsUptoRow, standIns := [], harness := (true, "90bbfdc3bed319a4f55e18a3f10080a4b84c64d32c3148c90e6115826548f38c"), looks := true }, kinds := [], alts := [], laidByText := true, laidKinds := [.data, .data, .data, .data, .sentinel, .sentinel, .data, .pinned], laidTests := true, laidLooks := .later }
def LeaderReadsUptoCardSaid : Prop := Claim7.holds Tryz.pinned (.plain (OpenSpec.upto leaderReadsSpec)) leaderReadsUptoCard
end Rows
end Go.Proofs.YtjamdppihpeijaaGreatDoor
