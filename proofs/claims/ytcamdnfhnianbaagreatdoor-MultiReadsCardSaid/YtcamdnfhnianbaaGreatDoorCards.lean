/-
  DERIVED. GIVEN WITH THE SEED: THE CARDS: each row of YtcamdnfhnianbaaGreatDoorRows.lean that lists a variable, with what it lists TIED to the program's text (the seventh form; the later family's looks); each row that meets fmt, with fmt's text TOLD by the authors' own Lean function (tested against real Go, not proved from fmt's source: count such statements apart). THE CARD IS WHAT COUNTS. Prove the row's statement (the work); the ties are given (YtcamdnfhnianbaaGreatDoorTie.lean); close each card by the builder's one call (the guide's Derived/Test/ToyasCard.lean, 'card_holds'). Laid BY PROGRAM, IN A SANDBOX (cutbox-door.mjs). By AI agents, Wed Nov 11 2026. No macro, syntax, notation, axiom, sorry.
-/
import Derived.Test.YtcamdnfhnianbaaGreatDoorRows
import GoSem.ClaimSeven
namespace Go.Proofs.YtcamdnfhnianbaaGreatDoor
namespace Rows

/-- THE TIED CARD OF 'docketlaw17.MultiBuilds'. -/
def multiBuildsCard : Claim7 := { stood := { row := multiBuildsRow, standIns := [], harness := (true, "4263392656ec42fee97f15d8bc72b5c40f3c0bd8fea215c6ef8ca852602f6a1e"), looks := true }, kinds := [], alts := [], laidByText := true, laidKinds := [.data, .data, .data, .data, .sentinel, .sentinel, .data, .data, .pinned, .pinned], laidTests := true, laidLooks := .later }
def MultiBuildsCardSaid : Prop := Claim7.holds Tryz.pinned (.plain (OpenSpec.ofChange multiBuildsSpec)) multiBuildsCard

/-- THE TIED CARD OF 'docketlaw17.MultiBack'. -/
def multiBackCard : Claim7 := { stood := { row := multiBackRow, standIns := [], harness := (true, "4263392656ec42fee97f15d8bc72b5c40f3c0bd8fea215c6ef8ca852602f6a1e"), looks := true }, kinds := [], alts := [], laidByText := true, laidKinds := [.data, .data, .data, .data, .sentinel, .sentinel, .data, .data, .pinned, .pinned], laidTests := true, laidLooks := .later }
def MultiBackCardSaid : Prop := Claim7.holds Tryz.pinned (.plain (OpenSpec.ofChange multiBackSpec)) multiBackCard

/-- THE TIED CARD OF 'docketlaw17.MultiReads'. -/
def multiReadsCard : Claim7 := { stood := { row := multiReadsRow, standIns := [], harness := (true, "4263392656ec42fee97f15d8bc72b5c40f3c0bd8fea215c6ef8ca852602f6a1e"), looks := true }, kinds := [], alts := [], laidByText := true, laidKinds := [.data, .data, .data, .data, .sentinel, .sentinel, .data, .data, .pinned, .pinned], laidTests := true, laidLooks := .later }
def MultiReadsCardSaid : Prop := Claim7.holds Tryz.pinned (.plain (OpenSpec.ofChange multiReadsSpec)) multiReadsCard

/-- THE TIED CARD OF 'docketlaw17.MultiJoin'. -/
def multiJoinCard : Claim7 := { stood := { row := multiJoinRow, standIns := [], harness := (true, "4263392656ec42fee97f15d8bc72b5c40f3c0bd8fea215c6ef8ca852602f6a1e"), looks := true }, kinds := [], alts := [], laidByText := true, laidKinds := [.data, .data, .data, .data, .sentinel, .sentinel, .data, .data, .pinned, .pinned], laidTests := true, laidLooks := .later }
def MultiJoinCardSaid : Prop := Claim7.holds Tryz.pinned (.plain (OpenSpec.ofChange multiJoinSpec)) multiJoinCard

/-- THE SECOND FORM's CARD OF 'docketlaw17.MultiBuilds'. -/
def multiBuildsUptoCard : Claim7 := { stood := { row := multiBuildsUptoRow, standIns := [], harness := (true, "4263392656ec42fee97f15d8bc72b5c40f3c0bd8fea215c6ef8ca852602f6a1e"), looks := true }, kinds := [], alts := [], laidByText := true, laidKinds := [.data, .data, .data, .data, .sentinel, .sentinel, .data, .data, .pinned, .pinned], laidTests := true, laidLooks := .later }
def MultiBuildsUptoCardSaid : Prop := Claim7.holds Tryz.pinned (.plain (OpenSpec.upto multiBuildsSpec)) multiBuildsUptoCard

/-- THE SECOND FORM's CARD OF 'docketlaw17.MultiBack'. -/
def multiBackUptoCard : Claim7 := { stood := { row := multiBackUptoRow, standIns := [], harness := (true, "4263392656ec42fee97f15d8bc72b5c40f3c0bd8fea215c6ef8ca852602f6a1e"), looks := true }, kinds := [], alts := [], laidByText := true, laidKinds := [.data, .data, .data, .data, .sentinel, .sentinel, .data, .data, .pinned, .pinned], laidTests := true, laidLooks := .later }
def MultiBackUptoCardSaid : Prop := Claim7.holds Tryz.pinned (.plain (OpenSpec.upto multiBackSpec)) multiBackUptoCard

/-- THE SECOND FORM's CARD OF 'docketlaw17.MultiReads'. -/
def multiReadsUptoCard : Claim7 := { stood := { row := multiReadsUptoRow, standIns := [], harness := (true, "4263392656ec42fee97f15d8bc72b5c40f3c0bd8fea215c6ef8ca852602f6a1e"), looks := true }, kinds := [], alts := [], laidByText := true, laidKinds := [.data, .data, .data, .data, .sentinel, .sentinel, .data, .data, .pinned, .pinned], laidTests := true, laidLooks := .later }
def MultiReadsUptoCardSaid : Prop := Claim7.holds Tryz.pinned (.plain (OpenSpec.upto multiReadsSpec)) multiReadsUptoCard

/-- THE SECOND FORM's CARD OF 'docketlaw17.MultiJoin'. -/
def multiJoinUptoCard : Claim7 := { stood := { row := multiJoinUptoRow, standIns := [], harness := (true, "4263392656ec42fee97f15d8bc72b5c40f3c0bd8fea215c6ef8ca852602f6a1e"), looks := true }, kinds := [], alts := [], laidByText := true, laidKinds := [.data, .data, .data, .data, .sentinel, .sentinel, .data, .data, .pinned, .pinned], laidTests := true, laidLooks := .later }
def MultiJoinUptoCardSaid : Prop := Claim7.holds Tryz.pinned (.plain (OpenSpec.upto multiJoinSpec)) multiJoinUptoCard
end Rows
end Go.Proofs.YtcamdnfhnianbaaGreatDoor
