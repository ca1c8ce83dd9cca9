/-
  DERIVED. GIVEN WITH THE SEED: THE CARDS: each row of YtopogglcnnjdlaaGreatDoorRows.lean that lists a variable, with what it lists TIED to the program's text (the seventh form; the later family's looks); each row that meets fmt, with fmt's text TOLD by the authors' own Lean function (tested against real Go, not proved from fmt's source: count such statements apart). THE CARD IS WHAT COUNTS. Prove the row's statement (the work); the ties are given (YtopogglcnnjdlaaGreatDoorTie.lean); close each card by the builder's one call (the guide's Derived/Test/ToyasCard.lean, 'card_holds'). Laid BY PROGRAM, IN A SANDBOX (cutbox-door.mjs). By AI agents, Wed Nov 11 2026. No macro, syntax, notation, axiom, sorry.
-/
import Derived.Test.YtopogglcnnjdlaaGreatDoorRows
import GoSem.ClaimSeven
namespace Go.Proofs.YtopogglcnnjdlaaGreatDoor
namespace Rows

/-- THE TIED CARD OF 'docketlaw13.AskChanges'. -/
def askChangesCard : Claim7 := { stood := { row := askChangesRow, standIns := [], harness := (true, "f845009177c931082638dd49fc41c698b0c9539e77db909619216138c295521f"), looks := true }, kinds := [], alts := [], laidByText := true, laidKinds := [.data, .data, .data, .data, .sentinel, .sentinel, .data, .data, .pinned, .pinned], laidTests := true, laidLooks := .later }
def AskChangesCardSaid : Prop := Claim7.holds Tryz.pinned (.plain (OpenSpec.ofChange askChangesSpec)) askChangesCard

/-- THE TIED CARD OF 'docketlaw17.MultiBuilds'. -/
def multiBuildsCard : Claim7 := { stood := { row := multiBuildsRow, standIns := [], harness := (true, "f845009177c931082638dd49fc41c698b0c9539e77db909619216138c295521f"), looks := true }, kinds := [], alts := [], laidByText := true, laidKinds := [.data, .data, .data, .data, .sentinel, .sentinel, .data, .data, .pinned, .pinned], laidTests := true, laidLooks := .later }
def MultiBuildsCardSaid : Prop := Claim7.holds Tryz.pinned (.plain (OpenSpec.ofChange multiBuildsSpec)) multiBuildsCard

/-- THE TIED CARD OF 'docketlaw17.MultiBack'. -/
def multiBackCard : Claim7 := { stood := { row := multiBackRow, standIns := [], harness := (true, "f845009177c931082638dd49fc41c698b0c9539e77db909619216138c295521f"), looks := true }, kinds := [], alts := [], laidByText := true, laidKinds := [.data, .data, .data, .data, .sentinel, .sentinel, .data, .data, .pinned, .pinned], laidTests := true, laidLooks := .later }
def MultiBackCardSaid : Prop := Claim7.holds Tryz.pinned (.plain (OpenSpec.ofChange multiBackSpec)) multiBackCard

/-- THE TIED CARD OF 'docketlaw17.MultiReads'. -/
def multiReadsCard : Claim7 := { stood := { row := multiReadsRow, standIns := [], harness := (true, "f845009177c931082638dd49fc41c698b0c9539e77db909619216138c295521f"), looks := true }, kinds := [], alts := [], laidByText := true, laidKinds := [.data, .data, .data, .data, .sentinel, .sentinel, .data, .data, .pinned, .pinned], laidTests := true, laidLooks := .later }
def MultiReadsCardSaid : Prop := Claim7.holds Tryz.pinned (.plain (OpenSpec.ofChange multiReadsSpec)) multiReadsCard

/-- THE TIED CARD OF 'docketlaw17.MultiJoin'. -/
def multiJoinCard : Claim7 := { stood := { row := multiJoinRow, standIns := [], harness := (true, "f845009177c931082638dd49fc41c698b0c9539e77db909619216138c295521f"), looks := true }, kinds := [], alts := [], laidByText := true, laidKinds := [.data, .data, .data, .data, .sentinel, .sentinel, .data, .data, .pinned, .pinned], laidTests := true, laidLooks := .later }
def MultiJoinCardSaid : Prop := Claim7.holds Tryz.pinned (.plain (OpenSpec.ofChange multiJoinSpec)) multiJoinCard

/-- THE TIED CARD OF 'docketlaw18.LivePatches'. -/
def livePatchesCard : Claim7 := { stood := { row := livePatchesRow, standIns := [], harness := (true, "f845009177c931082638dd49fc41c698b0c9539e77db909619216138c295521f"), looks := true }, kinds := [], alts := [], laidByText := true, laidKinds := [.data, .data, .data, .data, .sentinel, .sentinel, .data, .data, .pinned, .pinned], laidTests := true, laidLooks := .later }
def LivePatchesCardSaid : Prop := Claim7.holds Tryz.pinned (.plain (OpenSpec.ofChange livePatchesSpec)) livePatchesCard

/-- THE TIED CARD OF 'docketlaw18.LiveTwice'. -/
def liveTwiceCard : Claim7 := { stood := { row := liveTwiceRow, standIns := [], harness := (true, "f845009177c931082638dd49fc41c698b0c9539e77db909619216138c295521f"), looks := true }, kinds := [], alts := [], laidByText := true, laidKinds := [.data, .data, .data, .data, .sentinel, .sentinel, .data, .data, .pinned, .pinned], laidTests := true, laidLooks := .later }
def LiveTwiceCardSaid : Prop := Claim7.holds Tryz.pinned (.plain (OpenSpec.ofChange liveTwiceSpec)) liveTwiceCard

/-- THE TIED CARD OF 'docketlaw18.LiveNames'. -/
def liveNamesCard : Claim7 := { stood := { row := liveNamesRow, standIns := [], harness := (true, "f845009177c931082638dd49fc41c698b0c9539e77db909619216138c295521f"), looks := true }, kinds := [], alts := [], laidByText := true, laidKinds := [.data, .data, .data, .data, .sentinel, .sentinel, .data, .data, .pinned, .pinned], laidTests := true, laidLooks := .later }
def LiveNamesCardSaid : Prop := Claim7.holds Tryz.pinned (.plain (OpenSpec.ofChange liveNamesSpec)) liveNamesCard

/-- THE TIED CARD OF 'docketlaw18.LivePath'. -/
def livePathCard : Claim7 := { stood := { row := livePathRow, standIns := [], harness := (true, "f845009177c931082638dd49fc41c698b0c9539e77db909619216138c295521f"), looks := true }, kinds := [], alts := [], laidByText := true, laidKinds := [.data, .data, .data, .data, .sentinel, .sentinel, .data, .data, .pinned, .pinned], laidTests := true, laidLooks := .later }
def LivePathCardSaid : Prop := Claim7.holds Tryz.pinned (.plain (OpenSpec.ofChange livePathSpec)) livePathCard

/-- THE SECOND FORM's CARD OF 'docketlaw13.AskChanges'. -/
def askChangesUptoCard : Claim7 := { stood := { row := askChangesUptoRow, standIns := [], harness := (true, "f845009177c931082638dd49fc41c698b0c9539e77db909619216138c295521f"), looks := true }, kinds := [], alts := [], laidByText := true, laidKinds := [.data, .data, .data, .data, .sentinel, .sentinel, .data, .data, .pinned, .pinned], laidTests := true, laidLooks := .later }
def AskChangesUptoCardSaid : Prop := Claim7.holds Tryz.pinned (.plain (OpenSpec.upto askChangesSpec)) askChangesUptoCard

/-- THE SECOND FORM's CARD OF 'docketlaw17.MultiBuilds'. -/
def multiBuildsUptoCard : Claim7 := { stood := { row := multiBuildsUptoRow, standIns := [], harness := (true, "f845009177c931082638dd49fc41c698b0c9539e77db909619216138c295521f"), looks := true }, kinds := [], alts := [], laidByText := true, laidKinds := [.data, .data, .data, .data, .sentinel, .sentinel, .data, .data, .pinned, .pinned], laidTests := true, laidLooks := .later }
def MultiBuildsUptoCardSaid : Prop := Claim7.holds Tryz.pinned (.plain (OpenSpec.upto multiBuildsSpec)) multiBuildsUptoCard

/-- THE SECOND FORM's CARD OF 'docketlaw17.MultiBack'. -/
def multiBackUptoCard : Claim7 := { stood := { row := multiBackUptoRow, standIns := [], harness := (true, "f845009177c931082638dd49fc41c698b0c9539e77db909619216138c295521f"), looks := true }, kinds := [], alts := [], laidByText := true, laidKinds := [.data, .data, .data, .data, .sentinel, .sentinel, .data, .data, .pinned, .pinned], laidTests := true, laidLooks := .later }
def MultiBackUptoCardSaid : Prop := Claim7.holds Tryz.pinned (.plain (OpenSpec.upto multiBackSpec)) multiBackUptoCard

/-- THE SECOND FORM's CARD OF 'docketlaw17.MultiReads'. -/
def multiReadsUptoCard : Claim7 := { stood := { row := multiReadsUptoRow, standIns := [], harness := (true, "f845009177c931082638dd49fc41c698b0c9539e77db909619216138c295521f"), looks := true }, kinds := [], alts := [], laidByText := true, laidKinds := [.data, .data, .data, .data, .sentinel, .sentinel, .data, .data, .pinned, .pinned], laidTests := true, laidLooks := .later }
def MultiReadsUptoCardSaid : Prop := Claim7.holds Tryz.pinned (.plain (OpenSpec.upto multiReadsSpec)) multiReadsUptoCard

/-- THE SECOND FORM's CARD OF 'docketlaw17.MultiJoin'. -/
def multiJoinUptoCard : Claim7 := { stood := { row := multiJoinUptoRow, standIns := [], harness := (true, "f845009177c931082638dd49fc41c698b0c9539e77db909619216138c295521f"), looks := true }, kinds := [], alts := [], laidByText := true, laidKinds := [.data, .data, .data, .data, .sentinel, .sentinel, .data, .data, .pinned, .pinned], laidTests := true, laidLooks := .later }
def MultiJoinUptoCardSaid : Prop := Claim7.holds Tryz.pinned (.plain (OpenSpec.upto multiJoinSpec)) multiJoinUptoCard

/-- THE SECOND FORM's CARD OF 'docketlaw18.LivePatches'. -/
def livePatchesUptoCard : Claim7 := { stood := { row := livePatchesUptoRow, standIns := [], harness := (true, "f845009177c931082638dd49fc41c698b0c9539e77db909619216138c295521f"), looks := true }, kinds := [], alts := [], laidByText := true, laidKinds := [.data, .data, .data, .data, .sentinel, .sentinel, .data, .data, .pinned, .pinned], laidTests := true, laidLooks := .later }
def LivePatchesUptoCardSaid : Prop := Claim7.holds Tryz.pinned (.plain (OpenSpec.upto livePatchesSpec)) livePatchesUptoCard

/-- THE SECOND FORM's CARD OF 'docketlaw18.LiveTwice'. -/
def liveTwiceUptoCard : Claim7 := { stood := { row := liveTwiceUptoRow, standIns := [], harness := (true, "f845009177c931082638dd49fc41c698b0c9539e77db909619216138c295521f"), looks := true }, kinds := [], alts := [], laidByText := true, laidKinds := [.data, .data, .data, .data, .sentinel, .sentinel, .data, .data, .pinned, .pinned], laidTests := true, laidLooks := .later }
def LiveTwiceUptoCardSaid : Prop := Claim7.holds Tryz.pinned (.plain (OpenSpec.upto liveTwiceSpec)) liveTwiceUptoCard

/-- THE SECOND FORM's CARD OF 'docketlaw18.LiveNames'. -/
def liveNamesUptoCard : Claim7 := { stood := { row := liveNamesUptoRow, standIns := [], harness := (true, "f845009177c931082638dd49fc41c698b0c9539e77db909619216138c295521f"), looks := true }, kinds := [], alts := [], laidByText := true, laidKinds := [.data, .data, .data, .data, .sentinel, .sentinel, .data, .data, .pinned, .pinned], laidTests := true, laidLooks := .later }
def LiveNamesUptoCardSaid : Prop := Claim7.holds Tryz.pinned (.plain (OpenSpec.upto liveNamesSpec)) liveNamesUptoCard

/-- THE SECOND FORM's CARD OF 'docketlaw18.LivePath'. -/
def livePathUptoCard : Claim7 := { stood := { row := livePathUptoRow, standIns := [], harness := (true, "f845009177c931082638dd49fc41c698b0c9539e77db909619216138c295521f"), looks := true }, kinds := [], alts := [], laidByText := true, laidKinds := [.data, .data, .data, .data, .sentinel, .sentinel, .data, .data, .pinned, .pinned], laidTests := true, laidLooks := .later }
def LivePathUptoCardSaid : Prop := Claim7.holds Tryz.pinned (.plain (OpenSpec.upto livePathSpec)) livePathUptoCard
end Rows
end Go.Proofs.YtopogglcnnjdlaaGreatDoor
