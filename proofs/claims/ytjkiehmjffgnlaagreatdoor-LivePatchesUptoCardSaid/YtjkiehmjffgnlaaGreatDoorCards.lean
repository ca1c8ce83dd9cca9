/-
  DERIVED. GIVEN WITH THE SEED: THE CARDS: each row of YtjkiehmjffgnlaaGreatDoorRows.lean that lists a variable, with what it lists TIED to the program's text (the seventh form; the later family's looks); each row that meets fmt, with fmt's text TOLD by the authors' own Lean function (tested against real Go, not proved from fmt's source: count such statements apart). THE CARD IS WHAT COUNTS. Prove the row's statement (the work); the ties are given (YtjkiehmjffgnlaaGreatDoorTie.lean); close each card by the builder's one call (the guide's Derived/Test/ToyasCard.lean, 'card_holds'). Laid BY PROGRAM, IN A SANDBOX (cutbox-door.mjs). By AI agents, Wed Nov 11 2026. No macro, syntax, notation, axiom, sorry.
-/
import Derived.Test.YtjkiehmjffgnlaaGreatDoorRows
import GoSem.ClaimSeven
namespace Go.Proofs.YtjkiehmjffgnlaaGreatDoor
namespace Rows

/-- THE TIED CARD OF 'docketlaw18.LivePatches'. -/
def livePatchesCard : Claim7 := { stood := { row := livePatchesRow, standIns := [], harness := (true, "44f59b9a5bf4c552a16ba7d68636864c90d834f24e56ad9e495c3ce12d2389c5"), looks := true }, kinds := [], alts := [], laidByText := true, laidKinds := [.data, .data, .data, .data, .sentinel, .sentinel, .data, .data, .pinned, .pinned], laidTests := true, laidLooks := .later }
def LivePatchesCardSaid : Prop := Claim7.holds Tryz.pinned (.plain (OpenSpec.ofChange livePatchesSpec)) livePatchesCard

/-- THE TIED CARD OF 'docketlaw18.LiveTwice'. -/
def liveTwiceCard : Claim7 := { stood := { row := liveTwiceRow, standIns := [], harness := (true, "44f59b9a5bf4c552a16ba7d68636864c90d834f24e56ad9e495c3ce12d2389c5"), looks := true }, kinds := [], alts := [], laidByText := true, laidKinds := [.data, .data, .data, .data, .sentinel, .sentinel, .data, .data, .pinned, .pinned], laidTests := true, laidLooks := .later }
def LiveTwiceCardSaid : Prop := Claim7.holds Tryz.pinned (.plain (OpenSpec.ofChange liveTwiceSpec)) liveTwiceCard

/-- THE TIED CARD OF 'docketlaw18.LiveNames'. -/
def liveNamesCard : Claim7 := { stood := { row := liveNamesRow, standIns := [], harness := (true, "44f59b9a5bf4c552a16ba7d68636864c90d834f24e56ad9e495c3ce12d2389c5"), looks := true }, kinds := [], alts := [], laidByText := true, laidKinds := [.data, .data, .data, .data, .sentinel, .sentinel, .data, .data, .pinned, .pinned], laidTests := true, laidLooks := .later }
def LiveNamesCardSaid : Prop := Claim7.holds Tryz.pinned (.plain (OpenSpec.ofChange liveNamesSpec)) liveNamesCard

/-- THE TIED CARD OF 'docketlaw18.LivePath'. -/
def livePathCard : Claim7 := { stood := { row := livePathRow, standIns := [], harness := (true, "44f59b9a5bf4c552a16ba7d68636864c90d834f24e56ad9e495c3ce12d2389c5"), looks := true }, kinds := [], alts := [], laidByText := true, laidKinds := [.data, .data, .data, .data, .sentinel, .sentinel, .data, .data, .pinned, .pinned], laidTests := true, laidLooks := .later }
def LivePathCardSaid : Prop := Claim7.holds Tryz.pinned (.plain (OpenSpec.ofChange livePathSpec)) livePathCard

/-- THE SECOND FORM's CARD OF 'docketlaw18.LivePatches'. -/
def livePatchesUptoCard : Claim7 := { stood := { row := livePatchesUptoRow, standIns := [], harness := (true, "44f59b9a5bf4c552a16ba7d68636864c90d834f24e56ad9e495c3ce12d2389c5"), looks := true }, kinds := [], alts := [], laidByText := true, laidKinds := [.data, .data, .data, .data, .sentinel, .sentinel, .data, .data, .pinned, .pinned], laidTests := true, laidLooks := .later }
def LivePatchesUptoCardSaid : Prop := Claim7.holds Tryz.pinned (.plain (OpenSpec.upto livePatchesSpec)) livePatchesUptoCard

/-- THE SECOND FORM's CARD OF 'docketlaw18.LiveTwice'. -/
def liveTwiceUptoCard : Claim7 := { stood := { row := liveTwiceUptoRow, standIns := [], harness := (true, "44f59b9a5bf4c552a16ba7d68636864c90d834f24e56ad9e495c3ce12d2389c5"), looks := true }, kinds := [], alts := [], laidByText := true, laidKinds := [.data, .data, .data, .data, .sentinel, .sentinel, .data, .data, .pinned, .pinned], laidTests := true, laidLooks := .later }
def LiveTwiceUptoCardSaid : Prop := Claim7.holds Tryz.pinned (.plain (OpenSpec.upto liveTwiceSpec)) liveTwiceUptoCard

/-- THE SECOND FORM's CARD OF 'docketlaw18.LiveNames'. -/
def liveNamesUptoCard : Claim7 := { stood := { row := liveNamesUptoRow, standIns := [], harness := (true, "44f59b9a5bf4c552a16ba7d68636864c90d834f24e56ad9e495c3ce12d2389c5"), looks := true }, kinds := [], alts := [], laidByText := true, laidKinds := [.data, .data, .data, .data, .sentinel, .sentinel, .data, .data, .pinned, .pinned], laidTests := true, laidLooks := .later }
def LiveNamesUptoCardSaid : Prop := Claim7.holds Tryz.pinned (.plain (OpenSpec.upto liveNamesSpec)) liveNamesUptoCard

/-- THE SECOND FORM's CARD OF 'docketlaw18.LivePath'. -/
def livePathUptoCard : Claim7 := { stood := { row := livePathUptoRow, standIns := [], harness := (true, "44f59b9a5bf4c552a16ba7d68636864c90d834f24e56ad9e495c3ce12d2389c5"), looks := true }, kinds := [], alts := [], laidByText := true, laidKinds := [.data, .data, .data, .data, .sentinel, .sentinel, .data, .data, .pinned, .pinned], laidTests := true, laidLooks := .later }
def LivePathUptoCardSaid : Prop := Claim7.holds Tryz.pinned (.plain (OpenSpec.upto livePathSpec)) livePathUptoCard
end Rows
end Go.Proofs.YtjkiehmjffgnlaaGreatDoor
