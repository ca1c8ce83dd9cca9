/-
  DERIVED. GIVEN WITH THE SEED: THE CARDS: each row of YtkmpilnjhlnmfaaGreatDoorRows.lean that lists a variable, with what it lists TIED to the program's text (the seventh form; the later family's looks); each row that meets fmt, with fmt's text TOLD by the authors' own Lean function (tested against real Go, not proved from fmt's source: count such statements apart). THE CARD IS WHAT COUNTS. Prove the row's statement (the work); the ties are given (YtkmpilnjhlnmfaaGreatDoorTie.lean); close each card by the builder's one call (the guide's Derived/Test/ToyasCard.lean, 'card_holds'). Laid BY PROGRAM, IN A SANDBOX (cutbox-door.mjs). By AI agents, Wed Nov 11 2026. No macro, syntax, notation, axiom, sorry.
-/
import Derived.Test.YtkmpilnjhlnmfaaGreatDoorRows
import GoSem.ClaimSeven
namespace Go.Proofs.YtkmpilnjhlnmfaaGreatDoor
namespace Rows

/-- THE TIED CARD OF 'docketlaw10.XmlNests'. -/
def xmlNestsCard : Claim7 := { stood := { row := xmlNestsRow, standIns := [], harness := (true, "725f2e6bd06a72b3b4128b987740385472b9b7b7317083fc95ba73786effd901"), looks := true }, kinds := [], alts := [], laidByText := true, laidKinds := [.data, .data, .data, .data, .sentinel, .sentinel, .data, .data, .pinned, .pinned], laidTests := true, laidLooks := .later }
def XmlNestsCardSaid : Prop := Claim7.holds Tryz.pinned (.plain (OpenSpec.ofChange xmlNestsSpec)) xmlNestsCard

/-- THE TIED CARD OF 'docketlaw10.XmlNoise'. -/
def xmlNoiseCard : Claim7 := { stood := { row := xmlNoiseRow, standIns := [], harness := (true, "725f2e6bd06a72b3b4128b987740385472b9b7b7317083fc95ba73786effd901"), looks := true }, kinds := [], alts := [], laidByText := true, laidKinds := [.data, .data, .data, .data, .sentinel, .sentinel, .data, .data, .pinned, .pinned], laidTests := true, laidLooks := .later }
def XmlNoiseCardSaid : Prop := Claim7.holds Tryz.pinned (.plain (OpenSpec.ofChange xmlNoiseSpec)) xmlNoiseCard

/-- THE TIED CARD OF 'docketlaw10.XmlText'. -/
def xmlTextCard : Claim7 := { stood := { row := xmlTextRow, standIns := [], harness := (true, "725f2e6bd06a72b3b4128b987740385472b9b7b7317083fc95ba73786effd901"), looks := true }, kinds := [], alts := [], laidByText := true, laidKinds := [.data, .data, .data, .data, .sentinel, .sentinel, .data, .data, .pinned, .pinned], laidTests := true, laidLooks := .later }
def XmlTextCardSaid : Prop := Claim7.holds Tryz.pinned (.plain (OpenSpec.ofChange xmlTextSpec)) xmlTextCard

/-- THE TIED CARD OF 'docketlaw10.XmlPrefix'. -/
def xmlPrefixCard : Claim7 := { stood := { row := xmlPrefixRow, standIns := [], harness := (true, "725f2e6bd06a72b3b4128b987740385472b9b7b7317083fc95ba73786effd901"), looks := true }, kinds := [], alts := [], laidByText := true, laidKinds := [.data, .data, .data, .data, .sentinel, .sentinel, .data, .data, .pinned, .pinned], laidTests := true, laidLooks := .later }
def XmlPrefixCardSaid : Prop := Claim7.holds Tryz.pinned (.plain (OpenSpec.ofChange xmlPrefixSpec)) xmlPrefixCard

/-- THE TIED CARD OF 'docketlaw13.AskChanges'. -/
def askChangesCard : Claim7 := { stood := { row := askChangesRow, standIns := [], harness := (true, "725f2e6bd06a72b3b4128b987740385472b9b7b7317083fc95ba73786effd901"), looks := true }, kinds := [], alts := [], laidByText := true, laidKinds := [.data, .data, .data, .data, .sentinel, .sentinel, .data, .data, .pinned, .pinned], laidTests := true, laidLooks := .later }
def AskChangesCardSaid : Prop := Claim7.holds Tryz.pinned (.plain (OpenSpec.ofChange askChangesSpec)) askChangesCard

/-- THE TIED CARD OF 'docketlaw13.AskFinds'. -/
def askFindsCard : Claim7 := { stood := { row := askFindsRow, standIns := [], harness := (true, "725f2e6bd06a72b3b4128b987740385472b9b7b7317083fc95ba73786effd901"), looks := true }, kinds := [], alts := [], laidByText := true, laidKinds := [.data, .data, .data, .data, .sentinel, .sentinel, .data, .data, .pinned, .pinned], laidTests := true, laidLooks := .later }
def AskFindsCardSaid : Prop := Claim7.holds Tryz.pinned (.plain (OpenSpec.ofChange askFindsSpec)) askFindsCard

/-- THE TIED CARD OF 'docketlaw13.AskLocks'. -/
def askLocksCard : Claim7 := { stood := { row := askLocksRow, standIns := [], harness := (true, "725f2e6bd06a72b3b4128b987740385472b9b7b7317083fc95ba73786effd901"), looks := true }, kinds := [], alts := [], laidByText := true, laidKinds := [.data, .data, .data, .data, .sentinel, .sentinel, .data, .data, .pinned, .pinned], laidTests := true, laidLooks := .later }
def AskLocksCardSaid : Prop := Claim7.holds Tryz.pinned (.plain (OpenSpec.ofChange askLocksSpec)) askLocksCard

/-- THE TIED CARD OF 'docketlaw17.MultiBuilds'. -/
def multiBuildsCard : Claim7 := { stood := { row := multiBuildsRow, standIns := [], harness := (true, "725f2e6bd06a72b3b4128b987740385472b9b7b7317083fc95ba73786effd901"), looks := true }, kinds := [], alts := [], laidByText := true, laidKinds := [.data, .data, .data, .data, .sentinel, .sentinel, .data, .data, .pinned, .pinned], laidTests := true, laidLooks := .later }
def MultiBuildsCardSaid : Prop := Claim7.holds Tryz.pinned (.plain (OpenSpec.ofChange multiBuildsSpec)) multiBuildsCard

/-- THE TIED CARD OF 'docketlaw17.MultiBack'. -/
def multiBackCard : Claim7 := { stood := { row := multiBackRow, standIns := [], harness := (true, "725f2e6bd06a72b3b4128b987740385472b9b7b7317083fc95ba73786effd901"), looks := true }, kinds := [], alts := [], laidByText := true, laidKinds := [.data, .data, .data, .data, .sentinel, .sentinel, .data, .data, .pinned, .pinned], laidTests := true, laidLooks := .later }
def MultiBackCardSaid : Prop := Claim7.holds Tryz.pinned (.plain (OpenSpec.ofChange multiBackSpec)) multiBackCard

/-- THE TIED CARD OF 'docketlaw17.MultiReads'. -/
def multiReadsCard : Claim7 := { stood := { row := multiReadsRow, standIns := [], harness := (true, "725f2e6bd06a72b3b4128b987740385472b9b7b7317083fc95ba73786effd901"), looks := true }, kinds := [], alts := [], laidByText := true, laidKinds := [.data, .data, .data, .data, .sentinel, .sentinel, .data, .data, .pinned, .pinned], laidTests := true, laidLooks := .later }
def MultiReadsCardSaid : Prop := Claim7.holds Tryz.pinned (.plain (OpenSpec.ofChange multiReadsSpec)) multiReadsCard

/-- THE TIED CARD OF 'docketlaw17.MultiJoin'. -/
def multiJoinCard : Claim7 := { stood := { row := multiJoinRow, standIns := [], harness := (true, "725f2e6bd06a72b3b4128b987740385472b9b7b7317083fc95ba73786effd901"), looks := true }, kinds := [], alts := [], laidByText := true, laidKinds := [.data, .data, .data, .data, .sentinel, .sentinel, .data, .data, .pinned, .pinned], laidTests := true, laidLooks := .later }
def MultiJoinCardSaid : Prop := Claim7.holds Tryz.pinned (.plain (OpenSpec.ofChange multiJoinSpec)) multiJoinCard

/-- THE SECOND FORM's CARD OF 'docketlaw10.XmlNests'. -/
def xmlNestsUptoCard : Claim7 := { stood := { row := xmlNestsUptoRow, standIns := [], harness := (true, "725f2e6bd06a72b3b4128b987740385472b9b7b7317083fc95ba73786effd901"), looks := true }, kinds := [], alts := [], laidByText := true, laidKinds := [.data, .data, .data, .data, .sentinel, .sentinel, .data, .data, .pinned, .pinned], laidTests := true, laidLooks := .later }
def XmlNestsUptoCardSaid : Prop := Claim7.holds Tryz.pinned (.plain (OpenSpec.upto xmlNestsSpec)) xmlNestsUptoCard

/-- THE SECOND FORM's CARD OF 'docketlaw10.XmlNoise'. -/
def xmlNoiseUptoCard : Claim7 := { stood := { row := xmlNoiseUptoRow, standIns := [], harness := (true, "725f2e6bd06a72b3b4128b987740385472b9b7b7317083fc95ba73786effd901"), looks := true }, kinds := [], alts := [], laidByText := true, laidKinds := [.data, .data, .data, .data, .sentinel, .sentinel, .data, .data, .pinned, .pinned], laidTests := true, laidLooks := .later }
def XmlNoiseUptoCardSaid : Prop := Claim7.holds Tryz.pinned (.plain (OpenSpec.upto xmlNoiseSpec)) xmlNoiseUptoCard

/-- THE SECOND FORM's CARD OF 'docketlaw10.XmlText'. -/
def xmlTextUptoCard : Claim7 := { stood := { row := xmlTextUptoRow, standIns := [], harness := (true, "725f2e6bd06a72b3b4128b987740385472b9b7b7317083fc95ba73786effd901"), looks := true }, kinds := [], alts := [], laidByText := true, laidKinds := [.data, .data, .data, .data, .sentinel, .sentinel, .data, .data, .pinned, .pinned], laidTests := true, laidLooks := .later }
def XmlTextUptoCardSaid : Prop := Claim7.holds Tryz.pinned (.plain (OpenSpec.upto xmlTextSpec)) xmlTextUptoCard

/-- THE SECOND FORM's CARD OF 'docketlaw10.XmlPrefix'. -/
def xmlPrefixUptoCard : Claim7 := { stood := { row := xmlPrefixUptoRow, standIns := [], harness := (true, "725f2e6bd06a72b3b4128b987740385472b9b7b7317083fc95ba73786effd901"), looks := true }, kinds := [], alts := [], laidByText := true, laidKinds := [.data, .data, .data, .data, .sentinel, .sentinel, .data, .data, .pinned, .pinned], laidTests := true, laidLooks := .later }
def XmlPrefixUptoCardSaid : Prop := Claim7.holds Tryz.pinned (.plain (OpenSpec.upto xmlPrefixSpec)) xmlPrefixUptoCard

/-- THE SECOND FORM's CARD OF 'docketlaw13.AskChanges'. -/
def askChangesUptoCard : Claim7 := { stood := { row := askChangesUptoRow, standIns := [], harness := (true, "725f2e6bd06a72b3b4128b987740385472b9b7b7317083fc95ba73786effd901"), looks := true }, kinds := [], alts := [], laidByText := true, laidKinds := [.data, .data, .data, .data, .sentinel, .sentinel, .data, .data, .pinned, .pinned], laidTests := true, laidLooks := .later }
def AskChangesUptoCardSaid : Prop := Claim7.holds Tryz.pinned (.plain (OpenSpec.upto askChangesSpec)) askChangesUptoCard

/-- THE SECOND FORM's CARD OF 'docketlaw13.AskFinds'. -/
def askFindsUptoCard : Claim7 := { stood := { row := askFindsUptoRow, standIns := [], harness := (true, "725f2e6bd06a72b3b4128b987740385472b9b7b7317083fc95ba73786effd901"), looks := true }, kinds := [], alts := [], laidByText := true, laidKinds := [.data, .data, .data, .data, .sentinel, .sentinel, .data, .data, .pinned, .pinned], laidTests := true, laidLooks := .later }
def AskFindsUptoCardSaid : Prop := Claim7.holds Tryz.pinned (.plain (OpenSpec.upto askFindsSpec)) askFindsUptoCard

/-- THE SECOND FORM's CARD OF 'docketlaw13.AskLocks'. -/
def askLocksUptoCard : Claim7 := { stood := { row := askLocksUptoRow, standIns := [], harness := (true, "725f2e6bd06a72b3b4128b987740385472b9b7b7317083fc95ba73786effd901"), looks := true }, kinds := [], alts := [], laidByText := true, laidKinds := [.data, .data, .data, .data, .sentinel, .sentinel, .data, .data, .pinned, .pinned], laidTests := true, laidLooks := .later }
def AskLocksUptoCardSaid : Prop := Claim7.holds Tryz.pinned (.plain (OpenSpec.upto askLocksSpec)) askLocksUptoCard

/-- THE SECOND FORM's CARD OF 'docketlaw17.MultiBuilds'. -/
def multiBuildsUptoCard : Claim7 := { stood := { row := multiBuildsUptoRow, standIns := [], harness := (true, "725f2e6bd06a72b3b4128b987740385472b9b7b7317083fc95ba73786effd901"), looks := true }, kinds := [], alts := [], laidByText := true, laidKinds := [.data, .data, .data, .data, .sentinel, .sentinel, .data, .data, .pinned, .pinned], laidTests := true, laidLooks := .later }
def MultiBuildsUptoCardSaid : Prop := Claim7.holds Tryz.pinned (.plain (OpenSpec.upto multiBuildsSpec)) multiBuildsUptoCard

/-- THE SECOND FORM's CARD OF 'docketlaw17.MultiBack'. -/
def multiBackUptoCard : Claim7 := { stood := { row := multiBackUptoRow, standIns := [], harness := (true, "725f2e6bd06a72b3b4128b987740385472b9b7b7317083fc95ba73786effd901"), looks := true }, kinds := [], alts := [], laidByText := true, laidKinds := [.data, .data, .data, .data, .sentinel, .sentinel, .data, .data, .pinned, .pinned], laidTests := true, laidLooks := .later }
def MultiBackUptoCardSaid : Prop := Claim7.holds Tryz.pinned (.plain (OpenSpec.upto multiBackSpec)) multiBackUptoCard

/-- THE SECOND FORM's CARD OF 'docketlaw17.MultiReads'. -/
def multiReadsUptoCard : Claim7 := { stood := { row := multiReadsUptoRow, standIns := [], harness := (true, "725f2e6bd06a72b3b4128b987740385472b9b7b7317083fc95ba73786effd901"), looks := true }, kinds := [], alts := [], laidByText := true, laidKinds := [.data, .data, .data, .data, .sentinel, .sentinel, .data, .data, .pinned, .pinned], laidTests := true, laidLooks := .later }
def MultiReadsUptoCardSaid : Prop := Claim7.holds Tryz.pinned (.plain (OpenSpec.upto multiReadsSpec)) multiReadsUptoCard

/-- THE SECOND FORM's CARD OF 'docketlaw17.MultiJoin'. -/
def multiJoinUptoCard : Claim7 := { stood := { row := multiJoinUptoRow, standIns := [], harness := (true, "725f2e6bd06a72b3b4128b987740385472b9b7b7317083fc95ba73786effd901"), looks := true }, kinds := [], alts := [], laidByText := true, laidKinds := [.data, .data, .data, .data, .sentinel, .sentinel, .data, .data, .pinned, .pinned], laidTests := true, laidLooks := .later }
def MultiJoinUptoCardSaid : Prop := Claim7.holds Tryz.pinned (.plain (OpenSpec.upto multiJoinSpec)) multiJoinUptoCard
end Rows
end Go.Proofs.YtkmpilnjhlnmfaaGreatDoor
