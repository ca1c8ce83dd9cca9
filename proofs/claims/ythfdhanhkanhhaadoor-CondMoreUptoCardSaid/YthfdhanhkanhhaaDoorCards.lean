/-
  DERIVED. GIVEN WITH THE SEED: THE CARDS: each row of YthfdhanhkanhhaaDoorRows.lean that lists a variable, with what it lists TIED to the program's text (the seventh form; the later family's looks); each row that meets fmt, with fmt's text TOLD by the authors' own Lean function (tested against real Go, not proved from fmt's source: count such statements apart). THE CARD IS WHAT COUNTS. Prove the row's statement (the work); the ties are given (YthfdhanhkanhhaaDoorTie.lean); close each card by the builder's one call (the guide's Derived/Test/ToyasCard.lean, 'card_holds'). Laid BY PROGRAM, IN A SANDBOX (cutbox-door.mjs). By AI agents, Wed Nov 11 2026. No macro, syntax, notation, axiom, sorry.
-/
import Derived.Test.YthfdhanhkanhhaaDoorRows
import GoSem.ClaimSeven
namespace Go.Proofs.YthfdhanhkanhhaaDoor
namespace Rows

/-- THE TIED CARD OF 'docketlaw09.UriParses'. -/
def uriParsesCard : Claim7 := { stood := { row := uriParsesRow, standIns := [], harness := (true, "45f89ce511bb1f34a1b5e661a0067a3340407939c50eae4c18f095909e1182bb"), looks := false }, kinds := [], alts := [], laidByText := true, laidKinds := [.data, .pinned], laidTests := true, laidLooks := .later }
def UriParsesCardSaid : Prop := Claim7.holds Tryd.pinned (.plain (OpenSpec.ofChange uriParsesSpec)) uriParsesCard

/-- THE TIED CARD OF 'docketlaw09.UriBack'. -/
def uriBackCard : Claim7 := { stood := { row := uriBackRow, standIns := [], harness := (true, "45f89ce511bb1f34a1b5e661a0067a3340407939c50eae4c18f095909e1182bb"), looks := false }, kinds := [], alts := [], laidByText := true, laidKinds := [.data, .pinned], laidTests := true, laidLooks := .later }
def UriBackCardSaid : Prop := Claim7.holds Tryd.pinned (.plain (OpenSpec.ofChange uriBackSpec)) uriBackCard

/-- THE TIED CARD OF 'docketlaw09.UriDots'. -/
def uriDotsCard : Claim7 := { stood := { row := uriDotsRow, standIns := [], harness := (true, "45f89ce511bb1f34a1b5e661a0067a3340407939c50eae4c18f095909e1182bb"), looks := false }, kinds := [], alts := [], laidByText := true, laidKinds := [.data, .pinned], laidTests := true, laidLooks := .later }
def UriDotsCardSaid : Prop := Claim7.holds Tryd.pinned (.plain (OpenSpec.ofChange uriDotsSpec)) uriDotsCard

/-- THE TIED CARD OF 'docketlaw09.UriBytes'. -/
def uriBytesCard : Claim7 := { stood := { row := uriBytesRow, standIns := [], harness := (true, "45f89ce511bb1f34a1b5e661a0067a3340407939c50eae4c18f095909e1182bb"), looks := false }, kinds := [], alts := [], laidByText := true, laidKinds := [.data, .pinned], laidTests := true, laidLooks := .later }
def UriBytesCardSaid : Prop := Claim7.holds Tryd.pinned (.plain (OpenSpec.ofChange uriBytesSpec)) uriBytesCard

/-- THE TIED CARD OF 'docketlaw16.CondHolds'. -/
def condHoldsCard : Claim7 := { stood := { row := condHoldsRow, standIns := [], harness := (true, "45f89ce511bb1f34a1b5e661a0067a3340407939c50eae4c18f095909e1182bb"), looks := false }, kinds := [], alts := [], laidByText := true, laidKinds := [.data, .pinned], laidTests := true, laidLooks := .later }
def CondHoldsCardSaid : Prop := Claim7.holds Tryd.pinned (.plain (OpenSpec.ofChange condHoldsSpec)) condHoldsCard

/-- THE TIED CARD OF 'docketlaw16.CondTokens'. -/
def condTokensCard : Claim7 := { stood := { row := condTokensRow, standIns := [], harness := (true, "45f89ce511bb1f34a1b5e661a0067a3340407939c50eae4c18f095909e1182bb"), looks := false }, kinds := [], alts := [], laidByText := true, laidKinds := [.data, .pinned], laidTests := true, laidLooks := .later }
def CondTokensCardSaid : Prop := Claim7.holds Tryd.pinned (.plain (OpenSpec.ofChange condTokensSpec)) condTokensCard

/-- THE TIED CARD OF 'docketlaw16.CondNot'. -/
def condNotCard : Claim7 := { stood := { row := condNotRow, standIns := [], harness := (true, "45f89ce511bb1f34a1b5e661a0067a3340407939c50eae4c18f095909e1182bb"), looks := false }, kinds := [], alts := [], laidByText := true, laidKinds := [.data, .pinned], laidTests := true, laidLooks := .later }
def CondNotCardSaid : Prop := Claim7.holds Tryd.pinned (.plain (OpenSpec.ofChange condNotSpec)) condNotCard

/-- THE TIED CARD OF 'docketlaw16.CondMore'. -/
def condMoreCard : Claim7 := { stood := { row := condMoreRow, standIns := [], harness := (true, "45f89ce511bb1f34a1b5e661a0067a3340407939c50eae4c18f095909e1182bb"), looks := false }, kinds := [], alts := [], laidByText := true, laidKinds := [.data, .pinned], laidTests := true, laidLooks := .later }
def CondMoreCardSaid : Prop := Claim7.holds Tryd.pinned (.plain (OpenSpec.ofChange condMoreSpec)) condMoreCard

/-- THE SECOND FORM's CARD OF 'docketlaw09.UriParses'. -/
def uriParsesUptoCard : Claim7 := { stood := { row := uriParsesUptoRow, standIns := [], harness := (true, "45f89ce511bb1f34a1b5e661a0067a3340407939c50eae4c18f095909e1182bb"), looks := false }, kinds := [], alts := [], laidByText := true, laidKinds := [.data, .pinned], laidTests := true, laidLooks := .later }
def UriParsesUptoCardSaid : Prop := Claim7.holds Tryd.pinned (.plain (OpenSpec.upto uriParsesSpec)) uriParsesUptoCard

/-- THE SECOND FORM's CARD OF 'docketlaw09.UriBack'. -/
def uriBackUptoCard : Claim7 := { stood := { row := uriBackUptoRow, standIns := [], harness := (true, "45f89ce511bb1f34a1b5e661a0067a3340407939c50eae4c18f095909e1182bb"), looks := false }, kinds := [], alts := [], laidByText := true, laidKinds := [.data, .pinned], laidTests := true, laidLooks := .later }
def UriBackUptoCardSaid : Prop := Claim7.holds Tryd.pinned (.plain (OpenSpec.upto uriBackSpec)) uriBackUptoCard

/-- THE SECOND FORM's CARD OF 'docketlaw09.UriDots'. -/
def uriDotsUptoCard : Claim7 := { stood := { row := uriDotsUptoRow, standIns := [], harness := (true, "45f89ce511bb1f34a1b5e661a0067a3340407939c50eae4c18f095909e1182bb"), looks := false }, kinds := [], alts := [], laidByText := true, laidKinds := [.data, .pinned], laidTests := true, laidLooks := .later }
def UriDotsUptoCardSaid : Prop := Claim7.holds Tryd.pinned (.plain (OpenSpec.upto uriDotsSpec)) uriDotsUptoCard

/-- THE SECOND FORM's CARD OF 'docketlaw09.UriBytes'. -/
def uriBytesUptoCard : Claim7 := { stood := { row := uriBytesUptoRow, standIns := [], harness := (true, "45f89ce511bb1f34a1b5e661a0067a3340407939c50eae4c18f095909e1182bb"), looks := false }, kinds := [], alts := [], laidByText := true, laidKinds := [.data, .pinned], laidTests := true, laidLooks := .later }
def UriBytesUptoCardSaid : Prop := Claim7.holds Tryd.pinned (.plain (OpenSpec.upto uriBytesSpec)) uriBytesUptoCard

/-- THE SECOND FORM's CARD OF 'docketlaw16.CondHolds'. -/
def condHoldsUptoCard : Claim7 := { stood := { row := condHoldsUptoRow, standIns := [], harness := (true, "45f89ce511bb1f34a1b5e661a0067a3340407939c50eae4c18f095909e1182bb"), looks := false }, kinds := [], alts := [], laidByText := true, laidKinds := [.data, .pinned], laidTests := true, laidLooks := .later }
def CondHoldsUptoCardSaid : Prop := Claim7.holds Tryd.pinned (.plain (OpenSpec.upto condHoldsSpec)) condHoldsUptoCard

/-- THE SECOND FORM's CARD OF 'docketlaw16.CondTokens'. -/
def condTokensUptoCard : Claim7 := { stood := { row := condTokensUptoRow, standIns := [], harness := (true, "45f89ce511bb1f34a1b5e661a0067a3340407939c50eae4c18f095909e1182bb"), looks := false }, kinds := [], alts := [], laidByText := true, laidKinds := [.data, .pinned], laidTests := true, laidLooks := .later }
def CondTokensUptoCardSaid : Prop := Claim7.holds Tryd.pinned (.plain (OpenSpec.upto condTokensSpec)) condTokensUptoCard

/-- THE SECOND FORM's CARD OF 'docketlaw16.CondNot'. -/
def condNotUptoCard : Claim7 := { stood := { row := condNotUptoRow, standIns := [], harness := (true, "45f89ce511bb1f34a1b5e661a0067a3340407939c50eae4c18f095909e1182bb"), looks := false }, kinds := [], alts := [], laidByText := true, laidKinds := [.data, .pinned], laidTests := true, laidLooks := .later }
def CondNotUptoCardSaid : Prop := Claim7.holds Tryd.pinned (.plain (OpenSpec.upto condNotSpec)) condNotUptoCard

/-- THE SECOND FORM's CARD OF 'docketlaw16.CondMore'. -/
def condMoreUptoCard : Claim7 := { stood := { row := condMoreUptoRow, standIns := [], harness := (true, "45f89ce511bb1f34a1b5e661a0067a3340407939c50eae4c18f095909e1182bb"), looks := false }, kinds := [], alts := [], laidByText := true, laidKinds := [.data, .pinned], laidTests := true, laidLooks := .later }
def CondMoreUptoCardSaid : Prop := Claim7.holds Tryd.pinned (.plain (OpenSpec.upto condMoreSpec)) condMoreUptoCard
end Rows
end Go.Proofs.YthfdhanhkanhhaaDoor
