/-
  NARROWER THAN 'FOR EVERY INPUT', by the rows' own cells (each row's printed sentence says how): UriParses: laid · UriBack: laid · UriDots: laid · UriBytes: laid · CondHolds: laid · CondTokens: laid · CondNot: laid · CondMore: laid.
  DERIVED. THE GIVEN ROWS OF THIS SEAT. 8 by the template 'for every input the law returns true; each argument reads behind the call as it read before'; 0 by the template 'total and deterministic' (their statements: YthfdhanhkanhhaaDoorTotals.lean).
  GIVEN WITH THE SEED: the statements are not yours to turn. If you find one false, say at which input.
  Laid BY PROGRAM, IN A SANDBOX (cutbox-rows.mjs): the forced cells as the released guide's own fill.sh prints them over the translation 5cb9dcc4f9c1994a… (all of the seat's roots in one cut). By AI agents, Wed Nov 11 2026. No macro, syntax, notation, axiom, sorry.
-/
import Derived.Test.YthfdhanhkanhhaaDoorChecked
import GoSem.PinnedTables
import GoSem.Claim
import GoSem.ClaimJoined
import GoSem.ClaimMapViews
import Derived.JoinedTies
import Derived.KernelRfl
namespace Go.Proofs.YthfdhanhkanhhaaDoor
/- THE CELL 'sum', in the pinned program and in every row, IS THE sha256 OF THE DUMP (.gsa) THAT YthfdhanhkanhhaaDoorProg.lean LOADS. Nothing in Lean hashes anything: it is a label: what it is worth is what the hold of that sum in a sandbox is worth. -/
noncomputable def Tryd.pinned : Pinned := { name := "ythfdhanhkanhhaadoor", sum := "5cb9dcc4f9c1994aaadd16a5da9c369e17123752ce7695de84c42de98c4d047d", checked := Tryd.checked }
namespace Rows
def none {H : Type} : Left H := { results := [], args := [] }

/- WHAT THE LISTED PACKAGE-LEVEL VARIABLES READ AS WHEN THE CALL BEGINS. Each datum BY PROGRAM (the guide's laid-datum.mjs) off the statement by which the dump's own 'gosem.cut.vars' lays the variable. In a bare row this is a premise. The card (YthfdhanhkanhhaaDoorCards.lean) ties it to the program's text. -/
def laid_unicode_utf8_acceptRanges {H : Type} : DataW H := .agg [.agg [.lit (.int .u8 128), .lit (.int .u8 191)], .agg [.lit (.int .u8 160), .lit (.int .u8 191)], .agg [.lit (.int .u8 128), .lit (.int .u8 159)], .agg [.lit (.int .u8 144), .lit (.int .u8 191)], .agg [.lit (.int .u8 128), .lit (.int .u8 143)], .agg [.lit (.int .u8 0), .lit (.int .u8 0)], .agg [.lit (.int .u8 0), .lit (.int .u8 0)], .agg [.lit (.int .u8 0), .lit (.int .u8 0)], .agg [.lit (.int .u8 0), .lit (.int .u8 0)], .agg [.lit (.int .u8 0), .lit (.int .u8 0)], .agg [.lit (.int .u8 0), .lit (.int .u8 0)], .agg [.lit (.int .u8 0), .lit (.int .u8 0)], .agg [.lit (.int .u8 0), .lit (.int .u8 0)], .agg [.lit (.int .u8 0), .lit (.int .u8 0)], .agg [.lit (.int .u8 0), .lit (.int .u8 0)], .agg [.lit (.int .u8 0), .lit (.int .u8 0)]]
/-- One of Go's own tables, pinned by name: the form's constant. -/
def laid_unicode_utf8_first : DataW Unit := Go.Pinned.utf8First

/-- 'docketlaw09.UriParses': WHATEVER THE INPUT: true; the input reads as it did. -/
def uriParsesSpec : ChangeSpec := { name := "uriParses", fn := fun _ => fun
  | [d] => { results := [.lit (.bool true)], args := [d] }
  | _ => none }
def uriParsesRow : OpenClaim := { program := "ythfdhanhkanhhaadoor", sum := "5cb9dcc4f9c1994aaadd16a5da9c369e17123752ce7695de84c42de98c4d047d", func := "docket/docketlaw09.UriParses", spec := "uriParses", inPlace := ["internal/bytealg.IndexByteString", "internal/bytealg.CountString", "internal/bytealg.IndexString", "internal/abi.NoEscape"], named := ["unicode/utf8.first", "unicode/utf8.acceptRanges", "internal/bytealg.MaxLen"], apart := false, laid := [("unicode/utf8.acceptRanges", laid_unicode_utf8_acceptRanges), ("unicode/utf8.first", laid_unicode_utf8_first)] }
def UriParsesSaid : Prop := uriParsesRow.holds Tryd.pinned (OpenSpec.ofChange uriParsesSpec)

/-- ITS FALSE NEIGHBOUR: 'it returns false'. Refute it at one input. -/
def uriParsesWrong : ChangeSpec := { name := "uriParses", fn := fun _ => fun
  | [d] => { results := [.lit (.bool false)], args := [d] }
  | _ => none }
def UriParsesWrongFalsely : Prop := uriParsesRow.holds Tryd.pinned (OpenSpec.ofChange uriParsesWrong)

/-- 'docketlaw09.UriBack': WHATEVER THE INPUT: true; the input reads as it did. -/
def uriBackSpec : ChangeSpec := { name := "uriBack", fn := fun _ => fun
  | [d1, d2] => { results := [.lit (.bool true)], args := [d1, d2] }
  | _ => none }
def uriBackRow : OpenClaim := { program := "ythfdhanhkanhhaadoor", sum := "5cb9dcc4f9c1994aaadd16a5da9c369e17123752ce7695de84c42de98c4d047d", func := "docket/docketlaw09.UriBack", spec := "uriBack", inPlace := ["internal/bytealg.IndexByteString", "internal/bytealg.CountString", "internal/bytealg.IndexString", "internal/abi.NoEscape"], named := ["unicode/utf8.first", "unicode/utf8.acceptRanges", "internal/bytealg.MaxLen"], apart := false, laid := [("unicode/utf8.acceptRanges", laid_unicode_utf8_acceptRanges), ("unicode/utf8.first", laid_unicode_utf8_first)] }
def UriBackSaid : Prop := uriBackRow.holds Tryd.pinned (OpenSpec.ofChange uriBackSpec)

/-- ITS FALSE NEIGHBOUR: 'it returns false'. Refute it at one input. -/
def uriBackWrong : ChangeSpec := { name := "uriBack", fn := fun _ => fun
  | [d1, d2] => { results := [.lit (.bool false)], args := [d1, d2] }
  | _ => none }
def UriBackWrongFalsely : Prop := uriBackRow.holds Tryd.pinned (OpenSpec.ofChange uriBackWrong)

/-- 'docketlaw09.UriDots': WHATEVER THE INPUT: true; the input reads as it did. -/
def uriDotsSpec : ChangeSpec := { name := "uriDots", fn := fun _ => fun
  | [d1, d2] => { results := [.lit (.bool true)], args := [d1, d2] }
  | _ => none }
def uriDotsRow : OpenClaim := { program := "ythfdhanhkanhhaadoor", sum := "5cb9dcc4f9c1994aaadd16a5da9c369e17123752ce7695de84c42de98c4d047d", func := "docket/docketlaw09.UriDots", spec := "uriDots", inPlace := ["internal/bytealg.IndexByteString", "internal/bytealg.CountString", "internal/bytealg.IndexString", "internal/abi.NoEscape"], named := ["unicode/utf8.first", "unicode/utf8.acceptRanges", "internal/bytealg.MaxLen"], apart := false, laid := [("unicode/utf8.acceptRanges", laid_unicode_utf8_acceptRanges), ("unicode/utf8.first", laid_unicode_utf8_first)] }
def UriDotsSaid : Prop := uriDotsRow.holds Tryd.pinned (OpenSpec.ofChange uriDotsSpec)

/-- ITS FALSE NEIGHBOUR: 'it returns false'. Refute it at one input. -/
def uriDotsWrong : ChangeSpec := { name := "uriDots", fn := fun _ => fun
  | [d1, d2] => { results := [.lit (.bool false)], args := [d1, d2] }
  | _ => none }
def UriDotsWrongFalsely : Prop := uriDotsRow.holds Tryd.pinned (OpenSpec.ofChange uriDotsWrong)

/-- 'docketlaw09.UriBytes': WHATEVER THE INPUT: true; the input reads as it did. -/
def uriBytesSpec : ChangeSpec := { name := "uriBytes", fn := fun _ => fun
  | [d1, d2] => { results := [.lit (.bool true)], args := [d1, d2] }
  | _ => none }
def uriBytesRow : OpenClaim := { program := "ythfdhanhkanhhaadoor", sum := "5cb9dcc4f9c1994aaadd16a5da9c369e17123752ce7695de84c42de98c4d047d", func := "docket/docketlaw09.UriBytes", spec := "uriBytes", inPlace := ["internal/bytealg.IndexByteString", "internal/bytealg.CountString", "internal/bytealg.IndexString", "internal/abi.NoEscape"], named := ["unicode/utf8.first", "unicode/utf8.acceptRanges", "internal/bytealg.MaxLen"], apart := false, laid := [("unicode/utf8.acceptRanges", laid_unicode_utf8_acceptRanges), ("unicode/utf8.first", laid_unicode_utf8_first)] }
def UriBytesSaid : Prop := uriBytesRow.holds Tryd.pinned (OpenSpec.ofChange uriBytesSpec)

/-- ITS FALSE NEIGHBOUR: 'it returns false'. Refute it at one input. -/
def uriBytesWrong : ChangeSpec := { name := "uriBytes", fn := fun _ => fun
  | [d1, d2] => { results := [.lit (.bool false)], args := [d1, d2] }
  | _ => none }
def UriBytesWrongFalsely : Prop := uriBytesRow.holds Tryd.pinned (OpenSpec.ofChange uriBytesWrong)

/-- 'docketlaw16.CondHolds': WHATEVER THE INPUT: true; the input reads as it did. -/
def condHoldsSpec : ChangeSpec := { name := "condHolds", fn := fun _ => fun
  | [d1, d2, d3] => { results := [.lit (.bool true)], args := [d1, d2, d3] }
  | _ => none }
def condHoldsRow : OpenClaim := { program := "ythfdhanhkanhhaadoor", sum := "5cb9dcc4f9c1994aaadd16a5da9c369e17123752ce7695de84c42de98c4d047d", func := "docket/docketlaw16.CondHolds", spec := "condHolds", inPlace := ["internal/bytealg.IndexByteString", "internal/bytealg.IndexString", "internal/bytealg.CountString", "internal/abi.NoEscape"], unfollowed := true, recurses := true, named := ["unicode/utf8.first", "unicode/utf8.acceptRanges", "internal/bytealg.MaxLen"], apart := false, laid := [("unicode/utf8.acceptRanges", laid_unicode_utf8_acceptRanges), ("unicode/utf8.first", laid_unicode_utf8_first)] }
def CondHoldsSaid : Prop := condHoldsRow.holds Tryd.pinned (OpenSpec.ofChange condHoldsSpec)

/-- ITS FALSE NEIGHBOUR: 'it returns false'. Refute it at one input. -/
def condHoldsWrong : ChangeSpec := { name := "condHolds", fn := fun _ => fun
  | [d1, d2, d3] => { results := [.lit (.bool false)], args := [d1, d2, d3] }
  | _ => none }
def CondHoldsWrongFalsely : Prop := condHoldsRow.holds Tryd.pinned (OpenSpec.ofChange condHoldsWrong)

/-- 'docketlaw16.CondTokens': WHATEVER THE INPUT: true; the input reads as it did. -/
def condTokensSpec : ChangeSpec := { name := "condTokens", fn := fun _ => fun
  | [d1, d2, d3] => { results := [.lit (.bool true)], args := [d1, d2, d3] }
  | _ => none }
def condTokensRow : OpenClaim := { program := "ythfdhanhkanhhaadoor", sum := "5cb9dcc4f9c1994aaadd16a5da9c369e17123752ce7695de84c42de98c4d047d", func := "docket/docketlaw16.CondTokens", spec := "condTokens", inPlace := ["internal/bytealg.IndexByteString", "internal/bytealg.IndexString", "internal/bytealg.CountString", "internal/abi.NoEscape"], unfollowed := true, recurses := true, named := ["unicode/utf8.first", "unicode/utf8.acceptRanges", "internal/bytealg.MaxLen"], apart := false, laid := [("unicode/utf8.acceptRanges", laid_unicode_utf8_acceptRanges), ("unicode/utf8.first", laid_unicode_utf8_first)] }
def CondTokensSaid : Prop := condTokensRow.holds Tryd.pinned (OpenSpec.ofChange condTokensSpec)

/-- ITS FALSE NEIGHBOUR: 'it returns false'. Refute it at one input. -/
def condTokensWrong : ChangeSpec := { name := "condTokens", fn := fun _ => fun
  | [d1, d2, d3] => { results := [.lit (.bool false)], args := [d1, d2, d3] }
  | _ => none }
def CondTokensWrongFalsely : Prop := condTokensRow.holds Tryd.pinned (OpenSpec.ofChange condTokensWrong)

/-- 'docketlaw16.CondNot': WHATEVER THE INPUT: true; the input reads as it did. -/
def condNotSpec : ChangeSpec := { name := "condNot", fn := fun _ => fun
  | [d1, d2, d3] => { results := [.lit (.bool true)], args := [d1, d2, d3] }
  | _ => none }
def condNotRow : OpenClaim := { program := "ythfdhanhkanhhaadoor", sum := "5cb9dcc4f9c1994aaadd16a5da9c369e17123752ce7695de84c42de98c4d047d", func := "docket/docketlaw16.CondNot", spec := "condNot", inPlace := ["internal/bytealg.IndexByteString", "internal/bytealg.IndexString", "internal/bytealg.CountString", "internal/abi.NoEscape"], unfollowed := true, recurses := true, named := ["unicode/utf8.first", "unicode/utf8.acceptRanges", "internal/bytealg.MaxLen"], apart := false, laid := [("unicode/utf8.acceptRanges", laid_unicode_utf8_acceptRanges), ("unicode/utf8.first", laid_unicode_utf8_first)] }
def CondNotSaid : Prop := condNotRow.holds Tryd.pinned (OpenSpec.ofChange condNotSpec)

/-- ITS FALSE NEIGHBOUR: 'it returns false'. Refute it at one input. -/
def condNotWrong : ChangeSpec := { name := "condNot", fn := fun _ => fun
  | [d1, d2, d3] => { results := [.lit (.bool false)], args := [d1, d2, d3] }
  | _ => none }
def CondNotWrongFalsely : Prop := condNotRow.holds Tryd.pinned (OpenSpec.ofChange condNotWrong)

/-- 'docketlaw16.CondMore': WHATEVER THE INPUT: true; the input reads as it did. -/
def condMoreSpec : ChangeSpec := { name := "condMore", fn := fun _ => fun
  | [d1, d2, d3, d4, d5] => { results := [.lit (.bool true)], args := [d1, d2, d3, d4, d5] }
  | _ => none }
def condMoreRow : OpenClaim := { program := "ythfdhanhkanhhaadoor", sum := "5cb9dcc4f9c1994aaadd16a5da9c369e17123752ce7695de84c42de98c4d047d", func := "docket/docketlaw16.CondMore", spec := "condMore", inPlace := ["internal/bytealg.IndexByteString", "internal/bytealg.IndexString", "internal/bytealg.CountString", "internal/abi.NoEscape"], unfollowed := true, recurses := true, named := ["unicode/utf8.first", "unicode/utf8.acceptRanges", "internal/bytealg.MaxLen"], apart := false, laid := [("unicode/utf8.acceptRanges", laid_unicode_utf8_acceptRanges), ("unicode/utf8.first", laid_unicode_utf8_first)] }
def CondMoreSaid : Prop := condMoreRow.holds Tryd.pinned (OpenSpec.ofChange condMoreSpec)

/-- ITS FALSE NEIGHBOUR: 'it returns false'. Refute it at one input. -/
def condMoreWrong : ChangeSpec := { name := "condMore", fn := fun _ => fun
  | [d1, d2, d3, d4, d5] => { results := [.lit (.bool false)], args := [d1, d2, d3, d4, d5] }
  | _ => none }
def CondMoreWrongFalsely : Prop := condMoreRow.holds Tryd.pinned (OpenSpec.ofChange condMoreWrong)

/- THE SECOND FORM. 'bulk': how many values and letters a reading holds, each counted each time it is reached (what is shared counts as often as it is met; a slice's spare places count too). A statement '..UptoSaid' is the law's where the arguments, and the package variables that the reading takes, are together of bulk at most 1048576: NARROWER than '..Said'. Prove '..Said' where nothing that the law and all that it calls make is longer than what came in: it says more and counts as full. Else prove '..UptoSaid'. A law counts once. -/
mutual
def uptoBulk {H : Type} : DataW H → Nat
  | .lit (.string bytes) => bytes.length + 1
  | .lit _ => 1
  | .nil => 1
  | .ptr d => uptoBulk d + 1
  | .slice elems spare => uptoBulkAll elems + uptoBulkAll spare + 1
  | .agg parts => uptoBulkAll parts + 1
  | .iface _ d => uptoBulk d + 1
  | .map entries => uptoBulkEntries entries + 1
  | .held _ => 1
def uptoBulkAll {H : Type} : List (DataW H) → Nat
  | [] => 0
  | d :: r => uptoBulk d + uptoBulkAll r
def uptoBulkEntries {H : Type} : List (Lit × DataW H) → Nat
  | [] => 0
  | x :: r => uptoBulkEntry x + uptoBulkEntries r
def uptoBulkEntry {H : Type} : Lit × DataW H → Nat
  | (.string bytes, d) => bytes.length + uptoBulk d + 1
  | (_, d) => uptoBulk d + 1
 end
def uptoSmall : (H : Type) → List (DataW H) → Bool := fun _ ds => decide (uptoBulkAll ds ≤ 1048576)
def OpenSpec.upto (s : _root_.Go.ChangeSpec) : _root_.Go.OpenSpec := { _root_.Go.OpenSpec.ofChange s with cond := some uptoSmall }

/-- 'docketlaw09.UriParses', WHERE WHAT IT READS IS OF BULK AT MOST 1048576: true; the input reads as it did. -/
def uriParsesUptoRow : OpenClaim := { program := "ythfdhanhkanhhaadoor", sum := "5cb9dcc4f9c1994aaadd16a5da9c369e17123752ce7695de84c42de98c4d047d", func := "docket/docketlaw09.UriParses", spec := "uriParses", inPlace := ["internal/bytealg.IndexByteString", "internal/bytealg.CountString", "internal/bytealg.IndexString", "internal/abi.NoEscape"], named := ["unicode/utf8.first", "unicode/utf8.acceptRanges", "internal/bytealg.MaxLen"], apart := false, laid := [("unicode/utf8.acceptRanges", laid_unicode_utf8_acceptRanges), ("unicode/utf8.first", laid_unicode_utf8_first)], narrowed := true }
def UriParsesUptoSaid : Prop := uriParsesUptoRow.holds Tryd.pinned (OpenSpec.upto uriParsesSpec)

/-- 'docketlaw09.UriBack', WHERE WHAT IT READS IS OF BULK AT MOST 1048576: true; the input reads as it did. -/
def uriBackUptoRow : OpenClaim := { program := "ythfdhanhkanhhaadoor", sum := "5cb9dcc4f9c1994aaadd16a5da9c369e17123752ce7695de84c42de98c4d047d", func := "docket/docketlaw09.UriBack", spec := "uriBack", inPlace := ["internal/bytealg.IndexByteString", "internal/bytealg.CountString", "internal/bytealg.IndexString", "internal/abi.NoEscape"], named := ["unicode/utf8.first", "unicode/utf8.acceptRanges", "internal/bytealg.MaxLen"], apart := false, laid := [("unicode/utf8.acceptRanges", laid_unicode_utf8_acceptRanges), ("unicode/utf8.first", laid_unicode_utf8_first)], narrowed := true }
def UriBackUptoSaid : Prop := uriBackUptoRow.holds Tryd.pinned (OpenSpec.upto uriBackSpec)

/-- 'docketlaw09.UriDots', WHERE WHAT IT READS IS OF BULK AT MOST 1048576: true; the input reads as it did. -/
def uriDotsUptoRow : OpenClaim := { program := "ythfdhanhkanhhaadoor", sum := "5cb9dcc4f9c1994aaadd16a5da9c369e17123752ce7695de84c42de98c4d047d", func := "docket/docketlaw09.UriDots", spec := "uriDots", inPlace := ["internal/bytealg.IndexByteString", "internal/bytealg.CountString", "internal/bytealg.IndexString", "internal/abi.NoEscape"], named := ["unicode/utf8.first", "unicode/utf8.acceptRanges", "internal/bytealg.MaxLen"], apart := false, laid := [("unicode/utf8.acceptRanges", laid_unicode_utf8_acceptRanges), ("unicode/utf8.first", laid_unicode_utf8_first)], narrowed := true }
def UriDotsUptoSaid : Prop := uriDotsUptoRow.holds Tryd.pinned (OpenSpec.upto uriDotsSpec)

/-- 'docketlaw09.UriBytes', WHERE WHAT IT READS IS OF BULK AT MOST 1048576: true; the input reads as it did. -/
def uriBytesUptoRow : OpenClaim := { program := "ythfdhanhkanhhaadoor", sum := "5cb9dcc4f9c1994aaadd16a5da9c369e17123752ce7695de84c42de98c4d047d", func := "docket/docketlaw09.UriBytes", spec := "uriBytes", inPlace := ["internal/bytealg.IndexByteString", "internal/bytealg.CountString", "internal/bytealg.IndexString", "internal/abi.NoEscape"], named := ["unicode/utf8.first", "unicode/utf8.acceptRanges", "internal/bytealg.MaxLen"], apart := false, laid := [("unicode/utf8.acceptRanges", laid_unicode_utf8_acceptRanges), ("unicode/utf8.first", laid_unicode_utf8_first)], narrowed := true }
def UriBytesUptoSaid : Prop := uriBytesUptoRow.holds Tryd.pinned (OpenSpec.upto uriBytesSpec)

/-- 'docketlaw16.CondHolds', WHERE WHAT IT READS IS OF BULK AT MOST 1048576: true; the input reads as it did. -/
def condHoldsUptoRow : OpenClaim := { program := "ythfdhanhkanhhaadoor", sum := "5cb9dcc4f9c1994aaadd16a5da9c369e17123752ce7695de84c42de98c4d047d", func := "docket/docketlaw16.CondHolds", spec := "condHolds", inPlace := ["internal/bytealg.IndexByteString", "internal/bytealg.IndexString", "internal/bytealg.CountString", "internal/abi.NoEscape"], unfollowed := true, recurses := true, named := ["unicode/utf8.first", "unicode/utf8.acceptRanges", "internal/bytealg.MaxLen"], apart := false, laid := [("unicode/utf8.acceptRanges", laid_unicode_utf8_acceptRanges), ("unicode/utf8.first", laid_unicode_utf8_first)], narrowed := true }
def CondHoldsUptoSaid : Prop := condHoldsUptoRow.holds Tryd.pinned (OpenSpec.upto condHoldsSpec)

/-- 'docketlaw16.CondTokens', WHERE WHAT IT READS IS OF BULK AT MOST 1048576: true; the input reads as it did. -/
def condTokensUptoRow : OpenClaim := { program := "ythfdhanhkanhhaadoor", sum := "5cb9dcc4f9c1994aaadd16a5da9c369e17123752ce7695de84c42de98c4d047d", func := "docket/docketlaw16.CondTokens", spec := "condTokens", inPlace := ["internal/bytealg.IndexByteString", "internal/bytealg.IndexString", "internal/bytealg.CountString", "internal/abi.NoEscape"], unfollowed := true, recurses := true, named := ["unicode/utf8.first", "unicode/utf8.acceptRanges", "internal/bytealg.MaxLen"], apart := false, laid := [("unicode/utf8.acceptRanges", laid_unicode_utf8_acceptRanges), ("unicode/utf8.first", laid_unicode_utf8_first)], narrowed := true }
def CondTokensUptoSaid : Prop := condTokensUptoRow.holds Tryd.pinned (OpenSpec.upto condTokensSpec)

/-- 'docketlaw16.CondNot', WHERE WHAT IT READS IS OF BULK AT MOST 1048576: true; the input reads as it did. -/
def condNotUptoRow : OpenClaim := { program := "ythfdhanhkanhhaadoor", sum := "5cb9dcc4f9c1994aaadd16a5da9c369e17123752ce7695de84c42de98c4d047d", func := "docket/docketlaw16.CondNot", spec := "condNot", inPlace := ["internal/bytealg.IndexByteString", "internal/bytealg.IndexString", "internal/bytealg.CountString", "internal/abi.NoEscape"], unfollowed := true, recurses := true, named := ["unicode/utf8.first", "unicode/utf8.acceptRanges", "internal/bytealg.MaxLen"], apart := false, laid := [("unicode/utf8.acceptRanges", laid_unicode_utf8_acceptRanges), ("unicode/utf8.first", laid_unicode_utf8_first)], narrowed := true }
def CondNotUptoSaid : Prop := condNotUptoRow.holds Tryd.pinned (OpenSpec.upto condNotSpec)

/-- 'docketlaw16.CondMore', WHERE WHAT IT READS IS OF BULK AT MOST 1048576: true; the input reads as it did. -/
def condMoreUptoRow : OpenClaim := { program := "ythfdhanhkanhhaadoor", sum := "5cb9dcc4f9c1994aaadd16a5da9c369e17123752ce7695de84c42de98c4d047d", func := "docket/docketlaw16.CondMore", spec := "condMore", inPlace := ["internal/bytealg.IndexByteString", "internal/bytealg.IndexString", "internal/bytealg.CountString", "internal/abi.NoEscape"], unfollowed := true, recurses := true, named := ["unicode/utf8.first", "unicode/utf8.acceptRanges", "internal/bytealg.MaxLen"], apart := false, laid := [("unicode/utf8.acceptRanges", laid_unicode_utf8_acceptRanges), ("unicode/utf8.first", laid_unicode_utf8_first)], narrowed := true }
def CondMoreUptoSaid : Prop := condMoreUptoRow.holds Tryd.pinned (OpenSpec.upto condMoreSpec)

end Rows
end Go.Proofs.YthfdhanhkanhhaaDoor
