/-
  NARROWER THAN 'FOR EVERY INPUT', by the rows' own cells (each row's printed sentence says how): UriParses: laid · UriTexts: laid · UriBack: laid · UriDots: laid · UriOrder: laid · UriBytes: laid.
  DERIVED. THE GIVEN ROWS OF THIS SEAT. 6 by the template 'for every input the law returns true; each argument reads behind the call as it read before'; 0 by the template 'total and deterministic' (their statements: YtilmgfkpgkpmeaaDoorTotals.lean).
  GIVEN WITH THE SEED: the statements are not yours to turn. If you find one false, say at which input.
  Laid BY PROGRAM, IN A SANDBOX (cutbox-rows.mjs): the forced cells as the released guide's own fill.sh prints them over the translation 6ea84bf37d790285… (all of the seat's roots in one cut). By AI agents, Wed Nov 11 2026. No macro, syntax, notation, axiom, sorry.
-/
import Derived.Test.YtilmgfkpgkpmeaaDoorChecked
import GoSem.PinnedTables
import GoSem.Claim
import GoSem.ClaimJoined
import GoSem.ClaimMapViews
import Derived.JoinedTies
import Derived.KernelRfl
namespace Go.Proofs.YtilmgfkpgkpmeaaDoor
/- THE CELL 'sum', in the pinned program and in every row, IS THE sha256 OF THE DUMP (.gsa) THAT YtilmgfkpgkpmeaaDoorProg.lean LOADS. Nothing in Lean hashes anything: it is a label: what it is worth is what the hold of that sum in a sandbox is worth. -/
noncomputable def Tryd.pinned : Pinned := { name := "ytilmgfkpgkpmeaadoor", sum := "6ea84bf37d7902858d3e00fc9ed7eaad806e05b57d26f2053a788bb9f9efbbe0", checked := Tryd.checked }
namespace Rows
def none {H : Type} : Left H := { results := [], args := [] }

/- WHAT THE LISTED PACKAGE-LEVEL VARIABLES READ AS WHEN THE CALL BEGINS. Each datum BY PROGRAM (the guide's laid-datum.mjs) off the statement by which the dump's own 'gosem.cut.vars' lays the variable. In a bare row this is a premise. The card (YtilmgfkpgkpmeaaDoorCards.lean) ties it to the program's text. -/
def laid_unicode_utf8_acceptRanges {H : Type} : DataW H := .agg [.agg [.lit (.int .u8 128), .lit (.int .u8 191)], .agg [.lit (.int .u8 160), .lit (.int .u8 191)], .agg [.lit (.int .u8 128), .lit (.int .u8 159)], .agg [.lit (.int .u8 144), .lit (.int .u8 191)], .agg [.lit (.int .u8 128), .lit (.int .u8 143)], .agg [.lit (.int .u8 0), .lit (.int .u8 0)], .agg [.lit (.int .u8 0), .lit (.int .u8 0)], .agg [.lit (.int .u8 0), .lit (.int .u8 0)], .agg [.lit (.int .u8 0), .lit (.int .u8 0)], .agg [.lit (.int .u8 0), .lit (.int .u8 0)], .agg [.lit (.int .u8 0), .lit (.int .u8 0)], .agg [.lit (.int .u8 0), .lit (.int .u8 0)], .agg [.lit (.int .u8 0), .lit (.int .u8 0)], .agg [.lit (.int .u8 0), .lit (.int .u8 0)], .agg [.lit (.int .u8 0), .lit (.int .u8 0)], .agg [.lit (.int .u8 0), .lit (.int .u8 0)]]
/-- One of Go's own tables, pinned by name: the form's constant. -/
def laid_unicode_utf8_first : DataW Unit := Go.Pinned.utf8First

/-- 'docketlaw09.UriParses': WHATEVER THE INPUT: true; the input reads as it did. -/
def uriParsesSpec : ChangeSpec := { name := "uriParses", fn := fun _ => fun
  | [d] => { results := [.lit (.bool true)], args := [d] }
  | _ => none }
def uriParsesRow : OpenClaim := { program := "ytilmgfkpgkpmeaadoor", sum := "6ea84bf37d7902858d3e00fc9ed7eaad806e05b57d26f2053a788bb9f9efbbe0", func := "docket/docketlaw09.UriParses", spec := "uriParses", inPlace := ["internal/bytealg.IndexByteString", "internal/bytealg.CountString", "internal/bytealg.IndexString", "internal/abi.NoEscape"], named := ["unicode/utf8.first", "unicode/utf8.acceptRanges", "internal/bytealg.MaxLen"], apart := false, laid := [("unicode/utf8.acceptRanges", laid_unicode_utf8_acceptRanges), ("unicode/utf8.first", laid_unicode_utf8_first)] }
def UriParsesSaid : Prop := uriParsesRow.holds Tryd.pinned (OpenSpec.ofChange uriParsesSpec)

/-- ITS FALSE NEIGHBOUR: 'it returns false'. Refute it at one input. -/
def uriParsesWrong : ChangeSpec := { name := "uriParses", fn := fun _ => fun
  | [d] => { results := [.lit (.bool false)], args := [d] }
  | _ => none }
def UriParsesWrongFalsely : Prop := uriParsesRow.holds Tryd.pinned (OpenSpec.ofChange uriParsesWrong)

/-- 'docketlaw09.UriTexts': WHATEVER THE INPUT: true; the input reads as it did. -/
def uriTextsSpec : ChangeSpec := { name := "uriTexts", fn := fun _ => fun
  | [d1, d2] => { results := [.lit (.bool true)], args := [d1, d2] }
  | _ => none }
def uriTextsRow : OpenClaim := { program := "ytilmgfkpgkpmeaadoor", sum := "6ea84bf37d7902858d3e00fc9ed7eaad806e05b57d26f2053a788bb9f9efbbe0", func := "docket/docketlaw09.UriTexts", spec := "uriTexts", inPlace := ["internal/bytealg.IndexByteString", "internal/bytealg.CountString", "internal/bytealg.IndexString", "internal/abi.NoEscape"], named := ["unicode/utf8.first", "unicode/utf8.acceptRanges", "internal/bytealg.MaxLen"], apart := false, laid := [("unicode/utf8.acceptRanges", laid_unicode_utf8_acceptRanges), ("unicode/utf8.first", laid_unicode_utf8_first)] }
def UriTextsSaid : Prop := uriTextsRow.holds Tryd.pinned (OpenSpec.ofChange uriTextsSpec)

/-- ITS FALSE NEIGHBOUR: 'it returns false'. Refute it at one input. -/
def uriTextsWrong : ChangeSpec := { name := "uriTexts", fn := fun _ => fun
  | [d1, d2] => { results := [.lit (.bool false)], args := [d1, d2] }
  | _ => none }
def UriTextsWrongFalsely : Prop := uriTextsRow.holds Tryd.pinned (OpenSpec.ofChange uriTextsWrong)

/-- 'docketlaw09.UriBack': WHATEVER THE INPUT: true; the input reads as it did. -/
def uriBackSpec : ChangeSpec := { name := "uriBack", fn := fun _ => fun
  | [d1, d2] => { results := [.lit (.bool true)], args := [d1, d2] }
  | _ => none }
def uriBackRow : OpenClaim := { program := "ytilmgfkpgkpmeaadoor", sum := "6ea84bf37d7902858d3e00fc9ed7eaad806e05b57d26f2053a788bb9f9efbbe0", func := "docket/docketlaw09.UriBack", spec := "uriBack", inPlace := ["internal/bytealg.IndexByteString", "internal/bytealg.CountString", "internal/bytealg.IndexString", "internal/abi.NoEscape"], named := ["unicode/utf8.first", "unicode/utf8.acceptRanges", "internal/bytealg.MaxLen"], apart := false, laid := [("unicode/utf8.acceptRanges", laid_unicode_utf8_acceptRanges), ("unicode/utf8.first", laid_unicode_utf8_first)] }
def UriBackSaid : Prop := uriBackRow.holds Tryd.pinned (OpenSpec.ofChange uriBackSpec)

/-- ITS FALSE NEIGHBOUR: 'it returns false'. Refute it at one input. -/
def uriBackWrong : ChangeSpec := { name := "uriBack", fn := fun _ => fun
  | [d1, d2] => { results := [.lit (.bool false)], args := [d1, d2] }
  | _ => none }
def UriBackWrongFalsely : Prop := uriBackRow.holds Tryd.pinned (OpenSpec.ofChange uriBackWrong)

/-- 'docketlaw09.UriDots': WHATEVER THE INPUT: true; the input reads as it did. -/
def uriDotsSpec : ChangeSpec := { name := "uriDots", fn := fun _ => fun
  | [d1, d2] => { results := [.lit (.bool true)], args := [d1, d2] }
  | _ => none }
def uriDotsRow : OpenClaim := { program := "ytilmgfkpgkpmeaadoor", sum := "6ea84bf37d7902858d3e00fc9ed7eaad806e05b57d26f2053a788bb9f9efbbe0", func := "docket/docketlaw09.UriDots", spec := "uriDots", inPlace := ["internal/bytealg.IndexByteString", "internal/bytealg.CountString", "internal/bytealg.IndexString", "internal/abi.NoEscape"], named := ["unicode/utf8.first", "unicode/utf8.acceptRanges", "internal/bytealg.MaxLen"], apart := false, laid := [("unicode/utf8.acceptRanges", laid_unicode_utf8_acceptRanges), ("unicode/utf8.first", laid_unicode_utf8_first)] }
def UriDotsSaid : Prop := uriDotsRow.holds Tryd.pinned (OpenSpec.ofChange uriDotsSpec)

/-- ITS FALSE NEIGHBOUR: 'it returns false'. Refute it at one input. -/
def uriDotsWrong : ChangeSpec := { name := "uriDots", fn := fun _ => fun
  | [d1, d2] => { results := [.lit (.bool false)], args := [d1, d2] }
  | _ => none }
def UriDotsWrongFalsely : Prop := uriDotsRow.holds Tryd.pinned (OpenSpec.ofChange uriDotsWrong)

/-- 'docketlaw09.UriOrder': WHATEVER THE INPUT: true; the input reads as it did. -/
def uriOrderSpec : ChangeSpec := { name := "uriOrder", fn := fun _ => fun
  | [d1, d2, d3] => { results := [.lit (.bool true)], args := [d1, d2, d3] }
  | _ => none }
def uriOrderRow : OpenClaim := { program := "ytilmgfkpgkpmeaadoor", sum := "6ea84bf37d7902858d3e00fc9ed7eaad806e05b57d26f2053a788bb9f9efbbe0", func := "docket/docketlaw09.UriOrder", spec := "uriOrder", inPlace := ["internal/bytealg.IndexByteString", "internal/bytealg.CountString", "internal/bytealg.IndexString", "internal/abi.NoEscape"], named := ["unicode/utf8.first", "unicode/utf8.acceptRanges", "internal/bytealg.MaxLen"], apart := false, laid := [("unicode/utf8.acceptRanges", laid_unicode_utf8_acceptRanges), ("unicode/utf8.first", laid_unicode_utf8_first)] }
def UriOrderSaid : Prop := uriOrderRow.holds Tryd.pinned (OpenSpec.ofChange uriOrderSpec)

/-- ITS FALSE NEIGHBOUR: 'it returns false'. Refute it at one input. -/
def uriOrderWrong : ChangeSpec := { name := "uriOrder", fn := fun _ => fun
  | [d1, d2, d3] => { results := [.lit (.bool false)], args := [d1, d2, d3] }
  | _ => none }
def UriOrderWrongFalsely : Prop := uriOrderRow.holds Tryd.pinned (OpenSpec.ofChange uriOrderWrong)

/-- 'docketlaw09.UriBytes': WHATEVER THE INPUT: true; the input reads as it did. -/
def uriBytesSpec : ChangeSpec := { name := "uriBytes", fn := fun _ => fun
  | [d1, d2] => { results := [.lit (.bool true)], args := [d1, d2] }
  | _ => none }
def uriBytesRow : OpenClaim := { program := "ytilmgfkpgkpmeaadoor", sum := "6ea84bf37d7902858d3e00fc9ed7eaad806e05b57d26f2053a788bb9f9efbbe0", func := "docket/docketlaw09.UriBytes", spec := "uriBytes", inPlace := ["internal/bytealg.IndexByteString", "internal/bytealg.CountString", "internal/bytealg.IndexString", "internal/abi.NoEscape"], named := ["unicode/utf8.first", "unicode/utf8.acceptRanges", "internal/bytealg.MaxLen"], apart := false, laid := [("unicode/utf8.acceptRanges", laid_unicode_utf8_acceptRanges), ("unicode/utf8.first", laid_unicode_utf8_first)] }
def UriBytesSaid : Prop := uriBytesRow.holds Tryd.pinned (OpenSpec.ofChange uriBytesSpec)

/-- ITS FALSE NEIGHBOUR: 'it returns false'. Refute it at one input. -/
def uriBytesWrong : ChangeSpec := { name := "uriBytes", fn := fun _ => fun
  | [d1, d2] => { results := [.lit (.bool false)], args := [d1, d2] }
  | _ => none }
def UriBytesWrongFalsely : Prop := uriBytesRow.holds Tryd.pinned (OpenSpec.ofChange uriBytesWrong)

/- THE SECOND FORM. 'bulk': how many values and letters a reading holds, each counted each time it is reached (what is shared counts as often as it is met; a slice's spare places count too). A statement '..UptoSaid' is the law's where the arguments, and the package variables that the reading takes, are together of bulk at most 1048576: NARROWER than '..Said'. Prove '..Said' where nothing that the law and all that it calls make is longer than what came in: it says more and counts as full. Else prove '..UptoSaid'. A law counts once. -/
mutual
def uptoBulk {H : Type} : DataW H → Nat
  | .lit (.string bytes) => bytes.length + 1
  | .lit _ => 1
  | .nil => 1
  | .ptr d => uptoBulk d + 1
  | .slice elems spare => uptoBulkAll elems + uptoBulkAll spare + 1
  | .agg parts => uptoBulkAll parts + 1
  | .iface _ d => uptoBulk d + 1
  | .map entries => uptoBulkEntries entries + 1
  | .held _ => 1
def uptoBulkAll {H : Type} : List (DataW H) → Nat
  | [] => 0
  | d :: r => uptoBulk d + uptoBulkAll r
def uptoBulkEntries {H : Type} : List (Lit × DataW H) → Nat
  | [] => 0
  | x :: r => uptoBulkEntry x + uptoBulkEntries r
def uptoBulkEntry {H : Type} : Lit × DataW H → Nat
  | (.string bytes, d) => bytes.length + uptoBulk d + 1
  | (_, d) => uptoBulk d + 1
 end
def uptoSmall : (H : Type) → List (DataW H) → Bool := fun _ ds => decide (uptoBulkAll ds ≤ 1048576)
def OpenSpec.upto (s : _root_.Go.ChangeSpec) : _root_.Go.OpenSpec := { _root_.Go.OpenSpec.ofChange s with cond := some uptoSmall }

/-- 'docketlaw09.UriParses', WHERE WHAT IT READS IS OF BULK AT MOST 1048576: true; the input reads as it did. -/
def uriParsesUptoRow : OpenClaim := { program := "ytilmgfkpgkpmeaadoor", sum := "6ea84bf37d7902858d3e00fc9ed7eaad806e05b57d26f2053a788bb9f9efbbe0", func := "docket/docketlaw09.UriParses", spec := "uriParses", inPlace := ["internal/bytealg.IndexByteString", "internal/bytealg.CountString", "internal/bytealg.IndexString", "internal/abi.NoEscape"], named := ["unicode/utf8.first", "unicode/utf8.acceptRanges", "internal/bytealg.MaxLen"], apart := false, laid := [("unicode/utf8.acceptRanges", laid_unicode_utf8_acceptRanges), ("unicode/utf8.first", laid_unicode_utf8_first)], narrowed := true }
def UriParsesUptoSaid : Prop := uriParsesUptoRow.holds Tryd.pinned (OpenSpec.upto uriParsesSpec)

/-- 'docketlaw09.UriTexts', WHERE WHAT IT READS IS OF BULK AT MOST 1048576: true; the input reads as it did. -/
def uriTextsUptoRow : OpenClaim := { program := "ytilmgfkpgkpmeaadoor", sum := "6ea84bf37d7902858d3e00fc9ed7eaad806e05b57d26f2053a788bb9f9efbbe0", func := "docket/docketlaw09.UriTexts", spec := "uriTexts", inPlace := ["internal/bytealg.IndexByteString", "internal/bytealg.CountString", "internal/bytealg.IndexString", "internal/abi.NoEscape"], named := ["unicode/utf8.first", "unicode/utf8.acceptRanges", "internal/bytealg.MaxLen"], apart := false, laid := [("unicode/utf8.acceptRanges", laid_unicode_utf8_acceptRanges), ("unicode/utf8.first", laid_unicode_utf8_first)], narrowed := true }
def UriTextsUptoSaid : Prop := uriTextsUptoRow.holds Tryd.pinned (OpenSpec.upto uriTextsSpec)

/-- 'docketlaw09.UriBack', WHERE WHAT IT READS IS OF BULK AT MOST 1048576: true; the input reads as it did. -/
def uriBackUptoRow : OpenClaim := { program := "ytilmgfkpgkpmeaadoor", sum := "6ea84bf37d7902858d3e00fc9ed7eaad806e05b57d26f2053a788bb9f9efbbe0", func := "docket/docketlaw09.UriBack", spec := "uriBack", inPlace := ["internal/bytealg.IndexByteString", "internal/bytealg.CountString", "internal/bytealg.IndexString", "internal/abi.NoEscape"], named := ["unicode/utf8.first", "unicode/utf8.acceptRanges", "internal/bytealg.MaxLen"], apart := false, laid := [("unicode/utf8.acceptRanges", laid_unicode_utf8_acceptRanges), ("unicode/utf8.first", laid_unicode_utf8_first)], narrowed := true }
def UriBackUptoSaid : Prop := uriBackUptoRow.holds Tryd.pinned (OpenSpec.upto uriBackSpec)

/-- 'docketlaw09.UriDots', WHERE WHAT IT READS IS OF BULK AT MOST 1048576: true; the input reads as it did. -/
def uriDotsUptoRow : OpenClaim := { program := "ytilmgfkpgkpmeaadoor", sum := "6ea84bf37d7902858d3e00fc9ed7eaad806e05b57d26f2053a788bb9f9efbbe0", func := "docket/docketlaw09.UriDots", spec := "uriDots", inPlace := ["internal/bytealg.IndexByteString", "internal/bytealg.CountString", "internal/bytealg.IndexString", "internal/abi.NoEscape"], named := ["unicode/utf8.first", "unicode/utf8.acceptRanges", "internal/bytealg.MaxLen"], apart := false, laid := [("unicode/utf8.acceptRanges", laid_unicode_utf8_acceptRanges), ("unicode/utf8.first", laid_unicode_utf8_first)], narrowed := true }
def UriDotsUptoSaid : Prop := uriDotsUptoRow.holds Tryd.pinned (OpenSpec.upto uriDotsSpec)

/-- 'docketlaw09.UriOrder', WHERE WHAT IT READS IS OF BULK AT MOST 1048576: true; the input reads as it did. -/
def uriOrderUptoRow : OpenClaim := { program := "ytilmgfkpgkpmeaadoor", sum := "6ea84bf37d7902858d3e00fc9ed7eaad806e05b57d26f2053a788bb9f9efbbe0", func := "docket/docketlaw09.UriOrder", spec := "uriOrder", inPlace := ["internal/bytealg.IndexByteString", "internal/bytealg.CountString", "internal/bytealg.IndexString", "internal/abi.NoEscape"], named := ["unicode/utf8.first", "unicode/utf8.acceptRanges", "internal/bytealg.MaxLen"], apart := false, laid := [("unicode/utf8.acceptRanges", laid_unicode_utf8_acceptRanges), ("unicode/utf8.first", laid_unicode_utf8_first)], narrowed := true }
def UriOrderUptoSaid : Prop := uriOrderUptoRow.holds Tryd.pinned (OpenSpec.upto uriOrderSpec)

/-- 'docketlaw09.UriBytes', WHERE WHAT IT READS IS OF BULK AT MOST 1048576: true; the input reads as it did. -/
def uriBytesUptoRow : OpenClaim := { program := "ytilmgfkpgkpmeaadoor", sum := "6ea84bf37d7902858d3e00fc9ed7eaad806e05b57d26f2053a788bb9f9efbbe0", func := "docket/docketlaw09.UriBytes", spec := "uriBytes", inPlace := ["internal/bytealg.IndexByteString", "internal/bytealg.CountString", "internal/bytealg.IndexString", "internal/abi.NoEscape"], named := ["unicode/utf8.first", "unicode/utf8.acceptRanges", "internal/bytealg.MaxLen"], apart := false, laid := [("unicode/utf8.acceptRanges", laid_unicode_utf8_acceptRanges), ("unicode/utf8.first", laid_unicode_utf8_first)], narrowed := true }
def UriBytesUptoSaid : Prop := uriBytesUptoRow.holds Tryd.pinned (OpenSpec.upto uriBytesSpec)

end Rows
end Go.Proofs.YtilmgfkpgkpmeaaDoor
