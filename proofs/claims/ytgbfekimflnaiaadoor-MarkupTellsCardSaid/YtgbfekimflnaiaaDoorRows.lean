/-
  NARROWER THAN 'FOR EVERY INPUT', by the rows' own cells (each row's printed sentence says how): MarkupTells: laid · MarkupBack: laid · MarkupParts: laid · MarkupWords: laid · MarkupMarks: laid.
  DERIVED. THE GIVEN ROWS OF THIS SEAT. 5 by the template 'for every input the law returns true; each argument reads behind the call as it read before'; 0 by the template 'total and deterministic' (their statements: YtgbfekimflnaiaaDoorTotals.lean).
  GIVEN WITH THE SEED: the statements are not yours to turn. If you find one false, say at which input.
  Laid BY PROGRAM, IN A SANDBOX (cutbox-rows.mjs): the forced cells as the released guide's own fill.sh prints them over the translation f4eb69395d483591… (all of the seat's roots in one cut). By AI agents, Wed Nov 11 2026. No macro, syntax, notation, axiom, sorry.
-/
import Derived.Test.YtgbfekimflnaiaaDoorChecked
import GoSem.PinnedTables
import GoSem.Claim
import GoSem.ClaimJoined
import GoSem.ClaimMapViews
import Derived.JoinedTies
import Derived.KernelRfl
namespace Go.Proofs.YtgbfekimflnaiaaDoor
/- THE CELL 'sum', in the pinned program and in every row, IS THE sha256 OF THE DUMP (.gsa) THAT YtgbfekimflnaiaaDoorProg.lean LOADS. Nothing in Lean hashes anything: it is a label: what it is worth is what the hold of that sum in a sandbox is worth. -/
noncomputable def Tryd.pinned : Pinned := { name := "ytgbfekimflnaiaadoor", sum := "f4eb69395d48359198e672d6b6a6b00031b70c364ea5f5530a60f00068413569", checked := Tryd.checked }
namespace Rows
def none {H : Type} : Left H := { results := [], args := [] }

/- WHAT THE LISTED PACKAGE-LEVEL VARIABLES READ AS WHEN THE CALL BEGINS. Each datum BY PROGRAM (the guide's laid-datum.mjs) off the statement by which the dump's own 'gosem.cut.vars' lays the variable. In a bare row this is a premise. The card (YtgbfekimflnaiaaDoorCards.lean) ties it to the program's text. -/
def laid_unicode_utf8_acceptRanges {H : Type} : DataW H := .agg [.agg [.lit (.int .u8 128), .lit (.int .u8 191)], .agg [.lit (.int .u8 160), .lit (.int .u8 191)], .agg [.lit (.int .u8 128), .lit (.int .u8 159)], .agg [.lit (.int .u8 144), .lit (.int .u8 191)], .agg [.lit (.int .u8 128), .lit (.int .u8 143)], .agg [.lit (.int .u8 0), .lit (.int .u8 0)], .agg [.lit (.int .u8 0), .lit (.int .u8 0)], .agg [.lit (.int .u8 0), .lit (.int .u8 0)], .agg [.lit (.int .u8 0), .lit (.int .u8 0)], .agg [.lit (.int .u8 0), .lit (.int .u8 0)], .agg [.lit (.int .u8 0), .lit (.int .u8 0)], .agg [.lit (.int .u8 0), .lit (.int .u8 0)], .agg [.lit (.int .u8 0), .lit (.int .u8 0)], .agg [.lit (.int .u8 0), .lit (.int .u8 0)], .agg [.lit (.int .u8 0), .lit (.int .u8 0)], .agg [.lit (.int .u8 0), .lit (.int .u8 0)]]
/-- One of Go's own tables, pinned by name: the form's constant. -/
def laid_unicode_utf8_first : DataW Unit := Go.Pinned.utf8First

/-- 'codexlaw11.MarkupTells': WHATEVER THE INPUT: true; the input reads as it did. -/
def markupTellsSpec : ChangeSpec := { name := "markupTells", fn := fun _ => fun
  | [d1, d2] => { results := [.lit (.bool true)], args := [d1, d2] }
  | _ => none }
def markupTellsRow : OpenClaim := { program := "ytgbfekimflnaiaadoor", sum := "f4eb69395d48359198e672d6b6a6b00031b70c364ea5f5530a60f00068413569", func := "codex/codexlaw11.MarkupTells", spec := "markupTells", inPlace := ["internal/bytealg.IndexByteString", "internal/bytealg.IndexString", "internal/abi.NoEscape", "internal/bytealg.MakeNoZero"], unfollowed := true, recurses := true, named := ["unicode/utf8.first", "unicode/utf8.acceptRanges", "internal/bytealg.MaxLen"], apart := false, laid := [("unicode/utf8.acceptRanges", laid_unicode_utf8_acceptRanges), ("unicode/utf8.first", laid_unicode_utf8_first)] }
def MarkupTellsSaid : Prop := markupTellsRow.holds Tryd.pinned (OpenSpec.ofChange markupTellsSpec)

/-- ITS FALSE NEIGHBOUR: 'it returns false'. Refute it at one input. -/
def markupTellsWrong : ChangeSpec := { name := "markupTells", fn := fun _ => fun
  | [d1, d2] => { results := [.lit (.bool false)], args := [d1, d2] }
  | _ => none }
def MarkupTellsWrongFalsely : Prop := markupTellsRow.holds Tryd.pinned (OpenSpec.ofChange markupTellsWrong)

/-- 'codexlaw11.MarkupBack': WHATEVER THE INPUT: true; the input reads as it did. -/
def markupBackSpec : ChangeSpec := { name := "markupBack", fn := fun _ => fun
  | [d1, d2] => { results := [.lit (.bool true)], args := [d1, d2] }
  | _ => none }
def markupBackRow : OpenClaim := { program := "ytgbfekimflnaiaadoor", sum := "f4eb69395d48359198e672d6b6a6b00031b70c364ea5f5530a60f00068413569", func := "codex/codexlaw11.MarkupBack", spec := "markupBack", inPlace := ["internal/bytealg.IndexByteString", "internal/bytealg.IndexString", "internal/abi.NoEscape", "internal/bytealg.MakeNoZero"], unfollowed := true, recurses := true, named := ["unicode/utf8.first", "unicode/utf8.acceptRanges", "internal/bytealg.MaxLen"], apart := false, laid := [("unicode/utf8.acceptRanges", laid_unicode_utf8_acceptRanges), ("unicode/utf8.first", laid_unicode_utf8_first)] }
def MarkupBackSaid : Prop := markupBackRow.holds Tryd.pinned (OpenSpec.ofChange markupBackSpec)

/-- ITS FALSE NEIGHBOUR: 'it returns false'. Refute it at one input. -/
def markupBackWrong : ChangeSpec := { name := "markupBack", fn := fun _ => fun
  | [d1, d2] => { results := [.lit (.bool false)], args := [d1, d2] }
  | _ => none }
def MarkupBackWrongFalsely : Prop := markupBackRow.holds Tryd.pinned (OpenSpec.ofChange markupBackWrong)

/-- 'codexlaw11.MarkupParts': WHATEVER THE INPUT: true; the input reads as it did. -/
def markupPartsSpec : ChangeSpec := { name := "markupParts", fn := fun _ => fun
  | [d1, d2] => { results := [.lit (.bool true)], args := [d1, d2] }
  | _ => none }
def markupPartsRow : OpenClaim := { program := "ytgbfekimflnaiaadoor", sum := "f4eb69395d48359198e672d6b6a6b00031b70c364ea5f5530a60f00068413569", func := "codex/codexlaw11.MarkupParts", spec := "markupParts", inPlace := ["internal/bytealg.IndexByteString", "internal/bytealg.IndexString", "internal/abi.NoEscape", "internal/bytealg.MakeNoZero"], unfollowed := true, recurses := true, named := ["unicode/utf8.first", "unicode/utf8.acceptRanges", "internal/bytealg.MaxLen"], apart := false, laid := [("unicode/utf8.acceptRanges", laid_unicode_utf8_acceptRanges), ("unicode/utf8.first", laid_unicode_utf8_first)] }
def MarkupPartsSaid : Prop := markupPartsRow.holds Tryd.pinned (OpenSpec.ofChange markupPartsSpec)

/-- ITS FALSE NEIGHBOUR: 'it returns false'. Refute it at one input. -/
def markupPartsWrong : ChangeSpec := { name := "markupParts", fn := fun _ => fun
  | [d1, d2] => { results := [.lit (.bool false)], args := [d1, d2] }
  | _ => none }
def MarkupPartsWrongFalsely : Prop := markupPartsRow.holds Tryd.pinned (OpenSpec.ofChange markupPartsWrong)

/-- 'codexlaw11.MarkupWords': WHATEVER THE INPUT: true; the input reads as it did. -/
def markupWordsSpec : ChangeSpec := { name := "markupWords", fn := fun _ => fun
  | [d1, d2] => { results := [.lit (.bool true)], args := [d1, d2] }
  | _ => none }
def markupWordsRow : OpenClaim := { program := "ytgbfekimflnaiaadoor", sum := "f4eb69395d48359198e672d6b6a6b00031b70c364ea5f5530a60f00068413569", func := "codex/codexlaw11.MarkupWords", spec := "markupWords", inPlace := ["internal/bytealg.IndexByteString", "internal/bytealg.IndexString", "internal/abi.NoEscape", "internal/bytealg.MakeNoZero"], unfollowed := true, recurses := true, named := ["unicode/utf8.first", "unicode/utf8.acceptRanges", "internal/bytealg.MaxLen"], apart := false, laid := [("unicode/utf8.acceptRanges", laid_unicode_utf8_acceptRanges), ("unicode/utf8.first", laid_unicode_utf8_first)] }
def MarkupWordsSaid : Prop := markupWordsRow.holds Tryd.pinned (OpenSpec.ofChange markupWordsSpec)

/-- ITS FALSE NEIGHBOUR: 'it returns false'. Refute it at one input. -/
def markupWordsWrong : ChangeSpec := { name := "markupWords", fn := fun _ => fun
  | [d1, d2] => { results := [.lit (.bool false)], args := [d1, d2] }
  | _ => none }
def MarkupWordsWrongFalsely : Prop := markupWordsRow.holds Tryd.pinned (OpenSpec.ofChange markupWordsWrong)

/-- 'codexlaw11.MarkupMarks': WHATEVER THE INPUT: true; the input reads as it did. -/
def markupMarksSpec : ChangeSpec := { name := "markupMarks", fn := fun _ => fun
  | [d1, d2, d3] => { results := [.lit (.bool true)], args := [d1, d2, d3] }
  | _ => none }
def markupMarksRow : OpenClaim := { program := "ytgbfekimflnaiaadoor", sum := "f4eb69395d48359198e672d6b6a6b00031b70c364ea5f5530a60f00068413569", func := "codex/codexlaw11.MarkupMarks", spec := "markupMarks", inPlace := ["internal/bytealg.IndexByteString", "internal/bytealg.IndexString", "internal/abi.NoEscape", "internal/bytealg.MakeNoZero"], unfollowed := true, recurses := true, named := ["unicode/utf8.first", "unicode/utf8.acceptRanges", "internal/bytealg.MaxLen"], apart := false, laid := [("unicode/utf8.acceptRanges", laid_unicode_utf8_acceptRanges), ("unicode/utf8.first", laid_unicode_utf8_first)] }
def MarkupMarksSaid : Prop := markupMarksRow.holds Tryd.pinned (OpenSpec.ofChange markupMarksSpec)

/-- ITS FALSE NEIGHBOUR: 'it returns false'. Refute it at one input. -/
def markupMarksWrong : ChangeSpec := { name := "markupMarks", fn := fun _ => fun
  | [d1, d2, d3] => { results := [.lit (.bool false)], args := [d1, d2, d3] }
  | _ => none }
def MarkupMarksWrongFalsely : Prop := markupMarksRow.holds Tryd.pinned (OpenSpec.ofChange markupMarksWrong)

/- THE SECOND FORM. 'bulk': how many values and letters a reading holds, each counted each time it is reached (what is shared counts as often as it is met; a slice's spare places count too). A statement '..UptoSaid' is the law's where the arguments, and the package variables that the reading takes, are together of bulk at most 1048576: NARROWER than '..Said'. Prove '..Said' where nothing that the law and all that it calls make is longer than what came in: it says more and counts as full. Else prove '..UptoSaid'. A law counts once. -/
mutual
def uptoBulk {H : Type} : DataW H → Nat
  | .lit (.string bytes) => bytes.length + 1
  | .lit _ => 1
  | .nil => 1
  | .ptr d => uptoBulk d + 1
  | .slice elems spare => uptoBulkAll elems + uptoBulkAll spare + 1
  | .agg parts => uptoBulkAll parts + 1
  | .iface _ d => uptoBulk d + 1
  | .map entries => uptoBulkEntries entries + 1
  | .held _ => 1
def uptoBulkAll {H : Type} : List (DataW H) → Nat
  | [] => 0
  | d :: r => uptoBulk d + uptoBulkAll r
def uptoBulkEntries {H : Type} : List (Lit × DataW H) → Nat
  | [] => 0
  | x :: r => uptoBulkEntry x + uptoBulkEntries r
def uptoBulkEntry {H : Type} : Lit × DataW H → Nat
  | (.string bytes, d) => bytes.length + uptoBulk d + 1
  | (_, d) => uptoBulk d + 1
 end
def uptoSmall : (H : Type) → List (DataW H) → Bool := fun _ ds => decide (uptoBulkAll ds ≤ 1048576)
def OpenSpec.upto (s : _root_.Go.ChangeSpec) : _root_.Go.OpenSpec := { _root_.Go.OpenSpec.ofChange s with cond := some uptoSmall }

/-- 'codexlaw11.MarkupTells', WHERE WHAT IT READS IS OF BULK AT MOST 1048576: true; the input reads as it did. -/
def markupTellsUptoRow : OpenClaim := { program := "ytgbfekimflnaiaadoor", sum := "f4eb69395d48359198e672d6b6a6b00031b70c364ea5f5530a60f00068413569", func := "codex/codexlaw11.MarkupTells", spec := "markupTells", inPlace := ["internal/bytealg.IndexByteString", "internal/bytealg.IndexString", "internal/abi.NoEscape", "internal/bytealg.MakeNoZero"], unfollowed := true, recurses := true, named := ["unicode/utf8.first", "unicode/utf8.acceptRanges", "internal/bytealg.MaxLen"], apart := false, laid := [("unicode/utf8.acceptRanges", laid_unicode_utf8_acceptRanges), ("unicode/utf8.first", laid_unicode_utf8_first)], narrowed := true }
def MarkupTellsUptoSaid : Prop := markupTellsUptoRow.holds Tryd.pinned (OpenSpec.upto markupTellsSpec)

/-- 'codexlaw11.MarkupBack', WHERE WHAT IT READS IS OF BULK AT MOST 1048576: true; the input reads as it did. -/
def markupBackUptoRow : OpenClaim := { program := "ytgbfekimflnaiaadoor", sum := "f4eb69395d48359198e672d6b6a6b00031b70c364ea5f5530a60f00068413569", func := "codex/codexlaw11.MarkupBack", spec := "markupBack", inPlace := ["internal/bytealg.IndexByteString", "internal/bytealg.IndexString", "internal/abi.NoEscape", "internal/bytealg.MakeNoZero"], unfollowed := true, recurses := true, named := ["unicode/utf8.first", "unicode/utf8.acceptRanges", "internal/bytealg.MaxLen"], apart := false, laid := [("unicode/utf8.acceptRanges", laid_unicode_utf8_acceptRanges), ("unicode/utf8.first", laid_unicode_utf8_first)], narrowed := true }
def MarkupBackUptoSaid : Prop := markupBackUptoRow.holds Tryd.pinned (OpenSpec.upto markupBackSpec)

/-- 'codexlaw11.MarkupParts', WHERE WHAT IT READS IS OF BULK AT MOST 1048576: true; the input reads as it did. -/
def markupPartsUptoRow : OpenClaim := { program := "ytgbfekimflnaiaadoor", sum := "f4eb69395d48359198e672d6b6a6b00031b70c364ea5f5530a60f00068413569", func := "codex/codexlaw11.MarkupParts", spec := "markupParts", inPlace := ["internal/bytealg.IndexByteString", "internal/bytealg.IndexString", "internal/abi.NoEscape", "internal/bytealg.MakeNoZero"], unfollowed := true, recurses := true, named := ["unicode/utf8.first", "unicode/utf8.acceptRanges", "internal/bytealg.MaxLen"], apart := false, laid := [("unicode/utf8.acceptRanges", laid_unicode_utf8_acceptRanges), ("unicode/utf8.first", laid_unicode_utf8_first)], narrowed := true }
def MarkupPartsUptoSaid : Prop := markupPartsUptoRow.holds Tryd.pinned (OpenSpec.upto markupPartsSpec)

/-- 'codexlaw11.MarkupWords', WHERE WHAT IT READS IS OF BULK AT MOST 1048576: true; the input reads as it did. -/
def markupWordsUptoRow : OpenClaim := { program := "ytgbfekimflnaiaadoor", sum := "f4eb69395d48359198e672d6b6a6b00031b70c364ea5f5530a60f00068413569", func := "codex/codexlaw11.MarkupWords", spec := "markupWords", inPlace := ["internal/bytealg.IndexByteString", "internal/bytealg.IndexString", "internal/abi.NoEscape", "internal/bytealg.MakeNoZero"], unfollowed := true, recurses := true, named := ["unicode/utf8.first", "unicode/utf8.acceptRanges", "internal/bytealg.MaxLen"], apart := false, laid := [("unicode/utf8.acceptRanges", laid_unicode_utf8_acceptRanges), ("unicode/utf8.first", laid_unicode_utf8_first)], narrowed := true }
def MarkupWordsUptoSaid : Prop := markupWordsUptoRow.holds Tryd.pinned (OpenSpec.upto markupWordsSpec)

/-- 'codexlaw11.MarkupMarks', WHERE WHAT IT READS IS OF BULK AT MOST 1048576: true; the input reads as it did. -/
def markupMarksUptoRow : OpenClaim := { program := "ytgbfekimflnaiaadoor", sum := "f4eb69395d48359198e672d6b6a6b00031b70c364ea5f5530a60f00068413569", func := "codex/codexlaw11.MarkupMarks", spec := "markupMarks", inPlace := ["internal/bytealg.IndexByteString", "internal/bytealg.IndexString", "internal/abi.NoEscape", "internal/bytealg.MakeNoZero"], unfollowed := true, recurses := true, named := ["unicode/utf8.first", "unicode/utf8.acceptRanges", "internal/bytealg.MaxLen"], apart := false, laid := [("unicode/utf8.acceptRanges", laid_unicode_utf8_acceptRanges), ("unicode/utf8.first", laid_unicode_utf8_first)], narrowed := true }
def MarkupMarksUptoSaid : Prop := markupMarksUptoRow.holds Tryd.pinned (OpenSpec.upto markupMarksSpec)

end Rows
end Go.Proofs.YtgbfekimflnaiaaDoor
