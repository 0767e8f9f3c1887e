/-
  NARROWER THAN 'FOR EVERY INPUT', by the rows' own cells (each row's printed sentence says how): JobValid: laid · JobRight: laid · JobReads: laid · JobConfigs: laid · JobCopies: laid · JobWrites: laid · JobBack: laid · JobAgain: laid.
  DERIVED. THE GIVEN ROWS OF THIS SEAT. 8 by the template 'for every input the law returns true; each argument reads behind the call as it read before'; 0 by the template 'total and deterministic' (their statements: YtgkchcbnbbgdpaaGreatDoorTotals.lean).
  GIVEN WITH THE SEED: the statements are not yours to turn. If you find one false, say at which input.
  Laid BY PROGRAM, IN A SANDBOX (cutbox-rows.mjs): the forced cells as the released guide's own fill.sh prints them over the translation 9ddfd1d8b41c1712… (all of the seat's roots in one cut). By AI agents, Wed Nov 11 2026. No macro, syntax, notation, axiom, sorry.
-/
import Derived.Test.YtgkchcbnbbgdpaaGreatDoorChecked
import GoSem.PinnedTables
import GoSem.Claim
import GoSem.ClaimJoined
import GoSem.ClaimMapViews
import Derived.JoinedTies
import Derived.KernelRfl
namespace Go.Proofs.YtgkchcbnbbgdpaaGreatDoor
/- THE CELL 'sum', in the pinned program and in every row, IS THE sha256 OF THE DUMP (.gsa) THAT YtgkchcbnbbgdpaaGreatDoorProg.lean LOADS. Nothing in Lean hashes anything: it is a label: what it is worth is what the hold of that sum in a sandbox is worth. -/
noncomputable def Tryz.pinned : Pinned := { name := "ytgkchcbnbbgdpaagreatdoor", sum := "9ddfd1d8b41c1712b1c253a121a39daad30eac65e878cbaed80155af44722fdc", checked := Tryz.checked }
namespace Rows
def none {H : Type} : Left H := { results := [], args := [] }

/- WHAT THE LISTED PACKAGE-LEVEL VARIABLES READ AS WHEN THE CALL BEGINS. Each datum BY PROGRAM (the guide's laid-datum.mjs) off the statement by which the dump's own 'gosem.cut.vars' lays the variable. In a bare row this is a premise. The card (YtgkchcbnbbgdpaaGreatDoorCards.lean) ties it to the program's text. -/
def laid_unicode_utf8_acceptRanges {H : Type} : DataW H := .agg [.agg [.lit (.int .u8 128), .lit (.int .u8 191)], .agg [.lit (.int .u8 160), .lit (.int .u8 191)], .agg [.lit (.int .u8 128), .lit (.int .u8 159)], .agg [.lit (.int .u8 144), .lit (.int .u8 191)], .agg [.lit (.int .u8 128), .lit (.int .u8 143)], .agg [.lit (.int .u8 0), .lit (.int .u8 0)], .agg [.lit (.int .u8 0), .lit (.int .u8 0)], .agg [.lit (.int .u8 0), .lit (.int .u8 0)], .agg [.lit (.int .u8 0), .lit (.int .u8 0)], .agg [.lit (.int .u8 0), .lit (.int .u8 0)], .agg [.lit (.int .u8 0), .lit (.int .u8 0)], .agg [.lit (.int .u8 0), .lit (.int .u8 0)], .agg [.lit (.int .u8 0), .lit (.int .u8 0)], .agg [.lit (.int .u8 0), .lit (.int .u8 0)], .agg [.lit (.int .u8 0), .lit (.int .u8 0)], .agg [.lit (.int .u8 0), .lit (.int .u8 0)]]
/-- One of Go's own tables, pinned by name: the form's constant. -/
def laid_unicode_utf8_first : DataW Unit := Go.Pinned.utf8First

/-- 'outriderlaw17.JobValid': WHATEVER THE INPUT: true; the input reads as it did. -/
def jobValidSpec : ChangeSpec := { name := "jobValid", fn := fun _ => fun
  | [d] => { results := [.lit (.bool true)], args := [d] }
  | _ => none }
def jobValidRow : OpenClaim := { program := "ytgkchcbnbbgdpaagreatdoor", sum := "9ddfd1d8b41c1712b1c253a121a39daad30eac65e878cbaed80155af44722fdc", func := "outrider/outriderlaw17.JobValid", spec := "jobValid", inPlace := ["internal/bytealg.CountString", "internal/bytealg.IndexByteString", "internal/bytealg.IndexString", "internal/abi.NoEscape", "internal/bytealg.MakeNoZero"], unfollowed := true, recurses := true, named := ["unicode/utf8.first", "unicode/utf8.acceptRanges", "internal/bytealg.MaxLen"], apart := false, laid := [("unicode/utf8.acceptRanges", laid_unicode_utf8_acceptRanges), ("unicode/utf8.first", laid_unicode_utf8_first)] }
def JobValidSaid : Prop := jobValidRow.holds Tryz.pinned (OpenSpec.ofChange jobValidSpec)

/-- ITS FALSE NEIGHBOUR: 'it returns false'. Refute it at one input. -/
def jobValidWrong : ChangeSpec := { name := "jobValid", fn := fun _ => fun
  | [d] => { results := [.lit (.bool false)], args := [d] }
  | _ => none }
def JobValidWrongFalsely : Prop := jobValidRow.holds Tryz.pinned (OpenSpec.ofChange jobValidWrong)

/-- 'outriderlaw17.JobRight': WHATEVER THE INPUT: true; the input reads as it did. -/
def jobRightSpec : ChangeSpec := { name := "jobRight", fn := fun _ => fun
  | [d] => { results := [.lit (.bool true)], args := [d] }
  | _ => none }
def jobRightRow : OpenClaim := { program := "ytgkchcbnbbgdpaagreatdoor", sum := "9ddfd1d8b41c1712b1c253a121a39daad30eac65e878cbaed80155af44722fdc", func := "outrider/outriderlaw17.JobRight", spec := "jobRight", inPlace := ["internal/bytealg.CountString", "internal/bytealg.IndexByteString", "internal/bytealg.IndexString", "internal/abi.NoEscape", "internal/bytealg.MakeNoZero"], unfollowed := true, recurses := true, named := ["unicode/utf8.first", "unicode/utf8.acceptRanges", "internal/bytealg.MaxLen"], apart := false, laid := [("unicode/utf8.acceptRanges", laid_unicode_utf8_acceptRanges), ("unicode/utf8.first", laid_unicode_utf8_first)] }
def JobRightSaid : Prop := jobRightRow.holds Tryz.pinned (OpenSpec.ofChange jobRightSpec)

/-- ITS FALSE NEIGHBOUR: 'it returns false'. Refute it at one input. -/
def jobRightWrong : ChangeSpec := { name := "jobRight", fn := fun _ => fun
  | [d] => { results := [.lit (.bool false)], args := [d] }
  | _ => none }
def JobRightWrongFalsely : Prop := jobRightRow.holds Tryz.pinned (OpenSpec.ofChange jobRightWrong)

/-- 'outriderlaw17.JobReads': WHATEVER THE INPUT: true; the input reads as it did. -/
def jobReadsSpec : ChangeSpec := { name := "jobReads", fn := fun _ => fun
  | [d] => { results := [.lit (.bool true)], args := [d] }
  | _ => none }
def jobReadsRow : OpenClaim := { program := "ytgkchcbnbbgdpaagreatdoor", sum := "9ddfd1d8b41c1712b1c253a121a39daad30eac65e878cbaed80155af44722fdc", func := "outrider/outriderlaw17.JobReads", spec := "jobReads", inPlace := ["internal/bytealg.CountString", "internal/bytealg.IndexByteString", "internal/bytealg.IndexString", "internal/abi.NoEscape", "internal/bytealg.MakeNoZero"], unfollowed := true, recurses := true, named := ["unicode/utf8.first", "unicode/utf8.acceptRanges", "internal/bytealg.MaxLen"], apart := false, laid := [("unicode/utf8.acceptRanges", laid_unicode_utf8_acceptRanges), ("unicode/utf8.first", laid_unicode_utf8_first)] }
def JobReadsSaid : Prop := jobReadsRow.holds Tryz.pinned (OpenSpec.ofChange jobReadsSpec)

/-- ITS FALSE NEIGHBOUR: 'it returns false'. Refute it at one input. -/
def jobReadsWrong : ChangeSpec := { name := "jobReads", fn := fun _ => fun
  | [d] => { results := [.lit (.bool false)], args := [d] }
  | _ => none }
def JobReadsWrongFalsely : Prop := jobReadsRow.holds Tryz.pinned (OpenSpec.ofChange jobReadsWrong)

/-- 'outriderlaw17.JobConfigs': WHATEVER THE INPUT: true; the input reads as it did. -/
def jobConfigsSpec : ChangeSpec := { name := "jobConfigs", fn := fun _ => fun
  | [d1, d2] => { results := [.lit (.bool true)], args := [d1, d2] }
  | _ => none }
def jobConfigsRow : OpenClaim := { program := "ytgkchcbnbbgdpaagreatdoor", sum := "9ddfd1d8b41c1712b1c253a121a39daad30eac65e878cbaed80155af44722fdc", func := "outrider/outriderlaw17.JobConfigs", spec := "jobConfigs", inPlace := ["internal/bytealg.CountString", "internal/bytealg.IndexByteString", "internal/bytealg.IndexString", "internal/abi.NoEscape", "internal/bytealg.MakeNoZero"], unfollowed := true, recurses := true, named := ["unicode/utf8.first", "unicode/utf8.acceptRanges", "internal/bytealg.MaxLen"], apart := false, laid := [("unicode/utf8.acceptRanges", laid_unicode_utf8_acceptRanges), ("unicode/utf8.first", laid_unicode_utf8_first)] }
def JobConfigsSaid : Prop := jobConfigsRow.holds Tryz.pinned (OpenSpec.ofChange jobConfigsSpec)

/-- ITS FALSE NEIGHBOUR: 'it returns false'. Refute it at one input. -/
def jobConfigsWrong : ChangeSpec := { name := "jobConfigs", fn := fun _ => fun
  | [d1, d2] => { results := [.lit (.bool false)], args := [d1, d2] }
  | _ => none }
def JobConfigsWrongFalsely : Prop := jobConfigsRow.holds Tryz.pinned (OpenSpec.ofChange jobConfigsWrong)

/-- 'outriderlaw17.JobCopies': WHATEVER THE INPUT: true; the input reads as it did. -/
def jobCopiesSpec : ChangeSpec := { name := "jobCopies", fn := fun _ => fun
  | [d1, d2] => { results := [.lit (.bool true)], args := [d1, d2] }
  | _ => none }
def jobCopiesRow : OpenClaim := { program := "ytgkchcbnbbgdpaagreatdoor", sum := "9ddfd1d8b41c1712b1c253a121a39daad30eac65e878cbaed80155af44722fdc", func := "outrider/outriderlaw17.JobCopies", spec := "jobCopies", inPlace := ["internal/bytealg.CountString", "internal/bytealg.IndexByteString", "internal/bytealg.IndexString", "internal/abi.NoEscape", "internal/bytealg.MakeNoZero"], unfollowed := true, recurses := true, named := ["unicode/utf8.first", "unicode/utf8.acceptRanges", "internal/bytealg.MaxLen"], apart := false, laid := [("unicode/utf8.acceptRanges", laid_unicode_utf8_acceptRanges), ("unicode/utf8.first", laid_unicode_utf8_first)] }
def JobCopiesSaid : Prop := jobCopiesRow.holds Tryz.pinned (OpenSpec.ofChange jobCopiesSpec)

/-- ITS FALSE NEIGHBOUR: 'it returns false'. Refute it at one input. -/
def jobCopiesWrong : ChangeSpec := { name := "jobCopies", fn := fun _ => fun
  | [d1, d2] => { results := [.lit (.bool false)], args := [d1, d2] }
  | _ => none }
def JobCopiesWrongFalsely : Prop := jobCopiesRow.holds Tryz.pinned (OpenSpec.ofChange jobCopiesWrong)

/-- 'outriderlaw17.JobWrites': WHATEVER THE INPUT: true; the input reads as it did. -/
def jobWritesSpec : ChangeSpec := { name := "jobWrites", fn := fun _ => fun
  | [d] => { results := [.lit (.bool true)], args := [d] }
  | _ => none }
def jobWritesRow : OpenClaim := { program := "ytgkchcbnbbgdpaagreatdoor", sum := "9ddfd1d8b41c1712b1c253a121a39daad30eac65e878cbaed80155af44722fdc", func := "outrider/outriderlaw17.JobWrites", spec := "jobWrites", inPlace := ["internal/bytealg.CountString", "internal/bytealg.IndexByteString", "internal/bytealg.IndexString", "internal/abi.NoEscape", "internal/bytealg.MakeNoZero"], unfollowed := true, recurses := true, named := ["unicode/utf8.first", "unicode/utf8.acceptRanges", "internal/bytealg.MaxLen"], apart := false, laid := [("unicode/utf8.acceptRanges", laid_unicode_utf8_acceptRanges), ("unicode/utf8.first", laid_unicode_utf8_first)] }
def JobWritesSaid : Prop := jobWritesRow.holds Tryz.pinned (OpenSpec.ofChange jobWritesSpec)

/-- ITS FALSE NEIGHBOUR: 'it returns false'. Refute it at one input. -/
def jobWritesWrong : ChangeSpec := { name := "jobWrites", fn := fun _ => fun
  | [d] => { results := [.lit (.bool false)], args := [d] }
  | _ => none }
def JobWritesWrongFalsely : Prop := jobWritesRow.holds Tryz.pinned (OpenSpec.ofChange jobWritesWrong)

/-- 'outriderlaw17.JobBack': WHATEVER THE INPUT: true; the input reads as it did. -/
def jobBackSpec : ChangeSpec := { name := "jobBack", fn := fun _ => fun
  | [d] => { results := [.lit (.bool true)], args := [d] }
  | _ => none }
def jobBackRow : OpenClaim := { program := "ytgkchcbnbbgdpaagreatdoor", sum := "9ddfd1d8b41c1712b1c253a121a39daad30eac65e878cbaed80155af44722fdc", func := "outrider/outriderlaw17.JobBack", spec := "jobBack", inPlace := ["internal/bytealg.CountString", "internal/bytealg.IndexByteString", "internal/bytealg.IndexString", "internal/abi.NoEscape", "internal/bytealg.MakeNoZero"], unfollowed := true, recurses := true, named := ["unicode/utf8.first", "unicode/utf8.acceptRanges", "internal/bytealg.MaxLen"], apart := false, laid := [("unicode/utf8.acceptRanges", laid_unicode_utf8_acceptRanges), ("unicode/utf8.first", laid_unicode_utf8_first)] }
def JobBackSaid : Prop := jobBackRow.holds Tryz.pinned (OpenSpec.ofChange jobBackSpec)

/-- ITS FALSE NEIGHBOUR: 'it returns false'. Refute it at one input. -/
def jobBackWrong : ChangeSpec := { name := "jobBack", fn := fun _ => fun
  | [d] => { results := [.lit (.bool false)], args := [d] }
  | _ => none }
def JobBackWrongFalsely : Prop := jobBackRow.holds Tryz.pinned (OpenSpec.ofChange jobBackWrong)

/-- 'outriderlaw17.JobAgain': WHATEVER THE INPUT: true; the input reads as it did. -/
def jobAgainSpec : ChangeSpec := { name := "jobAgain", fn := fun _ => fun
  | [d] => { results := [.lit (.bool true)], args := [d] }
  | _ => none }
def jobAgainRow : OpenClaim := { program := "ytgkchcbnbbgdpaagreatdoor", sum := "9ddfd1d8b41c1712b1c253a121a39daad30eac65e878cbaed80155af44722fdc", func := "outrider/outriderlaw17.JobAgain", spec := "jobAgain", inPlace := ["internal/bytealg.CountString", "internal/bytealg.IndexByteString", "internal/bytealg.IndexString", "internal/abi.NoEscape", "internal/bytealg.MakeNoZero"], unfollowed := true, recurses := true, named := ["unicode/utf8.first", "unicode/utf8.acceptRanges", "internal/bytealg.MaxLen"], apart := false, laid := [("unicode/utf8.acceptRanges", laid_unicode_utf8_acceptRanges), ("unicode/utf8.first", laid_unicode_utf8_first)] }
def JobAgainSaid : Prop := jobAgainRow.holds Tryz.pinned (OpenSpec.ofChange jobAgainSpec)

/-- ITS FALSE NEIGHBOUR: 'it returns false'. Refute it at one input. -/
def jobAgainWrong : ChangeSpec := { name := "jobAgain", fn := fun _ => fun
  | [d] => { results := [.lit (.bool false)], args := [d] }
  | _ => none }
def JobAgainWrongFalsely : Prop := jobAgainRow.holds Tryz.pinned (OpenSpec.ofChange jobAgainWrong)

/- THE SECOND FORM. 'bulk': how many values and letters a reading holds, each counted each time it is reached (what is shared counts as often as it is met; a slice's spare places count too). A statement '..UptoSaid' is the law's where the arguments, and the package variables that the reading takes, are together of bulk at most 1048576: NARROWER than '..Said'. Prove '..Said' where nothing that the law and all that it calls make is longer than what came in: it says more and counts as full. Else prove '..UptoSaid'. A law counts once. -/
mutual
def uptoBulk {H : Type} : DataW H → Nat
  | .lit (.string bytes) => bytes.length + 1
  | .lit _ => 1
  | .nil => 1
  | .ptr d => uptoBulk d + 1
  | .slice elems spare => uptoBulkAll elems + uptoBulkAll spare + 1
  | .agg parts => uptoBulkAll parts + 1
  | .iface _ d => uptoBulk d + 1
  | .map entries => uptoBulkEntries entries + 1
  | .held _ => 1
def uptoBulkAll {H : Type} : List (DataW H) → Nat
  | [] => 0
  | d :: r => uptoBulk d + uptoBulkAll r
def uptoBulkEntries {H : Type} : List (Lit × DataW H) → Nat
  | [] => 0
  | x :: r => uptoBulkEntry x + uptoBulkEntries r
def uptoBulkEntry {H : Type} : Lit × DataW H → Nat
  | (.string bytes, d) => bytes.length + uptoBulk d + 1
  | (_, d) => uptoBulk d + 1
 end
def uptoSmall : (H : Type) → List (DataW H) → Bool := fun _ ds => decide (uptoBulkAll ds ≤ 1048576)
def OpenSpec.upto (s : _root_.Go.ChangeSpec) : _root_.Go.OpenSpec := { _root_.Go.OpenSpec.ofChange s with cond := some uptoSmall }

/-- 'outriderlaw17.JobValid', WHERE WHAT IT READS IS OF BULK AT MOST 1048576: true; the input reads as it did. -/
def jobValidUptoRow : OpenClaim := { program := "ytgkchcbnbbgdpaagreatdoor", sum := "9ddfd1d8b41c1712b1c253a121a39daad30eac65e878cbaed80155af44722fdc", func := "outrider/outriderlaw17.JobValid", spec := "jobValid", inPlace := ["internal/bytealg.CountString", "internal/bytealg.IndexByteString", "internal/bytealg.IndexString", "internal/abi.NoEscape", "internal/bytealg.MakeNoZero"], unfollowed := true, recurses := true, named := ["unicode/utf8.first", "unicode/utf8.acceptRanges", "internal/bytealg.MaxLen"], apart := false, laid := [("unicode/utf8.acceptRanges", laid_unicode_utf8_acceptRanges), ("unicode/utf8.first", laid_unicode_utf8_first)], narrowed := true }
def JobValidUptoSaid : Prop := jobValidUptoRow.holds Tryz.pinned (OpenSpec.upto jobValidSpec)

/-- 'outriderlaw17.JobRight', WHERE WHAT IT READS IS OF BULK AT MOST 1048576: true; the input reads as it did. -/
def jobRightUptoRow : OpenClaim := { program := "ytgkchcbnbbgdpaagreatdoor", sum := "9ddfd1d8b41c1712b1c253a121a39daad30eac65e878cbaed80155af44722fdc", func := "outrider/outriderlaw17.JobRight", spec := "jobRight", inPlace := ["internal/bytealg.CountString", "internal/bytealg.IndexByteString", "internal/bytealg.IndexString", "internal/abi.NoEscape", "internal/bytealg.MakeNoZero"], unfollowed := true, recurses := true, named := ["unicode/utf8.first", "unicode/utf8.acceptRanges", "internal/bytealg.MaxLen"], apart := false, laid := [("unicode/utf8.acceptRanges", laid_unicode_utf8_acceptRanges), ("unicode/utf8.first", laid_unicode_utf8_first)], narrowed := true }
def JobRightUptoSaid : Prop := jobRightUptoRow.holds Tryz.pinned (OpenSpec.upto jobRightSpec)

/-- 'outriderlaw17.JobReads', WHERE WHAT IT READS IS OF BULK AT MOST 1048576: true; the input reads as it did. -/
def jobReadsUptoRow : OpenClaim := { program := "ytgkchcbnbbgdpaagreatdoor", sum := "9ddfd1d8b41c1712b1c253a121a39daad30eac65e878cbaed80155af44722fdc", func := "outrider/outriderlaw17.JobReads", spec := "jobReads", inPlace := ["internal/bytealg.CountString", "internal/bytealg.IndexByteString", "internal/bytealg.IndexString", "internal/abi.NoEscape", "internal/bytealg.MakeNoZero"], unfollowed := true, recurses := true, named := ["unicode/utf8.first", "unicode/utf8.acceptRanges", "internal/bytealg.MaxLen"], apart := false, laid := [("unicode/utf8.acceptRanges", laid_unicode_utf8_acceptRanges), ("unicode/utf8.first", laid_unicode_utf8_first)], narrowed := true }
def JobReadsUptoSaid : Prop := jobReadsUptoRow.holds Tryz.pinned (OpenSpec.upto jobReadsSpec)

/-- 'outriderlaw17.JobConfigs', WHERE WHAT IT READS IS OF BULK AT MOST 1048576: true; the input reads as it did. -/
def jobConfigsUptoRow : OpenClaim := { program := "ytgkchcbnbbgdpaagreatdoor", sum := "9ddfd1d8b41c1712b1c253a121a39daad30eac65e878cbaed80155af44722fdc", func := "outrider/outriderlaw17.JobConfigs", spec := "jobConfigs", inPlace := ["internal/bytealg.CountString", "internal/bytealg.IndexByteString", "internal/bytealg.IndexString", "internal/abi.NoEscape", "internal/bytealg.MakeNoZero"], unfollowed := true, recurses := true, named := ["unicode/utf8.first", "unicode/utf8.acceptRanges", "internal/bytealg.MaxLen"], apart := false, laid := [("unicode/utf8.acceptRanges", laid_unicode_utf8_acceptRanges), ("unicode/utf8.first", laid_unicode_utf8_first)], narrowed := true }
def JobConfigsUptoSaid : Prop := jobConfigsUptoRow.holds Tryz.pinned (OpenSpec.upto jobConfigsSpec)

/-- 'outriderlaw17.JobCopies', WHERE WHAT IT READS IS OF BULK AT MOST 1048576: true; the input reads as it did. -/
def jobCopiesUptoRow : OpenClaim := { program := "ytgkchcbnbbgdpaagreatdoor", sum := "9ddfd1d8b41c1712b1c253a121a39daad30eac65e878cbaed80155af44722fdc", func := "outrider/outriderlaw17.JobCopies", spec := "jobCopies", inPlace := ["internal/bytealg.CountString", "internal/bytealg.IndexByteString", "internal/bytealg.IndexString", "internal/abi.NoEscape", "internal/bytealg.MakeNoZero"], unfollowed := true, recurses := true, named := ["unicode/utf8.first", "unicode/utf8.acceptRanges", "internal/bytealg.MaxLen"], apart := false, laid := [("unicode/utf8.acceptRanges", laid_unicode_utf8_acceptRanges), ("unicode/utf8.first", laid_unicode_utf8_first)], narrowed := true }
def JobCopiesUptoSaid : Prop := jobCopiesUptoRow.holds Tryz.pinned (OpenSpec.upto jobCopiesSpec)

/-- 'outriderlaw17.JobWrites', WHERE WHAT IT READS IS OF BULK AT MOST 1048576: true; the input reads as it did. -/
def jobWritesUptoRow : OpenClaim := { program := "ytgkchcbnbbgdpaagreatdoor", sum := "9ddfd1d8b41c1712b1c253a121a39daad30eac65e878cbaed80155af44722fdc", func := "outrider/outriderlaw17.JobWrites", spec := "jobWrites", inPlace := ["internal/bytealg.CountString", "internal/bytealg.IndexByteString", "internal/bytealg.IndexString", "internal/abi.NoEscape", "internal/bytealg.MakeNoZero"], unfollowed := true, recurses := true, named := ["unicode/utf8.first", "unicode/utf8.acceptRanges", "internal/bytealg.MaxLen"], apart := false, laid := [("unicode/utf8.acceptRanges", laid_unicode_utf8_acceptRanges), ("unicode/utf8.first", laid_unicode_utf8_first)], narrowed := true }
def JobWritesUptoSaid : Prop := jobWritesUptoRow.holds Tryz.pinned (OpenSpec.upto jobWritesSpec)

/-- 'outriderlaw17.JobBack', WHERE WHAT IT READS IS OF BULK AT MOST 1048576: true; the input reads as it did. -/
def jobBackUptoRow : OpenClaim := { program := "ytgkchcbnbbgdpaagreatdoor", sum := "9ddfd1d8b41c1712b1c253a121a39daad30eac65e878cbaed80155af44722fdc", func := "outrider/outriderlaw17.JobBack", spec := "jobBack", inPlace := ["internal/bytealg.CountString", "internal/bytealg.IndexByteString", "internal/bytealg.IndexString", "internal/abi.NoEscape", "internal/bytealg.MakeNoZero"], unfollowed := true, recurses := true, named := ["unicode/utf8.first", "unicode/utf8.acceptRanges", "internal/bytealg.MaxLen"], apart := false, laid := [("unicode/utf8.acceptRanges", laid_unicode_utf8_acceptRanges), ("unicode/utf8.first", laid_unicode_utf8_first)], narrowed := true }
def JobBackUptoSaid : Prop := jobBackUptoRow.holds Tryz.pinned (OpenSpec.upto jobBackSpec)

/-- 'outriderlaw17.JobAgain', WHERE WHAT IT READS IS OF BULK AT MOST 1048576: true; the input reads as it did. -/
def jobAgainUptoRow : OpenClaim := { program := "ytgkchcbnbbgdpaagreatdoor", sum := "9ddfd1d8b41c1712b1c253a121a39daad30eac65e878cbaed80155af44722fdc", func := "outrider/outriderlaw17.JobAgain", spec := "jobAgain", inPlace := ["internal/bytealg.CountString", "internal/bytealg.IndexByteString", "internal/bytealg.IndexString", "internal/abi.NoEscape", "internal/bytealg.MakeNoZero"], unfollowed := true, recurses := true, named := ["unicode/utf8.first", "unicode/utf8.acceptRanges", "internal/bytealg.MaxLen"], apart := false, laid := [("unicode/utf8.acceptRanges", laid_unicode_utf8_acceptRanges), ("unicode/utf8.first", laid_unicode_utf8_first)], narrowed := true }
def JobAgainUptoSaid : Prop := jobAgainUptoRow.holds Tryz.pinned (OpenSpec.upto jobAgainSpec)

end Rows
end Go.Proofs.YtgkchcbnbbgdpaaGreatDoor
