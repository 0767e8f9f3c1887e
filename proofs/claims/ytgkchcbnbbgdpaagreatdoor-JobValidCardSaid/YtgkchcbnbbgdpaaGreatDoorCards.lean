/-
  DERIVED. GIVEN WITH THE SEED: THE CARDS: each row of YtgkchcbnbbgdpaaGreatDoorRows.lean that lists a variable, with what it lists TIED to the program's text (the seventh form; the later family's looks); each row that meets fmt, with fmt's text TOLD by the authors' own Lean function (tested against real Go, not proved from fmt's source: count such statements apart). THE CARD IS WHAT COUNTS. Prove the row's statement (the work); the ties are given (YtgkchcbnbbgdpaaGreatDoorTie.lean); close each card by the builder's one call (the guide's Derived/Test/ToyasCard.lean, 'card_holds'). Laid BY PROGRAM, IN A SANDBOX (cutbox-door.mjs). By AI agents, Wed Nov 11 2026. No macro, syntax, notation, axiom, sorry.
-/
import Derived.Test.YtgkchcbnbbgdpaaGreatDoorRows
import GoSem.ClaimSeven
namespace Go.Proofs.YtgkchcbnbbgdpaaGreatDoor
namespace Rows

/-- THE TIED CARD OF 'outriderlaw17.JobValid'. -/
def jobValidCard : Claim7 := { stood := { row := jobValidRow, standIns := [], harness := (true, "20e4a46a7a756eb67937f1e85acb2f53b35462fdd9ba0c8c7a4a9193f2ad52a8"), looks := true }, kinds := [], alts := [], laidByText := true, laidKinds := [.data, .pinned], laidTests := true, laidLooks := .later }
def JobValidCardSaid : Prop := Claim7.holds Tryz.pinned (.plain (OpenSpec.ofChange jobValidSpec)) jobValidCard

/-- THE TIED CARD OF 'outriderlaw17.JobRight'. -/
def jobRightCard : Claim7 := { stood := { row := jobRightRow, standIns := [], harness := (true, "20e4a46a7a756eb67937f1e85acb2f53b35462fdd9ba0c8c7a4a9193f2ad52a8"), looks := true }, kinds := [], alts := [], laidByText := true, laidKinds := [.data, .pinned], laidTests := true, laidLooks := .later }
def JobRightCardSaid : Prop := Claim7.holds Tryz.pinned (.plain (OpenSpec.ofChange jobRightSpec)) jobRightCard

/-- THE TIED CARD OF 'outriderlaw17.JobReads'. -/
def jobReadsCard : Claim7 := { stood := { row := jobReadsRow, standIns := [], harness := (true, "20e4a46a7a756eb67937f1e85acb2f53b35462fdd9ba0c8c7a4a9193f2ad52a8"), looks := true }, kinds := [], alts := [], laidByText := true, laidKinds := [.data, .pinned], laidTests := true, laidLooks := .later }
def JobReadsCardSaid : Prop := Claim7.holds Tryz.pinned (.plain (OpenSpec.ofChange jobReadsSpec)) jobReadsCard

/-- THE TIED CARD OF 'outriderlaw17.JobConfigs'. -/
def jobConfigsCard : Claim7 := { stood := { row := jobConfigsRow, standIns := [], harness := (true, "20e4a46a7a756eb67937f1e85acb2f53b35462fdd9ba0c8c7a4a9193f2ad52a8"), looks := true }, kinds := [], alts := [], laidByText := true, laidKinds := [.data, .pinned], laidTests := true, laidLooks := .later }
def JobConfigsCardSaid : Prop := Claim7.holds Tryz.pinned (.plain (OpenSpec.ofChange jobConfigsSpec)) jobConfigsCard

/-- THE TIED CARD OF 'outriderlaw17.JobCopies'. -/
def jobCopiesCard : Claim7 := { stood := { row := jobCopiesRow, standIns := [], harness := (true, "20e4a46a7a756eb67937f1e85acb2f53b35462fdd9ba0c8c7a4a9193f2ad52a8"), looks := true }, kinds := [], alts := [], laidByText := true, laidKinds := [.data, .pinned], laidTests := true, laidLooks := .later }
def JobCopiesCardSaid : Prop := Claim7.holds Tryz.pinned (.plain (OpenSpec.ofChange jobCopiesSpec)) jobCopiesCard

/-- THE TIED CARD OF 'outriderlaw17.JobWrites'. -/
def jobWritesCard : Claim7 := { stood := { row := jobWritesRow, standIns := [], harness := (true, "20e4a46a7a756eb67937f1e85acb2f53b35462fdd9ba0c8c7a4a9193f2ad52a8"), looks := true }, kinds := [], alts := [], laidByText := true, laidKinds := [.data, .pinned], laidTests := true, laidLooks := .later }
def JobWritesCardSaid : Prop := Claim7.holds Tryz.pinned (.plain (OpenSpec.ofChange jobWritesSpec)) jobWritesCard

/-- THE TIED CARD OF 'outriderlaw17.JobBack'. -/
def jobBackCard : Claim7 := { stood := { row := jobBackRow, standIns := [], harness := (true, "20e4a46a7a756eb67937f1e85acb2f53b35462fdd9ba0c8c7a4a9193f2ad52a8"), looks := true }, kinds := [], alts := [], laidByText := true, laidKinds := [.data, .pinned], laidTests := true, laidLooks := .later }
def JobBackCardSaid : Prop := Claim7.holds Tryz.pinned (.plain (OpenSpec.ofChange jobBackSpec)) jobBackCard

/-- THE TIED CARD OF 'outriderlaw17.JobAgain'. -/
def jobAgainCard : Claim7 := { stood := { row := jobAgainRow, standIns := [], harness := (true, "20e4a46a7a756eb67937f1e85acb2f53b35462fdd9ba0c8c7a4a9193f2ad52a8"), looks := true }, kinds := [], alts := [], laidByText := true, laidKinds := [.data, .pinned], laidTests := true, laidLooks := .later }
def JobAgainCardSaid : Prop := Claim7.holds Tryz.pinned (.plain (OpenSpec.ofChange jobAgainSpec)) jobAgainCard

/-- THE SECOND FORM's CARD OF 'outriderlaw17.JobValid'. -/
def jobValidUptoCard : Claim7 := { stood := { row := jobValidUptoRow, standIns := [], harness := (true, "20e4a46a7a756eb67937f1e85acb2f53b35462fdd9ba0c8c7a4a9193f2ad52a8"), looks := true }, kinds := [], alts := [], laidByText := true, laidKinds := [.data, .pinned], laidTests := true, laidLooks := .later }
def JobValidUptoCardSaid : Prop := Claim7.holds Tryz.pinned (.plain (OpenSpec.upto jobValidSpec)) jobValidUptoCard

/-- THE SECOND FORM's CARD OF 'outriderlaw17.JobRight'. -/
def jobRightUptoCard : Claim7 := { stood := { row := jobRightUptoRow, standIns := [], harness := (true, "20e4a46a7a756eb67937f1e85acb2f53b35462fdd9ba0c8c7a4a9193f2ad52a8"), looks := true }, kinds := [], alts := [], laidByText := true, laidKinds := [.data, .pinned], laidTests := true, laidLooks := .later }
def JobRightUptoCardSaid : Prop := Claim7.holds Tryz.pinned (.plain (OpenSpec.upto jobRightSpec)) jobRightUptoCard

/-- THE SECOND FORM's CARD OF 'outriderlaw17.JobReads'. -/
def jobReadsUptoCard : Claim7 := { stood := { row := jobReadsUptoRow, standIns := [], harness := (true, "20e4a46a7a756eb67937f1e85acb2f53b35462fdd9ba0c8c7a4a9193f2ad52a8"), looks := true }, kinds := [], alts := [], laidByText := true, laidKinds := [.data, .pinned], laidTests := true, laidLooks := .later }
def JobReadsUptoCardSaid : Prop := Claim7.holds Tryz.pinned (.plain (OpenSpec.upto jobReadsSpec)) jobReadsUptoCard

/-- THE SECOND FORM's CARD OF 'outriderlaw17.JobConfigs'. -/
def jobConfigsUptoCard : Claim7 := { stood := { row := jobConfigsUptoRow, standIns := [], harness := (true, "20e4a46a7a756eb67937f1e85acb2f53b35462fdd9ba0c8c7a4a9193f2ad52a8"), looks := true }, kinds := [], alts := [], laidByText := true, laidKinds := [.data, .pinned], laidTests := true, laidLooks := .later }
def JobConfigsUptoCardSaid : Prop := Claim7.holds Tryz.pinned (.plain (OpenSpec.upto jobConfigsSpec)) jobConfigsUptoCard

/-- THE SECOND FORM's CARD OF 'outriderlaw17.JobCopies'. -/
def jobCopiesUptoCard : Claim7 := { stood := { row := jobCopiesUptoRow, standIns := [], harness := (true, "20e4a46a7a756eb67937f1e85acb2f53b35462fdd9ba0c8c7a4a9193f2ad52a8"), looks := true }, kinds := [], alts := [], laidByText := true, laidKinds := [.data, .pinned], laidTests := true, laidLooks := .later }
def JobCopiesUptoCardSaid : Prop := Claim7.holds Tryz.pinned (.plain (OpenSpec.upto jobCopiesSpec)) jobCopiesUptoCard

/-- THE SECOND FORM's CARD OF 'outriderlaw17.JobWrites'. -/
def jobWritesUptoCard : Claim7 := { stood := { row := jobWritesUptoRow, standIns := [], harness := (true, "20e4a46a7a756eb67937f1e85acb2f53b35462fdd9ba0c8c7a4a9193f2ad52a8"), looks := true }, kinds := [], alts := [], laidByText := true, laidKinds := [.data, .pinned], laidTests := true, laidLooks := .later }
def JobWritesUptoCardSaid : Prop := Claim7.holds Tryz.pinned (.plain (OpenSpec.upto jobWritesSpec)) jobWritesUptoCard

/-- THE SECOND FORM's CARD OF 'outriderlaw17.JobBack'. -/
def jobBackUptoCard : Claim7 := { stood := { row := jobBackUptoRow, standIns := [], harness := (true, "20e4a46a7a756eb67937f1e85acb2f53b35462fdd9ba0c8c7a4a9193f2ad52a8"), looks := true }, kinds := [], alts := [], laidByText := true, laidKinds := [.data, .pinned], laidTests := true, laidLooks := .later }
def JobBackUptoCardSaid : Prop := Claim7.holds Tryz.pinned (.plain (OpenSpec.upto jobBackSpec)) jobBackUptoCard

/-- THE SECOND FORM's CARD OF 'outriderlaw17.JobAgain'. -/
def jobAgainUptoCard : Claim7 := { stood := { row := jobAgainUptoRow, standIns := [], harness := (true, "20e4a46a7a756eb67937f1e85acb2f53b35462fdd9ba0c8c7a4a9193f2ad52a8"), looks := true }, kinds := [], alts := [], laidByText := true, laidKinds := [.data, .pinned], laidTests := true, laidLooks := .later }
def JobAgainUptoCardSaid : Prop := Claim7.holds Tryz.pinned (.plain (OpenSpec.upto jobAgainSpec)) jobAgainUptoCard
end Rows
end Go.Proofs.YtgkchcbnbbgdpaaGreatDoor
