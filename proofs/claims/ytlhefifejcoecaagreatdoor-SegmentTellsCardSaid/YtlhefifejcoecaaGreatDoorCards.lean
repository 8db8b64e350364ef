/-
  DERIVED. GIVEN WITH THE SEED: THE CARDS: each row of YtlhefifejcoecaaGreatDoorRows.lean that lists a variable, with what it lists TIED to the program's text (the seventh form; the later family's looks); each row that meets fmt, with fmt's text TOLD by the authors' own Lean function (tested against real Go, not proved from fmt's source: count such statements apart). THE CARD IS WHAT COUNTS. Prove the row's statement (the work); the ties are given (YtlhefifejcoecaaGreatDoorTie.lean); close each card by the builder's one call (the guide's Derived/Test/ToyasCard.lean, 'card_holds'). Laid BY PROGRAM, IN A SANDBOX (cutbox-door.mjs). By AI agents, Wed Nov 11 2026. No macro, syntax, notation, axiom, sorry.
-/
import Derived.Test.YtlhefifejcoecaaGreatDoorRows
import GoSem.ClaimSeven
namespace Go.Proofs.YtlhefifejcoecaaGreatDoor
namespace Rows

/-- THE TIED CARD OF 'indenturelaw25.SegmentNames'. -/
def segmentNamesCard : Claim7 := { stood := { row := segmentNamesRow, standIns := [], harness := (true, "16043e11a769077ddfcccdd92494d0dc33560867314bfc1857b09942134e4345"), looks := true }, kinds := [], alts := [], laidByText := true, laidKinds := [.data, .data, .data, .data, .sentinel, .sentinel], laidTests := true, laidLooks := .later }
def SegmentNamesCardSaid : Prop := Claim7.holds Tryz.pinned (.plain (OpenSpec.ofChange segmentNamesSpec)) segmentNamesCard

/-- THE TIED CARD OF 'indenturelaw25.SegmentNone'. -/
def segmentNoneCard : Claim7 := { stood := { row := segmentNoneRow, standIns := [], harness := (true, "16043e11a769077ddfcccdd92494d0dc33560867314bfc1857b09942134e4345"), looks := true }, kinds := [], alts := [], laidByText := true, laidKinds := [.data, .data, .data, .data, .sentinel, .sentinel], laidTests := true, laidLooks := .later }
def SegmentNoneCardSaid : Prop := Claim7.holds Tryz.pinned (.plain (OpenSpec.ofChange segmentNoneSpec)) segmentNoneCard

/-- THE TIED CARD OF 'indenturelaw25.SegmentTells'. -/
def segmentTellsCard : Claim7 := { stood := { row := segmentTellsRow, standIns := [], harness := (true, "16043e11a769077ddfcccdd92494d0dc33560867314bfc1857b09942134e4345"), looks := true }, kinds := [], alts := [], laidByText := true, laidKinds := [.data, .data, .data, .data, .sentinel, .sentinel], laidTests := true, laidLooks := .later }
def SegmentTellsCardSaid : Prop := Claim7.holds Tryz.pinned (.plain (OpenSpec.ofChange segmentTellsSpec)) segmentTellsCard

/-- THE TIED CARD OF 'indenturelaw25.SegmentResets'. -/
def segmentResetsCard : Claim7 := { stood := { row := segmentResetsRow, standIns := [], harness := (true, "16043e11a769077ddfcccdd92494d0dc33560867314bfc1857b09942134e4345"), looks := true }, kinds := [], alts := [], laidByText := true, laidKinds := [.data, .data, .data, .data, .sentinel, .sentinel], laidTests := true, laidLooks := .later }
def SegmentResetsCardSaid : Prop := Claim7.holds Tryz.pinned (.plain (OpenSpec.ofChange segmentResetsSpec)) segmentResetsCard

/-- THE TIED CARD OF 'indenturelaw25.SegmentKeeps'. -/
def segmentKeepsCard : Claim7 := { stood := { row := segmentKeepsRow, standIns := [], harness := (true, "16043e11a769077ddfcccdd92494d0dc33560867314bfc1857b09942134e4345"), looks := true }, kinds := [], alts := [], laidByText := true, laidKinds := [.data, .data, .data, .data, .sentinel, .sentinel], laidTests := true, laidLooks := .later }
def SegmentKeepsCardSaid : Prop := Claim7.holds Tryz.pinned (.plain (OpenSpec.ofChange segmentKeepsSpec)) segmentKeepsCard

/-- THE SECOND FORM's CARD OF 'indenturelaw25.SegmentNames'. -/
def segmentNamesUptoCard : Claim7 := { stood := { row := segmentNamesUptoRow, standIns := [], harness := (true, "16043e11a769077ddfcccdd92494d0dc33560867314bfc1857b09942134e4345"), looks := true }, kinds := [], alts := [], laidByText := true, laidKinds := [.data, .data, .data, .data, .sentinel, .sentinel], laidTests := true, laidLooks := .later }
def SegmentNamesUptoCardSaid : Prop := Claim7.holds Tryz.pinned (.plain (OpenSpec.upto segmentNamesSpec)) segmentNamesUptoCard

/-- THE SECOND FORM's CARD OF 'indenturelaw25.SegmentNone'. -/
def segmentNoneUptoCard : Claim7 := { stood := { row := segmentNoneUptoRow, standIns := [], harness := (true, "16043e11a769077ddfcccdd92494d0dc33560867314bfc1857b09942134e4345"), looks := true }, kinds := [], alts := [], laidByText := true, laidKinds := [.data, .data, .data, .data, .sentinel, .sentinel], laidTests := true, laidLooks := .later }
def SegmentNoneUptoCardSaid : Prop := Claim7.holds Tryz.pinned (.plain (OpenSpec.upto segmentNoneSpec)) segmentNoneUptoCard

/-- THE SECOND FORM's CARD OF 'indenturelaw25.SegmentTells'. -/
def segmentTellsUptoCard : Claim7 := { stood := { row := segmentTellsUptoRow, standIns := [], harness := (true, "16043e11a769077ddfcccdd92494d0dc33560867314bfc1857b09942134e4345"), looks := true }, kinds := [], alts := [], laidByText := true, laidKinds := [.data, .data, .data, .data, .sentinel, .sentinel], laidTests := true, laidLooks := .later }
def SegmentTellsUptoCardSaid : Prop := Claim7.holds Tryz.pinned (.plain (OpenSpec.upto segmentTellsSpec)) segmentTellsUptoCard

/-- THE SECOND FORM's CARD OF 'indenturelaw25.SegmentResets'. -/
def segmentResetsUptoCard : Claim7 := { stood := { row := segmentResetsUptoRow, standIns := [], harness := (true, "16043e11a769077ddfcccdd92494d0dc33560867314bfc1857b09942134e4345"), looks := true }, kinds := [], alts := [], laidByText := true, laidKinds := [.data, .data, .data, .data, .sentinel, .sentinel], laidTests := true, laidLooks := .later }
def SegmentResetsUptoCardSaid : Prop := Claim7.holds Tryz.pinned (.plain (OpenSpec.upto segmentResetsSpec)) segmentResetsUptoCard

/-- THE SECOND FORM's CARD OF 'indenturelaw25.SegmentKeeps'. -/
def segmentKeepsUptoCard : Claim7 := { stood := { row := segmentKeepsUptoRow, standIns := [], harness := (true, "16043e11a769077ddfcccdd92494d0dc33560867314bfc1857b09942134e4345"), looks := true }, kinds := [], alts := [], laidByText := true, laidKinds := [.data, .data, .data, .data, .sentinel, .sentinel], laidTests := true, laidLooks := .later }
def SegmentKeepsUptoCardSaid : Prop := Claim7.holds Tryz.pinned (.plain (OpenSpec.upto segmentKeepsSpec)) segmentKeepsUptoCard
end Rows
end Go.Proofs.YtlhefifejcoecaaGreatDoor
