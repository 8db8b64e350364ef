/-
  DERIVED. GIVEN WITH THE SEED: THE CARDS: each row of YtnpnchociegmpaaDoorRows.lean that lists a variable, with what it lists TIED to the program's text (the seventh form; the later family's looks); each row that meets fmt, with fmt's text TOLD by the authors' own Lean function (tested against real Go, not proved from fmt's source: count such statements apart). THE CARD IS WHAT COUNTS. Prove the row's statement (the work); the ties are given (YtnpnchociegmpaaDoorTie.lean); close each card by the builder's one call (the guide's Derived/Test/ToyasCard.lean, 'card_holds'). Laid BY PROGRAM, IN A SANDBOX (cutbox-door.mjs). By AI agents, Wed Nov 11 2026. No macro, syntax, notation, axiom, sorry.
-/
import Derived.Test.YtnpnchociegmpaaDoorRows
import GoSem.ClaimSeven
namespace Go.Proofs.YtnpnchociegmpaaDoor
namespace Rows

/-- THE TIED CARD OF 'indenturelaw24.DirSaves'. -/
def dirSavesCard : Claim7 := { stood := { row := dirSavesRow, standIns := [], harness := (true, "362ecd77a6240eb7ef0fa80bc992f15cb28c281b8e674ea96b12ce691167d646"), looks := true }, kinds := [], alts := [], laidByText := true, laidKinds := [.data], laidTests := true, laidLooks := .later }
def DirSavesCardSaid : Prop := Claim7.holds Tryd.pinned (.plain (OpenSpec.ofChange dirSavesSpec)) dirSavesCard

/-- THE TIED CARD OF 'indenturelaw24.DirPlaces'. -/
def dirPlacesCard : Claim7 := { stood := { row := dirPlacesRow, standIns := [], harness := (true, "362ecd77a6240eb7ef0fa80bc992f15cb28c281b8e674ea96b12ce691167d646"), looks := true }, kinds := [], alts := [], laidByText := true, laidKinds := [.data], laidTests := true, laidLooks := .later }
def DirPlacesCardSaid : Prop := Claim7.holds Tryd.pinned (.plain (OpenSpec.ofChange dirPlacesSpec)) dirPlacesCard

/-- THE TIED CARD OF 'indenturelaw24.DirKeeps'. -/
def dirKeepsCard : Claim7 := { stood := { row := dirKeepsRow, standIns := [], harness := (true, "362ecd77a6240eb7ef0fa80bc992f15cb28c281b8e674ea96b12ce691167d646"), looks := true }, kinds := [], alts := [], laidByText := true, laidKinds := [.data], laidTests := true, laidLooks := .later }
def DirKeepsCardSaid : Prop := Claim7.holds Tryd.pinned (.plain (OpenSpec.ofChange dirKeepsSpec)) dirKeepsCard

/-- THE TIED CARD OF 'indenturelaw24.DirNone'. -/
def dirNoneCard : Claim7 := { stood := { row := dirNoneRow, standIns := [], harness := (true, "362ecd77a6240eb7ef0fa80bc992f15cb28c281b8e674ea96b12ce691167d646"), looks := true }, kinds := [], alts := [], laidByText := true, laidKinds := [.data], laidTests := true, laidLooks := .later }
def DirNoneCardSaid : Prop := Claim7.holds Tryd.pinned (.plain (OpenSpec.ofChange dirNoneSpec)) dirNoneCard

/-- THE SECOND FORM's CARD OF 'indenturelaw24.DirSaves'. -/
def dirSavesUptoCard : Claim7 := { stood := { row := dirSavesUptoRow, standIns := [], harness := (true, "362ecd77a6240eb7ef0fa80bc992f15cb28c281b8e674ea96b12ce691167d646"), looks := true }, kinds := [], alts := [], laidByText := true, laidKinds := [.data], laidTests := true, laidLooks := .later }
def DirSavesUptoCardSaid : Prop := Claim7.holds Tryd.pinned (.plain (OpenSpec.upto dirSavesSpec)) dirSavesUptoCard

/-- THE SECOND FORM's CARD OF 'indenturelaw24.DirPlaces'. -/
def dirPlacesUptoCard : Claim7 := { stood := { row := dirPlacesUptoRow, standIns := [], harness := (true, "362ecd77a6240eb7ef0fa80bc992f15cb28c281b8e674ea96b12ce691167d646"), looks := true }, kinds := [], alts := [], laidByText := true, laidKinds := [.data], laidTests := true, laidLooks := .later }
def DirPlacesUptoCardSaid : Prop := Claim7.holds Tryd.pinned (.plain (OpenSpec.upto dirPlacesSpec)) dirPlacesUptoCard

/-- THE SECOND FORM's CARD OF 'indenturelaw24.DirKeeps'. -/
def dirKeepsUptoCard : Claim7 := { stood := { row := dirKeepsUptoRow, standIns := [], harness := (true, "362ecd77a6240eb7ef0fa80bc992f15cb28c281b8e674ea96b12ce691167d646"), looks := true }, kinds := [], alts := [], laidByText := true, laidKinds := [.data], laidTests := true, laidLooks := .later }
def DirKeepsUptoCardSaid : Prop := Claim7.holds Tryd.pinned (.plain (OpenSpec.upto dirKeepsSpec)) dirKeepsUptoCard

/-- THE SECOND FORM's CARD OF 'indenturelaw24.DirNone'. -/
def dirNoneUptoCard : Claim7 := { stood := { row := dirNoneUptoRow, standIns := [], harness := (true, "362ecd77a6240eb7ef0fa80bc992f15cb28c281b8e674ea96b12ce691167d646"), looks := true }, kinds := [], alts := [], laidByText := true, laidKinds := [.data], laidTests := true, laidLooks := .later }
def DirNoneUptoCardSaid : Prop := Claim7.holds Tryd.pinned (.plain (OpenSpec.upto dirNoneSpec)) dirNoneUptoCard
end Rows
end Go.Proofs.YtnpnchociegmpaaDoor
