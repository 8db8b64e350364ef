/-
  NARROWER THAN 'FOR EVERY INPUT', by the rows' own cells (each row's printed sentence says how): DirSaves: laid · DirPlaces: laid · DirKeeps: laid · DirNone: laid.
  DERIVED. THE GIVEN ROWS OF THIS SEAT. 4 by the template 'for every input the law returns true; each argument reads behind the call as it read before'; 0 by the template 'total and deterministic' (their statements: YtnpnchociegmpaaDoorTotals.lean).
  GIVEN WITH THE SEED: the statements are not yours to turn. If you find one false, say at which input.
  Laid BY PROGRAM, IN A SANDBOX (cutbox-rows.mjs): the forced cells as the released guide's own fill.sh prints them over the translation c1e4f74c25706085… (all of the seat's roots in one cut). By AI agents, Wed Nov 11 2026. No macro, syntax, notation, axiom, sorry.
-/
import Derived.Test.YtnpnchociegmpaaDoorChecked
import GoSem.Claim
import GoSem.ClaimJoined
import GoSem.ClaimMapViews
import Derived.JoinedTies
import Derived.KernelRfl
namespace Go.Proofs.YtnpnchociegmpaaDoor
/- THE CELL 'sum', in the pinned program and in every row, IS THE sha256 OF THE DUMP (.gsa) THAT YtnpnchociegmpaaDoorProg.lean LOADS. Nothing in Lean hashes anything: it is a label: what it is worth is what the hold of that sum in a sandbox is worth. -/
noncomputable def Tryd.pinned : Pinned := { name := "ytnpnchociegmpaadoor", sum := "c1e4f74c257060858547d10e3cc187203cceb9a85f4e473539f58f3635c1cb62", checked := Tryd.checked }
namespace Rows
def none {H : Type} : Left H := { results := [], args := [] }

/- WHAT THE LISTED PACKAGE-LEVEL VARIABLES READ AS WHEN THE CALL BEGINS. Each datum BY PROGRAM (the guide's laid-datum.mjs) off the statement by which the dump's own 'gosem.cut.vars' lays the variable. In a bare row this is a premise. The card (YtnpnchociegmpaaDoorCards.lean) ties it to the program's text. -/
def laid_indenture_sum_nibbles {H : Type} : DataW H := .agg [.lit (.int .u32 0), .lit (.int .u32 274646895), .lit (.int .u32 549293790), .lit (.int .u32 820201905), .lit (.int .u32 1098587580), .lit (.int .u32 1361435347), .lit (.int .u32 1640403810), .lit (.int .u32 1905808397), .lit (.int .u32 2197175160), .lit (.int .u32 2460548119), .lit (.int .u32 2722870694), .lit (.int .u32 2987750089), .lit (.int .u32 3280807620), .lit (.int .u32 3553878443), .lit (.int .u32 3811616794), .lit (.int .u32 4084100981)]

/-- 'indenturelaw24.DirSaves': WHATEVER THE INPUT: true; the input reads as it did. -/
def dirSavesSpec : ChangeSpec := { name := "dirSaves", fn := fun _ => fun
  | [d] => { results := [.lit (.bool true)], args := [d] }
  | _ => none }
def dirSavesRow : OpenClaim := { program := "ytnpnchociegmpaadoor", sum := "c1e4f74c257060858547d10e3cc187203cceb9a85f4e473539f58f3635c1cb62", func := "indenture/indenturelaw24.DirSaves", spec := "dirSaves", inPlace := ["maps.clone"], unfollowed := true, recurses := true, named := ["indenture/sum.nibbles"], apart := false, laid := [("indenture/sum.nibbles", laid_indenture_sum_nibbles)] }
def DirSavesSaid : Prop := dirSavesRow.holds Tryd.pinned (OpenSpec.ofChange dirSavesSpec)

/-- ITS FALSE NEIGHBOUR: 'it returns false'. Refute it at one input. -/
def dirSavesWrong : ChangeSpec := { name := "dirSaves", fn := fun _ => fun
  | [d] => { results := [.lit (.bool false)], args := [d] }
  | _ => none }
def DirSavesWrongFalsely : Prop := dirSavesRow.holds Tryd.pinned (OpenSpec.ofChange dirSavesWrong)

/-- 'indenturelaw24.DirPlaces': WHATEVER THE INPUT: true; the input reads as it did. -/
def dirPlacesSpec : ChangeSpec := { name := "dirPlaces", fn := fun _ => fun
  | [d] => { results := [.lit (.bool true)], args := [d] }
  | _ => none }
def dirPlacesRow : OpenClaim := { program := "ytnpnchociegmpaadoor", sum := "c1e4f74c257060858547d10e3cc187203cceb9a85f4e473539f58f3635c1cb62", func := "indenture/indenturelaw24.DirPlaces", spec := "dirPlaces", inPlace := ["maps.clone"], unfollowed := true, recurses := true, named := ["indenture/sum.nibbles"], apart := false, laid := [("indenture/sum.nibbles", laid_indenture_sum_nibbles)] }
def DirPlacesSaid : Prop := dirPlacesRow.holds Tryd.pinned (OpenSpec.ofChange dirPlacesSpec)

/-- ITS FALSE NEIGHBOUR: 'it returns false'. Refute it at one input. -/
def dirPlacesWrong : ChangeSpec := { name := "dirPlaces", fn := fun _ => fun
  | [d] => { results := [.lit (.bool false)], args := [d] }
  | _ => none }
def DirPlacesWrongFalsely : Prop := dirPlacesRow.holds Tryd.pinned (OpenSpec.ofChange dirPlacesWrong)

/-- 'indenturelaw24.DirKeeps': WHATEVER THE INPUT: true; the input reads as it did. -/
def dirKeepsSpec : ChangeSpec := { name := "dirKeeps", fn := fun _ => fun
  | [d1, d2] => { results := [.lit (.bool true)], args := [d1, d2] }
  | _ => none }
def dirKeepsRow : OpenClaim := { program := "ytnpnchociegmpaadoor", sum := "c1e4f74c257060858547d10e3cc187203cceb9a85f4e473539f58f3635c1cb62", func := "indenture/indenturelaw24.DirKeeps", spec := "dirKeeps", inPlace := ["maps.clone"], unfollowed := true, recurses := true, named := ["indenture/sum.nibbles"], apart := false, laid := [("indenture/sum.nibbles", laid_indenture_sum_nibbles)] }
def DirKeepsSaid : Prop := dirKeepsRow.holds Tryd.pinned (OpenSpec.ofChange dirKeepsSpec)

/-- ITS FALSE NEIGHBOUR: 'it returns false'. Refute it at one input. -/
def dirKeepsWrong : ChangeSpec := { name := "dirKeeps", fn := fun _ => fun
  | [d1, d2] => { results := [.lit (.bool false)], args := [d1, d2] }
  | _ => none }
def DirKeepsWrongFalsely : Prop := dirKeepsRow.holds Tryd.pinned (OpenSpec.ofChange dirKeepsWrong)

/-- 'indenturelaw24.DirNone': WHATEVER THE INPUT: true; the input reads as it did. -/
def dirNoneSpec : ChangeSpec := { name := "dirNone", fn := fun _ => fun
  | [d] => { results := [.lit (.bool true)], args := [d] }
  | _ => none }
def dirNoneRow : OpenClaim := { program := "ytnpnchociegmpaadoor", sum := "c1e4f74c257060858547d10e3cc187203cceb9a85f4e473539f58f3635c1cb62", func := "indenture/indenturelaw24.DirNone", spec := "dirNone", inPlace := ["maps.clone"], unfollowed := true, recurses := true, named := ["indenture/sum.nibbles"], apart := false, laid := [("indenture/sum.nibbles", laid_indenture_sum_nibbles)] }
def DirNoneSaid : Prop := dirNoneRow.holds Tryd.pinned (OpenSpec.ofChange dirNoneSpec)

/-- ITS FALSE NEIGHBOUR: 'it returns false'. Refute it at one input. -/
def dirNoneWrong : ChangeSpec := { name := "dirNone", fn := fun _ => fun
  | [d] => { results := [.lit (.bool false)], args := [d] }
  | _ => none }
def DirNoneWrongFalsely : Prop := dirNoneRow.holds Tryd.pinned (OpenSpec.ofChange dirNoneWrong)

/- THE SECOND FORM. 'bulk': how many values and letters a reading holds, each counted each time it is reached (what is shared counts as often as it is met; a slice's spare places count too). A statement '..UptoSaid' is the law's where the arguments, and the package variables that the reading takes, are together of bulk at most 1048576: NARROWER than '..Said'. Prove '..Said' where nothing that the law and all that it calls make is longer than what came in: it says more and counts as full. Else prove '..UptoSaid'. A law counts once. -/
mutual
def uptoBulk {H : Type} : DataW H → Nat
  | .lit (.string bytes) => bytes.length + 1
  | .lit _ => 1
  | .nil => 1
  | .ptr d => uptoBulk d + 1
  | .slice elems spare => uptoBulkAll elems + uptoBulkAll spare + 1
  | .agg parts => uptoBulkAll parts + 1
  | .iface _ d => uptoBulk d + 1
  | .map entries => uptoBulkEntries entries + 1
  | .held _ => 1
def uptoBulkAll {H : Type} : List (DataW H) → Nat
  | [] => 0
  | d :: r => uptoBulk d + uptoBulkAll r
def uptoBulkEntries {H : Type} : List (Lit × DataW H) → Nat
  | [] => 0
  | x :: r => uptoBulkEntry x + uptoBulkEntries r
def uptoBulkEntry {H : Type} : Lit × DataW H → Nat
  | (.string bytes, d) => bytes.length + uptoBulk d + 1
  | (_, d) => uptoBulk d + 1
 end
def uptoSmall : (H : Type) → List (DataW H) → Bool := fun _ ds => decide (uptoBulkAll ds ≤ 1048576)
def OpenSpec.upto (s : _root_.Go.ChangeSpec) : _root_.Go.OpenSpec := { _root_.Go.OpenSpec.ofChange s with cond := some uptoSmall }

/-- 'indenturelaw24.DirSaves', WHERE WHAT IT READS IS OF BULK AT MOST 1048576: true; the input reads as it did. -/
def dirSavesUptoRow : OpenClaim := { program := "ytnpnchociegmpaadoor", sum := "c1e4f74c257060858547d10e3cc187203cceb9a85f4e473539f58f3635c1cb62", func := "indenture/indenturelaw24.DirSaves", spec := "dirSaves", inPlace := ["maps.clone"], unfollowed := true, recurses := true, named := ["indenture/sum.nibbles"], apart := false, laid := [("indenture/sum.nibbles", laid_indenture_sum_nibbles)], narrowed := true }
def DirSavesUptoSaid : Prop := dirSavesUptoRow.holds Tryd.pinned (OpenSpec.upto dirSavesSpec)

/-- 'indenturelaw24.DirPlaces', WHERE WHAT IT READS IS OF BULK AT MOST 1048576: true; the input reads as it did. -/
def dirPlacesUptoRow : OpenClaim := { program := "ytnpnchociegmpaadoor", sum := "c1e4f74c257060858547d10e3cc187203cceb9a85f4e473539f58f3635c1cb62", func := "indenture/indenturelaw24.DirPlaces", spec := "dirPlaces", inPlace := ["maps.clone"], unfollowed := true, recurses := true, named := ["indenture/sum.nibbles"], apart := false, laid := [("indenture/sum.nibbles", laid_indenture_sum_nibbles)], narrowed := true }
def DirPlacesUptoSaid : Prop := dirPlacesUptoRow.holds Tryd.pinned (OpenSpec.upto dirPlacesSpec)

/-- 'indenturelaw24.DirKeeps', WHERE WHAT IT READS IS OF BULK AT MOST 1048576: true; the input reads as it did. -/
def dirKeepsUptoRow : OpenClaim := { program := "ytnpnchociegmpaadoor", sum := "c1e4f74c257060858547d10e3cc187203cceb9a85f4e473539f58f3635c1cb62", func := "indenture/indenturelaw24.DirKeeps", spec := "dirKeeps", inPlace := ["maps.clone"], unfollowed := true, recurses := true, named := ["indenture/sum.nibbles"], apart := false, laid := [("indenture/sum.nibbles", laid_indenture_sum_nibbles)], narrowed := true }
def DirKeepsUptoSaid : Prop := dirKeepsUptoRow.holds Tryd.pinned (OpenSpec.upto dirKeepsSpec)

/-- 'indenturelaw24.DirNone', WHERE WHAT IT READS IS OF BULK AT MOST 1048576: true; the input reads as it did. -/
def dirNoneUptoRow : OpenClaim := { program := "ytnpnchociegmpaadoor", sum := "c1e4f74c257060858547d10e3cc187203cceb9a85f4e473539f58f3635c1cb62", func := "indenture/indenturelaw24.DirNone", spec := "dirNone", inPlace := ["maps.clone"], unfollowed := true, recurses := true, named := ["indenture/sum.nibbles"], apart := false, laid := [("indenture/sum.nibbles", laid_indenture_sum_nibbles)], narrowed := true }
def DirNoneUptoSaid : Prop := dirNoneUptoRow.holds Tryd.pinned (OpenSpec.upto dirNoneSpec)

end Rows
end Go.Proofs.YtnpnchociegmpaaDoor
