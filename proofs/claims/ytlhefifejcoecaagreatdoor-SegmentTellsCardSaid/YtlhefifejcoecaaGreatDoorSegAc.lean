/- The segments' laws: the listed variables. -/
import Derived.Test.YtlhefifejcoecaaGreatDoorSegJ
import Derived.Test.YtlhefifejcoecaaGreatDoorOpenG
import Derived.Test.YtlhefifejcoecaaGreatDoorRows
import Derived.WalkKit
import Derived.ProofKit
import Derived.OpenShut
import Derived.ShutString
import Derived.ChangeOld
import Derived.Carry
import Derived.LaidMore
import Derived.Stop.Joined
import Derived.Stop.LaidErr
import Derived.Lib.LaidTab
namespace Go.Proofs.YtlhefifejcoecaaGreatDoor
open Go.RowKit Go.Proofs Go.ChangeShapes Go.WideShapes Go.ChangeAt Go.Deep

section
variable {H : Type} {enc : TypeId × Value → H} {w : World} {base : Nat} {spare : Nat → Bool} {held : Bool}

theorem opens_byte : Opens enc Tryz.prog w base spare held 5 ByteE := by
  intro fuel cs x h
  obtain ⟨n, rfl, -, hw⟩ := DataW.trod_int Tryz.underlying5 h
  obtain ⟨h1, h2⟩ := wf_u8 hw
  refine ⟨UInt8.ofNat n.toNat, ?_⟩
  unfold ByteE u8
  rw [ofNat_toNat (by omega)]
  congr 2
  omega
end

theorem law_own : ownKnob Tryz.prog.godebug = none := by kernel_rfl
theorem law_laid : laidOutB Tryz.prog = true := by kernel_rfl

def laidN : List (String × DataW Unit) := [("math/bits.deBruijn32tab", Rows.laid_math_bits_deBruijn32tab), ("math/bits.deBruijn64tab", Rows.laid_math_bits_deBruijn64tab), ("internal/strconv.uint64pow10", Rows.laid_internal_strconv_uint64pow10), ("indenture/sum.nibbles", Rows.laid_indenture_sum_nibbles), ("strconv.ErrRange", Rows.laid_strconv_ErrRange), ("strconv.ErrSyntax", Rows.laid_strconv_ErrSyntax)]

/-- The door's own heap meets the condition. -/
theorem door_met (os : Os) (args : Array Value) : laidMetH Tryz.prog laidN ((World.doorLaid Tryz.prog 67 os).forCall (fun _ _ => 0) ⟨#[], args, []⟩).memory :=
  laidMetH_of_parts3 (fuel := 8) (laidMet_of_run' 8 (by kernel_rfl) (by kernel_rfl)) (by kernel_rfl) (by kernel_rfl)

theorem pow_datum : (Rows.laid_internal_strconv_uint64pow10 : DataW Unit) = Lib.tabData .u64 Lib.pow10Tab := rfl
theorem nib_datum : (Rows.laid_indenture_sum_nibbles : DataW Unit) = Lib.tabData .u32 (nibs.map fun (n : Nat) => (n : Int)) := rfl
theorem tabs_laid {W : World} (h : laidMet Tryz.prog laidN W) : Lib.TabIs Tryz.prog W "internal/strconv.uint64pow10" .u64 Lib.pow10Tab ∧ Lib.TabIs Tryz.prog W "indenture/sum.nibbles" .u32 (nibs.map fun (n : Nat) => (n : Int)) := by
  have h2 := h.tail.tail
  rw [pow_datum] at h2
  have h3 := h.tail.tail.tail
  rw [nib_datum] at h3
  exact ⟨Lib.tabIs_of_head (g := 0) (t := 192) (e := 114) (n := 20) (by kernel_rfl) (by kernel_rfl) Tryz.underlying192 Tryz.underlying114 (by kernel_rfl) (by kernel_rfl) h2,
    Lib.tabIs_of_head (g := 2) (t := 196) (e := 148) (n := 16) (by kernel_rfl) (by kernel_rfl) Tryz.underlying196 Tryz.underlying148 (by kernel_rfl) (by kernel_rfl) h3⟩

/-- What the condition gives the walks. -/
theorem env_of_laid {W : World} (h : laidMetH Tryz.prog laidN W) : Env W := by
  rw [MakeChecks.laidMetH_plain _ _ _ (by kernel_rfl)] at h
  obtain ⟨h1, h2⟩ := tabs_laid h
  refine ⟨fun j hj => ?_, h1⟩
  have h3 := h2.cell (g := 2) (by kernel_rfl) j (by simpa [nibs] using hj)
  rw [h3]
  congr 2
  have hj2 : j < nibs.length := hj
  simp [List.getD_eq_getElem?_getD, List.getElem?_eq_getElem hj2]
end Go.Proofs.YtlhefifejcoecaaGreatDoor
