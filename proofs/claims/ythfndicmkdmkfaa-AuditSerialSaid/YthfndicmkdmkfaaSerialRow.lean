/- AuditSerialSaid: for every input the law AuditSerial returns true, and its argument reads behind the call as it read before it. No condition. -/
import Derived.Test.YthfndicmkdmkfaaRows
import Derived.Test.YthfndicmkdmkfaaSer2
import Derived.Test.YthfndicmkdmkfaaOpen
import Derived.WalkKit
import Derived.ProofKit
import Derived.OpenShut
import Derived.ShutString
import Derived.ChangeOld
import Derived.Carry
namespace Go.Proofs.Ythfndicmkdmkfaa
open Go.ChangeShapes Go.WideShapes Go.ChangeAt Go.RowKit

theorem serial_own : ownKnob Try.prog.godebug = none := by kernel_rfl
theorem serial_laid : laidOutB Try.prog = true := by kernel_rfl

set_option maxRecDepth 100000 in
theorem serial_lifted (os : Os) (started : os.Started) (H : Type) (enc : TypeId × Value → H) :
    ReturnsInHanded {} Try.checked os 4 .any (Rows.auditSerialSpec.pre6 enc Try.prog Try.f4 Rows.auditSerialRow.domain false) (Rows.auditSerialSpec.post enc Try.prog Try.f4 false true false false) := by
  refine returnsInHanded_of_change (C := Try.checked) serial_own started (by kernel_rfl) Try.func4
    (ChangeSpec.witness6 (enc := enc) (C := Try.checked) false ⟨#[], #[.slice none 0 0], []⟩ 8 (by kernel_rfl) (by kernel_rfl) (by kernel_rfl) (by kernel_rfl)) ?_
  intro W base args ds gs before hval0 hW hcnd _
  have hW' := hW
  obtain ⟨p, q, hA0, hV, rfl, hfz, hnd⟩ := hW
  have hA : DataW.TrodAll enc Try.prog W 0 (fun _ => true) true Try.f4.params.toList args.toList ds p := hA0
  rw [Try.params4] at hA
  obtain ⟨v0, vs0, d0, ds0, p0, q0, hargs, rfl, rfl, h0, r0⟩ := trodAll_cons hA
  obtain ⟨rfl, rfl, rfl⟩ := trodAll_nil r0
  obtain rfl : args = #[v0] := by cases args; simp_all
  obtain ⟨rfl, rfl⟩ := trodVars_none hV
  have h0' := h0
  have hlt : ∀ x ∈ p0, x.block < W.heap.size := fun x hx => by simpa using hW'.lt x (by simpa using hx)
  obtain ⟨fuel, hf⟩ := h0
  obtain ⟨l, v, hc, hs⟩ := opens_records _ _ _ hf
  obtain ⟨a, len, cap, rfl⟩ := okWide_slice Try.underlying31 (hval0 0 31 _ (by rw [Try.params4]; rfl) rfl)
  obtain rfl : v = .slice a len cap := by simpa [Value.cells] using hc.symm
  clear hA0 hval0
  refine (serial_law l _ W hs).mono fun e W' ⟨he, bel⟩ => ?_
  subst he
  exact ⟨_, rfl, _, _, _, [], _, [], hW', trodAll_mk1 (shut_bool Try.underlying4 _), trodAll_cons_mk (Below.trod serial_laid (by kernel_rfl) (of_decide_eq_true (by kernel_rfl)) h0' bel hlt) trodAll_mk0, rfl, bel.frame _, fun h => by cases h⟩

/-- THE STATEMENT -/
theorem auditSerial : Rows.AuditSerialSaid :=
  OpenClaim.holds_of_wide 4 Try.f4 rfl rfl rfl rfl rfl rfl rfl ⟨rfl, rfl, rfl, rfl, rfl⟩ rfl rfl rfl rfl rfl (by kernel_rfl) Try.func4 (by kernel_rfl)
    (of_decide_eq_true (by kernel_rfl)) (by unfold Func.isWrapper; first | (rw [if_pos (by decide +kernel)]; kernel_rfl) | (rw [if_neg (by decide +kernel)]; exact ⟨rfl, rfl⟩))
    (fun os started H enc _ => serial_lifted os started H enc)
#print axioms auditSerial
end Go.Proofs.Ythfndicmkdmkfaa
