/- DirNoneCardSaid: for every input the law DirNone returns true, and its argument reads behind the call as it reads before it; the variable sum.nibbles is taken as the program's text lays it, which the card ties. No other condition. -/
import Derived.Test.YtnpnchociegmpaaDoorDirAc
import Derived.Test.YtnpnchociegmpaaDoorDirNo
import Derived.Test.YtnpnchociegmpaaDoorTie
import Derived.Test.YtnpnchociegmpaaDoorCards
import Derived.SevenTiedAt
namespace Go.Proofs.YtnpnchociegmpaaDoor
open Go.RowKit Go.Proofs Go.ChangeShapes Go.WideShapes Go.ChangeAt Go.Deep

set_option maxRecDepth 100000 in
theorem dirNone_lifted (os : Os) (started : os.Started) (H : Type) (enc : TypeId × Value → H) :
    ReturnsInHanded {} Tryd.checked os 6 .any (fun w args => (Rows.dirNoneSpec.pre enc Tryd.prog Tryd.f6 [] false w args ∧ laidMetH Tryd.prog laidN w) ∧ sizedMet enc Tryd.prog Tryd.f6 (OpenSpec.ofChange Rows.dirNoneSpec) false w args)
      (Rows.dirNoneSpec.post enc Tryd.prog Tryd.f6 false true false false) := by
  refine returnsInHanded_of_change_and (C := Tryd.checked) (X := fun w _ => laidMetH Tryd.prog laidN w) (fun _ _ _ hh h => h.of_heap hh) law_own started (by kernel_rfl) Tryd.func6
    (ChangeSpec.witness_shaped (enc := enc) (C := Tryd.checked) (os := os) (X := fun w _ => laidMetH Tryd.prog laidN w) false (World.doorLaid Tryd.prog 14 os) #[.agg #[.int .i64 0, .int .i64 0, .int .i64 0, .string .empty, .slice none 0 0, .slice none 0 0]] 8 rfl (World.shaped_of_RefB (by kernel_rfl) (by kernel_rfl)) (by kernel_rfl) (by kernel_rfl) (by kernel_rfl) (door_met os _)) ?_
  intro W base args ds gs before hval0 hW _ _ hL _
  have hW' := hW
  obtain ⟨p, q, hA0, hV, rfl, hfz, hnd⟩ := hW
  have hA : DataW.TrodAll enc Tryd.prog W 0 (fun _ => true) true Tryd.f6.params.toList args.toList ds p := hA0
  rw [Tryd.params6] at hA
  obtain ⟨v0, d0, rfl, rfl, h0⟩ := trodAll_one hA
  obtain ⟨rfl, rfl⟩ := trodVars_none hV
  have h0' := h0
  have hlt : ∀ x ∈ p, x.block < W.heap.size := fun x hx => by simpa using hW'.lt x (by simpa using hx)
  obtain ⟨fuel, hf⟩ := h0
  obtain ⟨cs, rfl, hsz⟩ := okWide_struct Tryd.underlying35 (hval0 0 35 _ (by rw [Tryd.params6]; rfl) rfl)
  obtain ⟨a, ha⟩ := opens_act _ _ _ hf
  have ha2 : ActE W cs.toList a := by simpa [Value.cells] using ha
  have hcall := dirNone_any cs.toList a W ha2 (nib_of_laid hL)
  rw [Array.toArray_toList] at hcall
  clear hA0 hval0
  refine hcall.mono fun e W' ⟨he, bel⟩ => ?_
  subst he
  exact ⟨_, rfl, _, _, _, [], _, [], hW', trodAll_mk1 (shut_bool Tryd.underlying4 _), trodAll_mk1 (Below.trod law_laid (by kernel_rfl) (of_decide_eq_true (by kernel_rfl)) h0' bel hlt), rfl, bel.frame _, fun h => by cases h⟩

theorem dirNone_holds : Rows.DirNoneSaid :=
  OpenClaim.holds_of_wide 6 Tryd.f6 rfl rfl rfl rfl rfl rfl rfl ⟨rfl, rfl, rfl, rfl, rfl⟩ rfl rfl rfl rfl rfl (by kernel_rfl) Tryd.func6 (by kernel_rfl)
    (of_decide_eq_true (by kernel_rfl)) (by unfold Func.isWrapper; first | (rw [if_pos (by decide +kernel)]; kernel_rfl) | (rw [if_neg (by decide +kernel)]; exact ⟨rfl, rfl⟩))
    (fun os started H enc _ => dirNone_lifted os started H enc)

/-- THE TIED CARD -/
theorem dirNone_card : Rows.DirNoneCardSaid :=
  Claim7.holds_tied_plain_at .later [] [.data] true Rows.dirNoneCard.stood.harness Rows.dirNoneCard.stood.looks
    dirNone_holds (fun _ h => by cases h) (by kernel_rfl) (fun _ h => by cases h) dirNone_row_tie rfl ⟨rfl, rfl⟩ (by kernel_rfl) rfl
    (fun f fn hf hfn => by
      obtain rfl : f = 6 := Option.some.inj ((show Tryd.prog.funcNamed "indenture/indenturelaw24.DirNone" = some 6 by kernel_rfl).symm.trans hf) |>.symm
      obtain rfl : fn = Tryd.f6 := (Option.some.inj (Tryd.func6.symm.trans hfn)).symm
      exact ⟨by kernel_rfl, fun j t ht => by
        rw [Tryd.params6] at ht
        have hm : t ∈ [35] := by simpa using Array.mem_of_getElem? ht
        have hall : ([35].all fun u => !Tryd.prog.wantsStandIn u) = true := by kernel_rfl
        exact (show Tryd.prog.wantsStandIn t = false by simpa using List.all_eq_true.1 hall t hm)⟩)
    (by kernel_rfl)
#print axioms dirNone_card
end Go.Proofs.YtnpnchociegmpaaDoor
