/- SegmentResetsCardSaid: for every input the law SegmentResets returns true, and its arguments read behind the call as they read before it; the listed variables (sum.nibbles, strconv's and math/bits' tables and errors) are taken as the program's text lays them, which the card ties. No other condition. -/
import Derived.Test.YtlhefifejcoecaaGreatDoorSegAc
import Derived.Test.YtlhefifejcoecaaGreatDoorJRst
import Derived.Test.YtlhefifejcoecaaGreatDoorTie
import Derived.Test.YtlhefifejcoecaaGreatDoorCards
import Derived.SevenTiedAt
namespace Go.Proofs.YtlhefifejcoecaaGreatDoor
open Go.RowKit Go.Proofs Go.ChangeShapes Go.WideShapes Go.ChangeAt Go.Deep

section
variable {H : Type} {enc : TypeId × Value → H} {w : World} {base : Nat} {spare : Nat → Bool} {held : Bool}

theorem opens_str : Opens enc Tryz.prog w base spare held 9 StrVE := by
  intro fuel cs x h
  obtain ⟨s, rfl, -, hl⟩ := DataW.trod_string Tryz.underlying9 h
  exact ⟨s, rfl, Nat.le_trans hl maxLen_nat⟩

theorem opens_strs : Opens enc Tryz.prog w base spare held 47 (SlE 1 StrVE) := opens_slice (k := 1) Tryz.underlying47 (by kernel_rfl) (by decide) opens_str
end

set_option maxRecDepth 100000 in
theorem segmentResets_lifted (os : Os) (started : os.Started) (H : Type) (enc : TypeId × Value → H) :
    ReturnsInHanded {} Tryz.checked os 6 .any (fun w args => (Rows.segmentResetsSpec.pre enc Tryz.prog Tryz.f6 [] false w args ∧ laidMetH Tryz.prog laidN w) ∧ sizedMet enc Tryz.prog Tryz.f6 (OpenSpec.ofChange Rows.segmentResetsSpec) false w args)
      (Rows.segmentResetsSpec.post enc Tryz.prog Tryz.f6 false true false false) := by
  refine returnsInHanded_of_change_and (C := Tryz.checked) (X := fun w _ => laidMetH Tryz.prog laidN w) (fun _ _ _ hh h => h.of_heap hh) law_own started (by kernel_rfl) Tryz.func6
    (ChangeSpec.witness_shaped (enc := enc) (C := Tryz.checked) (os := os) (X := fun w _ => laidMetH Tryz.prog laidN w) false (World.doorLaid Tryz.prog 67 os) #[.slice none 0 0, .int .i64 0] 8 rfl (World.shaped_of_RefB (by kernel_rfl) (by kernel_rfl)) (by kernel_rfl) (by kernel_rfl) (by kernel_rfl) (door_met os _)) ?_
  intro W base args ds gs before hval0 hW _ _ hL _
  have hW' := hW
  obtain ⟨p, q, hA0, hV, rfl, hfz, hnd⟩ := hW
  have hA : DataW.TrodAll enc Tryz.prog W 0 (fun _ => true) true Tryz.f6.params.toList args.toList ds p := hA0
  rw [Tryz.params6] at hA
  obtain ⟨v0, vs0, d0, ds0, p0, q0, hargs, rfl, rfl, h0, r0⟩ := trodAll_cons hA
  obtain ⟨v1, vs1, d1, ds1, p1, q1, rfl, rfl, rfl, h1, r1⟩ := trodAll_cons r0
  obtain ⟨rfl, rfl, rfl⟩ := trodAll_nil r1
  obtain rfl : args = #[v0, v1] := by cases args; simp_all
  obtain ⟨rfl, rfl⟩ := trodVars_none hV
  have h0' := h0
  have hlt0 : ∀ x ∈ p0, x.block < W.heap.size := fun x hx => by simpa using hW'.lt x (by simp [hx])
  obtain ⟨fuel0, hf0⟩ := h0
  obtain ⟨l, u, hc0, hs0⟩ := opens_strs _ _ _ hf0
  obtain ⟨a0, len0, cap0, rfl⟩ := okWide_slice Tryz.underlying47 (hval0 0 47 _ (by rw [Tryz.params6]; rfl) rfl)
  obtain rfl : u = .slice a0 len0 cap0 := by simpa [Value.cells] using hc0.symm
  obtain ⟨m, rfl, rfl, rfl, w1⟩ := open_int Tryz.underlying3 (hval0 1 3 _ (by rw [Tryz.params6]; rfl) rfl) h1
  clear hA0 hval0
  refine (segmentResets_any _ l m (wf_I64 w1) W hs0 (env_of_laid hL)).mono fun e W' ⟨he, bel⟩ => ?_
  subst he
  exact ⟨_, rfl, _, _, _, [], _, [], hW', trodAll_mk1 (shut_bool Tryz.underlying4 _), (trodAll_cons_mk (Below.trod law_laid (by kernel_rfl) (of_decide_eq_true (by kernel_rfl)) h0' bel hlt0) (trodAll_cons_mk (shut_int Tryz.underlying3 w1) trodAll_mk0)), rfl, bel.frame _, fun h => by cases h⟩

theorem segmentResets_holds : Rows.SegmentResetsSaid :=
  OpenClaim.holds_of_wide 6 Tryz.f6 rfl rfl rfl rfl rfl rfl rfl ⟨rfl, rfl, rfl, rfl, rfl⟩ rfl rfl rfl rfl rfl (by kernel_rfl) Tryz.func6 (by kernel_rfl)
    (of_decide_eq_true (by kernel_rfl)) (by unfold Func.isWrapper; first | (rw [if_pos (by decide +kernel)]; kernel_rfl) | (rw [if_neg (by decide +kernel)]; exact ⟨rfl, rfl⟩))
    (fun os started H enc _ => segmentResets_lifted os started H enc)

/-- THE TIED CARD -/
theorem segmentResets_card : Rows.SegmentResetsCardSaid :=
  Claim7.holds_tied_plain_at .later [] [.data, .data, .data, .data, .sentinel, .sentinel] true Rows.segmentResetsCard.stood.harness Rows.segmentResetsCard.stood.looks
    segmentResets_holds (fun _ h => by cases h) (by kernel_rfl) (fun _ h => by cases h) segmentResets_row_tie rfl ⟨rfl, rfl⟩ (by kernel_rfl) rfl
    (fun f fn hf hfn => by
      obtain rfl : f = 6 := Option.some.inj ((show Tryz.prog.funcNamed "indenture/indenturelaw25.SegmentResets" = some 6 by kernel_rfl).symm.trans hf) |>.symm
      obtain rfl : fn = Tryz.f6 := (Option.some.inj (Tryz.func6.symm.trans hfn)).symm
      exact ⟨by kernel_rfl, fun j t ht => by
        rw [Tryz.params6] at ht
        have hm : t ∈ [47, 3] := by simpa using Array.mem_of_getElem? ht
        have hall : ([47, 3].all fun u => !Tryz.prog.wantsStandIn u) = true := by kernel_rfl
        exact (show Tryz.prog.wantsStandIn t = false by simpa using List.all_eq_true.1 hall t hm)⟩)
    (by kernel_rfl)
#print axioms segmentResets_card
end Go.Proofs.YtlhefifejcoecaaGreatDoor
