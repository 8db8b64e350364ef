/- SegmentNoneCardSaid: for every input the law SegmentNone returns true, and its argument reads behind the call as it reads before it; the listed variables (sum.nibbles, strconv's and math/bits' tables and errors) are taken as the program's text lays them, which the card ties. No other condition. -/
import Derived.Test.YtlhefifejcoecaaGreatDoorSegAc
import Derived.Test.YtlhefifejcoecaaGreatDoorSegNo
import Derived.Test.YtlhefifejcoecaaGreatDoorTie
import Derived.Test.YtlhefifejcoecaaGreatDoorCards
import Derived.SevenTiedAt
namespace Go.Proofs.YtlhefifejcoecaaGreatDoor
open Go.RowKit Go.Proofs Go.ChangeShapes Go.WideShapes Go.ChangeAt Go.Deep

section
variable {H : Type} {enc : TypeId × Value → H} {w : World} {base : Nat} {spare : Nat → Bool} {held : Bool}

theorem opens_int : Opens enc Tryz.prog w base spare held 3 Int25 := by
  intro fuel cs x h
  obtain ⟨n, rfl, -, hw⟩ := DataW.trod_int Tryz.underlying3 h
  exact ⟨n, rfl⟩

theorem six_act : Tryz.prog.cellsOf 28 = 6 := by kernel_rfl

set_option maxRecDepth 100000 in
theorem opens_act : Opens enc Tryz.prog w base spare held 28 ActE := by
  intro fuel cs x h
  obtain ⟨xs, n, -, -, hlen, hxl, hg⟩ := DataW.trod_struct Tryz.underlying28 h
  rw [six_act] at hlen
  match cs, hlen with
  | [c0, c1, c2, c3, c4, c5], _ =>
    have h0 := hg 0 _ rfl
    have h1 := hg 1 _ rfl
    have h2 := hg 2 _ rfl
    have h3 := hg 3 _ rfl
    have h4 := hg 4 _ rfl
    have h5 := hg 5 _ rfl
    simp only [List.getElem_toArray, List.getElem_cons_zero, List.getElem_cons_succ, one_int, one_string, one_bytes, one_ints] at h0 h1 h2 h3 h4 h5
    obtain ⟨y0, h0⟩ := some_of hxl (by decide) h0
    obtain ⟨y1, h1⟩ := some_of hxl (by decide) h1
    obtain ⟨y2, h2⟩ := some_of hxl (by decide) h2
    obtain ⟨y3, h3⟩ := some_of hxl (by decide) h3
    obtain ⟨y4, h4⟩ := some_of hxl (by decide) h4
    obtain ⟨y5, h5⟩ := some_of hxl (by decide) h5
    obtain ⟨n0, e0, -, w0⟩ := DataW.trod_int Tryz.underlying3 h0
    obtain ⟨n1, e1, -, w1⟩ := DataW.trod_int Tryz.underlying3 h1
    obtain ⟨n2, e2, -, w2⟩ := DataW.trod_int Tryz.underlying3 h2
    obtain ⟨s3, e3, -, l3⟩ := DataW.trod_string Tryz.underlying9 h3
    obtain ⟨bs, bv, e4, hbs⟩ := opens_slice (k := 1) Tryz.underlying25 cells_u8 (by decide) opens_byte _ _ _ h4
    obtain ⟨ks, kv, e5, hks⟩ := opens_slice (k := 1) Tryz.underlying26 one_int (by decide) opens_int _ _ _ h5
    cases e0; cases e1; cases e2; cases e3; cases e4; cases e5
    exact ⟨⟨n0, n1, n2, s3, bs, ks⟩, _, _, rfl, wf_I64 w0, wf_I64 w1, wf_I64 w2, Nat.le_trans l3 maxLen_nat, hbs, hks⟩
end

set_option maxRecDepth 100000 in
theorem segmentNone_lifted (os : Os) (started : os.Started) (H : Type) (enc : TypeId × Value → H) :
    ReturnsInHanded {} Tryz.checked os 4 .any (fun w args => (Rows.segmentNoneSpec.pre enc Tryz.prog Tryz.f4 [] false w args ∧ laidMetH Tryz.prog laidN w) ∧ sizedMet enc Tryz.prog Tryz.f4 (OpenSpec.ofChange Rows.segmentNoneSpec) false w args)
      (Rows.segmentNoneSpec.post enc Tryz.prog Tryz.f4 false true false false) := by
  refine returnsInHanded_of_change_and (C := Tryz.checked) (X := fun w _ => laidMetH Tryz.prog laidN w) (fun _ _ _ hh h => h.of_heap hh) law_own started (by kernel_rfl) Tryz.func4
    (ChangeSpec.witness_shaped (enc := enc) (C := Tryz.checked) (os := os) (X := fun w _ => laidMetH Tryz.prog laidN w) false (World.doorLaid Tryz.prog 67 os) #[.agg #[.int .i64 0, .int .i64 0, .int .i64 0, .string .empty, .slice none 0 0, .slice none 0 0]] 8 rfl (World.shaped_of_RefB (by kernel_rfl) (by kernel_rfl)) (by kernel_rfl) (by kernel_rfl) (by kernel_rfl) (door_met os _)) ?_
  intro W base args ds gs before hval0 hW _ _ hL _
  have hW' := hW
  obtain ⟨p, q, hA0, hV, rfl, hfz, hnd⟩ := hW
  have hA : DataW.TrodAll enc Tryz.prog W 0 (fun _ => true) true Tryz.f4.params.toList args.toList ds p := hA0
  rw [Tryz.params4] at hA
  obtain ⟨v0, d0, rfl, rfl, h0⟩ := trodAll_one hA
  obtain ⟨rfl, rfl⟩ := trodVars_none hV
  have h0' := h0
  have hlt : ∀ x ∈ p, x.block < W.heap.size := fun x hx => by simpa using hW'.lt x (by simpa using hx)
  obtain ⟨fuel, hf⟩ := h0
  obtain ⟨cs, rfl, hsz⟩ := okWide_struct Tryz.underlying28 (hval0 0 28 _ (by rw [Tryz.params4]; rfl) rfl)
  obtain ⟨a, ha⟩ := opens_act _ _ _ hf
  have ha2 : ActE W cs.toList a := by simpa [Value.cells] using ha
  have hcall := segmentNone_any cs.toList a W ha2 (env_of_laid hL)
  rw [Array.toArray_toList] at hcall
  clear hA0 hval0
  refine hcall.mono fun e W' ⟨he, bel⟩ => ?_
  subst he
  exact ⟨_, rfl, _, _, _, [], _, [], hW', trodAll_mk1 (shut_bool Tryz.underlying4 _), trodAll_mk1 (Below.trod law_laid (by kernel_rfl) (of_decide_eq_true (by kernel_rfl)) h0' bel hlt), rfl, bel.frame _, fun h => by cases h⟩

theorem segmentNone_holds : Rows.SegmentNoneSaid :=
  OpenClaim.holds_of_wide 4 Tryz.f4 rfl rfl rfl rfl rfl rfl rfl ⟨rfl, rfl, rfl, rfl, rfl⟩ rfl rfl rfl rfl rfl (by kernel_rfl) Tryz.func4 (by kernel_rfl)
    (of_decide_eq_true (by kernel_rfl)) (by unfold Func.isWrapper; first | (rw [if_pos (by decide +kernel)]; kernel_rfl) | (rw [if_neg (by decide +kernel)]; exact ⟨rfl, rfl⟩))
    (fun os started H enc _ => segmentNone_lifted os started H enc)

/-- THE TIED CARD -/
theorem segmentNone_card : Rows.SegmentNoneCardSaid :=
  Claim7.holds_tied_plain_at .later [] [.data, .data, .data, .data, .sentinel, .sentinel] true Rows.segmentNoneCard.stood.harness Rows.segmentNoneCard.stood.looks
    segmentNone_holds (fun _ h => by cases h) (by kernel_rfl) (fun _ h => by cases h) segmentNone_row_tie rfl ⟨rfl, rfl⟩ (by kernel_rfl) rfl
    (fun f fn hf hfn => by
      obtain rfl : f = 4 := Option.some.inj ((show Tryz.prog.funcNamed "indenture/indenturelaw25.SegmentNone" = some 4 by kernel_rfl).symm.trans hf) |>.symm
      obtain rfl : fn = Tryz.f4 := (Option.some.inj (Tryz.func4.symm.trans hfn)).symm
      exact ⟨by kernel_rfl, fun j t ht => by
        rw [Tryz.params4] at ht
        have hm : t ∈ [28] := by simpa using Array.mem_of_getElem? ht
        have hall : ([28].all fun u => !Tryz.prog.wantsStandIn u) = true := by kernel_rfl
        exact (show Tryz.prog.wantsStandIn t = false by simpa using List.all_eq_true.1 hall t hm)⟩)
    (by kernel_rfl)
#print axioms segmentNone_card
end Go.Proofs.YtlhefifejcoecaaGreatDoor
