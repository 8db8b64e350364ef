/- SegmentTellsCardSaid: for every input the law SegmentTells returns true, and its arguments read behind the call as they read before it; the listed variables (sum.nibbles, strconv's and math/bits' tables and errors) are taken as the program's text lays them, which the card ties. No other condition. -/
import Derived.Test.YtlhefifejcoecaaGreatDoorSegAc
import Derived.Test.YtlhefifejcoecaaGreatDoorTel
import Derived.Test.YtlhefifejcoecaaGreatDoorTie
import Derived.Test.YtlhefifejcoecaaGreatDoorCards
import Derived.SevenTiedAt
namespace Go.Proofs.YtlhefifejcoecaaGreatDoor
open Go.RowKit Go.Proofs Go.ChangeShapes Go.WideShapes Go.ChangeAt Go.Deep

section
variable {H : Type} {enc : TypeId × Value → H} {w : World} {base : Nat} {spare : Nat → Bool} {held : Bool}

theorem opens_str : Opens enc Tryz.prog w base spare held 9 StrVE := by
  intro fuel cs x h
  obtain ⟨s, rfl, -, hl⟩ := DataW.trod_string Tryz.underlying9 h
  exact ⟨s, rfl, Nat.le_trans hl maxLen_nat⟩

theorem opens_strs : Opens enc Tryz.prog w base spare held 47 (SlE 1 StrVE) := opens_slice (k := 1) Tryz.underlying47 (by kernel_rfl) (by decide) opens_str
end

theorem wf_u64 {n : Int} (h : (Lit.int .u64 n).wf = true) : 0 ≤ n ∧ n < 18446744073709551616 := by
  simp only [Lit.wf, IntKind.min, IntKind.max, IntKind.signed, IntKind.bits, Bool.and_eq_true, decide_eq_true_eq] at h
  simp at h
  omega

set_option maxRecDepth 100000 in
theorem segmentTells_lifted (os : Os) (started : os.Started) (H : Type) (enc : TypeId × Value → H) :
    ReturnsInHanded {} Tryz.checked os 5 .any (fun w args => (Rows.segmentTellsSpec.pre enc Tryz.prog Tryz.f5 [] false w args ∧ laidMetH Tryz.prog laidN w) ∧ sizedMet enc Tryz.prog Tryz.f5 (OpenSpec.ofChange Rows.segmentTellsSpec) false w args)
      (Rows.segmentTellsSpec.post enc Tryz.prog Tryz.f5 false true false false) := by
  refine returnsInHanded_of_change_and (C := Tryz.checked) (X := fun w _ => laidMetH Tryz.prog laidN w) (fun _ _ _ hh h => h.of_heap hh) law_own started (by kernel_rfl) Tryz.func5
    (ChangeSpec.witness_shaped (enc := enc) (C := Tryz.checked) (os := os) (X := fun w _ => laidMetH Tryz.prog laidN w) false (World.doorLaid Tryz.prog 67 os) #[.int .u64 0, .slice none 0 0, .int .u64 0] 8 rfl (World.shaped_of_RefB (by kernel_rfl) (by kernel_rfl)) (by kernel_rfl) (by kernel_rfl) (by kernel_rfl) (door_met os _)) ?_
  intro W base args ds gs before hval0 hW _ _ hL _
  have hW' := hW
  obtain ⟨p, q, hA0, hV, rfl, hfz, hnd⟩ := hW
  have hA : DataW.TrodAll enc Tryz.prog W 0 (fun _ => true) true Tryz.f5.params.toList args.toList ds p := hA0
  rw [Tryz.params5] at hA
  obtain ⟨v0, vs0, d0, ds0, p0, q0, hargs, rfl, rfl, h0, r0⟩ := trodAll_cons hA
  obtain ⟨v1, vs1, d1, ds1, p1, q1, rfl, rfl, rfl, h1, r1⟩ := trodAll_cons r0
  obtain ⟨v2, vs2, d2, ds2, p2, q2, rfl, rfl, rfl, h2, r2⟩ := trodAll_cons r1
  obtain ⟨rfl, rfl, rfl⟩ := trodAll_nil r2
  obtain rfl : args = #[v0, v1, v2] := by cases args; simp_all
  obtain ⟨rfl, rfl⟩ := trodVars_none hV
  have h1' := h1
  have hlt1 : ∀ x ∈ p1, x.block < W.heap.size := fun x hx => by simpa using hW'.lt x (by simp [hx])
  obtain ⟨fuel1, hf1⟩ := h1
  obtain ⟨l, u, hc1, hs1⟩ := opens_strs _ _ _ hf1
  obtain ⟨a1, len1, cap1, rfl⟩ := okWide_slice Tryz.underlying47 (hval0 1 47 _ (by rw [Tryz.params5]; rfl) rfl)
  obtain rfl : u = .slice a1 len1 cap1 := by simpa [Value.cells] using hc1.symm
  obtain ⟨n, rfl, rfl, rfl, w0⟩ := open_int Tryz.underlying52 (hval0 0 52 _ (by rw [Tryz.params5]; rfl) rfl) h0
  obtain ⟨m, rfl, rfl, rfl, w2⟩ := open_int Tryz.underlying52 (hval0 2 52 _ (by rw [Tryz.params5]; rfl) rfl) h2
  obtain ⟨n1, n2⟩ := wf_u64 w0
  obtain ⟨m1, m2⟩ := wf_u64 w2
  obtain ⟨nn, rfl⟩ : ∃ nn : Nat, n = (nn : Int) := ⟨n.toNat, by omega⟩
  obtain ⟨mm, rfl⟩ : ∃ mm : Nat, m = (mm : Int) := ⟨m.toNat, by omega⟩
  clear hA0 hval0
  refine (segmentTells_any nn mm (by omega) (by omega) _ l W hs1 (env_of_laid hL)).mono fun e W' ⟨he, bel⟩ => ?_
  subst he
  exact ⟨_, rfl, _, _, _, [], _, [], hW', trodAll_mk1 (shut_bool Tryz.underlying4 _), (trodAll_cons_mk (shut_int Tryz.underlying52 w0) (trodAll_cons_mk (Below.trod law_laid (by kernel_rfl) (of_decide_eq_true (by kernel_rfl)) h1' bel hlt1) (trodAll_cons_mk (shut_int Tryz.underlying52 w2) trodAll_mk0))), rfl, bel.frame _, fun h => by cases h⟩

theorem segmentTells_holds : Rows.SegmentTellsSaid :=
  OpenClaim.holds_of_wide 5 Tryz.f5 rfl rfl rfl rfl rfl rfl rfl ⟨rfl, rfl, rfl, rfl, rfl⟩ rfl rfl rfl rfl rfl (by kernel_rfl) Tryz.func5 (by kernel_rfl)
    (of_decide_eq_true (by kernel_rfl)) (by unfold Func.isWrapper; first | (rw [if_pos (by decide +kernel)]; kernel_rfl) | (rw [if_neg (by decide +kernel)]; exact ⟨rfl, rfl⟩))
    (fun os started H enc _ => segmentTells_lifted os started H enc)

/-- THE TIED CARD -/
theorem segmentTells_card : Rows.SegmentTellsCardSaid :=
  Claim7.holds_tied_plain_at .later [] [.data, .data, .data, .data, .sentinel, .sentinel] true Rows.segmentTellsCard.stood.harness Rows.segmentTellsCard.stood.looks
    segmentTells_holds (fun _ h => by cases h) (by kernel_rfl) (fun _ h => by cases h) segmentTells_row_tie rfl ⟨rfl, rfl⟩ (by kernel_rfl) rfl
    (fun f fn hf hfn => by
      obtain rfl : f = 5 := Option.some.inj ((show Tryz.prog.funcNamed "indenture/indenturelaw25.SegmentTells" = some 5 by kernel_rfl).symm.trans hf) |>.symm
      obtain rfl : fn = Tryz.f5 := (Option.some.inj (Tryz.func5.symm.trans hfn)).symm
      exact ⟨by kernel_rfl, fun j t ht => by
        rw [Tryz.params5] at ht
        have hm : t ∈ [52, 47, 52] := by simpa using Array.mem_of_getElem? ht
        have hall : ([52, 47, 52].all fun u => !Tryz.prog.wantsStandIn u) = true := by kernel_rfl
        exact (show Tryz.prog.wantsStandIn t = false by simpa using List.all_eq_true.1 hall t hm)⟩)
    (by kernel_rfl)
#print axioms segmentTells_card
end Go.Proofs.YtlhefifejcoecaaGreatDoor
