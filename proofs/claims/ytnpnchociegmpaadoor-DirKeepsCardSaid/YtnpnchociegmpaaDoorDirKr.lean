/- DirKeepsCardSaid: for every input the law DirKeeps returns true, and its arguments read behind the call as they read before it; the variable sum.nibbles is taken as the program's text lays it, which the card ties. No other condition. -/
import Derived.Test.YtnpnchociegmpaaDoorDirAc
import Derived.Test.YtnpnchociegmpaaDoorDirKw
import Derived.Test.YtnpnchociegmpaaDoorTie
import Derived.Test.YtnpnchociegmpaaDoorCards
import Derived.SevenTiedAt
namespace Go.Proofs.YtnpnchociegmpaaDoor
open Go.RowKit Go.Proofs Go.ChangeShapes Go.WideShapes Go.ChangeAt Go.Deep

theorem opens_bytes {H : Type} {enc : TypeId × Value → H} {w : World} {base : Nat} {spare : Nat → Bool} {held : Bool} : Opens enc Tryd.prog w base spare held 32 (SlE 1 ByteE) := opens_slice Tryd.underlying32 cells_u8 (by decide) opens_byte

set_option maxRecDepth 100000 in
theorem dirKeeps_lifted (os : Os) (started : os.Started) (H : Type) (enc : TypeId × Value → H) :
    ReturnsInHanded {} Tryd.checked os 5 .any (fun w args => (Rows.dirKeepsSpec.pre enc Tryd.prog Tryd.f5 [] false w args ∧ laidMetH Tryd.prog laidN w) ∧ sizedMet enc Tryd.prog Tryd.f5 (OpenSpec.ofChange Rows.dirKeepsSpec) false w args)
      (Rows.dirKeepsSpec.post enc Tryd.prog Tryd.f5 false true false false) := by
  refine returnsInHanded_of_change_and (C := Tryd.checked) (X := fun w _ => laidMetH Tryd.prog laidN w) (fun _ _ _ hh h => h.of_heap hh) law_own started (by kernel_rfl) Tryd.func5
    (ChangeSpec.witness_shaped (enc := enc) (C := Tryd.checked) (os := os) (X := fun w _ => laidMetH Tryd.prog laidN w) false (World.doorLaid Tryd.prog 14 os) #[.slice none 0 0, .slice none 0 0] 8 rfl (World.shaped_of_RefB (by kernel_rfl) (by kernel_rfl)) (by kernel_rfl) (by kernel_rfl) (by kernel_rfl) (door_met os _)) ?_
  intro W base args ds gs before hval0 hW _ _ hL _
  have hW' := hW
  obtain ⟨p, q, hA0, hV, rfl, hfz, hnd⟩ := hW
  have hA : DataW.TrodAll enc Tryd.prog W 0 (fun _ => true) true Tryd.f5.params.toList args.toList ds p := hA0
  rw [Tryd.params5] at hA
  obtain ⟨v0, vs0, d0, ds0, p0, q0, hargs, rfl, rfl, h0, r0⟩ := trodAll_cons hA
  obtain ⟨v1, vs1, d1, ds1, p1, q1, rfl, rfl, rfl, h1, r1⟩ := trodAll_cons r0
  obtain ⟨rfl, rfl, rfl⟩ := trodAll_nil r1
  obtain rfl : args = #[v0, v1] := by cases args; simp_all
  obtain ⟨rfl, rfl⟩ := trodVars_none hV
  have h0' := h0
  have h1' := h1
  have hlt0 : ∀ x ∈ p0, x.block < W.heap.size := fun x hx => by simpa using hW'.lt x (by simp [hx])
  have hlt1 : ∀ x ∈ p1, x.block < W.heap.size := fun x hx => by simpa using hW'.lt x (by simp [hx])
  obtain ⟨fuel0, hf0⟩ := h0
  obtain ⟨b, u, hc0, hs0⟩ := opens_bytes _ _ _ hf0
  obtain ⟨a0, len0, cap0, rfl⟩ := okWide_slice Tryd.underlying32 (hval0 0 32 _ (by rw [Tryd.params5]; rfl) rfl)
  obtain rfl : u = .slice a0 len0 cap0 := by simpa [Value.cells] using hc0.symm
  obtain ⟨fuel, hf⟩ := h1
  obtain ⟨l, v, hc, hs⟩ := opens_acts _ _ _ hf
  obtain ⟨a, len, cap, rfl⟩ := okWide_slice Tryd.underlying22 (hval0 1 22 _ (by rw [Tryd.params5]; rfl) rfl)
  obtain rfl : v = .slice a len cap := by simpa [Value.cells] using hc.symm
  clear hA0 hval0
  refine (dirKeeps_any _ _ b l W hs0 hs (nib_of_laid hL)).mono fun e W' ⟨he, bel⟩ => ?_
  subst he
  exact ⟨_, rfl, _, _, _, [], _, [], hW', trodAll_mk1 (shut_bool Tryd.underlying4 _), trodAll_cons_mk (Below.trod law_laid (by kernel_rfl) (of_decide_eq_true (by kernel_rfl)) h0' bel hlt0) (trodAll_cons_mk (Below.trod law_laid (by kernel_rfl) (of_decide_eq_true (by kernel_rfl)) h1' bel hlt1) trodAll_mk0), rfl, bel.frame _, fun h => by cases h⟩

theorem dirKeeps_holds : Rows.DirKeepsSaid :=
  OpenClaim.holds_of_wide 5 Tryd.f5 rfl rfl rfl rfl rfl rfl rfl ⟨rfl, rfl, rfl, rfl, rfl⟩ rfl rfl rfl rfl rfl (by kernel_rfl) Tryd.func5 (by kernel_rfl)
    (of_decide_eq_true (by kernel_rfl)) (by unfold Func.isWrapper; first | (rw [if_pos (by decide +kernel)]; kernel_rfl) | (rw [if_neg (by decide +kernel)]; exact ⟨rfl, rfl⟩))
    (fun os started H enc _ => dirKeeps_lifted os started H enc)

/-- THE TIED CARD -/
theorem dirKeeps_card : Rows.DirKeepsCardSaid :=
  Claim7.holds_tied_plain_at .later [] [.data] true Rows.dirKeepsCard.stood.harness Rows.dirKeepsCard.stood.looks
    dirKeeps_holds (fun _ h => by cases h) (by kernel_rfl) (fun _ h => by cases h) dirKeeps_row_tie rfl ⟨rfl, rfl⟩ (by kernel_rfl) rfl
    (fun f fn hf hfn => by
      obtain rfl : f = 5 := Option.some.inj ((show Tryd.prog.funcNamed "indenture/indenturelaw24.DirKeeps" = some 5 by kernel_rfl).symm.trans hf) |>.symm
      obtain rfl : fn = Tryd.f5 := (Option.some.inj (Tryd.func5.symm.trans hfn)).symm
      exact ⟨by kernel_rfl, fun j t ht => by
        rw [Tryd.params5] at ht
        have hm : t ∈ [32, 22] := by simpa using Array.mem_of_getElem? ht
        have hall : ([32, 22].all fun u => !Tryd.prog.wantsStandIn u) = true := by kernel_rfl
        exact (show Tryd.prog.wantsStandIn t = false by simpa using List.all_eq_true.1 hall t hm)⟩)
    (by kernel_rfl)
#print axioms dirKeeps_card
end Go.Proofs.YtnpnchociegmpaaDoor
