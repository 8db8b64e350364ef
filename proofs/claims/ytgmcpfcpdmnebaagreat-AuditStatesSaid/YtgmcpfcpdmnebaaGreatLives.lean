/- The law's package: lives is so. -/
import Derived.Test.YtgmcpfcpdmnebaaGreatLaw
namespace Go.Proofs.YtgmcpfcpdmnebaaGreat
open Go.RowKit Go.Proofs Go.Shelf

theorem tellsS_iff (f : St) (x : Rd) : tellsS f x = true ↔ (IsPairs f (soS x) x.pairs ∧ x.pairs.length ≤ 200) := by unfold tellsS; exact @decide_eq_true_iff _ (Classical.propDecidable _)

/-- A read of one key that found nothing. -/
theorem tells_none {f : St} {k t : ByteArray} : tellsS f ⟨false, k, t, []⟩ = (f k).isNone := by
  rw [Bool.eq_iff_iff, tellsS_iff]
  constructor
  · rintro ⟨h, -⟩
    cases hf : f k with
    | none => rfl
    | some v =>
      have := (h.mem ⟨k, v, false⟩).2 ⟨rfl, hf, by simp [soS, eqB_eq]⟩
      simp at this
  · intro h
    have hf : f k = none := by simpa using h
    refine ⟨⟨fun x => ?_, by simp [SortedP], by simp⟩, by simp⟩
    constructor
    · intro hx; simp at hx
    · rintro ⟨-, h1, h2⟩
      have e : x.key = k := by simpa [soS, eqB_eq] using h2
      rw [e, hf] at h1; cases h1

/-- A read that told another value. -/
theorem tells_other {f : St} {k t v v' : ByteArray} (hf : f k = some v) (hne : v' ≠ v) : tellsS f ⟨false, k, t, [⟨k, v', false⟩]⟩ = false := by
  rw [Bool.eq_false_iff]
  intro h
  rw [tellsS_iff] at h
  have := ((h.1.mem ⟨k, v', false⟩).1 (by simp)).2.1
  rw [hf] at this
  exact hne (Option.some.inj this).symm

theorem livesOK : LivesOK := by
  have g0 : recGoodS ⟨1, 0, false, [], [⟨kA, v2, false⟩]⟩ = true := by decide +kernel
  have g1 : recGoodS ⟨1, 1, false, [⟨false, kA, e0, [⟨kA, v1, false⟩]⟩], []⟩ = true := by decide +kernel
  have b0 : behindOK (livesL.take 0) = true := rfl
  have l0 : legalS livesL 0 = true := by
    have e : legalS livesL 0 = legalAt livesL 0 ⟨1, 0, false, [], [⟨kA, v2, false⟩]⟩ := rfl
    rw [e]
    unfold legalAt
    rw [g0, b0]
    rfl
  have l1 : legalS livesL 1 = false := by
    have e : legalS livesL 1 = legalAt livesL 1 ⟨1, 1, false, [⟨false, kA, e0, [⟨kA, v1, false⟩]⟩], []⟩ := rfl
    rw [e]
    unfold legalAt
    have hs : stateS (livesL.take (Int.toNat 1)) kA = some v2 := rfl
    have ht := tells_other (t := e0) (v' := v1) hs (by intro h; have := congrArg (fun b : ByteArray => b.data[0]!) h; simp [v1, v2] at this)
    have hb : bearsS (stateS (livesL.take (Int.toNat 1))) ⟨1, 1, false, [⟨false, kA, e0, [⟨kA, v1, false⟩]⟩], []⟩ = false := by
      unfold bearsS
      simp only [List.any_cons, List.any_nil, Bool.or_false, ht]
      rfl
    simp only [hb, Bool.and_false, Bool.false_and]
  exact ⟨l0, l1, firstS_some (l := livesL) 1 (by decide) (fun j hj => by
    have : j = 0 := by omega
    subst this; exact l0) l1⟩

theorem lives_any (w : World) : Calls Tryz.prog 5 #[] w (Gives w (.bool true)) := lives_walk livesOK w

end Go.Proofs.YtgmcpfcpdmnebaaGreat
