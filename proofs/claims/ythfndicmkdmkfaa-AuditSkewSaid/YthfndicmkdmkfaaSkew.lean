/- The law AuditSkew: what its records are. -/
import Derived.Test.YthfndicmkdmkfaaLives
namespace Go.Proofs.Ythfndicmkdmkfaa
open Go.RowKit Go.Proofs Go.Shelf

def skew0 (a b : ByteArray) : Rec := ⟨1, 0, false, [⟨false, a, e0, []⟩], [⟨b, v1, false⟩]⟩
def skew1 (a b : ByteArray) (st : Bool) : Rec := ⟨2, 0, st, [⟨false, b, e0, []⟩], [⟨a, v1, false⟩]⟩
def skewL (a b : ByteArray) (st : Bool) : List Rec := [skew0 a b, skew1 a b st]

theorem emp_false {s : ByteArray} (h : 1 ≤ s.size) : emp s = false := by
  rw [Bool.eq_false_iff]
  intro e
  have h1 : s.toList = e0.toList := by
    unfold emp at e
    rw [List.isEmpty_iff.1 e]
    decide +kernel
  have := toList_inj h1
  rw [this] at h
  exact absurd h (by decide)

theorem goodOne {k : ByteArray} (h1 : 1 ≤ k.size) (h2 : k.size ≤ 64) : goodS [⟨k, v1, false⟩] = true := by
  have e := emp_false h1
  have hv : v1.size ≤ 256 := by decide
  simp [goodS, goodPairS, adj, e, h2, hv]

theorem rightOne {n : Int} {st : Bool} {a b : ByteArray} (hn : 1 ≤ n ∧ n ≤ 8) (ha : 1 ≤ a.size ∧ a.size ≤ 64) (hb : 1 ≤ b.size ∧ b.size ≤ 64) : rightS ⟨n, 0, st, [⟨false, a, e0, []⟩], [⟨b, v1, false⟩]⟩ = true := by
  have e := emp_false ha.1
  have g := goodOne hb.1 hb.2
  have h1 : e0.size ≤ 64 := by decide
  have h2 : emp e0 = true := by decide +kernel
  have h3 : goodS [] = true := rfl
  simp [rightS, readsOK, goodReadS, memB, e, g, h1, h2, h3, hn, ha]

theorem goodRecOne {n : Int} {st : Bool} {a b : ByteArray} (hn : 1 ≤ n ∧ n ≤ 8) (ha : 1 ≤ a.size ∧ a.size ≤ 64) (hb : 1 ≤ b.size ∧ b.size ≤ 64) : recGoodS ⟨n, 0, st, [⟨false, a, e0, []⟩], [⟨b, v1, false⟩]⟩ = true := by
  unfold recGoodS
  rw [rightOne hn ha hb, Bool.true_and, decide_eq_true_eq]
  have a1 := numS_length n.toNat
  have a2 := numS_length 0
  have a3 := numS_length (0 + 1)
  have a4 := strS_length a
  have a5 := strS_length b
  have a6 := strS_length v1
  have hv : v1.size = 1 := by decide
  simp only [bytesS, headB, readB, writeB, pairB, flagS, List.length_append, List.flatMap_cons, List.flatMap_nil, List.length_cons, List.length_nil, Int.toNat_zero, Bool.false_eq_true, if_false]
  omega

theorem eqB_false {a b : ByteArray} (h : a ≠ b) : eqB a b = false := by
  rw [Bool.eq_false_iff]
  intro e
  exact h (eqB_eq.1 e)

theorem skew_legal0 {a b : ByteArray} {st : Bool} (ha : 1 ≤ a.size ∧ a.size ≤ 64) (hb : 1 ≤ b.size ∧ b.size ≤ 64) : legalS (skewL a b st) 0 = true := by
  have e : legalS (skewL a b st) 0 = legalAt (skewL a b st) 0 (skew0 a b) := rfl
  have g : recGoodS (skew0 a b) = true := goodRecOne (by omega) ha hb
  have t : bearsS (stateS ((skewL a b st).take (skew0 a b).snap.toNat)) (skew0 a b) = true := by
    unfold bearsS skew0
    simp only [List.any_cons, List.any_nil, Bool.or_false, tells_none]
    rfl
  rw [e]
  unfold legalAt
  rw [g, t]
  rfl

theorem skew_may {a b : ByteArray} {st : Bool} (hne : a ≠ b) : mayS (skew1 a b st) [skew0 a b] = if st then 10 else 0 := by
  have h1 := eqB_false hne
  have h2 := eqB_false (Ne.symm hne)
  have h3 : eqB b b = true := eqB_eq.2 rfl
  cases st <;> simp [mayS, clashS, staleS, wroteS, touchesS, idx, skew0, skew1, h1, h2, h3]

theorem skew_legal1 {a b : ByteArray} {st : Bool} (ha : 1 ≤ a.size ∧ a.size ≤ 64) (hb : 1 ≤ b.size ∧ b.size ≤ 64) (hne : a ≠ b) : legalS (skewL a b st) 1 = !st := by
  have e : legalS (skewL a b st) 1 = legalAt (skewL a b st) 1 (skew1 a b st) := rfl
  have g : recGoodS (skew1 a b st) = true := goodRecOne (by omega) hb ha
  have t : bearsS (stateS ((skewL a b st).take (skew1 a b st).snap.toNat)) (skew1 a b st) = true := by
    unfold bearsS skew1
    simp only [List.any_cons, List.any_nil, Bool.or_false, tells_none]
    rfl
  have k : behindOK ((skewL a b st).take 1) = true := by
    have := goodOne hb.1 hb.2
    simp [behindOK, skewL, skew0, this]
  have m : mayS (skew1 a b st) (((skewL a b st).take 1).drop (skew1 a b st).snap.toNat) = if st then 10 else 0 := skew_may hne
  have s : decide ((skew1 a b st).snap ≤ ((1 : Nat) : Int)) = true := rfl
  rw [e]
  unfold legalAt
  rw [g, t, k, m, s]
  cases st <;> rfl

theorem skew_serial0 {a b : ByteArray} {st : Bool} : serialS (skewL a b st) 0 = true := by
  have e : serialS (skewL a b st) 0 = serialAt (skewL a b st) 0 (skew0 a b) := rfl
  have t : bearsS (stateS ((skewL a b st).take 0)) (skew0 a b) = true := by
    unfold bearsS skew0
    simp only [List.any_cons, List.any_nil, Bool.or_false, tells_none]
    rfl
  rw [e]
  unfold serialAt
  rw [t]
  rfl

theorem skew_serial1 {a b : ByteArray} {st : Bool} : serialS (skewL a b st) 1 = false := by
  have e : serialS (skewL a b st) 1 = serialAt (skewL a b st) 1 (skew1 a b st) := rfl
  have h : (stateS ((skewL a b st).take 1) b).isNone = false := by
    simp [stateS, skewL, skew0, stepR, stepP]
  have t : bearsS (stateS ((skewL a b st).take 1)) (skew1 a b st) = false := by
    unfold bearsS skew1
    simp only [List.any_cons, List.any_nil, Bool.or_false, tells_none, h]
    rfl
  rw [e]
  unfold serialAt
  rw [t, Bool.and_false]

end Go.Proofs.Ythfndicmkdmkfaa
