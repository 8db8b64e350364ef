/- A segment's name, plain: six digits; names rise as numbers do; a name's number is read again. -/
import Derived.Lib.ItoaNum
import Derived.Lib.Atoi
import Derived.Lib.Repeat
namespace Go.Proofs.YtlhefifejcoecaaGreatDoor
open Go

def dig6 (u : Nat) : List UInt8 := [Lib.dg u 5, Lib.dg u 4, Lib.dg u 3, Lib.dg u 2, Lib.dg u 1, Lib.dg u 0]
def nameL (u : Nat) : List UInt8 := 115 :: dig6 u
def nameS (u : Nat) : ByteArray := ⟨(nameL u).toArray⟩

theorem dg_high {u j : Nat} (h : u < 10 ^ j) : Lib.dg u j = 48 := by
  unfold Lib.dg
  rw [Nat.div_eq_of_lt h]
  rfl

theorem nDigits_six {u : Nat} (h : u ≤ 999999) : Lib.nDigits u ≤ 6 := by
  have h1 : ∀ k, k ≤ 5 → 10 ^ k ≤ u → u < 10 ^ (k + 1) → Lib.nDigits u ≤ 6 := fun k hk a b => by rw [Lib.nDigits_unique k u a b]; omega
  by_cases h0 : u < 10
  · rw [Lib.nDigits_small h0]; omega
  by_cases h2 : u < 100
  · exact h1 1 (by omega) (by omega) (by omega)
  by_cases h3 : u < 1000
  · exact h1 2 (by omega) (by omega) (by omega)
  by_cases h4 : u < 10000
  · exact h1 3 (by omega) (by omega) (by omega)
  by_cases h5 : u < 100000
  · exact h1 4 (by omega) (by omega) (by omega)
  exact h1 5 (by omega) (by omega) (by omega)

theorem pad_dec {u : Nat} (h : u ≤ 999999) : Lib.repeatL [48] (6 - (Lib.decDigits u).length) ++ Lib.decDigits u = dig6 u := by
  have h1 := nDigits_six h
  have h2 := Lib.nDigits_pos u
  have h3 := Lib.lt_pow_nDigits u
  rw [Lib.decDigits_length, Lib.decDigits_eq]
  generalize Lib.nDigits u = m at *
  unfold dig6
  rcases (by omega : m = 1 ∨ m = 2 ∨ m = 3 ∨ m = 4 ∨ m = 5 ∨ m = 6) with rfl | rfl | rfl | rfl | rfl | rfl
  · rw [dg_high (j := 5) (by omega), dg_high (j := 4) (by omega), dg_high (j := 3) (by omega), dg_high (j := 2) (by omega), dg_high (j := 1) (by omega)]; rfl
  · rw [dg_high (j := 5) (by omega), dg_high (j := 4) (by omega), dg_high (j := 3) (by omega), dg_high (j := 2) (by omega)]; rfl
  · rw [dg_high (j := 5) (by omega), dg_high (j := 4) (by omega), dg_high (j := 3) (by omega)]; rfl
  · rw [dg_high (j := 5) (by omega), dg_high (j := 4) (by omega)]; rfl
  · rw [dg_high (j := 5) (by omega)]; rfl
  · rfl

theorem dec_len {u : Nat} (h : u ≤ 999999) : (Lib.decDigits u).length ≤ 6 := by rw [Lib.decDigits_length]; exact nDigits_six h

theorem dg_toNat (u j : Nat) : (Lib.dg u j).toNat = 48 + u / 10 ^ j % 10 := by
  unfold Lib.dg
  rw [UInt8.toNat_ofNat']
  have := Nat.mod_lt (u / 10 ^ j) (show 0 < 10 by decide)
  omega

theorem dg_lt (u v j : Nat) : Lib.dg u j < Lib.dg v j ↔ u / 10 ^ j % 10 < v / 10 ^ j % 10 := by
  rw [UInt8.lt_iff_toNat_lt, dg_toNat, dg_toNat]; omega

theorem dg_eq (u v j : Nat) : Lib.dg u j = Lib.dg v j ↔ u / 10 ^ j % 10 = v / 10 ^ j % 10 := by
  rw [← UInt8.toNat_inj, dg_toNat, dg_toNat]; omega

theorem dig6_lt {u v : Nat} (hu : u ≤ 999999) (hv : v ≤ 999999) : dig6 u < dig6 v ↔ u < v := by
  unfold dig6
  simp only [List.cons_lt_cons_iff, dg_lt, dg_eq, List.not_lt_nil, and_false, or_false]
  simp only [show (10:Nat) ^ 5 = 100000 from rfl, show (10:Nat) ^ 4 = 10000 from rfl, show (10:Nat) ^ 3 = 1000 from rfl, show (10:Nat) ^ 2 = 100 from rfl, Nat.pow_one, Nat.pow_zero, Nat.div_one]
  obtain ⟨a, ha⟩ : ∃ a, a = u / 10 := ⟨_, rfl⟩
  obtain ⟨b, hb⟩ : ∃ b, b = u / 100 := ⟨_, rfl⟩
  obtain ⟨c, hc⟩ : ∃ c, c = u / 1000 := ⟨_, rfl⟩
  obtain ⟨d, hd⟩ : ∃ d, d = u / 10000 := ⟨_, rfl⟩
  obtain ⟨e, he⟩ : ∃ e, e = u / 100000 := ⟨_, rfl⟩
  obtain ⟨a', ha'⟩ : ∃ a, a = v / 10 := ⟨_, rfl⟩
  obtain ⟨b', hb'⟩ : ∃ b, b = v / 100 := ⟨_, rfl⟩
  obtain ⟨c', hc'⟩ : ∃ c, c = v / 1000 := ⟨_, rfl⟩
  obtain ⟨d', hd'⟩ : ∃ d, d = v / 10000 := ⟨_, rfl⟩
  obtain ⟨e', he'⟩ : ∃ e, e = v / 100000 := ⟨_, rfl⟩
  rw [← ha, ← hb, ← hc, ← hd, ← he, ← ha', ← hb', ← hc', ← hd', ← he']
  have k1 : b = a / 10 := by omega
  have k2 : c = b / 10 := by omega
  have k3 : d = c / 10 := by omega
  have k4 : e = d / 10 := by omega
  have k5 : e < 10 := by omega
  have l1 : b' = a' / 10 := by omega
  have l2 : c' = b' / 10 := by omega
  have l3 : d' = c' / 10 := by omega
  have l4 : e' = d' / 10 := by omega
  have l5 : e' < 10 := by omega
  clear hb hc hd he hb' hc' hd' he' hu hv
  have s5 : e % 10 = e := by omega
  have s6 : e' % 10 = e' := by omega
  rw [s5, s6]
  clear s5 s6 k5 l5
  have t4 : d < d' ↔ e < e' ∨ e = e' ∧ d % 10 < d' % 10 := by omega
  have t4' : d = d' ↔ e = e' ∧ d % 10 = d' % 10 := by omega
  have t3 : c < c' ↔ d < d' ∨ d = d' ∧ c % 10 < c' % 10 := by omega
  have t3' : c = c' ↔ d = d' ∧ c % 10 = c' % 10 := by omega
  have t2 : b < b' ↔ c < c' ∨ c = c' ∧ b % 10 < b' % 10 := by omega
  have t2' : b = b' ↔ c = c' ∧ b % 10 = b' % 10 := by omega
  have t1 : a < a' ↔ b < b' ∨ b = b' ∧ a % 10 < a' % 10 := by omega
  have t1' : a = a' ↔ b = b' ∧ a % 10 = a' % 10 := by omega
  have t0 : u < v ↔ a < a' ∨ a = a' ∧ u % 10 < v % 10 := by omega
  clear k1 k2 k3 k4 l1 l2 l3 l4 ha ha'
  rw [t0, t1, t1', t2, t2', t3, t3', t4, t4']
  constructor
  · rintro (h | ⟨h0, h | ⟨h1, h | ⟨h2, h | ⟨h3, h | ⟨h4, h⟩⟩⟩⟩⟩) <;> simp [*]
  · rintro ((((( h | h) | h) | h) | h) | h) <;> simp_all

theorem dig6_inj {u v : Nat} (hu : u ≤ 999999) (hv : v ≤ 999999) (h : dig6 u = dig6 v) : u = v := by
  rcases Nat.lt_trichotomy u v with h1 | h1 | h1
  · have := (dig6_lt hu hv).2 h1
    rw [h] at this
    exact absurd this (List.lt_irrefl _)
  · exact h1
  · have := (dig6_lt hv hu).2 h1
    rw [h] at this
    exact absurd this (List.lt_irrefl _)

theorem nameL_lt {u v : Nat} (hu : u ≤ 999999) (hv : v ≤ 999999) : nameL u < nameL v ↔ u < v := by
  unfold nameL
  rw [List.cons_lt_cons_iff, dig6_lt hu hv]
  simp

theorem nameS_inj {u v : Nat} (hu : u ≤ 999999) (hv : v ≤ 999999) (h : nameS u = nameS v) : u = v := by
  have h1 : nameL u = nameL v := by
    have := congrArg (fun b : ByteArray => b.data.toList) h
    simpa [nameS] using this
  unfold nameL at h1
  exact dig6_inj hu hv (List.cons.inj h1).2

theorem digitVal_dg (u j : Nat) : Lib.digitVal (Lib.dg u j) = some (u / 10 ^ j % 10) := by
  unfold Lib.digitVal
  rw [dg_toNat]
  have := Nat.mod_lt (u / 10 ^ j) (show 0 < 10 by decide)
  rw [if_pos (by omega)]
  congr 1
  omega

theorem atoi_dig6 {u : Nat} (hu : u ≤ 999999) : Lib.atoi (dig6 u) = some (u : Int) := by
  have e : ∀ r, Lib.atoi (Lib.dg u 5 :: r) = (Lib.decNat (Lib.dg u 5 :: r)).map fun (m : Nat) => (m : Int) := fun r => by
    unfold Lib.atoi
    have h1 := dg_toNat u 5
    have n1 : (Lib.dg u 5 == 45) = false := by
      rw [beq_eq_false_iff_ne]; intro h; rw [h] at h1; simp at h1; omega
    have n2 : (Lib.dg u 5 == 43) = false := by
      rw [beq_eq_false_iff_ne]; intro h; rw [h] at h1; simp at h1; omega
    dsimp only
    rw [n1, n2]; rfl
  unfold dig6
  rw [e]
  unfold Lib.decNat
  simp only [List.isEmpty_cons, Lib.decFrom, digitVal_dg]
  simp only [show (10:Nat) ^ 5 = 100000 from rfl, show (10:Nat) ^ 4 = 10000 from rfl, show (10:Nat) ^ 3 = 1000 from rfl, show (10:Nat) ^ 2 = 100 from rfl, Nat.pow_one, Nat.pow_zero, Nat.div_one]
  simp only [Bool.false_eq_true, if_false, Option.map_some, Option.some.injEq]
  congr 1
  omega

theorem nameL_len (u : Nat) : (nameL u).length = 7 := rfl
theorem nameS_list (u : Nat) : (nameS u).data.toList = nameL u := by simp [nameS]
theorem nameS_size (u : Nat) : (nameS u).size = 7 := rfl
end Go.Proofs.YtlhefifejcoecaaGreatDoor
