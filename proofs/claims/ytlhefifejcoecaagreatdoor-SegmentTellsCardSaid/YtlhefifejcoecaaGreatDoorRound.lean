/- Plain laws: what was packed is read again. -/
import Derived.Test.YtlhefifejcoecaaGreatDoorOpenF
namespace Go.Proofs.YtlhefifejcoecaaGreatDoor
open Go.RowKit Go.Proofs Go.Shelf

theorem fold_valB : ∀ (l : List UInt8) (s : Nat), l.foldl (fun n x => n * 256 + x.toNat) s = s * 256 ^ l.length + valB l
  | [], s => by simp [valB]
  | x :: l, s => by
    have h1 := fold_valB l (s * 256 + x.toNat)
    have h2 : valB (x :: l) = x.toNat * 256 ^ l.length + valB l := by
      have := fold_valB l (0 * 256 + x.toNat)
      unfold valB at this ⊢
      rw [List.foldl_cons, this]; simp
    rw [List.foldl_cons, h1, h2, List.length_cons, Nat.pow_succ, Nat.add_mul, ← Nat.add_assoc, Nat.mul_comm (256 ^ l.length) 256, ← Nat.mul_assoc]

theorem valB_cons (x : UInt8) (l : List UInt8) : valB (x :: l) = x.toNat * 256 ^ l.length + valB l := by
  have := fold_valB l (0 * 256 + x.toNat)
  unfold valB at this ⊢
  rw [List.foldl_cons, this]; simp

def digs (n k : Nat) : List UInt8 := (List.range k).reverse.map fun t => UInt8.ofNat (digit n t)
theorem digs_succ (n k : Nat) : digs n (k + 1) = UInt8.ofNat (digit n k) :: digs n k := by
  unfold digs; rw [List.range_succ, List.reverse_append]; rfl
theorem digs_len (n k : Nat) : (digs n k).length = k := by simp [digs]

theorem ofNat_toNat {d : Nat} (h : d < 256) : (UInt8.ofNat d).toNat = d := by simp [UInt8.toNat_ofNat]; omega

theorem valB_digs (n : Nat) : ∀ k, valB (digs n k) = n % 256 ^ k
  | 0 => by simp [digs, valB, Nat.mod_one]
  | k + 1 => by
    rw [digs_succ, valB_cons, valB_digs n k, digs_len, ofNat_toNat (digit_lt n k)]
    unfold digit
    rw [Nat.pow_succ, Nat.mod_mul, Nat.mul_comm (n / 256 ^ k % 256), Nat.add_comm]

/-- A number is read again. -/
theorem getNumS_num (n : Nat) (r : List UInt8) (hn : n < 18446744073709551616) : getNumS (numS n ++ r) = (n, (numS n).length, true) := by
  by_cases h : n < 248
  · have e : numS n = [UInt8.ofNat n] := by unfold numS; rw [if_pos h]
    rw [e]
    show getNumS (UInt8.ofNat n :: r) = _
    rw [getNumS_cons, ofNat_toNat (by omega), if_pos h]; rfl
  · obtain ⟨k, hk8, hk0, hk1⟩ := be_fits hn
    have hbe : be 8 n = digs n k := be_len 8 n k hk8 hk0 hk1
    have hkpos : k ≠ 0 := by
      rintro rfl
      simp at hk0; omega
    obtain ⟨j, rfl⟩ : ∃ j, k = j + 1 := ⟨k - 1, by omega⟩
    have hlen : (be 8 n).length = j + 1 := by rw [hbe, digs_len]
    have e : numS n = UInt8.ofNat (247 + (j + 1)) :: digs n (j + 1) := by unfold numS; rw [if_neg h, hlen, hbe]
    have hx : (UInt8.ofNat (247 + (j + 1))).toNat = 247 + (j + 1) := ofNat_toNat (by omega)
    rw [e]
    show getNumS (UInt8.ofNat (247 + (j + 1)) :: (digs n (j + 1) ++ r)) = _
    have hval : valB ((digs n (j + 1) ++ r).take (j + 1)) = n := by
      rw [List.take_left' (digs_len n (j + 1)), valB_digs, Nat.mod_eq_of_lt]
      rcases Nat.lt_or_ge n (256 ^ (j + 1)) with h1 | h1
      · exact h1
      · exact absurd hk0 (Nat.ne_of_gt (Nat.div_pos h1 (Nat.pow_pos (by decide))))
    have hhead : (digs n (j + 1) ++ r).head? ≠ some 0 := by
      rw [digs_succ, List.cons_append, List.head?_cons]
      intro h1
      simp only [Option.some.injEq] at h1
      have h2 : digit n j = 0 := by
        have := congrArg UInt8.toNat h1
        rw [ofNat_toNat (digit_lt n j)] at this
        simpa using this
      have h3 : n / 256 ^ j ≠ 0 := by
        rcases hk1 with h4 | h4
        · omega
        · simpa using h4
      have h5 : n / 256 ^ j < 256 := by
        rw [Nat.div_lt_iff_lt_mul (Nat.pow_pos (by decide))]
        rcases Nat.lt_or_ge n (256 ^ (j + 1)) with h1 | h1
        · rw [Nat.pow_succ, Nat.mul_comm] at h1; exact h1
        · exact absurd hk0 (Nat.ne_of_gt (Nat.div_pos h1 (Nat.pow_pos (by decide))))
      unfold digit at h2
      rw [Nat.mod_eq_of_lt h5] at h2
      exact h3 h2
    rw [getNumS_cons, hx, if_neg (by omega), show 247 + (j + 1) - 247 = j + 1 by omega, if_neg (by
      rintro (h1 | h1)
      · rw [List.length_append, digs_len] at h1; omega
      · exact hhead h1), hval, if_neg h]
    simp [digs_len]
    omega

/-- A text is read again. -/
theorem getStrS_str (s : List UInt8) (r : List UInt8) (mo : Nat) (hs : s.length ≤ mo) (hmo : mo < 18446744073709551616) : getStrS (numS s.length ++ s ++ r) mo = (⟨s.toArray⟩, (numS s.length).length + s.length, true) := by
  have h := getNumS_num s.length (s ++ r) (by omega)
  rw [← List.append_assoc] at h
  unfold getStrS
  rw [h]
  dsimp only
  rw [if_neg (by
    rintro (h1 | h1 | h1)
    · cases h1
    · omega
    · simp only [List.length_append] at h1; omega)]
  rw [List.append_assoc, List.drop_left, List.take_left]

/-- A frame is read again. -/
theorem openS_frame (b : List UInt8) (r : List UInt8) (hb : b.length ≤ 8192) : openS (frameS b ++ r) = (b, (frameS b).length, true) := by
  have hn := getNumS_num b.length (b ++ sumB (crcS 0 (numS b.length ++ b)) ++ r) (by omega)
  have e : frameS b ++ r = numS b.length ++ (b ++ sumB (crcS 0 (numS b.length ++ b)) ++ r) := by unfold frameS; simp
  have hc := crcS_lt 0 (numS b.length ++ b)
  have hv : valB (sumB (crcS 0 (numS b.length ++ b))) = crcS 0 (numS b.length ++ b) := by
    generalize crcS 0 (numS b.length ++ b) = c at *
    unfold sumB
    rw [valB_cons, valB_cons, valB_cons, valB_cons, ofNat_toNat (Nat.mod_lt _ (by decide)), ofNat_toNat (Nat.mod_lt _ (by decide)), ofNat_toNat (Nat.mod_lt _ (by decide)), ofNat_toNat (Nat.mod_lt _ (by decide))]
    simp [valB]
    omega
  unfold openS
  rw [e, hn]
  dsimp only
  have hd : (numS b.length ++ (b ++ sumB (crcS 0 (numS b.length ++ b)) ++ r)).drop ((numS b.length).length + b.length) = sumB (crcS 0 (numS b.length ++ b)) ++ r := by
    rw [List.append_assoc, ← List.append_assoc (numS b.length), ← List.length_append, List.drop_left]
  have ht : (numS b.length ++ (b ++ sumB (crcS 0 (numS b.length ++ b)) ++ r)).take ((numS b.length).length + b.length) = numS b.length ++ b := by
    rw [List.append_assoc, ← List.append_assoc (numS b.length), ← List.length_append, List.take_left]
  have h4 : (sumB (crcS 0 (numS b.length ++ b)) ++ r).take 4 = sumB (crcS 0 (numS b.length ++ b)) := List.take_left' rfl
  rw [hd, ht, h4, hv]
  rw [if_neg (by
    rintro (h1 | h1 | h1)
    · cases h1
    · omega
    · simp only [List.length_append, sumB, List.length_cons, List.length_nil] at h1; omega), if_pos rfl]
  rw [List.drop_left, List.append_assoc, List.take_left]
  unfold frameS
  simp only [List.length_append, sumB, List.length_cons, List.length_nil]

end Go.Proofs.YtlhefifejcoecaaGreatDoor
