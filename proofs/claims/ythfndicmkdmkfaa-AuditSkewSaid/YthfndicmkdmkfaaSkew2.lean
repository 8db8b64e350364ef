/- The law AuditSkew: the walk. -/
import Derived.Test.YthfndicmkdmkfaaSkew
namespace Go.Proofs.Ythfndicmkdmkfaa
open Go.RowKit Go.Proofs Go.Shelf

set_option maxRecDepth 100000 in
set_option maxHeartbeats 4000000 in
theorem skew_bad (a b : ByteArray) (st : Bool) (w : World) (h3 : a.size ≤ 9223372036854775807) (h4 : b.size ≤ 9223372036854775807) (h : a.size < 1 ∨ 64 < a.size ∨ b.size < 1 ∨ 64 < b.size ∨ a = b) :
    Calls Try.prog 3 #[.string a, .string b, .bool st] w (Gives w (.bool true)) := by
  have hl := lives_any w
  by_cases c1 : (a.size : Int) < 1
  · clear h
    go_enter Try.func3, Try.ntmps3
    go_wp2_with (first
      | (go_at_call 5; refine hl.mono ?_; rintro e w1 ⟨rfl, hb1⟩)
      | fail)
    go_ret
    exact ⟨rfl, hb1⟩
  · by_cases c2 : (64 : Int) < (a.size : Int)
    · clear h
      go_enter Try.func3, Try.ntmps3
      go_wp2_with (first
        | (go_at_call 5; refine hl.mono ?_; rintro e w1 ⟨rfl, hb1⟩)
        | fail)
      go_ret
      exact ⟨rfl, hb1⟩
    · by_cases c3 : (b.size : Int) < 1
      · clear h
        go_enter Try.func3, Try.ntmps3
        go_wp2_with (first
          | (go_at_call 5; refine hl.mono ?_; rintro e w1 ⟨rfl, hb1⟩)
          | fail)
        go_ret
        exact ⟨rfl, hb1⟩
      · by_cases c4 : (64 : Int) < (b.size : Int)
        · clear h
          go_enter Try.func3, Try.ntmps3
          go_wp2_with (first
            | (go_at_call 5; refine hl.mono ?_; rintro e w1 ⟨rfl, hb1⟩)
            | fail)
          go_ret
          exact ⟨rfl, hb1⟩
        · have e : a = b := by
            rcases h with h | h | h | h | h
            · omega
            · omega
            · omega
            · omega
            · exact h
          subst e
          clear h c3 c4
          go_enter Try.func3, Try.ntmps3
          go_wp2_with (first
            | (go_at_call 5; refine hl.mono ?_; rintro e w1 ⟨rfl, hb1⟩)
            | fail)
          go_ret
          exact ⟨rfl, hb1⟩

set_option maxRecDepth 100000 in
set_option maxHeartbeats 4000000 in
theorem skew_good (a b : ByteArray) (st : Bool) (w : World) (ha : 1 ≤ a.size ∧ a.size ≤ 64) (hb : 1 ≤ b.size ∧ b.size ≤ 64) (hne : a ≠ b) :
    Calls Try.prog 3 #[.string a, .string b, .bool st] w (Gives w (.bool true)) := by
  have hN : writesN (skewL a b st) ≤ 1000000 := by simp [writesN, skewL, skew0, skew1]
  have s1 : smallB a := by unfold smallB; omega
  have s2 : smallB b := by unfold smallB; omega
  have s3 : smallB v1 := by unfold smallB v1; decide
  have s4 : smallB e0 := by unfold smallB e0; decide
  have p1 := one_read w false a e0 _ _ 25 s1 s4 (none_slp w)
  obtain ⟨w1, hw1⟩ : ∃ w1, w1 = w.alloc (.cells #[.bool false, .string a, .string e0, .slice none 0 0] 25) := ⟨_, rfl⟩
  rw [← hw1] at p1
  have p2 := one_pair w1 b v1 false 28 s2 s3
  obtain ⟨w2, hw2⟩ : ∃ w2, w2 = w1.alloc (.cells #[.string b, .string v1, .bool false] 28) := ⟨_, rfl⟩
  rw [← hw2] at p2
  have b2 : Below w1.heap.size w1 w2 := hw2 ▸ below_new _ _
  have p3 := one_read w2 false b e0 _ _ 25 s2 s4 (none_slp w2)
  obtain ⟨w3, hw3⟩ : ∃ w3, w3 = w2.alloc (.cells #[.bool false, .string b, .string e0, .slice none 0 0] 25) := ⟨_, rfl⟩
  rw [← hw3] at p3
  have b3 : Below w2.heap.size w2 w3 := hw3 ▸ below_new _ _
  have p4 := one_pair w3 a v1 false 28 s1 s3
  obtain ⟨w4, hw4⟩ : ∃ w4, w4 = w3.alloc (.cells #[.string a, .string v1, .bool false] 28) := ⟨_, rfl⟩
  rw [← hw4] at p4
  have b4 : Below w3.heap.size w3 w4 := hw4 ▸ below_new _ _
  have p5 := two_recs w4 (skew0 a b) (skew1 a b st) _ _ _ _ 30 (i64_small 1 (by omega) (by omega)) (i64_small 0 (by omega) (by omega)) (i64_small 2 (by omega) (by omega)) (i64_small 0 (by omega) (by omega))
    (p1.mono RdE.mono (below_trans (below_trans b2 b3) b4)) (p2.mono PairE.mono (below_trans b3 b4)) (p3.mono RdE.mono b4) p4
  change SlP 5 RecE _ _ (skewL a b st) at p5
  have hl0 := fun W hb => legal_any (skewL a b st) _ 0 W (p5.mono RecE.mono (w' := W) hb) hN
  have hl1 := fun W hb => legal_any (skewL a b st) _ 1 W (p5.mono RecE.mono (w' := W) hb) hN
  have hs0 := fun W hb => serial_any (skewL a b st) _ 0 W (p5.mono RecE.mono (w' := W) hb) hN
  have hs1 := fun W hb => serial_any (skewL a b st) _ 1 W (p5.mono RecE.mono (w' := W) hb) hN
  rw [skew_legal0 ha hb] at hl0
  rw [skew_legal1 ha hb hne] at hl1
  rw [skew_serial0] at hs0
  rw [skew_serial1] at hs1
  have bw : Below w.heap.size w w4 := below_trans (below_trans (below_trans (hw1 ▸ below_new _ _) b2) b3) b4
  have bw' := below_alloc bw (.cells #[.int .i64 (skew0 a b).session, .int .i64 (skew0 a b).snap, .bool (skew0 a b).strict, .slice (some ⟨w.heap.size, 0, none⟩) 1 1, .slice (some ⟨w1.heap.size, 0, none⟩) 1 1, .int .i64 (skew1 a b st).session, .int .i64 (skew1 a b st).snap, .bool (skew1 a b st).strict, .slice (some ⟨w2.heap.size, 0, none⟩) 1 1, .slice (some ⟨w3.heap.size, 0, none⟩) 1 1] 30)
  clear p1 p2 p3 p4 p5 b2 b3 b4 bw
  subst hw4 hw3 hw2 hw1
  simp only [World.size_alloc, skew0, skew1, v1, e0, List.length_cons, List.length_nil, Nat.zero_add] at hl0 hl1 hs0 hs1 bw'
  obtain ⟨a1, a2⟩ := ha
  obtain ⟨b1, b2⟩ := hb
  clear hN s1 s2 s3 s4
  have c1 : ¬ ((a.size : Int) < 1) := by omega
  have c2 : ¬ ((64 : Int) < (a.size : Int)) := by omega
  have c3 : ¬ ((b.size : Int) < 1) := by omega
  have c4 : ¬ ((64 : Int) < (b.size : Int)) := by omega
  have c5 : (a.toList == b.toList) = false := eqB_false hne
  have hlv := lives_any
  go_enter Try.func3, Try.ntmps3
  go_wp2_with (first
    | (go_at_call 6; refine (hl0 _ (Below.refl _ _)).mono ?_; clear hl0; rintro e w5 ⟨rfl, hb5⟩; have hb5' := hb5; rw [World.size_alloc, World.size_alloc, World.size_alloc, World.size_alloc, World.size_alloc] at hb5')
    | (go_at_call 6; refine (hl1 _ hb5').mono ?_; clear hl1; rintro e w6 ⟨rfl, hb6⟩; have hc6 := below_trans hb5 hb6; have hb6' := hc6; rw [World.size_alloc, World.size_alloc, World.size_alloc, World.size_alloc, World.size_alloc] at hb6')
    | (go_at_call 7; refine (hs0 _ hb6').mono ?_; clear hs0; rintro e w7 ⟨rfl, hb7⟩; have hc7 := below_trans hc6 hb7; have hb7' := hc7; rw [World.size_alloc, World.size_alloc, World.size_alloc, World.size_alloc, World.size_alloc] at hb7')
    | (go_at_call 7; refine (hs1 _ hb7').mono ?_; clear hs1; rintro e w8 ⟨rfl, hb8⟩)
    | (go_at_call 5; refine (hlv _).mono ?_; clear hlv; rintro e w9 ⟨rfl, hb9⟩)
    | fail)
  all_goals go_ret
  all_goals exact ⟨rfl, below_trans bw' (below_trans (below_trans hc7 hb8) hb9)⟩

end Go.Proofs.Ythfndicmkdmkfaa
