/- SegmentNames, walked. -/
import Derived.Test.YtlhefifejcoecaaGreatDoorSegJ
import Derived.Sort.Walk0
namespace Go.Proofs.YtlhefifejcoecaaGreatDoor
open Go.RowKit Go.Proofs Go.Shelf
attribute [local go_sem ↓] Go.wp_at_zero Go.wp_at_succ

theorem nameS_toList (u : Nat) : (nameS u).toList = nameL u := by rw [ByteArray.toList_eq]; exact nameS_list u

theorem name_at (n : Int) (W : World) (hE : Env W) : ∃ s : ByteArray, Calls Tryz.prog 8 #[.int .i64 n] W (Gives W (.string s)) ∧ ((0 ≤ n ∧ n ≤ 999999 ∧ s = nameS n.toNat) ∨ ((n < 0 ∨ 999999 < n) ∧ s = ⟨#[]⟩)) := by
  by_cases h : 0 ≤ n ∧ n ≤ 999999
  · obtain ⟨u, rfl⟩ : ∃ u : Nat, n = (u : Int) := ⟨n.toNat, by omega⟩
    exact ⟨nameS u, name_ok u (by omega) W hE, .inl ⟨h.1, h.2, rfl⟩⟩
  · exact ⟨⟨#[]⟩, name_bad n (by omega) W, .inr ⟨by omega, rfl⟩⟩

set_option maxRecDepth 100000 in
set_option maxHeartbeats 1000000 in
theorem segmentNames_any (n m : Int) (hn : I64 n) (hm : I64 m) (w : World) (hE : Env w) : Calls Tryz.prog 3 #[.int .i64 n, .int .i64 m] w (Gives w (.bool true)) := by
  have hliv := fun W (hb : Below w.heap.size w W) => lives25_any W (hE.below hb)
  by_cases h1 : 0 ≤ n ∧ n ≤ 999999
  · obtain ⟨u, rfl⟩ : ∃ u : Nat, n = (u : Int) := ⟨n.toNat, by omega⟩
    have hu : u ≤ 999999 := by omega
    have hA := name_ok u hu w hE
    have hR := fun W => rname_ok u hu W
    have k0 : (0 : Int) ≤ (u : Int) := h1.1
    have k1 : (u : Int) ≤ 999999 := h1.2
    by_cases h2 : 0 ≤ m ∧ m ≤ 999999
    · obtain ⟨v, rfl⟩ : ∃ v : Nat, m = (v : Int) := ⟨m.toNat, by omega⟩
      have hv : v ≤ 999999 := by omega
      have hB := fun W (hb : Below w.heap.size w W) => name_ok v hv W (hE.below hb)
      have hlt := nameL_lt hu hv
      rw [← nameS_toList u, ← nameS_toList v] at hlt
      have e1 : (nameS u).toList ≠ [] := by rw [nameS_toList]; simp [nameL]
      have e2 : (nameS v).toList ≠ [] := by rw [nameS_toList]; simp [nameL]
      generalize nameS u = s at *
      generalize nameS v = t at *
      have e3 : ((s.toList == [])) = false := by simpa using e1
      have e4 : ((t.toList == [])) = false := by simpa using e2
      have e5 : s.toList.isEmpty = false := by simpa using e1
      have e6 : t.toList.isEmpty = false := by simpa using e2
      by_cases h3 : u < v
      · have e7 : Op.bytesLess s.toList t.toList = true := by rw [bytesLess_eq]; exact decide_eq_true (hlt.2 h3)
        have k2 : (u : Int) < (v : Int) := by omega
        clear hlt h1 h2
        have Hliv := Lib.hid hliv
        have HB := Lib.hid hB
        have HR := Lib.hid hR
        clear hliv hE hB hR
        go_enter Tryz.func3, Tryz.ntmps3
        go_wp2_with (first
          | (go_at_call 8; refine hA.mono ?_; clear hA; rintro e w1 ⟨rfl, hb1⟩; have hb2c := HB.out w1 hb1)
          | (go_at_call 8; refine hb2c.mono ?_; rintro e w2 ⟨rfl, hb2⟩; have hb02 := below_trans hb1 hb2; have hr3 := HR.out w2)
          | (go_at_call 9; refine hr3.mono ?_; rintro e w3 ⟨rfl, hb3⟩; have hb03 := below_trans hb02 hb3; have hl3 := Hliv.out w3 hb03)
          | (go_at_call 10; refine hl3.mono ?_; rintro e w4 ⟨rfl, hb4⟩)
          | fail)
        go_ret
        refine ⟨(by simp [Array.getD, k0, k1]; try omega), below_trans hb03 hb4⟩
      · have e7 : Op.bytesLess s.toList t.toList = false := by rw [bytesLess_eq]; exact decide_eq_false fun h => h3 (hlt.1 h)
        have k2 : ¬ (u : Int) < (v : Int) := by omega
        clear hlt h1 h2
        have Hliv := Lib.hid hliv
        have HB := Lib.hid hB
        have HR := Lib.hid hR
        clear hliv hE hB hR
        go_enter Tryz.func3, Tryz.ntmps3
        go_wp2_with (first
          | (go_at_call 8; refine hA.mono ?_; clear hA; rintro e w1 ⟨rfl, hb1⟩; have hb2c := HB.out w1 hb1)
          | (go_at_call 8; refine hb2c.mono ?_; rintro e w2 ⟨rfl, hb2⟩; have hb02 := below_trans hb1 hb2; have hr3 := HR.out w2)
          | (go_at_call 9; refine hr3.mono ?_; rintro e w3 ⟨rfl, hb3⟩; have hb03 := below_trans hb02 hb3; have hl3 := Hliv.out w3 hb03)
          | (go_at_call 10; refine hl3.mono ?_; rintro e w4 ⟨rfl, hb4⟩)
          | fail)
        go_ret
        refine ⟨(by simp [Array.getD, k0, k1]; try omega), below_trans hb03 hb4⟩
    · have hB := fun W (_ : Below w.heap.size w W) => name_bad m (by omega) W
      have e1 : (nameS u).toList ≠ [] := by rw [nameS_toList]; simp [nameL]
      generalize nameS u = s at *
      have e3 : ((s.toList == [])) = false := by simpa using e1
      have e5 : s.toList.isEmpty = false := by simpa using e1
      clear h1 h2
      have Hliv := Lib.hid hliv
      have HB := Lib.hid hB
      have HR := Lib.hid hR
      clear hliv hE hB hR
      go_enter Tryz.func3, Tryz.ntmps3
      go_wp2_with (first
        | (go_at_call 8; refine hA.mono ?_; clear hA; rintro e w1 ⟨rfl, hb1⟩; have hb2c := HB.out w1 hb1)
        | (go_at_call 8; refine hb2c.mono ?_; rintro e w2 ⟨rfl, hb2⟩; have hb02 := below_trans hb1 hb2; have hr3 := HR.out w2)
        | (go_at_call 9; refine hr3.mono ?_; rintro e w3 ⟨rfl, hb3⟩; have hb03 := below_trans hb02 hb3; have hl3 := Hliv.out w3 hb03)
        | (go_at_call 10; refine hl3.mono ?_; rintro e w4 ⟨rfl, hb4⟩)
        | fail)
      go_ret
      refine ⟨(by simp [Array.getD, k0, k1]; try omega), below_trans hb03 hb4⟩
  · have hA := name_bad n (by omega) w
    have hR := fun W => rname_bad n (by omega) W
    obtain ⟨t, hB0⟩ : ∃ t : ByteArray, ∀ W, Below w.heap.size w W → Calls Tryz.prog 8 #[.int .i64 m] W (Gives W (.string t)) := by
      by_cases h2 : 0 ≤ m ∧ m ≤ 999999
      · obtain ⟨v, rfl⟩ : ∃ v : Nat, m = (v : Int) := ⟨m.toNat, by omega⟩
        exact ⟨nameS v, fun W hb => name_ok v (by omega) W (hE.below hb)⟩
      · exact ⟨⟨#[]⟩, fun W _ => name_bad m (by omega) W⟩
    have hB := hB0
    clear hB0
    by_cases hn0 : n < 0
    · clear h1
      have Hliv := Lib.hid hliv
      have HB := Lib.hid hB
      have HR := Lib.hid hR
      clear hliv hE hB hR
      go_enter Tryz.func3, Tryz.ntmps3
      go_wp2_with (first
        | (go_at_call 8; refine hA.mono ?_; clear hA; rintro e w1 ⟨rfl, hb1⟩; have hb2c := HB.out w1 hb1)
        | (go_at_call 8; refine hb2c.mono ?_; rintro e w2 ⟨rfl, hb2⟩; have hb02 := below_trans hb1 hb2; have hr3 := HR.out w2)
        | (go_at_call 9; refine hr3.mono ?_; rintro e w3 ⟨rfl, hb3⟩; have hb03 := below_trans hb02 hb3; have hl3 := Hliv.out w3 hb03)
        | (go_at_call 10; refine hl3.mono ?_; rintro e w4 ⟨rfl, hb4⟩)
        | fail)
      go_ret
      refine ⟨(by simp [Array.getD, hn0]; try omega), below_trans hb03 hb4⟩
    · have hn1 : 999999 < n := by omega
      clear h1
      have Hliv := Lib.hid hliv
      have HB := Lib.hid hB
      have HR := Lib.hid hR
      clear hliv hE hB hR
      go_enter Tryz.func3, Tryz.ntmps3
      go_wp2_with (first
        | (go_at_call 8; refine hA.mono ?_; clear hA; rintro e w1 ⟨rfl, hb1⟩; have hb2c := HB.out w1 hb1)
        | (go_at_call 8; refine hb2c.mono ?_; rintro e w2 ⟨rfl, hb2⟩; have hb02 := below_trans hb1 hb2; have hr3 := HR.out w2)
        | (go_at_call 9; refine hr3.mono ?_; rintro e w3 ⟨rfl, hb3⟩; have hb03 := below_trans hb02 hb3; have hl3 := Hliv.out w3 hb03)
        | (go_at_call 10; refine hl3.mono ?_; rintro e w4 ⟨rfl, hb4⟩)
        | fail)
      go_ret
      refine ⟨(by simp [Array.getD, hn1]; try omega), below_trans hb03 hb4⟩
end Go.Proofs.YtlhefifejcoecaaGreatDoor
