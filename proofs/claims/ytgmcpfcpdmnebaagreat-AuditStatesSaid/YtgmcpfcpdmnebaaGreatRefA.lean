/- The references of layers 8 and 14: good pairs; clashes. -/
import Derived.Test.YtgmcpfcpdmnebaaGreatSerial
import Derived.Outline
import Derived.Deep.Light
namespace Go.Proofs.YtgmcpfcpdmnebaaGreat
open Go.RowKit Go.Proofs Go.Shelf

theorem below_drewN {B : Nat} {a w : World} (h : Below B a w) (n : Nat) : Below B a (w.drewN n) := ⟨h.os, h.tape, h.output, h.size, h.block⟩

theorem emp_iff (s : ByteArray) : emp s = false ↔ 1 ≤ (s.size : Int) := by
  have h : s.toList.length = s.size := by rw [ByteArray.toList_eq, Array.length_toList]; rfl
  unfold emp
  rw [List.isEmpty_eq_false_iff, ← List.length_pos_iff, h]; omega

theorem ltB_flip {a b : ByteArray} : ltB a b = true ↔ (Op.bytesLess b.toList a.toList = false ∧ (b.toList == a.toList) = false) := by
  constructor
  · intro h
    refine ⟨?_, ?_⟩
    · have := ltB_asymm h; unfold ltB at this; exact this
    · rw [Bool.eq_false_iff]; intro e
      rw [beq_iff_eq] at e
      unfold ltB at h; rw [e] at h
      have h2 : ltB a a = true := h
      rw [ltB_eq] at h2
      exact absurd (of_decide_eq_true h2) (List.lt_irrefl _)
  · rintro ⟨h1, h2⟩
    cases h : ltB a b with
    | true => rfl
    | false =>
      have h3 := ltB_antisymm (a := b) (b := a) h1 h
      unfold eqB at h3
      rw [beq_iff_eq] at h3
      rw [h3] at h2; simp at h2

/-- What a pair must be, as the walk spells it. -/
def OkP (p : Pair) : Prop := 1 ≤ (p.key.size : Int) ∧ (p.key.size : Int) ≤ 64 ∧ (p.val.size : Int) ≤ 256 ∧ (p.dead = true → p.val.toList = [])

theorem okP_iff (p : Pair) : goodPairS p = true ↔ OkP p := by
  unfold goodPairS OkP
  simp only [Bool.and_eq_true, Bool.not_eq_true', decide_eq_true_eq, emp_iff, Bool.or_eq_true]
  constructor
  · rintro ⟨⟨⟨h1, h2⟩, h3⟩, h4⟩
    refine ⟨h1, by omega, by omega, fun h => ?_⟩
    rcases h4 with h4 | h4
    · rw [h] at h4; cases h4
    · unfold emp at h4; simpa using h4
  · rintro ⟨h1, h2, h3, h4⟩
    refine ⟨⟨⟨h1, by omega⟩, by omega⟩, ?_⟩
    cases hd : p.dead with
    | false => exact .inl rfl
    | true => right; unfold emp; rw [h4 hd]; rfl

set_option maxRecDepth 100000 in
set_option maxHeartbeats 4000000 in
theorem rgood_any (l : List Pair) (v : Value) (w : World) (hv : SlP 3 PairE w v l) : Calls Tryz.prog 36 #[v] w (Gives w (.bool (goodS l))) := by
  obtain ⟨q, cap, rfl, hlc, hcap, hcells⟩ := hv.pairs
  go_enter Tryz.func36, Tryz.ntmps36
  go_wp2
  go_loopw [7, 3, 4] (fun i _ _ wr => ∃ k : Nat, k ≤ l.length ∧ i = .int .i64 k ∧ Below w.heap.size w wr ∧ Hid (goodUpTo l k)) (fun i _ _ _ => l.length - (intOf i).toNat)
  case atStart => exact ⟨0, Nat.zero_le _, rfl, Below.refl _ _, Lib.hid (fun i h => by omega)⟩
  case round =>
    obtain ⟨k, hk, rfl, hb, hg⟩ := hrel
    by_cases hlt : k < l.length
    · obtain ⟨b, off, rfl, ⟨z1, z2⟩, c0, c1, c2⟩ := hcells k hlt
      replace c0 := bcell hb c0
      replace c1 := bcell hb c1
      replace c2 := bcell hb c2
      have hcp : 0 < k → ∃ s, wr.cell? ⟨b, off + (k - 1) * 3, none⟩ = some (.string s) ∧ (goodS l = true → ltB s l[k].key = true) ∧ (ltB s l[k].key = true → goodPairS l[k] = true → goodUpTo l (k + 1)) := fun h => by
        obtain ⟨b', off', hp, -, d0, -, -⟩ := hcells (k - 1) (by omega)
        cases hp
        refine ⟨_, bcell hb d0, fun hq => ((goodS_iff l).1 hq k hlt hlt).2 (k - 1) (by omega) (by omega), fun h1 h2 i hi hil => ?_⟩
        by_cases e : i = k
        · subst e; exact ⟨h2, fun j hj hjl => by
            have e : j = i - 1 := by omega
            subst e; exact h1⟩
        · exact hg.out i (by omega) hil
      have hfirst : k = 0 → goodPairS l[k] = true → goodUpTo l (k + 1) := fun h0 h1 i hi hil => by
        have e : i = k := by omega
        subst e
        exact ⟨h1, fun j hj _ => by omega⟩
      have Hyes := Lib.hid (fun hq : goodS l = true => (okP_iff _).1 ((goodS_iff l).1 hq k hlt hlt).1)
      have Hf := Lib.hid hfirst
      have Ho := Lib.hid (okP_iff l[k]).2
      clear hcells hfirst hg
      generalize l[k] = p at *
      have n0 : (0 : Int) ≤ (k : Int) := by omega
      have n1 : (k : Int) < (l.length : Int) := by omega
      go_upto_region 4 with fail
      by_cases hk0 : 0 < k
      · obtain ⟨s, d0, hs1, hs2⟩ := hcp hk0
        rw [ltB_flip] at hs1 hs2
        have Hs1 := Lib.hid hs1
        have Hs2 := Lib.hid hs2
        have hbl := World.block_lt_of_cell? wr _ d0
        clear hcp hs1 hs2
        have n2 : IntKind.i64.wrap ((k : Int) - 1) = ((k - 1 : Nat) : Int) := by rw [IntWalk.i64_in _ (by omega)]; omega
        have n3 : (0 : Int) ≤ ((k - 1 : Nat) : Int) := by omega
        have n4 : ((k - 1 : Nat) : Int) < (l.length : Int) := by omega
        have n5 : ((k - 1 : Nat) : Int).toNat = k - 1 := by omega
        have n6 : (0 : Int) < (k : Int) := by omega
        refine wp_region_quiet_lit (by kernel_rfl) (by kernel_rfl) ?_
        repeat (any_goals (first | go_big_quiet_step (fail) | quiet_step (fail) | (refine wpQuiet_step (fun K hK => ?_); go_simp; split <;> (refine hK _ ?_; clear hK K))))
        all_goals (refine wpQuiet_nil ?_; intro _ hw'; obtain ⟨nq, hw''⟩ := hw'; subst hw'')
        all_goals clear n2 n5
        all_goals go_wp2
        all_goals first
          | (go_ret
             go_light
             refine ⟨?_, (below_alloc hb _).trans (below_drewN (Below.refl _ _) _)⟩
             have e : goodS l = false := by
               rw [Bool.eq_false_iff]
               intro hq
               have h1 := Hyes.out hq
               have h2 := Hs1.out hq
               unfold OkP at h1
               first | omega | (simp_all; done) | (simp_all; omega) | (trace_state; fail)
             rw [e]; rfl)
          | (go_roundw
             case rel =>
               go_light
               refine ⟨k + 1, hlt, by go_num, (below_alloc hb _).trans (below_drewN (Below.refl _ _) _), Lib.hid (Hs2.out ?_ (Ho.out ?_))⟩
               · first | (constructor <;> simp_all) | simp_all
               · unfold OkP; first | (refine ⟨by omega, by omega, by omega, ?_⟩; simp_all) | simp_all
             case measure => go_light; simp [intOf]; omega)
      · have hk00 : k = 0 := by omega
        have Hf' := Lib.hid (Hf.out hk00)
        clear hcp
        have n6 : decide ((0 : Int) < (k : Int)) = false := by simp; omega
        refine wp_region_quiet_lit (by kernel_rfl) (by kernel_rfl) ?_
        repeat (any_goals (first | go_big_quiet_step (fail) | quiet_step (fail) | (refine wpQuiet_step (fun K hK => ?_); go_simp; split <;> (refine hK _ ?_; clear hK K))))
        all_goals (refine wpQuiet_nil ?_; intro _ hw'; obtain ⟨nq, hw''⟩ := hw'; subst hw'')
        all_goals go_wp2
        all_goals first
          | (go_ret
             go_light
             refine ⟨?_, (below_alloc hb _).trans (below_drewN (Below.refl _ _) _)⟩
             have e : goodS l = false := by
               rw [Bool.eq_false_iff]
               intro hq
               have h1 := Hyes.out hq
               unfold OkP at h1
               first | omega | (simp_all; done) | (simp_all; omega) | (trace_state; fail)
             rw [e]; rfl)
          | (go_roundw
             case rel =>
               go_light
               refine ⟨k + 1, hlt, by go_num, (below_alloc hb _).trans (below_drewN (Below.refl _ _) _), Lib.hid (Hf'.out (Ho.out ?_))⟩
               unfold OkP; first | (refine ⟨by omega, by omega, by omega, ?_⟩; simp_all) | simp_all
             case measure => go_light; simp [intOf]; omega)
    · have : k = l.length := by omega
      subst this
      clear hcells
      go_wp2
      go_ret
      exact ⟨by rw [(goodS_iff l).2 hg.out]; rfl, hb⟩

end Go.Proofs.YtgmcpfcpdmnebaaGreat
