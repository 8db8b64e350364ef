/- The reference of layer 19: State, Legal, First of any records. -/
import Derived.Test.YtgmcpfcpdmnebaaGreatLegB
import Derived.Test.YtgmcpfcpdmnebaaGreatStoE
import Derived.Test.YtgmcpfcpdmnebaaGreatSta
import Derived.Test.YtgmcpfcpdmnebaaGreatLives
namespace Go.Proofs.YtgmcpfcpdmnebaaGreat
open Go.RowKit Go.Proofs Go.Shelf
attribute [local go_sem ↓] Go.wp_at_zero Go.wp_at_succ

set_option maxRecDepth 100000 in
/-- Legal -/
theorem rlegal_any (l : List Rec) (v : Value) (i : Int) (w : World) (hv : SlP 5 RecE w v l) (hF : Few l) : Calls Tryz.prog 10 #[v, .int .i64 i] w (Gives w (.bool (legalS l i))) := by
  by_cases h : 0 ≤ i ∧ i.toNat < l.length
  · obtain ⟨k, rfl⟩ : ∃ k : Nat, i = (k : Int) := ⟨i.toNat, by omega⟩
    have h1 := h.2
    rw [Int.toNat_natCast] at h1
    have := rlegal_in stateLaid l v k h1 w hv hF
    have e : legalS l (k : Int) = legalAt l k l[k] := by unfold legalS; rw [dif_pos h]; simp
    rw [e]; exact this
  · have e : legalS l i = false := by unfold legalS; rw [dif_neg h]
    rw [e]
    obtain ⟨q, cap, rfl, -, -, -, -⟩ := hv
    clear e hF
    by_cases h0 : i < 0
    · clear h
      go_enter Tryz.func10, Tryz.ntmps10
      go_wp2_with fail
      go_ret
      exact ⟨rfl, Below.refl _ _⟩
    · have h1 : (l.length : Int) ≤ i := by omega
      clear h
      go_enter Tryz.func10, Tryz.ntmps10
      go_wp2_with fail
      go_ret
      exact ⟨rfl, Below.refl _ _⟩

set_option maxRecDepth 100000 in
set_option maxHeartbeats 1000000 in
/-- State -/
theorem rstate_any (l : List Rec) (v : Value) (n : Int) (w : World) (hv : SlP 5 RecE w v l) (hn : I64 n) (hF : Few l) : Calls Tryz.prog 8 #[v, .int .i64 n] w (StaOut (l.take (cutN l n)) w) := by
  have hfirst := rfirst_any l v n w hv hn
  have hF' := hF.take (cutN l n)
  have hwh := fun v' W (h : SlP 5 RecE W v' (l.take (cutN l n))) => rwhole_any (l.take (cutN l n)) v' W h
  have hst := fun v' W (h : SlP 5 RecE W v' (l.take (cutN l n))) hok => stateLaid (l.take (cutN l n)) v' W h hok hF'
  clear hv
  generalize l.take (cutN l n) = L at *
  cases hok : behindOK L with
  | false =>
    rw [hok] at hwh
    have Hok := Lib.hid hok
    clear hok hst
    go_enter Tryz.func8, Tryz.ntmps8
    go_wp2_with (first
      | (go_at_call 21; refine hfirst.mono ?_; rintro e w1 ⟨v', rfl, hs', rfl⟩)
      | (go_at_call 22; refine (hwh _ _ hs').mono ?_; rintro e w2 ⟨rfl, hb2⟩)
      | fail)
    go_ret
    refine ⟨_, [], rfl, none_slp _, by simp, ?_, hb2⟩
    rw [Hok.out]; rfl
  | true =>
    rw [hok] at hwh
    have hst' := fun v' W h => hst v' W h hok
    have Hok := Lib.hid hok
    clear hok hst
    go_enter Tryz.func8, Tryz.ntmps8
    go_wp2_with (first
      | (go_at_call 21; refine hfirst.mono ?_; rintro e w1 ⟨v', rfl, hs', rfl⟩)
      | (go_at_call 22; refine (hwh _ _ hs').mono ?_; rintro e w2 ⟨rfl, hb2⟩; have hs2 := hs'.mono RecE.mono hb2)
      | (go_at_call 23; refine (hst' _ _ hs2).mono ?_; rintro e w3 ⟨v3, L3, rfl, hs3, hip, hl3, hb3⟩)
      | fail)
    go_ret
    refine ⟨_, L3, rfl, hs3, hl3, ?_, below_trans hb2 hb3⟩
    rw [Hok.out]; exact hip

set_option maxRecDepth 100000 in
set_option maxHeartbeats 1000000 in
/-- First -/
theorem rfirstl_any (l : List Rec) (v : Value) (w : World) (hv : SlP 5 RecE w v l) (hF : Few l) : Calls Tryz.prog 12 #[v] w (Gives w (.int .i64 (firstS l))) := by
  have hcall := fun W (hb : Below w.heap.size w W) (i : Int) => rlegal_any l v i W (hv.mono RecE.mono hb) hF
  have hnone := @firstS_none l
  have hsome := @firstS_some l
  obtain ⟨q, cap, rfl, hlc, hcap, -, -⟩ := hv
  generalize firstS l = Q at *
  have Hn := Lib.hid hnone
  have Hs := Lib.hid hsome
  clear hnone hsome
  go_enter Tryz.func12, Tryz.ntmps12
  go_wp2_with fail
  go_loopw [6] (fun i wr => ∃ k : Nat, k ≤ l.length ∧ i = .int .i64 k ∧ Below w.heap.size w wr ∧ Hid (∀ j : Nat, j < k → legalS l (j : Int) = true)) (fun i _ => l.length - (intOf i).toNat)
  case atStart => exact ⟨0, Nat.zero_le _, rfl, Below.refl _ _, Lib.hid fun j hj => by omega⟩
  case round =>
    obtain ⟨k, hk, rfl, hb, hall⟩ := hrel
    by_cases hlt : k < l.length
    · have n0 : (0 : Int) ≤ (k : Int) := by omega
      have n1 : (k : Int) < (l.length : Int) := by omega
      have hc := hcall _ hb (k : Int)
      cases hL : legalS l (k : Int) with
      | true =>
        rw [hL] at hc
        have HL := Lib.hid hL
        clear hL hcall
        go_wp2_with (first | (go_at_call 10; refine hc.mono ?_; rintro e w1 ⟨rfl, hb1⟩) | fail)
        go_roundw
        case rel => exact ⟨k + 1, hlt, by go_num, below_trans hb hb1, Lib.hid fun j hj => by
          rcases Nat.lt_or_ge j k with h | h
          · exact hall.out j h
          · have : j = k := by omega
            subst this; exact HL.out⟩
        case measure => simp [intOf]; omega
      | false =>
        rw [hL] at hc
        have HL := Lib.hid hL
        clear hL hcall
        go_wp2_with (first | (go_at_call 10; refine hc.mono ?_; rintro e w1 ⟨rfl, hb1⟩) | fail)
        go_ret
        exact ⟨by rw [Hs.out k hlt hall.out HL.out]; rfl, below_trans hb hb1⟩
    · have hke : k = l.length := by omega
      subst hke
      clear hcall
      go_wp2_with fail
      go_ret
      exact ⟨by rw [Hn.out hall.out]; rfl, hb⟩

end Go.Proofs.YtgmcpfcpdmnebaaGreat
