/- The law AuditStates: the walk. -/
import Derived.Test.YtgmcpfcpdmnebaaGreatStaR
import Derived.Test.YtgmcpfcpdmnebaaGreatLight
import Derived.Outline
namespace Go.Proofs.YtgmcpfcpdmnebaaGreat
open Go.RowKit Go.Proofs Go.Shelf

theorem sta_same {l : List Rec} {L L' : List Pair} (h : if behindOK l then IsPairs (stateS l) (fun _ => true) L else L = []) (h' : if behindOK l then IsPairs (stateS l) (fun _ => true) L' else L' = []) : samePairs L L' = true := by
  rw [samePairs_iff]
  cases hok : behindOK l with
  | true =>
    rw [hok] at h h'
    exact IsPairs.uniq h h'
  | false =>
    rw [hok] at h h'
    simp only [Bool.false_eq_true, if_false] at h h'
    rw [h, h']

set_option maxRecDepth 100000 in
set_option maxHeartbeats 4000000 in
theorem states_law (l : List Rec) (v : Value) (n : Int) (w : World) (hv : SlP 5 RecE w v l) (hn : I64 n) : Calls Tryz.prog 3 #[v, .int .i64 n] w (Gives w (.bool true)) := by
  have hlight := light_law l v w hv
  have hlv := lives_any
  have Hv := Lib.hid hv
  obtain ⟨q, cap, rfl, hlc, hcap, -, -⟩ := hv
  go_enter Tryz.func3, Tryz.ntmps3
  go_upto_region 3 with (first
    | (go_at_call 4; refine hlight.mono ?_; rintro e w1 ⟨b, rfl, hfew, hb1⟩)
    | (go_at_call 5; refine (hlv _).mono ?_; rintro e w2 ⟨rfl, hb2⟩)
    | fail)
  all_goals first
    | (go_ret; exact ⟨rfl, below_trans hb1 hb2⟩)
    | skip
  have hb : (!b) = false := by assumption
  have hF := hfew (by cases b <;> simp_all)
  have hN := hF.writes
  clear hfew hb hlight
  have h1 := fun W hb => state_any l _ n W (Hv.out.mono RecE.mono (w' := W) hb) hn hN
  have h2 := fun W hb => rstate_any l _ n W (Hv.out.mono RecE.mono (w' := W) hb) hn hF
  have h3 := fun W hb => legal_any l _ n W (Hv.out.mono RecE.mono (w' := W) hb) hN
  have h4 := fun W hb => rlegal_any l _ n W (Hv.out.mono RecE.mono (w' := W) hb) hF
  have h5 := fun W hb => first_any l _ W (Hv.out.mono RecE.mono (w' := W) hb) hN
  have h6 := fun W hb => rfirstl_any l _ W (Hv.out.mono RecE.mono (w' := W) hb) hF
  have h7 := fun W hb => serial_any l _ n W (Hv.out.mono RecE.mono (w' := W) hb) hN
  have h8 := fun W hb => rserial_any stateLaid l _ n W (Hv.out.mono RecE.mono (w' := W) hb) hF
  have h9 := fun W hb => strict_any l _ W (Hv.out.mono RecE.mono (w' := W) hb)
  have h10 := fun W hb => rstrict_any l _ W (Hv.out.mono RecE.mono (w' := W) hb)
  have hsame := fun W L L' v v' hs hs' (h : samePairs L L' = true) => by have := rsame_any L L' v v' W hs hs'; rw [h] at this; exact this
  clear hn hN hF Hv
  generalize legalS l n = B1 at *
  generalize serialS l n = B2 at *
  generalize firstS l = B3 at *
  generalize strictS l = B4 at *
  go_wp2_with (first
      | (go_at_call 7; refine (h1 _ hb1).mono ?_; rintro e c1 ⟨v1, L1, rfl, hs1, -, hp1, hbx⟩; have d1 := below_trans hb1 hbx)
      | (go_at_call 8; refine (h2 _ d1).mono ?_; rintro e c2 ⟨v2, L2, rfl, hs2, -, hp2, hby⟩; have d2 := below_trans d1 hby; replace hs1 := hs1.mono PairE.mono hby)
      | (go_at_call 6; refine (hsame _ L1 L2 _ _ hs1 hs2 (sta_same hp1 hp2)).mono ?_; rintro e c3 ⟨rfl, hbz⟩; have d3 := below_trans d2 hbz; clear hs1 hs2 hp1 hp2)
      | (go_at_call 9; refine (h3 _ d3).mono ?_; rintro e c4 ⟨rfl, hb4⟩; have d4 := below_trans d3 hb4)
      | (go_at_call 10; refine (h4 _ d4).mono ?_; rintro e c5 ⟨rfl, hb5⟩; have d5 := below_trans d4 hb5)
      | (go_at_call 11; refine (h5 _ d5).mono ?_; rintro e c6 ⟨rfl, hb6⟩; have d6 := below_trans d5 hb6)
      | (go_at_call 12; refine (h6 _ d6).mono ?_; rintro e c7 ⟨rfl, hb7⟩; have d7 := below_trans d6 hb7)
      | (go_at_call 13; refine (h7 _ d7).mono ?_; rintro e c8 ⟨rfl, hb8⟩; have d8 := below_trans d7 hb8)
      | (go_at_call 14; refine (h8 _ d8).mono ?_; rintro e c9 ⟨rfl, hb9⟩; have d9 := below_trans d8 hb9)
      | (go_at_call 15; refine (h9 _ d9).mono ?_; rintro e c10 ⟨rfl, hb10⟩; have d10 := below_trans d9 hb10)
      | (go_at_call 16; refine (h10 _ d10).mono ?_; rintro e c11 ⟨rfl, hb11⟩; have d11 := below_trans d10 hb11)
      | (go_at_call 5; refine (hlv _).mono ?_; rintro e c12 ⟨rfl, hb12⟩; have d12 := below_trans d11 hb12))
  go_ret
  exact ⟨rfl, d12⟩

end Go.Proofs.YtgmcpfcpdmnebaaGreat
