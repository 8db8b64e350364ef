/- The reference of layer 19: which records are legal, which serial; and the state. -/
import Derived.Test.YtgmcpfcpdmnebaaGreatRefH
import Derived.Test.YtgmcpfcpdmnebaaGreatLight
import Derived.Outline
namespace Go.Proofs.YtgmcpfcpdmnebaaGreat
open Go.RowKit Go.Proofs Go.Shelf
attribute [local go_sem ↓] Go.wp_at_zero Go.wp_at_succ

/-- What the reference's State hands back. -/
def StOut (l : List Rec) (w : World) (e : Ending) (w' : World) : Prop := ∃ v L, e = .returned v ∧ SlP 3 PairE w' v L ∧ IsPairs (stateS l) (fun _ => true) L ∧ L.length ≤ 1000000 ∧ Below w.heap.size w w'

/-- (the walk of State is laid behind this text) -/
def StateLaid : Prop := ∀ (l : List Rec) (v : Value) (w : World), SlP 5 RecE w v l → behindOK l = true → Few l → Calls Tryz.prog 23 #[v] w (StOut l w)

theorem Few.take {l : List Rec} (h : Few l) (k : Nat) : Few (l.take k) := ⟨by have := h.1; rw [List.length_take]; omega, fun r hr => h.2 r (List.mem_of_mem_take hr)⟩

theorem slp_form {α : Type} {k : Nat} {E : World → List Value → α → Prop} {w : World} {v : Value} {l : List α} (h : SlP k E w v l) : ∃ p cap, v = .slice p l.length cap := by
  obtain ⟨p, cap, hv, -⟩ := h
  exact ⟨p, cap, hv⟩

set_option maxRecDepth 100000 in
set_option maxHeartbeats 4000000 in
theorem rserial_in (hS : StateLaid) (l : List Rec) (v : Value) (k : Nat) (hk : k < l.length) (w : World) (hv : SlP 5 RecE w v l) (hF : Few l) : Calls Tryz.prog 14 #[v, .int .i64 k] w (Gives w (.bool (serialAt l k l[k]))) := by
  obtain ⟨q, cap, rfl, hlc, hcap, -, hcells⟩ := hv.recsAt
  obtain ⟨b, off, rq, rc, wq, wc, rfl, he, -, -, c0, c1, c2, c3, c4⟩ := hcells k hk
  have hvt := hv.take k (Nat.le_of_lt hk)
  have hwh := fun W hb => rwhole_any (l.take k) _ W (hvt.mono RecE.mono (w' := W) hb)
  have hst := fun W hb hok => hS (l.take k) _ W (hvt.mono RecE.mono (w' := W) hb) hok (hF.take k)
  have hrd := fun W L sv hb hs hp hn => rreads_any L sv (stateS (l.take k)) _ _ W hs hp hn (RecE.mono.mono (w' := W) hb he)
  have hq : serialAt l k l[k] = (behindOK (l.take k) && bearsS (stateS (l.take k)) l[k]) := rfl
  generalize serialAt l k l[k] = Q at hq ⊢
  generalize l[k] = r at *
  clear hcells he hS
  have n0 : (0 : Int) ≤ (k : Int) := by omega
  have n1 : (k : Int) < (l.length : Int) := by omega
  have n2 : (k : Int) ≤ (cap : Int) := by omega
  have m1 : decide ((0 : Int) ≤ (k : Int)) = true := by simp
  have m2 : decide ((k : Int) < (l.length : Int)) = true := by simp; omega
  cases hok : behindOK (l.take k) with
  | false =>
    rw [hok] at hwh hq
    have Hq := Lib.hid hq
    clear hq hst hrd hvt hv hok
    go_enter Tryz.func14, Tryz.ntmps14
    go_upto_region 1 with fail
    refine wp_region_mild (by kernel_rfl) (by kernel_rfl) ?_
    have hW' := fun s' => hwh (later w s') (later_below w s')
    repeat (go_big_quiet_step ((exact mild_of (hW' _))))
    refine wpQuiet_nil ?_
    intro W hW
    go_wp2
    go_ret
    exact ⟨by rw [Hq.out]; rfl, hW⟩
  | true =>
    rw [hok] at hwh hq
    have Hq := Lib.hid hq
    have hst' := fun W hb => hst W hb hok
    clear hq hst hvt hv hok
    go_enter Tryz.func14, Tryz.ntmps14
    go_upto_region 1 with fail
    have keepS : ∀ W, Below w.heap.size w W → W.cell? ⟨b, off + k * 5, none⟩ = some (.int .i64 r.session) ∧ W.cell? ⟨b, off + k * 5 + 1, none⟩ = some (.int .i64 r.snap) ∧ W.cell? ⟨b, off + k * 5 + 2, none⟩ = some (.bool r.strict) ∧ W.cell? ⟨b, off + k * 5 + 3, none⟩ = some (.slice rq r.reads.length rc) ∧ W.cell? ⟨b, off + k * 5 + 4, none⟩ = some (.slice wq r.writes.length wc) := fun W hb => ⟨bcell hb c0, bcell hb c1, bcell hb c2, bcell hb c3, bcell hb c4⟩
    go_region_held3 (fun w' => w'.cell? ⟨b, off + k * 5, none⟩ = some (.int .i64 r.session) ∧ w'.cell? ⟨b, off + k * 5 + 1, none⟩ = some (.int .i64 r.snap) ∧ w'.cell? ⟨b, off + k * 5 + 2, none⟩ = some (.bool r.strict) ∧ w'.cell? ⟨b, off + k * 5 + 3, none⟩ = some (.slice rq r.reads.length rc) ∧ w'.cell? ⟨b, off + k * 5 + 4, none⟩ = some (.slice wq r.writes.length wc))
      (first
        | (exact keepS _ (Below.refl _ _).drew)
        | (exact keepS _ hb3)
        | (exact keepS _ hb2)
        | (exact keepS _ hb1))
      (first
        | (go_at_call 22; refine (hwh _ (Below.refl _ _).drew).mono ?_; rintro e w1 ⟨rfl, hbx⟩; have hb1 := below_trans (Below.refl _ w).drew hbx)
        | (go_at_call 23; refine (hst' _ hb1).mono ?_; rintro e w2 ⟨sv, L, rfl, hsl, hip, hln, hby⟩; have hb2 := below_trans hb1 hby)
        | (go_at_call 28; refine (hrd _ L sv hb2 hsl hip hln).mono ?_; rintro e w3 ⟨rfl, hbz⟩; have hb3 := below_trans hb2 hbz))
    go_wp2
    go_ret
    exact ⟨by rw [Hq.out]; rfl, hb3⟩

set_option maxRecDepth 100000 in
/-- Serial -/
theorem rserial_any (hS : StateLaid) (l : List Rec) (v : Value) (i : Int) (w : World) (hv : SlP 5 RecE w v l) (hF : Few l) : Calls Tryz.prog 14 #[v, .int .i64 i] w (Gives w (.bool (serialS l i))) := by
  by_cases h : 0 ≤ i ∧ i.toNat < l.length
  · obtain ⟨k, rfl⟩ : ∃ k : Nat, i = (k : Int) := ⟨i.toNat, by omega⟩
    have h1 := h.2
    rw [Int.toNat_natCast] at h1
    have := rserial_in hS l v k h1 w hv hF
    have e : serialS l (k : Int) = serialAt l k l[k] := by unfold serialS; rw [dif_pos h]; simp
    rw [e]; exact this
  · have e : serialS l i = false := by unfold serialS; rw [dif_neg h]
    rw [e]
    obtain ⟨q, cap, rfl, -, -, -, -⟩ := hv
    clear e hF hS
    by_cases h0 : 0 ≤ i
    · have m1 : decide (0 ≤ i) = true := by simpa using h0
      have m2 : decide (i < (l.length : Int)) = false := by rw [decide_eq_false (by omega)]
      clear h h0
      go_enter Tryz.func14, Tryz.ntmps14
      go_upto_region 1 with fail
      refine wp_region_quiet_lit (by kernel_rfl) (by kernel_rfl) ?_
      repeat (any_goals (first | go_big_quiet_step (fail) | quiet_step (fail) | (refine wpQuiet_step (fun K hK => ?_); go_simp; split <;> (refine hK _ ?_; clear hK K))))
      all_goals (refine wpQuiet_nil ?_; intro _ hw'; obtain ⟨nq, hw''⟩ := hw'; subst hw'')
      go_wp2
      go_ret
      exact ⟨rfl, below_drewN (Below.refl _ _) _⟩
    · have m1 : decide (0 ≤ i) = false := by simpa using h0
      clear h h0
      go_enter Tryz.func14, Tryz.ntmps14
      go_upto_region 1 with fail
      refine wp_region_quiet_lit (by kernel_rfl) (by kernel_rfl) ?_
      repeat (any_goals (first | go_big_quiet_step (fail) | quiet_step (fail) | (refine wpQuiet_step (fun K hK => ?_); go_simp; split <;> (refine hK _ ?_; clear hK K))))
      all_goals (refine wpQuiet_nil ?_; intro _ hw'; obtain ⟨nq, hw''⟩ := hw'; subst hw'')
      go_wp2
      go_ret
      exact ⟨rfl, below_drewN (Below.refl _ _) _⟩

end Go.Proofs.YtgmcpfcpdmnebaaGreat
