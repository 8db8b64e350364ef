/- The reference of layer 19: which records are legal. -/
import Derived.Test.YtgmcpfcpdmnebaaGreatRefI
import Derived.Test.YtgmcpfcpdmnebaaGreatReg
import Derived.Outline
namespace Go.Proofs.YtgmcpfcpdmnebaaGreat
open Go.RowKit Go.Proofs Go.Shelf
attribute [local go_sem ↓] Go.wp_at_zero Go.wp_at_succ

set_option maxRecDepth 100000 in
set_option maxHeartbeats 8000000 in
theorem rlegal_in (hS : StateLaid) (l : List Rec) (v : Value) (k : Nat) (hk : k < l.length) (w : World) (hv : SlP 5 RecE w v l) (hF : Few l) : Calls Tryz.prog 10 #[v, .int .i64 k] w (Gives w (.bool (legalAt l k l[k]))) := by
  obtain ⟨q, cap, rfl, hlc, hcap, -, hcells⟩ := hv.recsAt
  obtain ⟨b, off, rq, rc, wq, wc, rfl, he, -, -, c0, c1, c2, c3, c4⟩ := hcells k hk
  have hvt := hv.take k (Nat.le_of_lt hk)
  have hq : legalAt l k l[k] = (recGoodS l[k] && decide (l[k].snap ≤ k) && behindOK (l.take k) && bearsS (stateS (l.take l[k].snap.toNat)) l[k] && decide (mayS l[k] ((l.take k).drop l[k].snap.toNat) = 0)) := rfl
  have hgood := fun W hb => rrecGood_any l[k] _ W (RecE.mono.mono (w' := W) hb he)
  have hwh := fun W hb => rwhole_any (l.take k) _ W (hvt.mono RecE.mono (w' := W) hb)
  have hsnap := recGoodS_snap (r := l[k])
  generalize legalAt l k l[k] = Q at hq ⊢
  generalize l[k] = r at *
  clear hcells
  have n0 : (0 : Int) ≤ (k : Int) := by omega
  have n1 : (k : Int) < (l.length : Int) := by omega
  have n2 : (k : Int) ≤ (cap : Int) := by omega
  have m1 : decide ((k : Int) < 0) = false := by simp
  have m2 : decide ((l.length : Int) ≤ (k : Int)) = false := by rw [decide_eq_false (by omega)]
  have hW0 := below_new w (.cells #[.int .i64 r.session, .int .i64 r.snap, .bool r.strict, .slice rq r.reads.length rc, .slice wq r.writes.length wc] 32)
  have keepS : ∀ W, Below (w.alloc (.cells #[.int .i64 r.session, .int .i64 r.snap, .bool r.strict, .slice rq r.reads.length rc, .slice wq r.writes.length wc] 32)).heap.size (w.alloc (.cells #[.int .i64 r.session, .int .i64 r.snap, .bool r.strict, .slice rq r.reads.length rc, .slice wq r.writes.length wc] 32)) W → W.cell? ⟨w.heap.size, 0, none⟩ = some (.int .i64 r.session) ∧ W.cell? ⟨w.heap.size, 1, none⟩ = some (.int .i64 r.snap) ∧ W.cell? ⟨w.heap.size, 2, none⟩ = some (.bool r.strict) ∧ W.cell? ⟨w.heap.size, 3, none⟩ = some (.slice rq r.reads.length rc) ∧ W.cell? ⟨w.heap.size, 4, none⟩ = some (.slice wq r.writes.length wc) := fun W hb =>
    ⟨bcell hb (by simp), bcell hb (by simp), bcell hb (by simp), bcell hb (by simp), bcell hb (by simp)⟩
  cases hg : recGoodS r with
  | false =>
    rw [hg] at hgood hq
    have Hq := Lib.hid hq
    clear hq hsnap hg hvt hv he hwh hS
    go_enter Tryz.func10, Tryz.ntmps10
    go_upto_region 4 with fail
    have hG := fun s' => hgood (later (w.alloc (.cells #[.int .i64 r.session, .int .i64 r.snap, .bool r.strict, .slice rq r.reads.length rc, .slice wq r.writes.length wc] 32)) s') (below_trans hW0 (later_below _ s'))
    have e0 := fun s' => later_cell (keepS _ (Below.refl _ _)).1 s'
    have e1 := fun s' => later_cell (keepS _ (Below.refl _ _)).2.1 s'
    have e2 := fun s' => later_cell (keepS _ (Below.refl _ _)).2.2.1 s'
    have e3 := fun s' => later_cell (keepS _ (Below.refl _ _)).2.2.2.1 s'
    have e4 := fun s' => later_cell (keepS _ (Below.refl _ _)).2.2.2.2 s'
    refine wp_region_mild (by kernel_rfl) (by kernel_rfl) ?_
    repeat (any_goals (first | go_big_quiet_step ((first | (exact mild_of (hG _)))) | quiet_step ((first | (exact mild_of (hG _)))) | (refine wpQuiet_step (fun K hK => ?_); go_simp; split <;> (refine hK _ ?_; clear hK K))))
    all_goals (refine wpQuiet_nil ?_; intro W hW)
    go_wp2
    go_ret
    exact ⟨by rw [Hq.out]; rfl, below_trans hW0 hW⟩
  | true =>
    obtain ⟨hs0, hs1⟩ := hsnap hg
    rw [hg] at hgood hq
    by_cases hsk : r.snap ≤ (k : Int)
    · obtain ⟨se, sp, st, rd, ws⟩ := r
      dsimp only at *
      obtain ⟨s, rfl⟩ : ∃ s : Nat, sp = (s : Int) := ⟨sp.toNat, by omega⟩
      have hsk' : s ≤ k := by omega
      rw [Int.toNat_natCast] at hq
      have m3 : decide ((s : Int) ≤ (k : Int)) = true := by simp; omega
      rw [m3] at hq
      cases hok : behindOK (l.take k) with
      | false =>
        rw [hok] at hwh hq
        have Hq := Lib.hid hq
        clear hq hsnap hg hvt hv he hS hok hsk
        go_enter Tryz.func10, Tryz.ntmps10
        go_upto_region 4 with fail
        have hG := fun s' => hgood (later (w.alloc (.cells #[.int .i64 se, .int .i64 s, .bool st, .slice rq rd.length rc, .slice wq ws.length wc] 32)) s') (below_trans hW0 (later_below _ s'))
        have hH := fun s' => hwh (later (w.alloc (.cells #[.int .i64 se, .int .i64 s, .bool st, .slice rq rd.length rc, .slice wq ws.length wc] 32)) s') (below_trans hW0 (later_below _ s'))
        have e0 := fun s' => later_cell (keepS _ (Below.refl _ _)).1 s'
        have e1 := fun s' => later_cell (keepS _ (Below.refl _ _)).2.1 s'
        have e2 := fun s' => later_cell (keepS _ (Below.refl _ _)).2.2.1 s'
        have e3 := fun s' => later_cell (keepS _ (Below.refl _ _)).2.2.2.1 s'
        have e4 := fun s' => later_cell (keepS _ (Below.refl _ _)).2.2.2.2 s'
        refine wp_region_mild (by kernel_rfl) (by kernel_rfl) ?_
        repeat (any_goals (first | go_big_quiet_step ((first | (exact mild_of (hG _)) | (exact mild_of (hH _)))) | quiet_step ((first | (exact mild_of (hG _)) | (exact mild_of (hH _)))) | (refine wpQuiet_step (fun K hK => ?_); go_simp; split <;> (refine hK _ ?_; clear hK K))))
        all_goals (refine wpQuiet_nil ?_; intro W hW)
        go_wp2
        go_ret
        exact ⟨by rw [Hq.out]; simp, below_trans hW0 hW⟩
      | true =>
        have hst := fun W hb => hS (l.take s) _ W ((hv.take s (by omega)).mono RecE.mono (w' := W) hb) (behindOK_take hok hsk') (hF.take s)
        have hrd := fun W L sv hb hs hp hn => rreads_any L sv (stateS (l.take s)) _ _ W hs hp hn (RecE.mono.mono (w' := W) hb he)
        have hlt : (l.take k).length = k := by rw [List.length_take]; omega
        have hvd := (hvt.drop s (by omega))
        rw [hlt] at hvd
        have hne : ¬ (cap = s) := by omega
        have hmay := fun W hb => rmay_any _ ((l.take k).drop s) _ _ W (RecE.mono.mono (w' := W) hb he) (hvd.mono RecE.mono (w' := W) hb)
        rw [hok] at hwh hq
        generalize bearsS (stateS (l.take s)) ⟨se, s, st, rd, ws⟩ = B at *
        generalize mayS ⟨se, s, st, rd, ws⟩ ((l.take k).drop s) = M at *
        have Hq := Lib.hid hq
        clear hq hsnap hg hvt hv he hS hok hsk hvd hlt
        have n3 : (0 : Int) ≤ (s : Int) := by omega
        have n4 : (s : Int) ≤ (k : Int) := by omega
        have n5 : (s : Int) ≤ (cap : Int) := by omega
        have n6 : k ≤ cap := by omega
        cases B with
        | false =>
          go_enter Tryz.func10, Tryz.ntmps10
          go_upto_region 4 with fail
          refine wp_region_held (S := (fun w' => w'.cell? ⟨w.heap.size, 0, none⟩ = some (.int .i64 se) ∧ w'.cell? ⟨w.heap.size, 1, none⟩ = some (.int .i64 (s : Int)) ∧ w'.cell? ⟨w.heap.size, 2, none⟩ = some (.bool st) ∧ w'.cell? ⟨w.heap.size, 3, none⟩ = some (.slice rq rd.length rc) ∧ w'.cell? ⟨w.heap.size, 4, none⟩ = some (.slice wq ws.length wc))) (by kernel_rfl) ?_
          have hHeld : (((fun w' => w'.cell? ⟨w.heap.size, 0, none⟩ = some (.int .i64 se) ∧ w'.cell? ⟨w.heap.size, 1, none⟩ = some (.int .i64 (s : Int)) ∧ w'.cell? ⟨w.heap.size, 2, none⟩ = some (.bool st) ∧ w'.cell? ⟨w.heap.size, 3, none⟩ = some (.slice rq rd.length rc) ∧ w'.cell? ⟨w.heap.size, 4, none⟩ = some (.slice wq ws.length wc))) : World → Prop) _ := (by exact keepS _ (Below.refl _ _).drew)
          refine' takeL (v := _) 0 rfl (by kernel_rfl) (by kernel_rfl) (by kernel_rfl) (fun _ _ _ h => h) (by rfl) ?_ (by assumption) ?_; rotate_left 1; (focus (intro w hSw; (try dsimp only at hSw); go_simp; (try with_reducible rfl); done))
          (try simp only [Act.put, List.setIfInBounds_toArray, List.set_cons_zero, List.set_cons_succ])
          refine stepL 1 rfl (by kernel_rfl) (fun K hK => ?_)
          go_simp
          go_at_call 27
          refine (hgood _ (below_trans hW0 (Below.refl _ _).drew)).mono ?_
          rintro e w1 ⟨rfl, hbx⟩
          have hb1 := below_trans (Below.refl _ (w.alloc (.cells #[.int .i64 se, .int .i64 s, .bool st, .slice rq rd.length rc, .slice wq ws.length wc] 32))).drew hbx
          refine hK.out _ _ (by exact keepS _ hb1) (fun hHeld => ?_)
          clear hK K
          (try simp only [Act.put, List.setIfInBounds_toArray, List.set_cons_zero, List.set_cons_succ])
          refine' takeL (v := _) 2 rfl (by kernel_rfl) (by kernel_rfl) (by kernel_rfl) (fun _ _ _ h => h) (by rfl) ?_ (by assumption) ?_; rotate_left 1; (focus (intro w hSw; (try dsimp only at hSw); go_simp; (try with_reducible rfl); done))
          (try simp only [Act.put, List.setIfInBounds_toArray, List.set_cons_zero, List.set_cons_succ])
          refine' takeL (v := _) 3 rfl (by kernel_rfl) (by kernel_rfl) (by kernel_rfl) (fun _ _ _ h => h) (by rfl) ?_ (by assumption) ?_; rotate_left 1; (focus (intro w hSw; (try dsimp only at hSw); go_simp; (try with_reducible rfl); done))
          (try simp only [Act.put, List.setIfInBounds_toArray, List.set_cons_zero, List.set_cons_succ])
          refine' takeL (v := _) 4 rfl (by kernel_rfl) (by kernel_rfl) (by kernel_rfl) (fun _ _ _ h => h) (by rfl) ?_ (by assumption) ?_; rotate_left 1; (focus (intro w hSw; (try dsimp only at hSw); go_simp; (try with_reducible rfl); done))
          (try simp only [Act.put, List.setIfInBounds_toArray, List.set_cons_zero, List.set_cons_succ])
          refine' takeL (v := _) 5 rfl (by kernel_rfl) (by kernel_rfl) (by kernel_rfl) (fun _ _ _ h => h) (by rfl) ?_ (by assumption) ?_; rotate_left 1; (focus (intro w hSw; (try dsimp only at hSw); go_simp; (try with_reducible rfl); done))
          (try simp only [Act.put, List.setIfInBounds_toArray, List.set_cons_zero, List.set_cons_succ])
          refine' takeL (v := _) 6 rfl (by kernel_rfl) (by kernel_rfl) (by kernel_rfl) (fun _ _ _ h => h) (by rfl) ?_ (by assumption) ?_; rotate_left 1; (focus (intro w hSw; (try dsimp only at hSw); go_simp; (try with_reducible rfl); done))
          (try simp only [Act.put, List.setIfInBounds_toArray, List.set_cons_zero, List.set_cons_succ])
          refine' takeL (v := _) 7 rfl (by kernel_rfl) (by kernel_rfl) (by kernel_rfl) (fun _ _ _ h => h) (by rfl) ?_ (by assumption) ?_; rotate_left 1; (focus (intro w hSw; (try dsimp only at hSw); go_simp; (try with_reducible rfl); done))
          (try simp only [Act.put, List.setIfInBounds_toArray, List.set_cons_zero, List.set_cons_succ])
          refine' takeL (v := _) 8 rfl (by kernel_rfl) (by kernel_rfl) (by kernel_rfl) (fun _ _ _ h => h) (by rfl) ?_ (by assumption) ?_; rotate_left 1; (focus (intro w hSw; (try dsimp only at hSw); go_simp; (try with_reducible rfl); done))
          (try simp only [Act.put, List.setIfInBounds_toArray, List.set_cons_zero, List.set_cons_succ])
          refine' takeL (v := _) 9 rfl (by kernel_rfl) (by kernel_rfl) (by kernel_rfl) (fun _ _ _ h => h) (by rfl) ?_ (by assumption) ?_; rotate_left 1; (focus (intro w hSw; (try dsimp only at hSw); go_simp; (try with_reducible rfl); done))
          (try simp only [Act.put, List.setIfInBounds_toArray, List.set_cons_zero, List.set_cons_succ])
          refine' takeL (v := _) 10 rfl (by kernel_rfl) (by kernel_rfl) (by kernel_rfl) (fun _ _ _ h => h) (by rfl) ?_ (by assumption) ?_; rotate_left 1; (focus (intro w hSw; (try dsimp only at hSw); go_simp; (try with_reducible rfl); done))
          (try simp only [Act.put, List.setIfInBounds_toArray, List.set_cons_zero, List.set_cons_succ])
          refine' takeL (v := _) 11 rfl (by kernel_rfl) (by kernel_rfl) (by kernel_rfl) (fun _ _ _ h => h) (by rfl) ?_ (by assumption) ?_; rotate_left 1; (focus (intro w hSw; (try dsimp only at hSw); go_simp; (try with_reducible rfl); done))
          (try simp only [Act.put, List.setIfInBounds_toArray, List.set_cons_zero, List.set_cons_succ])
          refine stepL 12 rfl (by kernel_rfl) (fun K hK => ?_)
          go_simp
          go_at_call 22
          refine (hwh _ (below_trans hW0 hb1)).mono ?_
          rintro e w2 ⟨rfl, hby⟩
          have hb2 := below_trans hb1 hby
          refine hK.out _ _ (by exact keepS _ hb2) (fun hHeld => ?_)
          clear hK K
          (try simp only [Act.put, List.setIfInBounds_toArray, List.set_cons_zero, List.set_cons_succ])
          refine' takeL (v := _) 13 rfl (by kernel_rfl) (by kernel_rfl) (by kernel_rfl) (fun _ _ _ h => h) (by rfl) ?_ (by assumption) ?_; rotate_left 1; (focus (intro w hSw; (try dsimp only at hSw); go_simp; (try with_reducible rfl); done))
          (try simp only [Act.put, List.setIfInBounds_toArray, List.set_cons_zero, List.set_cons_succ])
          refine' takeL (v := _) 14 rfl (by kernel_rfl) (by kernel_rfl) (by kernel_rfl) (fun _ _ _ h => h) (by rfl) ?_ (by assumption) ?_; rotate_left 1; (focus (intro w hSw; (try dsimp only at hSw); go_simp; (try with_reducible rfl); done))
          (try simp only [Act.put, List.setIfInBounds_toArray, List.set_cons_zero, List.set_cons_succ])
          refine' takeL (v := _) 15 rfl (by kernel_rfl) (by kernel_rfl) (by kernel_rfl) (fun _ _ _ h => h) (by rfl) ?_ (by assumption) ?_; rotate_left 1; (focus (intro w hSw; (try dsimp only at hSw); go_simp; (try with_reducible rfl); done))
          (try simp only [Act.put, List.setIfInBounds_toArray, List.set_cons_zero, List.set_cons_succ])
          refine' takeL (v := _) 16 rfl (by kernel_rfl) (by kernel_rfl) (by kernel_rfl) (fun _ _ _ h => h) (by rfl) ?_ (by assumption) ?_; rotate_left 1; (focus (intro w hSw; (try dsimp only at hSw); go_simp; (try with_reducible rfl); done))
          (try simp only [Act.put, List.setIfInBounds_toArray, List.set_cons_zero, List.set_cons_succ])
          refine' takeL (v := _) 17 rfl (by kernel_rfl) (by kernel_rfl) (by kernel_rfl) (fun _ _ _ h => h) (by rfl) ?_ (by assumption) ?_; rotate_left 1; (focus (intro w hSw; (try dsimp only at hSw); go_simp; (try with_reducible rfl); done))
          (try simp only [Act.put, List.setIfInBounds_toArray, List.set_cons_zero, List.set_cons_succ])
          refine' takeL (v := _) 18 rfl (by kernel_rfl) (by kernel_rfl) (by kernel_rfl) (fun _ _ _ h => h) (by rfl) ?_ (by assumption) ?_; rotate_left 1; (focus (intro w hSw; (try dsimp only at hSw); go_simp; (try with_reducible rfl); done))
          (try simp only [Act.put, List.setIfInBounds_toArray, List.set_cons_zero, List.set_cons_succ])
          refine' takeL (v := _) 20 rfl (by kernel_rfl) (by kernel_rfl) (by kernel_rfl) (fun _ _ _ h => h) (by rfl) ?_ (by assumption) ?_; rotate_left 1; (focus (intro w hSw; (try dsimp only at hSw); go_simp; (try with_reducible rfl); done))
          (try simp only [Act.put, List.setIfInBounds_toArray, List.set_cons_zero, List.set_cons_succ])
          refine stepL 19 rfl (by kernel_rfl) (fun K hK => ?_)
          go_simp
          go_at_call 23
          refine (hst _ (below_trans hW0 hb2)).mono ?_
          rintro e w3 ⟨sv, L, rfl, hsl, hip, hln, hbz⟩
          have hb3 := below_trans hb2 hbz
          refine hK.out _ _ (by exact keepS _ hb3) (fun hHeld => ?_)
          clear hK K
          (try simp only [Act.put, List.setIfInBounds_toArray, List.set_cons_zero, List.set_cons_succ])
          refine stepL 21 rfl (by kernel_rfl) (fun K hK => ?_)
          go_simp
          go_at_call 28
          refine (hrd _ L sv (below_trans hW0 hb3) hsl hip hln).mono ?_
          rintro e w4 ⟨rfl, hbu⟩
          have hb4 := below_trans hb3 hbu
          refine hK.out _ _ (by exact keepS _ hb4) (fun hHeld => ?_)
          clear hK K
          (try simp only [Act.put, List.setIfInBounds_toArray, List.set_cons_zero, List.set_cons_succ])
          refine' takeL (v := _) 22 rfl (by kernel_rfl) (by kernel_rfl) (by kernel_rfl) (fun _ _ _ h => h) (by rfl) ?_ (by assumption) ?_; rotate_left 1; (focus (intro w hSw; (try dsimp only at hSw); go_simp; (try with_reducible rfl); done))
          (try simp only [Act.put, List.setIfInBounds_toArray, List.set_cons_zero, List.set_cons_succ])
          refine' takeL (v := _) 23 rfl (by kernel_rfl) (by kernel_rfl) (by kernel_rfl) (fun _ _ _ h => h) (by rfl) ?_ (by assumption) ?_; rotate_left 1; (focus (intro w hSw; (try dsimp only at hSw); go_simp; (try with_reducible rfl); done))
          (try simp only [Act.put, List.setIfInBounds_toArray, List.set_cons_zero, List.set_cons_succ])
          refine passL 24 rfl (by kernel_rfl) (by kernel_rfl) (by kernel_rfl) (fun _ _ _ h => h) (by rfl) (by assumption) ?_
          (try simp only [Act.put, List.setIfInBounds_toArray, List.set_cons_zero, List.set_cons_succ])
          refine passL 25 rfl (by kernel_rfl) (by kernel_rfl) (by kernel_rfl) (fun _ _ _ h => h) (by rfl) (by assumption) ?_
          (try simp only [Act.put, List.setIfInBounds_toArray, List.set_cons_zero, List.set_cons_succ])
          refine passL 26 rfl (by kernel_rfl) (by kernel_rfl) (by kernel_rfl) (fun _ _ _ h => h) (by rfl) (by assumption) ?_
          (try simp only [Act.put, List.setIfInBounds_toArray, List.set_cons_zero, List.set_cons_succ])
          refine passL 27 rfl (by kernel_rfl) (by kernel_rfl) (by kernel_rfl) (fun _ _ _ h => h) (by rfl) (by assumption) ?_
          (try simp only [Act.put, List.setIfInBounds_toArray, List.set_cons_zero, List.set_cons_succ])
          refine passL 28 rfl (by kernel_rfl) (by kernel_rfl) (by kernel_rfl) (fun _ _ _ h => h) (by rfl) (by assumption) ?_
          (try simp only [Act.put, List.setIfInBounds_toArray, List.set_cons_zero, List.set_cons_succ])
          refine passL 29 rfl (by kernel_rfl) (by kernel_rfl) (by kernel_rfl) (fun _ _ _ h => h) (by rfl) (by assumption) ?_
          (try simp only [Act.put, List.setIfInBounds_toArray, List.set_cons_zero, List.set_cons_succ])
          refine passL 30 rfl (by kernel_rfl) (by kernel_rfl) (by kernel_rfl) (fun _ _ _ h => h) (by rfl) (by assumption) ?_
          (try simp only [Act.put, List.setIfInBounds_toArray, List.set_cons_zero, List.set_cons_succ])
          refine passL 31 rfl (by kernel_rfl) (by kernel_rfl) (by kernel_rfl) (fun _ _ _ h => h) (by rfl) (by assumption) ?_
          (try simp only [Act.put, List.setIfInBounds_toArray, List.set_cons_zero, List.set_cons_succ])
          refine' takeL (v := _) 32 rfl (by kernel_rfl) (by kernel_rfl) (by kernel_rfl) (fun _ _ _ h => h) (by rfl) ?_ (by assumption) ?_; rotate_left 1; (focus (intro w hSw; (try dsimp only at hSw); go_simp; (try with_reducible rfl); done))
          (try simp only [Act.put, List.setIfInBounds_toArray, List.set_cons_zero, List.set_cons_succ])
          refine' takeL (v := _) 33 rfl (by kernel_rfl) (by kernel_rfl) (by kernel_rfl) (fun _ _ _ h => h) (by rfl) ?_ (by assumption) ?_; rotate_left 1; (focus (intro w hSw; (try dsimp only at hSw); go_simp; (try with_reducible rfl); done))
          (try simp only [Act.put, List.setIfInBounds_toArray, List.set_cons_zero, List.set_cons_succ])
          refine wpAnyH_done (by kernel_rfl) ?_ _
          go_wp2
          go_ret
          exact ⟨by rw [Hq.out]; simp, below_trans hW0 hb4⟩
        | true =>
          go_enter Tryz.func10, Tryz.ntmps10
          go_upto_region 4 with fail
          go_region_held3 (fun w' => w'.cell? ⟨w.heap.size, 0, none⟩ = some (.int .i64 se) ∧ w'.cell? ⟨w.heap.size, 1, none⟩ = some (.int .i64 (s : Int)) ∧ w'.cell? ⟨w.heap.size, 2, none⟩ = some (.bool st) ∧ w'.cell? ⟨w.heap.size, 3, none⟩ = some (.slice rq rd.length rc) ∧ w'.cell? ⟨w.heap.size, 4, none⟩ = some (.slice wq ws.length wc))
            (first
              | (exact keepS _ (Below.refl _ _).drew)
              | (exact keepS _ hb5)
              | (exact keepS _ hb4)
              | (exact keepS _ hb3)
              | (exact keepS _ hb2)
              | (exact keepS _ hb1))
            (first
              | (go_at_call 27; refine (hgood _ (below_trans hW0 (Below.refl _ _).drew)).mono ?_; rintro e w1 ⟨rfl, hbx⟩; have hb1 := below_trans (Below.refl _ (w.alloc (.cells #[.int .i64 se, .int .i64 s, .bool st, .slice rq rd.length rc, .slice wq ws.length wc] 32))).drew hbx)
              | (go_at_call 22; refine (hwh _ (below_trans hW0 hb1)).mono ?_; rintro e w2 ⟨rfl, hby⟩; have hb2 := below_trans hb1 hby)
              | (go_at_call 23; refine (hst _ (below_trans hW0 hb2)).mono ?_; rintro e w3 ⟨sv, L, rfl, hsl, hip, hln, hbz⟩; have hb3 := below_trans hb2 hbz)
              | (go_at_call 28; refine (hrd _ L sv (below_trans hW0 hb3) hsl hip hln).mono ?_; rintro e w4 ⟨rfl, hbu⟩; have hb4 := below_trans hb3 hbu)
              | (go_at_call 29; refine (hmay _ (below_trans hW0 hb4)).mono ?_; rintro e w5 ⟨rfl, hbv⟩; have hb5 := below_trans hb4 hbv))
          go_wp2
          go_ret
          exact ⟨by rw [Hq.out]; simp only [Bool.true_and, int_beq]; rfl, below_trans hW0 hb5⟩
    · have m3 : decide (r.snap ≤ (k : Int)) = false := by simpa using hsk
      rw [m3] at hq
      have Hq := Lib.hid hq
      clear hq hsnap hg hvt hv he hwh hS hsk
      go_enter Tryz.func10, Tryz.ntmps10
      go_upto_region 4 with fail
      have hG := fun s' => hgood (later (w.alloc (.cells #[.int .i64 r.session, .int .i64 r.snap, .bool r.strict, .slice rq r.reads.length rc, .slice wq r.writes.length wc] 32)) s') (below_trans hW0 (later_below _ s'))
      have e0 := fun s' => later_cell (keepS _ (Below.refl _ _)).1 s'
      have e1 := fun s' => later_cell (keepS _ (Below.refl _ _)).2.1 s'
      have e2 := fun s' => later_cell (keepS _ (Below.refl _ _)).2.2.1 s'
      have e3 := fun s' => later_cell (keepS _ (Below.refl _ _)).2.2.2.1 s'
      have e4 := fun s' => later_cell (keepS _ (Below.refl _ _)).2.2.2.2 s'
      refine wp_region_mild (by kernel_rfl) (by kernel_rfl) ?_
      repeat (any_goals (first | go_big_quiet_step ((first | (exact mild_of (hG _)))) | quiet_step ((first | (exact mild_of (hG _)))) | (refine wpQuiet_step (fun K hK => ?_); go_simp; split <;> (refine hK _ ?_; clear hK K))))
      all_goals (refine wpQuiet_nil ?_; intro W hW)
      go_wp2
      go_ret
      exact ⟨by rw [Hq.out]; simp, below_trans hW0 hW⟩

end Go.Proofs.YtgmcpfcpdmnebaaGreat
