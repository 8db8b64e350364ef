/- The reference of layer 16: which reads may be. -/
import Derived.Test.YtgmcpfcpdmnebaaGreatRefC
namespace Go.Proofs.YtgmcpfcpdmnebaaGreat
open Go.RowKit Go.Proofs Go.Shelf

theorem goodReadS_head {x : Rd} (h : goodReadS x = true) : (x.key.size : Int) ≤ 64 ∧ (x.to.size : Int) ≤ 64 ∧ (x.pairs.length : Int) ≤ 200 ∧ goodS x.pairs = true ∧ (x.scan || (!emp x.key && emp x.to && decide (x.pairs.length ≤ 1))) = true ∧ x.pairs.any (fun p => !inS x p) = false := by
  unfold goodReadS at h
  simp only [Bool.and_eq_true, decide_eq_true_eq] at h
  obtain ⟨⟨⟨⟨⟨h1, h2⟩, h3⟩, h4⟩, h5⟩, h6⟩ := h
  refine ⟨by omega, by omega, by omega, h4, h5, ?_⟩
  rw [List.all_eq_not_any_not] at h6
  simpa using h6

theorem goodReadS_of {x : Rd} (h1 : (x.key.size : Int) ≤ 64) (h2 : (x.to.size : Int) ≤ 64) (h3 : (x.pairs.length : Int) ≤ 200) (h4 : goodS x.pairs = true) (h6 : x.pairs.any (fun p => !inS x p) = false) :
    goodReadS x = (x.scan || (!emp x.key && emp x.to && decide (x.pairs.length ≤ 1))) := by
  unfold goodReadS
  have e : x.pairs.all (inS x) = true := by rw [List.all_eq_not_any_not, h6]; rfl
  rw [h4, e, decide_eq_true (show x.key.size ≤ 64 by omega), decide_eq_true (show x.to.size ≤ 64 by omega), decide_eq_true (show x.pairs.length ≤ 200 by omega)]
  simp

set_option maxRecDepth 100000 in
set_option maxHeartbeats 4000000 in
theorem rgoodRead_any (x : Rd) (cs : List Value) (w : World) (hx : RdE w cs x) : Calls Tryz.prog 70 #[.agg cs.toArray] w (Gives w (.bool (goodReadS x))) := by
  obtain ⟨pv, rfl, hk, ht, hpv⟩ := hx
  have hgood := fun W hb => rgood_any x.pairs pv W (hpv.mono PairE.mono (w' := W) hb)
  have Hh := Lib.hid (@goodReadS_head x)
  have Ho := Lib.hid (@goodReadS_of x)
  obtain ⟨q, cap, rfl, hwc, hwl, hcells⟩ := hpv.pairs
  cases hg : goodS x.pairs with
  | false =>
    have Hq : Hid (goodReadS x = false) := Lib.hid (by rw [Bool.eq_false_iff]; intro h; have := (Hh.out h).2.2.2.1; rw [hg] at this; cases this)
    rw [hg] at hgood
    clear hcells hpv hg
    go_enter Tryz.func70, Tryz.ntmps70
    go_wp2_with (first | (go_at_call 36; refine (hgood _ (below_new _ _)).mono ?_; rintro e w1 ⟨rfl, hb1⟩) | fail)
    all_goals first
      | (go_ret; exact ⟨by rw [Hq.out]; rfl, below_trans (below_new _ _) hb1⟩)
      | (go_ret; exact ⟨by rw [Hq.out]; rfl, below_new _ _⟩)
  | true =>
    rw [hg] at hgood
    by_cases h3 : (x.key.size : Int) ≤ 64 ∧ (x.to.size : Int) ≤ 64 ∧ (x.pairs.length : Int) ≤ 200
    · obtain ⟨h1, h2, h3⟩ := h3
      have Hoo := Lib.hid (Ho.out h1 h2 h3 hg)
      clear hg Ho
      go_enter Tryz.func70, Tryz.ntmps70
      go_wp2_with (first | (go_at_call 36; refine (hgood _ (below_new _ _)).mono ?_; rintro e w1 ⟨rfl, hb1⟩; have d0 := bcell hb1 (a := ⟨w.heap.size, 0, none⟩) (v := .bool x.scan) (by simp); have d1 := bcell hb1 (a := ⟨w.heap.size, 1, none⟩) (v := .string x.key) (by simp); have d2 := bcell hb1 (a := ⟨w.heap.size, 2, none⟩) (v := .string x.to) (by simp); have d3 := bcell hb1 (a := ⟨w.heap.size, 3, none⟩) (v := .slice q x.pairs.length cap) (by simp)) | fail)
      have hW := below_trans (below_new w _) hb1
      clear hgood
      go_loopw [30] (fun i wr => ∃ k : Nat, k ≤ x.pairs.length ∧ i = .int .i64 k ∧ Below w1.heap.size w1 wr ∧ Hid (NoneTo (fun p => !inS x p) x.pairs k)) (fun i _ => x.pairs.length - (intOf i).toNat)
      case atStart => exact ⟨0, Nat.zero_le _, rfl, Below.refl _ _, Lib.hid (NoneTo.zero _ _)⟩
      case round =>
        obtain ⟨k, hk, rfl, hb, hn⟩ := hrel
        have hbw := below_trans hW hb
        replace d0 := bcell hb d0
        replace d1 := bcell hb d1
        replace d2 := bcell hb d2
        replace d3 := bcell hb d3
        have l0 := World.block_lt_of_cell? _ _ d0
        by_cases hlt : k < x.pairs.length
        · obtain ⟨b, off, rfl, ⟨z1, z2⟩, c0, c1, c2⟩ := hcells k hlt
          replace c0 := bcell hbw c0
          replace c1 := bcell hbw c1
          replace c2 := bcell hbw c2
          have Hs := Lib.hid (hn.out.succ hlt)
          have Ha := Lib.hid (any_at (p := fun p => !inS x p) hlt)
          have n0 : (0 : Int) ≤ (k : Int) := by omega
          have n1 : (k : Int) < (x.pairs.length : Int) := by omega
          clear hcells hW hpv hb1
          generalize x.pairs[k] = p at *
          have HT : Hid (inS x p = (!p.dead && (if x.scan then (!Op.bytesLess p.key.toList x.key.toList && Op.bytesLess p.key.toList x.to.toList) else (p.key.toList == x.key.toList)))) := Lib.hid rfl
          have Hno : Hid (inS x p = false → goodReadS x = false) := Lib.hid fun h => by
            rw [Bool.eq_false_iff]; intro h'
            have := (Hh.out h').2.2.2.2.2
            rw [Ha.out (by simp [h])] at this; cases this
          cases hs : x.scan <;> cases h1 : Op.bytesLess p.key.toList x.key.toList <;> cases h2 : Op.bytesLess p.key.toList x.to.toList <;> cases h3 : (p.key.toList == x.key.toList) <;> cases h4 : p.dead <;>
            (rw [hs] at d0
             rw [h4] at c2
             go_wp2_with fail
             first
               | (go_ret
                  go_light
                  refine ⟨?_, below_trans hbw (below_new _ _)⟩
                  rw [Hno.out (by rw [HT.out]; simp [*])]; rfl)
               | (go_roundw
                  case rel =>
                    go_light
                    exact ⟨k + 1, hlt, by go_num, below_trans hb (below_new _ _), Lib.hid (Hs.out (by rw [HT.out]; simp [*]))⟩
                  case measure => go_light; simp [intOf]; omega))
        · have hke : k = x.pairs.length := by omega
          have hall := hn.out
          rw [hke] at hall
          have Hq := Lib.hid (Hoo.out hall.any)
          subst hke
          clear hcells hpv hall hn
          have He : Hid (∀ s : ByteArray, emp s = s.toList.isEmpty) := Lib.hid fun s => rfl
          have He2 : Hid (emp x.key = false ↔ 1 ≤ (x.key.size : Int)) := Lib.hid (emp_iff _)
          cases hs : x.scan with
          | true =>
            rw [hs] at d0
            go_wp2_with fail
            go_ret
            exact ⟨by rw [Hq.out, hs]; rfl, hbw⟩
          | false =>
            rw [hs] at d0
            have Hs0 := Lib.hid hs
            clear hs
            by_cases hk0 : 0 < x.key.size
            · have hke : emp x.key = false := (emp_iff _).2 (by omega)
              have Hke := Lib.hid hke
              clear hke
              by_cases ht0 : x.to.toList = []
              · have hte : emp x.to = true := by unfold emp; rw [ht0]; rfl
                have Hte := Lib.hid hte
                clear hte
                have hn : ((x.pairs.length : Int) ≤ 1) ↔ x.pairs.length ≤ 1 := by omega
                have hd : decide (x.pairs.length ≤ 1) = decide ((x.pairs.length : Int) ≤ 1) := by simp [hn]
                have Hd := Lib.hid hd
                clear hn hd
                go_wp2_with fail
                go_ret
                refine ⟨?_, hbw⟩
                rw [Hq.out, Hs0.out, Hke.out, Hte.out, Hd.out]; rfl
              · have hte : emp x.to = false := by unfold emp; rw [List.isEmpty_eq_false_iff]; exact ht0
                have Hte := Lib.hid hte
                clear hte
                go_wp2_with fail
                go_ret
                refine ⟨?_, hbw⟩
                rw [Hq.out, Hs0.out, Hke.out, Hte.out]; rfl
            · have hke : emp x.key = true := by
                cases h : emp x.key with
                | true => rfl
                | false => have := (emp_iff _).1 h; omega
              have Hke := Lib.hid hke
              clear hke
              go_wp2_with fail
              go_ret
              refine ⟨?_, hbw⟩
              rw [Hq.out, Hs0.out, Hke.out]; rfl
    · have Hq : Hid (goodReadS x = false) := Lib.hid (by rw [Bool.eq_false_iff]; intro h; have := Hh.out h; exact h3 ⟨this.1, this.2.1, this.2.2.1⟩)
      have h3' : Hid (¬ _) := Lib.hid h3
      clear h3 hcells hpv hg
      go_enter Tryz.func70, Tryz.ntmps70
      go_wp2_with (first | (go_at_call 36; refine (hgood _ (below_new _ _)).mono ?_; rintro e w1 ⟨rfl, hb1⟩) | fail)
      all_goals first
        | (go_ret; exact ⟨by rw [Hq.out]; rfl, below_trans (below_new _ _) hb1⟩)
        | (go_ret; exact ⟨by rw [Hq.out]; rfl, below_new _ _⟩)
        | (exfalso; apply h3'.out; refine ⟨by omega, by omega, by omega⟩)

theorem memB_cons (k y : ByteArray) (sn : List ByteArray) : memB k (y :: sn) = (decide (k = y) || memB k sn) := rfl

theorem readsOK_iff : ∀ (l : List Rd) (sn : List ByteArray), readsOK sn l = true ↔ ∀ i (hi : i < l.length), goodReadS l[i] = true ∧ (l[i].scan = false → memB l[i].key sn = false ∧ ∀ j (hj : j < i), l[j].scan = false → l[i].key ≠ l[j].key)
  | [], sn => by simp [readsOK]
  | x :: l, sn => by
    have ih := readsOK_iff l (if x.scan then sn else x.key :: sn)
    unfold readsOK
    rw [Bool.and_eq_true, Bool.and_eq_true, ih]
    constructor
    · rintro ⟨⟨h1, h2⟩, h3⟩ i hi
      cases i with
      | zero =>
        refine ⟨h1, fun hs => ⟨?_, fun j hj => by omega⟩⟩
        simp only [List.getElem_cons_zero] at hs ⊢
        rw [hs] at h2; simpa using h2
      | succ i =>
        obtain ⟨g1, g2⟩ := h3 i (by simpa using hi)
        refine ⟨g1, fun hs => ?_⟩
        obtain ⟨g3, g4⟩ := g2 hs
        simp only [List.getElem_cons_succ] at g3 g4 ⊢
        cases hx : x.scan with
        | true =>
          rw [hx, if_pos rfl] at g3
          refine ⟨g3, fun j hj hjs => ?_⟩
          cases j with
          | zero => simp only [List.getElem_cons_zero] at hjs; rw [hx] at hjs; cases hjs
          | succ j => exact g4 j (by omega) hjs
        | false =>
          rw [hx, if_neg (by decide), memB_cons, Bool.or_eq_false_iff] at g3
          refine ⟨g3.2, fun j hj hjs => ?_⟩
          cases j with
          | zero => simpa using g3.1
          | succ j => exact g4 j (by omega) hjs
    · intro h
      have h0 := h 0 (by simp)
      simp only [List.getElem_cons_zero] at h0
      refine ⟨⟨h0.1, ?_⟩, fun i hi => ?_⟩
      · cases hx : x.scan with
        | true => rfl
        | false => simp [(h0.2 hx).1]
      · have hs := h (i + 1) (by simpa using hi)
        simp only [List.getElem_cons_succ] at hs
        refine ⟨hs.1, fun hsc => ?_⟩
        obtain ⟨g3, g4⟩ := hs.2 hsc
        refine ⟨?_, fun j hj hjs => g4 (j + 1) (by omega) hjs⟩
        cases hx : x.scan with
        | true => rw [if_pos rfl]; exact g3
        | false =>
          rw [if_neg (by decide), memB_cons, g3, Bool.or_false]
          have := g4 0 (by omega) hx
          simpa using this

end Go.Proofs.YtgmcpfcpdmnebaaGreat
