/- Package audit: which records are legal. -/
import Derived.Test.YtgmcpfcpdmnebaaGreatAud3
import Derived.Test.YtgmcpfcpdmnebaaGreatGood
namespace Go.Proofs.YtgmcpfcpdmnebaaGreat
open Go.RowKit Go.Proofs Go.Shelf

theorem SlP.take {α : Type} {k : Nat} {E : World → List Value → α → Prop} {w : World} {q : Option Addr} {n cap : Nat} {l : List α} (h : SlP k E w (.slice q n cap) l) (i : Nat) (hi : i ≤ l.length) : SlP k E w (.slice q i cap) (l.take i) := by
  obtain ⟨q', cap', hv, h1, h2, h0, h3⟩ := h
  cases hv
  have hl : (l.take i).length = i := by rw [List.length_take]; omega
  refine ⟨q, cap, by rw [hl], by omega, by omega, h0, fun j hj => ?_⟩
  obtain ⟨b, off, cs, hp, hk, he, hc⟩ := h3 j (by omega)
  exact ⟨b, off, cs, hp, hk, by rw [List.getElem_take]; exact he, hc⟩

theorem SlP.drop {α : Type} {k : Nat} {E : World → List Value → α → Prop} {w : World} {b off n cap : Nat} {l : List α} (h : SlP k E w (.slice (some ⟨b, off, none⟩) n cap) l) (s : Nat) (hs : s ≤ l.length) : SlP k E w (.slice (some ⟨b, off + s * k, none⟩) (l.length - s) (cap - s)) (l.drop s) := by
  obtain ⟨q', cap', hv, h1, h2, h0, h3⟩ := h
  cases hv
  have hl : (l.drop s).length = l.length - s := by rw [List.length_drop]
  refine ⟨some ⟨b, off + s * k, none⟩, cap - s, by rw [hl], by omega, by omega, fun h => by simp at h, fun j hj => ?_⟩
  obtain ⟨b', off', cs, hp, hk, he, hc⟩ := h3 (s + j) (by omega)
  cases hp
  refine ⟨b, off + s * k, cs, rfl, hk, by rw [List.getElem_drop]; exact he, fun i hi => ?_⟩
  rw [← hc i hi, Nat.add_mul]
  congr 2
  omega

noncomputable def legalAt (l : List Rec) (k : Nat) (r : Rec) : Bool := recGoodS r && decide (r.snap ≤ k) && behindOK (l.take k) && bearsS (stateS (l.take r.snap.toNat)) r && decide (mayS r ((l.take k).drop r.snap.toNat) = 0)
noncomputable def legalS (l : List Rec) (i : Int) : Bool := if h : 0 ≤ i ∧ i.toNat < l.length then legalAt l i.toNat l[i.toNat] else false

theorem behind_yes (l : List Rec) (v : Value) (w : World) (hv : SlP 5 RecE w v l) (hN : writesN l ≤ 1000000) (hok : behindOK l = true) : Calls Tryz.prog 18 #[v] w (fun e w' => ∃ b m, e = .returned (.tuple #[.map (some b), .bool true]) ∧ IsSt w' b m (stateS l) ∧ Below w.heap.size w w') := by
  have h := behind_any l v w hv hN
  unfold BehindOut at h
  simp only [hok, if_true] at h
  exact h

theorem behind_no (l : List Rec) (v : Value) (w : World) (hv : SlP 5 RecE w v l) (hN : writesN l ≤ 1000000) (hok : behindOK l = false) : Calls Tryz.prog 18 #[v] w (fun e w' => e = .returned (.tuple #[.map none, .bool false]) ∧ Below w.heap.size w w') := by
  have h := behind_any l v w hv hN
  unfold BehindOut at h
  simp only [hok, Bool.false_eq_true, if_false] at h
  exact h

theorem behindOK_take {l : List Rec} {k s : Nat} (h : behindOK (l.take k) = true) (hs : s ≤ k) : behindOK (l.take s) = true := by
  refine List.all_eq_true.2 fun r hr => List.all_eq_true.1 h r ?_
  have e : l.take s = (l.take k).take s := by rw [List.take_take, Nat.min_eq_left hs]
  rw [e] at hr
  exact List.mem_of_mem_take hr

theorem recGoodS_snap {r : Rec} (h : recGoodS r = true) : 0 ≤ r.snap ∧ r.snap ≤ 1099511627776 := by
  unfold recGoodS rightS at h
  simp only [Bool.and_eq_true, decide_eq_true_eq] at h
  exact ⟨h.1.1.1.1.1.1.2, h.1.1.1.1.1.2⟩

theorem int_beq (a b : Int) : (a == b) = decide (a = b) := by by_cases h : a = b <;> simp [h]

set_option maxRecDepth 100000 in
set_option maxHeartbeats 2000000 in
/-- Legal, at an index within range. -/
theorem legal_in (l : List Rec) (v : Value) (k : Nat) (hk : k < l.length) (w : World) (hv : SlP 5 RecE w v l) (hN : writesN l ≤ 1000000) : Calls Tryz.prog 9 #[v, .int .i64 k] w (Gives w (.bool (legalAt l k l[k]))) := by
  obtain ⟨q, cap, rfl, hlc, hcap, -, hcells⟩ := hv.recsAt
  obtain ⟨b, off, rq, rc, wq, wc, rfl, he, hrd, hw, c0, c1, c2, c3, c4⟩ := hcells k hk
  have hq : legalAt l k l[k] = (recGoodS l[k] && decide (l[k].snap ≤ k) && behindOK (l.take k) && bearsS (stateS (l.take l[k].snap.toNat)) l[k] && decide (mayS l[k] ((l.take k).drop l[k].snap.toNat) = 0)) := rfl
  have hgood := fun W hb => recGood_any l[k] _ W (RecE.mono.mono (w' := W) hb he)
  have hsnap := recGoodS_snap (r := l[k])
  have hvt := hv.take k (Nat.le_of_lt hk)
  generalize legalAt l k l[k] = Q at hq ⊢
  generalize l[k] = r at *
  clear hcells
  have hkcap : ¬ (cap = 0) := by omega
  have n0 : (0 : Int) ≤ (k : Int) := by omega
  have n1 : (k : Int) < (l.length : Int) := by omega
  cases hg : recGoodS r with
  | false =>
    rw [hg] at hgood hq
    have Hq := Lib.hid hq
    clear hq hsnap hg hrd hw he hv hvt
    go_enter Tryz.func9, Tryz.ntmps9
    go_wp2_with (first
      | (go_at_call 24; refine (hgood _ (below_new _ _)).mono ?_; rintro e w1 ⟨rfl, hb1⟩)
      | fail)
    go_ret
    exact ⟨by rw [Hq.out]; rfl, below_trans (below_new _ _) hb1⟩
  | true =>
    obtain ⟨hs0, hs1⟩ := hsnap hg
    rw [hg] at hgood hq
    by_cases hsk : r.snap ≤ (k : Int)
    · cases hok : behindOK (l.take k) with
      | false =>
        have hbeh := fun W hb => behind_no _ _ W (hvt.mono RecE.mono (w' := W) hb) (Nat.le_trans (writesN_take l k) hN) hok
        rw [hok] at hq
        have Hq := Lib.hid hq
        clear hq hsnap hg hrd hw he hv hvt hok
        go_enter Tryz.func9, Tryz.ntmps9
        go_wp2_with (first
          | (go_at_call 24; refine (hgood _ (below_new _ _)).mono ?_; rintro e w1 ⟨rfl, hb1⟩; have d1 := bcell hb1 (a := ⟨w.heap.size, 1, none⟩) (v := .int .i64 r.snap) (by simp); have hb1' := below_trans (below_new _ _) hb1)
          | (go_at_call 18; refine (hbeh _ hb1').mono ?_; rintro e w2 ⟨rfl, hb2⟩)
          | fail)
        go_ret
        exact ⟨by rw [Hq.out]; simp, below_trans hb1' hb2⟩
      | true =>
        obtain ⟨se, sp, st, rd, ws⟩ := r
        dsimp only at *
        obtain ⟨s, rfl⟩ : ∃ s : Nat, sp = (s : Int) := ⟨sp.toNat, by omega⟩
        have hsk' : s ≤ k := by omega
        rw [Int.toNat_natCast] at hq
        have hbeh := fun W hb => behind_yes _ _ W (hvt.mono RecE.mono (w' := W) hb) (Nat.le_trans (writesN_take l k) hN) hok
        have hvs := hv.take s (by omega)
        have hbeh2 := fun W hb => behind_yes _ _ W (hvs.mono RecE.mono (w' := W) hb) (Nat.le_trans (writesN_take l s) hN) (behindOK_take hok hsk')
        have hlt : (l.take k).length = k := by rw [List.length_take]; omega
        have hvd := (hvt.drop s (by omega))
        rw [hlt] at hvd
        have hne : ¬ (cap = s) := by omega
        have hbears := fun b2 m2 W hst hb => bears_any b2 m2 (stateS (l.take s)) _ _ W hst (RecE.mono.mono (w' := W) hb he)
        have hmay := fun W hb => may_any _ ((l.take k).drop s) _ _ W (RecE.mono.mono (w' := W) hb he) (hvd.mono RecE.mono (w' := W) hb)
        rw [hok] at hq
        generalize bearsS (stateS (l.take s)) ⟨se, s, st, rd, ws⟩ = B at *
        generalize mayS ⟨se, s, st, rd, ws⟩ ((l.take k).drop s) = M at *
        generalize stateS (l.take s) = F at *
        have Hq := Lib.hid hq
        clear hq hsnap hg hrd hw he hv hvt hok hvs hvd
        go_enter Tryz.func9, Tryz.ntmps9
        go_wp2_with (first
          | (go_at_call 24; refine (hgood _ (below_new _ _)).mono ?_; rintro e w1 ⟨rfl, hb1⟩; have d0 := bcell hb1 (a := ⟨w.heap.size, 0, none⟩) (v := .int .i64 se) (by simp); have d1 := bcell hb1 (a := ⟨w.heap.size, 1, none⟩) (v := .int .i64 s) (by simp); have d2 := bcell hb1 (a := ⟨w.heap.size, 2, none⟩) (v := .bool st) (by simp); have d3 := bcell hb1 (a := ⟨w.heap.size, 3, none⟩) (v := .slice rq rd.length rc) (by simp); have d4 := bcell hb1 (a := ⟨w.heap.size, 4, none⟩) (v := .slice wq ws.length wc) (by simp); have hb1' := below_trans (below_new _ _) hb1)
          | (go_at_call 18; refine (hbeh _ hb1').mono ?_; clear hbeh; rintro e w2 ⟨b2, m2, rfl, hst2, hb2⟩; have e1 := bcell hb2 d1)
          | (go_at_call 18; refine (hbeh2 _ (below_trans hb1' hb2)).mono ?_; rintro e w3 ⟨b3, m3, rfl, hst3, hb3⟩)
          | fail)
        have hw3 := below_trans (below_trans hb1' hb2) hb3
        replace d0 := fun s' => later_cell (bcell hb3 (bcell hb2 d0)) s'
        replace d1 := fun s' => later_cell (bcell hb3 (bcell hb2 d1)) s'
        replace d2 := fun s' => later_cell (bcell hb3 (bcell hb2 d2)) s'
        replace d3 := fun s' => later_cell (bcell hb3 (bcell hb2 d3)) s'
        replace d4 := fun s' => later_cell (bcell hb3 (bcell hb2 d4)) s'
        have hB := fun s' => hbears b3 m3 (later w3 s') (hst3.below (later_below w3 s')) (below_trans hw3 (later_below w3 s'))
        have hM := fun s' => hmay (later w3 s') (below_trans hw3 (later_below w3 s'))
        have n2 : (0 : Int) ≤ (s : Int) := by omega
        have n3 : (s : Int) ≤ (k : Int) := by omega
        have n4 : (k : Int) ≤ (cap : Int) := by omega
        have n5 : s ≤ k := hsk'
        have n6 : k ≤ cap := by omega
        clear hbears hmay c0 c1 c2 c3 c4 hb1 hb1' hb2 hb3 hst2 hst3 e1
        cases B with
        | false =>
          refine wp_region_mild (by kernel_rfl) (by kernel_rfl) ?_
          repeat (go_big_quiet_step ((exact mild_of (hB _))))
          refine wpQuiet_nil ?_
          intro W hW
          go_wp2
          go_ret
          exact ⟨by rw [Hq.out]; simp, below_trans hw3 hW⟩
        | true =>
          refine wp_region_mild (by kernel_rfl) (by kernel_rfl) ?_
          repeat (go_big_quiet_step (first | (exact mild_of (hB _)) | (exact mild_of (hM _))))
          refine wpQuiet_nil ?_
          intro W hW
          go_wp2
          go_ret
          exact ⟨by rw [Hq.out]; simp only [Bool.true_and, hsk, decide_true, int_beq]; rfl, below_trans hw3 hW⟩
    · have Hq := Lib.hid hq
      clear hq hsnap hg hrd hw he hv hvt
      go_enter Tryz.func9, Tryz.ntmps9
      go_wp2_with (first
        | (go_at_call 24; refine (hgood _ (below_new _ _)).mono ?_; rintro e w1 ⟨rfl, hb1⟩; have d1 := bcell hb1 (a := ⟨w.heap.size, 1, none⟩) (v := .int .i64 r.snap) (by simp))
        | fail)
      go_ret
      exact ⟨by rw [Hq.out]; simp; omega, below_trans (below_new _ _) hb1⟩

set_option maxRecDepth 100000 in
/-- Legal -/
theorem legal_any (l : List Rec) (v : Value) (i : Int) (w : World) (hv : SlP 5 RecE w v l) (hN : writesN l ≤ 1000000) : Calls Tryz.prog 9 #[v, .int .i64 i] w (Gives w (.bool (legalS l i))) := by
  by_cases h : 0 ≤ i ∧ i.toNat < l.length
  · obtain ⟨k, rfl⟩ : ∃ k : Nat, i = (k : Int) := ⟨i.toNat, by omega⟩
    have h1 := h.2
    rw [Int.toNat_natCast] at h1
    have := legal_in l v k h1 w hv hN
    have e : legalS l (k : Int) = legalAt l k l[k] := by unfold legalS; rw [dif_pos h]; simp
    rw [e]; exact this
  · have e : legalS l i = false := by unfold legalS; rw [dif_neg h]
    rw [e]
    obtain ⟨q, cap, rfl, -, -, -, -⟩ := hv
    clear e hN
    by_cases h0 : i < 0
    · clear h
      go_enter Tryz.func9, Tryz.ntmps9
      go_wp2_with fail
      go_ret
      exact ⟨rfl, Below.refl _ _⟩
    · have h1 : (l.length : Int) ≤ i := by omega
      clear h
      go_enter Tryz.func9, Tryz.ntmps9
      go_wp2_with fail
      go_ret
      exact ⟨rfl, Below.refl _ _⟩

end Go.Proofs.YtgmcpfcpdmnebaaGreat
