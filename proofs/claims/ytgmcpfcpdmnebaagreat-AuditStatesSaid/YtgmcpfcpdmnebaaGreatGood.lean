/- Package record: which records may be. -/
import Derived.Test.YtgmcpfcpdmnebaaGreatRec4
namespace Go.Proofs.YtgmcpfcpdmnebaaGreat
open Go.RowKit Go.Proofs Go.Shelf

def recGoodS (r : Rec) : Bool := rightS r && decide ((bytesS r).length ≤ 8192)

theorem goodPairS_small {p : Pair} (h : goodPairS p = true) : SmallP p := by
  unfold goodPairS at h
  simp only [Bool.and_eq_true, decide_eq_true_eq] at h
  exact ⟨h.1.1.2, h.1.2⟩

theorem goodS_small {l : List Pair} (h : goodS l = true) : ∀ p ∈ l, SmallP p := fun p hp => by
  unfold goodS at h
  simp only [Bool.and_eq_true] at h
  exact goodPairS_small (List.all_eq_true.1 h.1 p hp)

theorem goodReadS_small {x : Rd} (h : goodReadS x = true) : SmallR x := by
  unfold goodReadS at h
  simp only [Bool.and_eq_true, decide_eq_true_eq] at h
  exact ⟨h.1.1.1.1.1, h.1.1.1.1.2, h.1.1.1.2, goodS_small h.1.1.2⟩

theorem readsOK_good : ∀ (l : List Rd) (sn : List ByteArray), readsOK sn l = true → ∀ x ∈ l, goodReadS x = true
  | [], _, _, x, hx => by simp at hx
  | y :: l, sn, h, x, hx => by
    unfold readsOK at h
    simp only [Bool.and_eq_true] at h
    rcases List.mem_cons.1 hx with rfl | hx
    · exact h.1.1
    · exact readsOK_good l _ h.2 x hx

theorem rightS_small {r : Rec} (h : rightS r = true) : Small r := by
  unfold rightS at h
  simp only [Bool.and_eq_true, decide_eq_true_eq] at h
  obtain ⟨⟨⟨⟨⟨⟨⟨h1, h2⟩, h3⟩, h4⟩, h5⟩, h6⟩, h7⟩, h8⟩ := h
  exact ⟨⟨by omega, h2⟩, ⟨h3, h4⟩, ⟨h5, fun x hx => goodReadS_small (readsOK_good _ _ h8 x hx)⟩, ⟨h6, goodS_small h7⟩⟩

theorem numS_len (n : Nat) : (numS n).length ≤ 9 := numS_length n

theorem bytesS_length {r : Rec} (h : Small r) : (bytesS r).length ≤ 8000000 := by
  obtain ⟨-, -, ⟨h1, h2⟩, h3, h4⟩ := h
  have a1 := numS_length r.session.toNat
  have a2 := numS_length r.snap.toNat
  have a3 := numS_length r.reads.length
  have a4 := numS_length r.writes.length
  have a5 := flatMap_le readB 100000 r.reads fun x hx => readB_length (h2 x hx)
  have a6 := flatMap_le writeB 400 r.writes fun x hx => writeB_length (h4 x hx)
  unfold bytesS headB flagS
  simp only [List.length_append, List.length_singleton]
  omega

set_option maxRecDepth 100000 in
set_option maxHeartbeats 1000000 in
/-- Good -/
theorem recGood_any (r : Rec) (cs : List Value) (w : World) (hr : RecE w cs r) : Calls Tryz.prog 24 #[.agg cs.toArray] w (Gives w (.bool (recGoodS r))) := by
  have hE := hr
  obtain ⟨rv, wv, rfl, -, -, -, -⟩ := hr
  have hright := fun W hb => right_any r _ W (RecE.mono.mono (w' := W) hb hE)
  have hwritten := fun hs W hb => written_any r _ W (RecE.mono.mono (w' := W) hb hE) hs
  have hq : recGoodS r = (rightS r && decide ((bytesS r).length ≤ 8192)) := rfl
  have hlen := fun h : rightS r = true => bytesS_length (rightS_small h)
  generalize recGoodS r = q at hq ⊢
  cases hb : rightS r with
  | false =>
    rw [hb] at hright hq
    have Hq := Lib.hid hq
    clear hq hE hwritten hlen hb
    go_enter Tryz.func24, Tryz.ntmps24
    go_wp2_with (first
      | (go_at_call 38; refine (hright _ (below_new _ _)).mono ?_; rintro e w1 ⟨rfl, hb1⟩)
      | fail)
    go_ret
    exact ⟨by rw [Hq.out]; rfl, below_trans (below_new _ _) hb1⟩
  | true =>
    have hlen := hlen hb
    replace hwritten := hwritten (rightS_small hb)
    rw [hb] at hright hq
    generalize bytesS r = bs at *
    have Hq := Lib.hid hq
    clear hq hE hb
    by_cases hle : (bs.length : Int) ≤ 8192
    all_goals
      go_enter Tryz.func24, Tryz.ntmps24
      go_wp2_with (first
        | (go_at_call 38; refine (hright _ (below_new _ _)).mono ?_; rintro e w1 ⟨rfl, hb1⟩; have c0 := bcell hb1 (a := ⟨w.heap.size, 0, none⟩) (v := .int .i64 r.session) (by simp); have c1 := bcell hb1 (a := ⟨w.heap.size, 1, none⟩) (v := .int .i64 r.snap) (by simp); have c2 := bcell hb1 (a := ⟨w.heap.size, 2, none⟩) (v := .bool r.strict) (by simp); have c3 := bcell hb1 (a := ⟨w.heap.size, 3, none⟩) (v := rv) (by simp); have c4 := bcell hb1 (a := ⟨w.heap.size, 4, none⟩) (v := wv) (by simp))
        | (go_at_call 39; refine (hwritten _ (below_trans (below_new _ _) hb1)).mono ?_; rintro e w2 ⟨v2, rfl, hown2, hb2⟩; obtain ⟨qx, cx, rfl, hx1, hx2, -⟩ := hown2.at (by omega))
        | fail)
      go_ret
      exact ⟨by rw [Hq.out]; simp; omega, below_trans (below_trans (below_new _ _) hb1) hb2⟩

end Go.Proofs.YtgmcpfcpdmnebaaGreat
