/- The reference of layer 16: which records may be, but for how many bytes they have. -/
import Derived.Test.YtgmcpfcpdmnebaaGreatRefD
namespace Go.Proofs.YtgmcpfcpdmnebaaGreat
open Go.RowKit Go.Proofs Go.Shelf

def RightHead (r : Rec) : Prop := 1 ≤ r.session ∧ r.session ≤ 8 ∧ 0 ≤ r.snap ∧ r.snap ≤ 1099511627776 ∧ (r.reads.length : Int) ≤ 64 ∧ (r.writes.length : Int) ≤ 64

theorem rightS_iff (r : Rec) : rightS r = true ↔ RightHead r ∧ goodS r.writes = true ∧ readsOK [] r.reads = true := by
  unfold rightS RightHead
  simp only [Bool.and_eq_true, decide_eq_true_eq]
  constructor
  · rintro ⟨⟨⟨⟨⟨⟨⟨h1, h2⟩, h3⟩, h4⟩, h5⟩, h6⟩, h7⟩, h8⟩
    exact ⟨⟨h1, h2, h3, h4, by omega, by omega⟩, h7, h8⟩
  · rintro ⟨⟨h1, h2, h3, h4, h5, h6⟩, h7, h8⟩
    exact ⟨⟨⟨⟨⟨⟨⟨h1, h2⟩, h3⟩, h4⟩, by omega⟩, by omega⟩, h7⟩, h8⟩

/-- A read that asks a key that was asked ahead. -/
def againB (x y : Rd) : Bool := !x.scan && !y.scan && (x.key.toList == y.key.toList)

theorem readsOK_none (l : List Rd) : readsOK [] l = true ↔ ∀ i (hi : i < l.length), goodReadS l[i] = true ∧ (l.take i).any (againB l[i]) = false := by
  rw [readsOK_iff]
  have key : ∀ i (hi : i < l.length), (l[i].scan = false → memB l[i].key [] = false ∧ ∀ j (hj : j < i), l[j].scan = false → l[i].key ≠ l[j].key) ↔ (l.take i).any (againB l[i]) = false := by
    intro i hi
    rw [List.any_eq_false]
    constructor
    · intro h y hy
      obtain ⟨j, hj, rfl⟩ := List.getElem_of_mem hy
      rw [List.length_take] at hj
      rw [List.getElem_take]
      unfold againB
      cases h1 : l[i].scan with
      | true => simp
      | false =>
        have := (h h1).2 j (by omega)
        cases h2 : l[j].scan with
        | true => simp
        | false =>
          have h3 := this h2
          simp only [Bool.not_false, Bool.true_and, beq_iff_eq]
          exact fun e => h3 (toList_inj e)
    · intro h h1
      refine ⟨rfl, fun j hj h2 e => ?_⟩
      refine h l[j] (List.mem_take_iff_getElem.2 ⟨j, by omega, rfl⟩) ?_
      unfold againB
      rw [h1, h2, e]; simp
  constructor
  · intro h i hi; exact ⟨(h i hi).1, (key i hi).1 (h i hi).2⟩
  · intro h i hi; exact ⟨(h i hi).1, (key i hi).2 (h i hi).2⟩

set_option maxRecDepth 100000 in
set_option maxHeartbeats 4000000 in
theorem rright_any (r : Rec) (cs : List Value) (w : World) (hr : RecE w cs r) : Calls Tryz.prog 45 #[.agg cs.toArray] w (Gives w (.bool (rightS r))) := by
  obtain ⟨rv, wv, rfl, -, -, hrd, hwr⟩ := hr
  have hgood := fun W hb => rgood_any r.writes wv W (hwr.mono PairE.mono (w' := W) hb)
  have Hi := Lib.hid (rightS_iff r)
  have Hn := Lib.hid (readsOK_none r.reads)
  have hrd0 := hrd
  obtain ⟨q, cap, rfl, hwc, hwl, hcells⟩ := hrd.readsAt
  obtain ⟨q2, cap2, rfl, hwc2, hwl2, -⟩ := hwr.pairs
  by_cases hh : RightHead r
  · cases hg : goodS r.writes with
    | false =>
      have Hq : Hid (rightS r = false) := Lib.hid (by rw [Bool.eq_false_iff]; intro h; have := (Hi.out.1 h).2.1; rw [hg] at this; cases this)
      rw [hg] at hgood
      obtain ⟨h1, h2, h3, h4, h5, h6⟩ := hh
      clear hcells hrd hrd0 hg
      go_enter Tryz.func45, Tryz.ntmps45
      go_wp2_with (first | (go_at_call 36; refine (hgood _ (below_new _ _)).mono ?_; rintro e w1 ⟨rfl, hb1⟩) | fail)
      all_goals (go_ret; exact ⟨by rw [Hq.out]; rfl, below_trans (below_new _ _) hb1⟩)
    | true =>
      have Ho : Hid (rightS r = readsOK [] r.reads) := Lib.hid (by
        cases h : readsOK [] r.reads with
        | true => exact Hi.out.2 ⟨hh, hg, h⟩
        | false => rw [Bool.eq_false_iff]; intro h'; have := (Hi.out.1 h').2.2; rw [h] at this; cases this)
      rw [hg] at hgood
      obtain ⟨h1, h2, h3, h4, h5, h6⟩ := hh
      clear hg
      go_enter Tryz.func45, Tryz.ntmps45
      go_wp2_with (first | (go_at_call 36; refine (hgood _ (below_new _ _)).mono ?_; rintro e w1 ⟨rfl, hb1⟩; have d3 := bcell hb1 (a := ⟨w.heap.size, 3, none⟩) (v := .slice q r.reads.length cap) (by simp)) | fail)
      have hW := below_trans (below_new w _) hb1
      clear hgood h1 h2 h3 h4
      go_loopw [46] (fun i wr => ∃ k : Nat, k ≤ r.reads.length ∧ i = .int .i64 k ∧ Below w1.heap.size w1 wr ∧ Hid (∀ j, j < k → (h : j < r.reads.length) → goodReadS r.reads[j] = true ∧ (r.reads.take j).any (againB r.reads[j]) = false)) (fun i _ => r.reads.length - (intOf i).toNat)
      case atStart => exact ⟨0, Nat.zero_le _, rfl, Below.refl _ _, Lib.hid (fun j h => by omega)⟩
      case round =>
        obtain ⟨k, hk, rfl, hb, hn⟩ := hrel
        have hbw := below_trans hW hb
        replace d3 := bcell hb d3
        have l3 := World.block_lt_of_cell? _ _ d3
        by_cases hlt : k < r.reads.length
        · obtain ⟨b, off, pq, pn, pc, rfl, hxe, c0, c1, c2, c3⟩ := hcells k hlt
          replace c0 := bcell hbw c0
          replace c1 := bcell hbw c1
          replace c2 := bcell hbw c2
          replace c3 := bcell hbw c3
          have n0 : (0 : Int) ≤ (k : Int) := by omega
          have n1 : (k : Int) < (r.reads.length : Int) := by omega
          have n2 : (k : Int) ≤ (cap : Int) := by omega
          have Hno : Hid (goodReadS r.reads[k] = false ∨ (r.reads.take k).any (againB r.reads[k]) = true → rightS r = false) := Lib.hid fun h => by
            rw [Ho.out, Bool.eq_false_iff]; intro h'
            have := Hn.out.1 h' k hlt
            rcases h with h | h
            · rw [h] at this; cases this.1
            · rw [h] at this; cases this.2
          have hcall := fun W hb => rgoodRead_any r.reads[k] _ W (RdE.mono.mono (w' := W) hb hxe)
          have Hs : Hid (goodReadS r.reads[k] = true → (r.reads.take k).any (againB r.reads[k]) = false → ∀ j, j < k + 1 → (h : j < r.reads.length) → goodReadS r.reads[j] = true ∧ (r.reads.take j).any (againB r.reads[j]) = false) := Lib.hid fun a1 a2 j hj hl => by
            by_cases e : j = k
            · subst e; exact ⟨a1, a2⟩
            · exact hn.out j (by omega) hl
          cases hgr : goodReadS r.reads[k] with
          | false =>
            rw [hgr] at hcall
            have Hq := Lib.hid (Hno.out (.inl hgr))
            clear hcells hrd hrd0 hxe hgr
            generalize r.reads[k] = x at *
            go_wp2_with (first | (go_at_call 70; refine (hcall _ (below_trans hbw (below_new _ _))).mono ?_; rintro e w2 ⟨rfl, hb2⟩) | fail)
            go_ret
            exact ⟨by rw [Hq.out]; rfl, below_trans (below_trans hbw (below_new _ _)) hb2⟩
          | true =>
            rw [hgr] at hcall
            have Hgr := Lib.hid hgr
            clear hrd hrd0 hxe hgr
            have hcells' := Lib.hid hcells
            clear hcells
            generalize hx : r.reads[k] = x at *
            have Hx := Lib.hid hx
            clear hx
            go_wp2_with (first | (go_at_call 70; refine (hcall _ (below_trans hbw (below_new _ _))).mono ?_; rintro e w2 ⟨rfl, hb2⟩; have e0 := bcell hb2 (a := ⟨wr.heap.size, 0, none⟩) (v := .bool x.scan) (by simp); have e1 := bcell hb2 (a := ⟨wr.heap.size, 1, none⟩) (v := .string x.key) (by simp); have f3 := bcell hb2 (a := ⟨w.heap.size, 3, none⟩) (v := .slice (some ⟨b, off, none⟩) r.reads.length cap) (by simpa using bcell (below_new _ _) d3)) | fail)
            have hbw2 := below_trans (below_trans hbw (below_new _ _)) hb2
            have hb3 := below_trans (below_trans hb (below_new _ _)) hb2
            have le0 := World.block_lt_of_cell? _ _ e0
            clear c0 c1 c2 c3 d3 hcall hb2 l3
            obtain ⟨wo, hwo⟩ : ∃ wo : World, wo = wr := ⟨_, rfl⟩
            subst hwo
            go_loopw [59] (fun i wr2 => ∃ j : Nat, j ≤ k ∧ i = .int .i64 j ∧ Below w2.heap.size w2 wr2 ∧ Hid (NoneTo (againB x) (r.reads.take k) j)) (fun i _ => k - (intOf i).toNat)
            case atStart => exact ⟨0, Nat.zero_le _, rfl, Below.refl _ _, Lib.hid (NoneTo.zero _ _)⟩
            case round =>
              obtain ⟨j, hj, rfl, hb4, hn2⟩ := hrel
              have hbw4 := below_trans hbw2 hb4
              by_cases hlt2 : j < k
              · obtain ⟨b', off', pq', pn', pc', hp', -, c0, c1, c2, c3⟩ := hcells'.out j (by omega)
                cases hp'
                have htl : j < (r.reads.take k).length := by rw [List.length_take]; omega
                have hget : (r.reads.take k)[j] = r.reads[j] := List.getElem_take
                have Hs2 := Lib.hid (hn2.out.succ htl)
                have Ha := Lib.hid (any_at (p := againB x) htl)
                rw [hget] at Hs2 Ha
                replace c0 := bcell hbw4 c0
                replace c1 := bcell hbw4 c1
                replace c2 := bcell hbw4 c2
                replace c3 := bcell hbw4 c3
                replace e0 := bcell hb4 e0
                replace e1 := bcell hb4 e1
                have le1 := World.block_lt_of_cell? _ _ e0
                have n3 : (0 : Int) ≤ (j : Int) := by omega
                have n4 : (j : Int) < (k : Int) := by omega
                have HB : Hid (∀ y, againB x y = (!x.scan && !y.scan && (x.key.toList == y.key.toList))) := Lib.hid fun y => rfl
                clear hget htl
                generalize r.reads[j] = y at *
                cases h1 : x.scan <;> cases h2 : y.scan <;> cases h3 : (x.key.toList == y.key.toList) <;>
                  (rw [h1] at e0
                   rw [h2] at c0
                   go_wp2_with fail
                   first
                     | (go_ret
                        go_light
                        refine ⟨?_, below_trans hbw4 (below_new _ _)⟩
                        rw [Hno.out (.inr (Ha.out (by rw [HB.out]; simp [*])))]; rfl)
                     | (go_roundw
                        case rel =>
                          go_light
                          exact ⟨j + 1, hlt2, by go_num, below_trans hb4 (below_new _ _), Lib.hid (Hs2.out (by rw [HB.out]; simp [*]))⟩
                        case measure => go_light; simp [intOf]; omega))
              · have hje : j = k := by omega
                subst hje
                have hall : (r.reads.take j).any (againB x) = false := by
                  apply NoneTo.any
                  have : (r.reads.take j).length = j := by rw [List.length_take]; omega
                  rw [this]; exact hn2.out
                have Hall := Lib.hid hall
                clear hall
                go_wp2_with fail
                go_roundw
                case rel => exact ⟨j + 1, hlt, by go_num, below_trans hb3 hb4, Lib.hid (Hs.out Hgr.out Hall.out)⟩
                case measure => simp [intOf]; omega
        · have hke : k = r.reads.length := by omega
          have hall : readsOK [] r.reads = true := Hn.out.2 fun i hi => hn.out i (by omega) hi
          subst hke
          have Hall := Lib.hid hall
          clear hcells hrd hrd0 hall
          go_wp2_with fail
          go_ret
          exact ⟨by rw [Ho.out, Hall.out]; rfl, hbw⟩
  · have Hq : Hid (rightS r = false) := Lib.hid (by rw [Bool.eq_false_iff]; intro h; exact hh (Hi.out.1 h).1)
    have hh' : Hid (¬ RightHead r) := Lib.hid hh
    clear hcells hrd hrd0 hh
    go_enter Tryz.func45, Tryz.ntmps45
    go_wp2_with (first | (go_at_call 36; refine (hgood _ (below_new _ _)).mono ?_; rintro e w1 ⟨rfl, hb1⟩) | fail)
    all_goals first
      | (go_ret; exact ⟨by rw [Hq.out]; rfl, below_trans (below_new _ _) hb1⟩)
      | (go_ret; exact ⟨by rw [Hq.out]; rfl, below_new _ _⟩)
      | (exfalso; go_light; apply hh'.out; unfold RightHead; refine ⟨by omega, by omega, by omega, by omega, by omega, by omega⟩)

end Go.Proofs.YtgmcpfcpdmnebaaGreat
