/- Package certify: Wrote, Touches, Clash, Stale, May. -/
import Derived.Test.YtgmcpfcpdmnebaaGreatCert2
namespace Go.Proofs.YtgmcpfcpdmnebaaGreat
open Go.RowKit Go.Proofs Go.Shelf

theorem inRange_lo {k lo hi : ByteArray} (h : inRange k lo hi = true) : ltB k lo = false := by
  unfold inRange at h; simp at h; exact h.1

theorem inRange_down {a b lo hi : ByteArray} (h1 : ltB a lo = false) (h2 : ltB b a = false) (h : inRange b lo hi = true) : inRange a lo hi = true := by
  unfold inRange at *
  simp only [Bool.and_eq_true, Bool.not_eq_true'] at *
  exact ⟨h1, ltB_lt_of_ge h2 h.2⟩

theorem eqB_lo {k lo : ByteArray} (h : eqB k lo = true) : ltB k lo = false := by
  have := eqB_iff.1 h
  rw [ltB_eq, decide_eq_false_iff_not, this]
  exact List.lt_irrefl _

theorem eqB_down {a b lo : ByteArray} (h1 : ltB a lo = false) (h2 : ltB b a = false) (h : eqB b lo = true) : eqB a lo = true := by
  refine ltB_antisymm h1 ?_
  rw [ltB_eq] at *
  rw [← eqB_iff.1 h]
  exact h2

theorem eqB_self (a : ByteArray) : eqB a a = true := eqB_iff.2 rfl

/-- Wrote -/
theorem wrote_any (r : Rec) (cs : List Value) (k : ByteArray) (w : World) (hr : RecE w cs r) : Calls Tryz.prog 66 #[.agg cs.toArray, .string k] w (Gives w (.bool (wroteS r k))) := by
  have hE := hr
  obtain ⟨rv, wv, rfl, -, -, -, -⟩ := hr
  have eg : ∀ args w, (callFunc 94 args).run Tryz.prog w = .ok (.enter 94 args) w := enters_of Tryz.func94 (by kernel_rfl) rfl
  have hcall := fun W hb hC => within_any r _ 94 #[.pointer (some ⟨w.heap.size + 1, 0, none⟩)] eg (fun x => eqB x k) k W (RecE.mono.mono (w' := W) hb hE)
    (fun x W' hb' => wrote1 x k (w.heap.size + 1) W' (bcell hb' hC)) (fun _ => eqB_lo) (fun _ _ => eqB_down)
  change ∀ W hb hC, Calls _ _ _ W (Gives W (.bool (wroteS r k))) at hcall
  generalize wroteS r k = q at hcall ⊢
  go_enter Tryz.func66, Tryz.ntmps66
  go_wp2_with (refine (hcall _ (below_alloc (below_new _ _) _) (by simp)).mono ?_; rintro e w1 ⟨rfl, hb1⟩)
  go_ret
  exact ⟨rfl, below_trans (below_alloc (below_new _ _) _) hb1⟩

set_option maxHeartbeats 400000 in
/-- Touches -/
theorem touches_any (r : Rec) (x : Rd) (cs ds : List Value) (w : World) (hr : RecE w cs r) (hx : RdE w ds x) : Calls Tryz.prog 69 #[.agg cs.toArray, .agg ds.toArray] w (Gives w (.bool (touchesS r x))) := by
  have hE := hr
  have hD := hx
  obtain ⟨rv, wv, rfl, -, -, -, -⟩ := hr
  obtain ⟨pv, rfl, -, -, -⟩ := hx
  have eg : ∀ args w, (callFunc 95 args).run Tryz.prog w = .ok (.enter 95 args) w := enters_of Tryz.func95 (by kernel_rfl) rfl
  cases hs : x.scan with
  | true =>
    have hcall := fun W hb hB => within_any r _ 95 #[.pointer (some ⟨w.heap.size + 1, 0, none⟩)] eg (fun k => inRange k x.key x.to) x.key W (RecE.mono.mono (w' := W) hb hE)
      (fun k W' hb' => touches1 k x (w.heap.size + 1) W' (BoxP.mono RdE.mono hb' hB)) (fun _ => inRange_lo) (fun _ _ => inRange_down)
    have hbx := (box_new RdE.mono (w.alloc (.cells #[.int .i64 r.session, .int .i64 r.snap, .bool r.strict, rv, wv] 32)) _ 37 (RdE.mono.mono (below_new _ _) hD))
    simp only [World.size_alloc] at hbx
    have hq : touchesS r x = r.writes.any fun p => inRange p.key x.key x.to := by unfold touchesS; simp [hs]
    rw [hs] at hbx
    generalize (r.writes.any fun p => inRange p.key x.key x.to) = q at hcall hq
    have Hq := Lib.hid hq
    clear hq
    go_enter Tryz.func69, Tryz.ntmps69
    go_wp2_with (refine (hcall _ (below_alloc (below_new _ _) _) hbx).mono ?_; rintro e w1 ⟨rfl, hb1⟩)
    go_ret
    exact ⟨by rw [Hq.out]; rfl, below_trans (below_alloc (below_new _ _) _) hb1⟩
  | false =>
    have hcall := fun W hb => wrote_any r _ x.key W (RecE.mono.mono (w' := W) hb hE)
    have hq : touchesS r x = wroteS r x.key := by unfold touchesS wroteS; simp [hs]
    generalize wroteS r x.key = q at hcall hq
    have Hq := Lib.hid hq
    clear hq
    go_enter Tryz.func69, Tryz.ntmps69
    go_wp2_with (refine (hcall _ (below_alloc (below_new _ _) _)).mono ?_; rintro e w1 ⟨rfl, hb1⟩)
    go_ret
    exact ⟨by rw [Hq.out]; rfl, below_trans (below_alloc (below_new _ _) _) hb1⟩

/-- Clash$1$1 -/
theorem clash11 (o : Rec) (x : Pair) (cs : List Value) (B : Nat) (w : World) (hx : PairE w cs x) (hB : BoxP RecE w B o) : Calls Tryz.prog 65 #[.agg cs.toArray, .pointer (some ⟨B, 0, none⟩)] w (Gives w (.bool (wroteS o x.key))) := by
  obtain ⟨rfl, -, -⟩ := hx
  obtain ⟨ds, hE, hc⟩ := hB
  have hE0 := hE
  obtain ⟨rv, wv, rfl, -, -, -, -⟩ := hE
  have c0 := hc 0 (by simp)
  have c1 := hc 1 (by simp)
  have c2 := hc 2 (by simp)
  have c3 := hc 3 (by simp)
  have c4 := hc 4 (by simp)
  simp only [List.getElem_cons_zero, List.getElem_cons_succ] at c0 c1 c2 c3 c4
  have hBl := World.block_lt_of_cell? w _ c0
  have hcall := fun W hb => wrote_any o _ x.key W (RecE.mono.mono (w' := W) hb hE0)
  generalize wroteS o x.key = q at hcall ⊢
  clear hc
  go_enter Tryz.func65, Tryz.ntmps65
  go_wp2_with (refine (hcall _ (below_new _ _)).mono ?_; rintro e w1 ⟨rfl, hb1⟩)
  go_ret
  exact ⟨rfl, below_trans (below_new _ _) hb1⟩

/-- Clash$1 -/
theorem clash1 (r o : Rec) (cs : List Value) (B : Nat) (w : World) (ho : RecE w cs o) (hB : BoxP RecE w B r) : Calls Tryz.prog 63 #[.agg cs.toArray, .pointer (some ⟨B, 0, none⟩)] w (Gives w (.bool (r.writes.any fun p => wroteS o p.key))) := by
  have hE := ho
  obtain ⟨rv, wv, rfl, -, -, -, -⟩ := ho
  obtain ⟨rv', wv', -, hw, c0, -, -, -, c4⟩ := box_rec hB
  have hBl := World.block_lt_of_cell? w _ c0
  have eg : ∀ args w, (callFunc 65 args).run Tryz.prog w = .ok (.enter 65 args) w := enters_of Tryz.func65 (by kernel_rfl) rfl
  have hbx := box_new RecE.mono w _ 32 hE
  have hcall := containsFunc_pair 65 #[.pointer (some ⟨w.heap.size, 0, none⟩)] eg (fun p => wroteS o p.key) r.writes _ _ (hw.mono PairE.mono (below_new w (.cells #[.int .i64 o.session, .int .i64 o.snap, .bool o.strict, rv, wv] 32)))
    (fun x _ W cs' hb he => clash11 o x cs' w.heap.size W he (hbx.mono RecE.mono hb))
  generalize (r.writes.any fun p => wroteS o p.key) = q at hcall ⊢
  go_enter Tryz.func63, Tryz.ntmps63
  go_wp2_with (refine hcall.mono ?_; rintro e w1 ⟨rfl, hb1⟩)
  go_ret
  exact ⟨rfl, below_trans (below_new _ _) hb1⟩

/-- Clash -/
theorem clash_any (r : Rec) (later : List Rec) (cs : List Value) (v : Value) (w : World) (hr : RecE w cs r) (hv : SlP 5 RecE w v later) : Calls Tryz.prog 43 #[.agg cs.toArray, v] w (Gives w (.int .i64 (clashS r later))) := by
  have hE := hr
  obtain ⟨rv, wv, rfl, -, -, -, -⟩ := hr
  have eg : ∀ args w, (callFunc 63 args).run Tryz.prog w = .ok (.enter 63 args) w := enters_of Tryz.func63 (by kernel_rfl) rfl
  have hbx := box_new RecE.mono w _ 32 hE
  have hcall := indexFunc_record 63 #[.pointer (some ⟨w.heap.size, 0, none⟩)] eg (fun o => r.writes.any fun p => wroteS o p.key) later v _ (hv.mono RecE.mono (below_new w (.cells #[.int .i64 r.session, .int .i64 r.snap, .bool r.strict, rv, wv] 32)))
    (fun x _ W cs' hb he => clash1 r x cs' w.heap.size W he (hbx.mono RecE.mono hb))
  change Calls _ _ _ _ (Gives _ (.int .i64 (clashS r later))) at hcall
  generalize clashS r later = q at hcall ⊢
  clear hv
  go_enter Tryz.func43, Tryz.ntmps43
  go_wp2_with (refine hcall.mono ?_; rintro e w1 ⟨rfl, hb1⟩)
  go_ret
  exact ⟨rfl, below_trans (below_new _ _) hb1⟩

/-- Stale$1$1 -/
theorem stale11 (o : Rec) (x : Rd) (cs : List Value) (B : Nat) (w : World) (hx : RdE w cs x) (hB : BoxP RecE w B o) : Calls Tryz.prog 68 #[.agg cs.toArray, .pointer (some ⟨B, 0, none⟩)] w (Gives w (.bool (touchesS o x))) := by
  have hD := hx
  obtain ⟨pv, rfl, -, -, -⟩ := hx
  obtain ⟨ds, hE, hc⟩ := hB
  have hE0 := hE
  obtain ⟨rv, wv, rfl, -, -, -, -⟩ := hE
  have c0 := hc 0 (by simp)
  have c1 := hc 1 (by simp)
  have c2 := hc 2 (by simp)
  have c3 := hc 3 (by simp)
  have c4 := hc 4 (by simp)
  simp only [List.getElem_cons_zero, List.getElem_cons_succ] at c0 c1 c2 c3 c4
  have hBl := World.block_lt_of_cell? w _ c0
  have hcall := fun W hb => touches_any o x _ _ W (RecE.mono.mono (w' := W) hb hE0) (RdE.mono.mono hb hD)
  generalize touchesS o x = q at hcall ⊢
  clear hc
  go_enter Tryz.func68, Tryz.ntmps68
  go_wp2_with (refine (hcall _ (below_new _ _)).mono ?_; rintro e w1 ⟨rfl, hb1⟩)
  go_ret
  exact ⟨rfl, below_trans (below_new _ _) hb1⟩

/-- Stale$1 -/
theorem stale1 (r o : Rec) (cs : List Value) (B : Nat) (w : World) (ho : RecE w cs o) (hB : BoxP RecE w B r) : Calls Tryz.prog 67 #[.agg cs.toArray, .pointer (some ⟨B, 0, none⟩)] w (Gives w (.bool (r.reads.any fun x => touchesS o x))) := by
  have hE := ho
  obtain ⟨rv, wv, rfl, -, -, -, -⟩ := ho
  obtain ⟨rv', wv', hw, -, c0, -, -, c3, -⟩ := box_rec hB
  have hBl := World.block_lt_of_cell? w _ c0
  have eg : ∀ args w, (callFunc 68 args).run Tryz.prog w = .ok (.enter 68 args) w := enters_of Tryz.func68 (by kernel_rfl) rfl
  have hbx := box_new RecE.mono w _ 32 hE
  have hcall := containsFunc_read 68 #[.pointer (some ⟨w.heap.size, 0, none⟩)] eg (fun x => touchesS o x) r.reads _ _ (hw.mono RdE.mono (below_new w (.cells #[.int .i64 o.session, .int .i64 o.snap, .bool o.strict, rv, wv] 32)))
    (fun x _ W cs' hb he => stale11 o x cs' w.heap.size W he (hbx.mono RecE.mono hb))
  generalize (r.reads.any fun x => touchesS o x) = q at hcall ⊢
  go_enter Tryz.func67, Tryz.ntmps67
  go_wp2_with (refine hcall.mono ?_; rintro e w1 ⟨rfl, hb1⟩)
  go_ret
  exact ⟨rfl, below_trans (below_new _ _) hb1⟩

/-- Stale -/
theorem stale_any (r : Rec) (later : List Rec) (cs : List Value) (v : Value) (w : World) (hr : RecE w cs r) (hv : SlP 5 RecE w v later) : Calls Tryz.prog 44 #[.agg cs.toArray, v] w (Gives w (.int .i64 (staleS r later))) := by
  have hE := hr
  obtain ⟨rv, wv, rfl, -, -, -, -⟩ := hr
  have eg : ∀ args w, (callFunc 67 args).run Tryz.prog w = .ok (.enter 67 args) w := enters_of Tryz.func67 (by kernel_rfl) rfl
  have hbx := box_new RecE.mono w _ 32 hE
  have hcall := indexFunc_record 67 #[.pointer (some ⟨w.heap.size, 0, none⟩)] eg (fun o => r.reads.any fun x => touchesS o x) later v _ (hv.mono RecE.mono (below_new w (.cells #[.int .i64 r.session, .int .i64 r.snap, .bool r.strict, rv, wv] 32)))
    (fun x _ W cs' hb he => stale1 r x cs' w.heap.size W he (hbx.mono RecE.mono hb))
  change Calls _ _ _ _ (Gives _ (.int .i64 (staleS r later))) at hcall
  generalize staleS r later = q at hcall ⊢
  clear hv
  go_enter Tryz.func44, Tryz.ntmps44
  go_wp2_with (refine hcall.mono ?_; rintro e w1 ⟨rfl, hb1⟩)
  go_ret
  exact ⟨rfl, below_trans (below_new _ _) hb1⟩

/-- May -/
theorem may_any (r : Rec) (later : List Rec) (cs : List Value) (v : Value) (w : World) (hr : RecE w cs r) (hv : SlP 5 RecE w v later) : Calls Tryz.prog 26 #[.agg cs.toArray, v] w (Gives w (.int .i64 (mayS r later))) := by
  have hE := hr
  obtain ⟨rv, wv, rfl, -, -, -, -⟩ := hr
  have hclash := fun W hb => clash_any r later _ v W (RecE.mono.mono (w' := W) hb hE) (hv.mono RecE.mono hb)
  have hstale := fun W hb => stale_any r later _ v W (RecE.mono.mono (w' := W) hb hE) (hv.mono RecE.mono hb)
  have hq : mayS r later = if decide (0 ≤ clashS r later) || r.strict && decide (0 ≤ staleS r later) then 10 else 0 := rfl
  generalize mayS r later = m at hq ⊢
  generalize clashS r later = c at hclash hq
  generalize staleS r later = t at hstale hq
  generalize r.strict = sb at hq hclash hstale
  have Hq := Lib.hid hq
  clear hq hv hE
  by_cases hc : 0 ≤ c
  · go_enter Tryz.func26, Tryz.ntmps26
    go_wp2_with (first
      | (go_at_call 43; refine (hclash _ (below_new _ _)).mono ?_; rintro e w1 ⟨rfl, hb1⟩))
    go_ret
    exact ⟨by rw [Hq.out]; simp [hc], below_trans (below_new _ _) hb1⟩
  · cases sb with
    | false =>
      go_enter Tryz.func26, Tryz.ntmps26
      go_wp2_with (first
        | (go_at_call 43; refine (hclash _ (below_new _ _)).mono ?_; rintro e w1 ⟨rfl, hb1⟩; have c2 := bcell hb1 (a := ⟨w.heap.size, 2, none⟩) (v := .bool false) (by simp)))
      go_ret
      exact ⟨by rw [Hq.out]; simp [hc], below_trans (below_new _ _) hb1⟩
    | true =>
      go_enter Tryz.func26, Tryz.ntmps26
      go_wp2_with (first
        | (go_at_call 43; refine (hclash _ (below_new _ _)).mono ?_; rintro e w1 ⟨rfl, hb1⟩; have c0 := bcell hb1 (a := ⟨w.heap.size, 0, none⟩) (v := .int .i64 r.session) (by simp); have c1 := bcell hb1 (a := ⟨w.heap.size, 1, none⟩) (v := .int .i64 r.snap) (by simp); have c2 := bcell hb1 (a := ⟨w.heap.size, 2, none⟩) (v := .bool true) (by simp); have c3 := bcell hb1 (a := ⟨w.heap.size, 3, none⟩) (v := rv) (by simp); have c4 := bcell hb1 (a := ⟨w.heap.size, 4, none⟩) (v := wv) (by simp))
        | (go_at_call 44; refine (hstale _ (below_trans (below_new _ _) hb1)).mono ?_; rintro e w2 ⟨rfl, hb2⟩))
      all_goals (go_ret; refine ⟨?_, below_trans (below_trans (below_new _ _) hb1) hb2⟩; rw [Hq.out]; simp_all)

end Go.Proofs.YtgmcpfcpdmnebaaGreat
