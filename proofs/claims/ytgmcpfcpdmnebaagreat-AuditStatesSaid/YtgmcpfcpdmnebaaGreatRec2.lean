/- Package record: which records may be, but for how many bytes they have. -/
import Derived.Test.YtgmcpfcpdmnebaaGreatRec
namespace Go.Proofs.YtgmcpfcpdmnebaaGreat
open Go.RowKit Go.Proofs Go.Shelf

def memB (k : ByteArray) (sn : List ByteArray) : Bool := sn.any fun y => decide (k = y)

def readsOK : List ByteArray → List Rd → Bool
  | _, [] => true
  | sn, x :: r => goodReadS x && !(!x.scan && memB x.key sn) && readsOK (if x.scan then sn else x.key :: sn) r

def rightS (r : Rec) : Bool :=
  decide (1 ≤ r.session) && decide (r.session ≤ 8) && decide (0 ≤ r.snap) && decide (r.snap ≤ 1099511627776) && decide (r.reads.length ≤ 64) && decide (r.writes.length ≤ 64) && goodS r.writes && readsOK [] r.reads

/-- A slice of reads, opened. -/
theorem SlP.readsAt {w : World} {v : Value} {l : List Rd} (h : SlP 4 RdE w v l) : ∃ q cap, v = .slice q l.length cap ∧ l.length ≤ cap ∧ l.length ≤ 9223372036854775807 ∧
    ∀ j, (h : j < l.length) → ∃ b off pq pn pc, q = some ⟨b, off, none⟩ ∧ RdE w [.bool l[j].scan, .string l[j].key, .string l[j].to, .slice pq pn pc] l[j] ∧
      w.cell? ⟨b, off + j * 4, none⟩ = some (.bool l[j].scan) ∧ w.cell? ⟨b, off + j * 4 + 1, none⟩ = some (.string l[j].key) ∧ w.cell? ⟨b, off + j * 4 + 2, none⟩ = some (.string l[j].to) ∧ w.cell? ⟨b, off + j * 4 + 3, none⟩ = some (.slice pq pn pc) := by
  obtain ⟨q, cap, hv, h1, h2, _, h3⟩ := h
  refine ⟨q, cap, hv, h1, h2, fun j hj => ?_⟩
  obtain ⟨b, off, cs, hp, hk, he, hc⟩ := h3 j hj
  have he0 := he
  obtain ⟨pv, rfl, -, -, hpv⟩ := he
  obtain ⟨pq, pc, rfl, -⟩ := hpv
  exact ⟨b, off, pq, _, pc, hp, he0, hc 0 (by simp), hc 1 (by simp), hc 2 (by simp), hc 3 (by simp)⟩

theorem readsOK_at (sn : List ByteArray) (l : List Rd) (k : Nat) (hk : k < l.length) : readsOK sn (l.drop k) = (goodReadS l[k] && !(!l[k].scan && memB l[k].key sn) && readsOK (if l[k].scan then sn else l[k].key :: sn) (l.drop (k + 1))) := by
  rw [List.drop_eq_getElem_cons hk]; rfl

def SeenIs (m : List (ByteArray × Value)) (sn : List ByteArray) : Prop := ∀ key, mget m key = if memB key sn then some (Value.bool true) else none

theorem SeenIs.cons {m : List (ByteArray × Value)} {sn : List ByteArray} (h : SeenIs m sn) (k : ByteArray) : SeenIs (mset m k (.bool true)) (k :: sn) := by
  intro key
  rw [mget_set, h key]
  unfold memB
  rw [List.any_cons]
  by_cases e : key = k
  · simp [e]
  · rw [if_neg e, decide_eq_false e, Bool.false_or]

set_option maxRecDepth 100000 in
set_option maxHeartbeats 2000000 in
/-- The loop over the reads, from what was tested ahead of it on. -/
theorem right_loop (r : Rec) (cs : List Value) (w : World) (hr : RecE w cs r) (hpre : 1 ≤ r.session ∧ r.session ≤ 8 ∧ 0 ≤ r.snap ∧ r.snap ≤ 1099511627776 ∧ (r.reads.length : Int) ≤ 64 ∧ (r.writes.length : Int) ≤ 64) (hg : goodS r.writes = true) :
    Calls Tryz.prog 38 #[.agg cs.toArray] w (Gives w (.bool (readsOK [] r.reads))) := by
  obtain ⟨rv, wv, rfl, -, -, hrd, hw⟩ := hr
  have hgood := fun W hb => good_any r.writes wv W (hw.mono PairE.mono (w' := W) hb)
  rw [hg] at hgood
  obtain ⟨q, cap, rfl, hlc, hcap, hcells⟩ := hrd.readsAt
  obtain ⟨qw, capw, rfl, -, -, -, -⟩ := hw
  obtain ⟨p1, p2, p3, p4, p5, p6⟩ := hpre
  have hmm := @run_makeMap Tryz.prog
  have hz : ∀ w, (zeroValue 4).run Tryz.prog w = .ok (.bool false) w := fun _ => by kernel_rfl
  have hK : KeyK Tryz.prog 9 Value.string := KeyK.string Tryz.underlying9
  obtain ⟨se, sp, st, rd, wr⟩ := r
  dsimp only at *
  go_enter Tryz.func38, Tryz.ntmps38
  go_wp2_with (first
    | (go_at_call 32; refine (hgood _ (below_new _ _)).mono ?_; rintro e w1 ⟨rfl, hb1⟩; have c3 := bcell hb1 (a := ⟨w.heap.size, 3, none⟩) (v := .slice q rd.length cap) (by simp); have hsz1 : w.heap.size < w1.heap.size := by have := hb1.size; simp at this; omega))
  have hb1w := below_trans (below_new _ _) hb1
  have hm0 : MapA Value.string (w1.alloc (.map #[] 0)) w1.heap.size [] := MapA.made w1
  clear c3 hb1 hgood hmm
  go_loopw [44] (fun i wr => ∃ (k : Nat) (m : List (ByteArray × Value)) (sn : List ByteArray), k ≤ rd.length ∧ i = .int .i64 k ∧ Below w1.heap.size w1 wr ∧ MapA Value.string wr w1.heap.size m ∧ SeenIs m sn ∧ Hid (readsOK [] rd = readsOK sn (rd.drop k))) (fun i _ => rd.length - (intOf i).toNat)
  case atStart => exact ⟨0, [], [], Nat.zero_le _, rfl, below_new _ _, hm0, fun _ => rfl, Lib.hid rfl⟩
  case round =>
    obtain ⟨k, m, sn, hk, rfl, hb, hm, hsn, hx⟩ := hrel
    by_cases hlt : k < rd.length
    · obtain ⟨b, off, pq, pn, pc, rfl, he, c0, c1, c2, c3⟩ := hcells k hlt
      have hbw : Below w.heap.size w wr := below_trans hb1w hb
      have d0 := bcell hbw c0
      have d1 := bcell hbw c1
      have d2 := bcell hbw c2
      have d3 := bcell hbw c3
      have hcall := fun W hb' => goodRead_any rd[k] _ W (RdE.mono.mono (w' := W) (below_trans hbw hb') he)
      have hstep := readsOK_at sn rd k hlt
      clear c0 c1 c2 c3 he hcells
      generalize rd[k] = x at *
      have Hstep := Lib.hid hstep
      clear hstep
      have hml := hm.lt
      cases hgp : goodReadS x with
      | false =>
        rw [hgp] at hcall
        have Hgp := Lib.hid hgp
        clear hgp
        go_wp2_with (first
          | (go_at_call 56; refine (hcall _ (below_new _ _)).mono ?_; rintro e w2 ⟨rfl, hb2⟩))
        go_ret
        exact ⟨by rw [hx.out, Hstep.out, Hgp.out]; rfl, below_trans hbw (below_trans (below_new _ _) hb2)⟩
      | true =>
        rw [hgp] at hcall
        have Hgp := Lib.hid hgp
        clear hgp
        obtain ⟨sc, xk, xt, xp⟩ := x
        dsimp only at *
        cases sc with
        | true =>
          go_wp2_with (first
            | (go_at_call 56; refine (hcall _ (below_new _ _)).mono ?_; rintro e w2 ⟨rfl, hb2⟩; have e0 := bcell hb2 (a := ⟨wr.heap.size, 0, none⟩) (v := .bool true) (by simp)))
          go_roundw
          case rel => exact ⟨k + 1, m, sn, hlt, by go_num, below_trans hb (below_trans (below_new _ _) hb2), (hm.below (below_new _ _)).below hb2, hsn, Lib.hid (by rw [hx.out, Hstep.out, Hgp.out]; simp)⟩
          case measure => simp [intOf]; omega
        | false =>
          have hlook := fun W (hW : MapA Value.string W w1.heap.size m) => hW.lookup hK Tryz.underlying77 hz xk
          rw [hsn xk] at hlook
          cases hme : memB xk sn with
          | true =>
            simp only [hme, if_true, Option.getD_some] at hlook
            have Hme := Lib.hid hme
            clear hme
            go_wp2_with (first
              | (go_at_call 56; refine (hcall _ (below_new _ _)).mono ?_; rintro e w2 ⟨rfl, hb2⟩; have e0 := bcell hb2 (a := ⟨wr.heap.size, 0, none⟩) (v := .bool false) (by simp); have e1 := bcell hb2 (a := ⟨wr.heap.size, 1, none⟩) (v := .string xk) (by simp); have hl2 := hlook w2 ((hm.below (below_new _ _)).below hb2)))
            go_ret
            exact ⟨by rw [hx.out, Hstep.out, Hgp.out, Hme.out]; rfl, below_trans hbw (below_trans (below_new _ _) hb2)⟩
          | false =>
            simp only [hme, Bool.false_eq_true, if_false, Option.getD_none] at hlook
            have Hme := Lib.hid hme
            clear hme
            go_wp2_with (first
              | (go_at_call 56; refine (hcall _ (below_new _ _)).mono ?_; rintro e w2 ⟨rfl, hb2⟩; have e0 := bcell hb2 (a := ⟨wr.heap.size, 0, none⟩) (v := .bool false) (by simp); have e1 := bcell hb2 (a := ⟨wr.heap.size, 1, none⟩) (v := .string xk) (by simp); have hm2 := (hm.below (below_new _ _)).below hb2; have hl2 := hlook w2 hm2)
              | (refine wpList_mapSet rfl _ _ _ _ rfl hK Tryz.underlying77 rfl hm2 xk rfl _ rfl ?_; intro w3 hm3 hg3))
            have hb3 : Below w1.heap.size w1 w3 := grown_below (below_trans hb (below_trans (below_new _ _) hb2)) hg3 (below_trans hb (below_trans (below_new _ _) hb2)).size (fun k hk => by cases hk; exact Nat.le_refl _)
            go_roundw
            case rel => exact ⟨k + 1, _, xk :: sn, hlt, by go_num, hb3, hm3, hsn.cons xk, Lib.hid (by rw [hx.out, Hstep.out, Hgp.out, Hme.out]; simp)⟩
            case measure => simp [intOf]; omega
    · have : k = rd.length := by omega
      subst this
      go_wp2
      go_ret
      exact ⟨by rw [hx.out]; simp [readsOK], below_trans hb1w hb⟩

set_option maxRecDepth 100000 in
set_option maxHeartbeats 2000000 in
/-- right -/
theorem right_any (r : Rec) (cs : List Value) (w : World) (hr : RecE w cs r) : Calls Tryz.prog 38 #[.agg cs.toArray] w (Gives w (.bool (rightS r))) := by
  have hq : rightS r = (decide (1 ≤ r.session) && decide (r.session ≤ 8) && decide (0 ≤ r.snap) && decide (r.snap ≤ 1099511627776) && decide (r.reads.length ≤ 64) && decide (r.writes.length ≤ 64) && goodS r.writes && readsOK [] r.reads) := rfl
  have hloop := right_loop r cs w hr
  obtain ⟨rv, wv, rfl, -, -, hrd, hw⟩ := hr
  have hgood := fun W hb => good_any r.writes wv W (hw.mono PairE.mono (w' := W) hb)
  obtain ⟨q, cap, rfl, hlc, hcap, -, -⟩ := hrd
  obtain ⟨qw, capw, rfl, hlw, hcapw, -, -⟩ := hw
  generalize readsOK [] r.reads = rq at *
  generalize goodS r.writes = gq at *
  generalize rightS r = fq at *
  have Hq := Lib.hid hq
  have Hloop := Lib.hid hloop
  clear hq hloop
  obtain ⟨se, sp, st, rd, wr⟩ := r
  dsimp only at *
  by_cases a1 : 1 ≤ se
  · skip
    by_cases a2 : se ≤ 8
    · skip
      by_cases a3 : 0 ≤ sp
      · skip
        by_cases a4 : sp ≤ 1099511627776
        · skip
          by_cases a5 : (rd.length : Int) ≤ 64
          · skip
            by_cases a6 : (wr.length : Int) ≤ 64
            · skip
              cases gq with
              | true =>
                have e : fq = rq := by rw [Hq.out]; simp [a1, a2, a3, a4, show rd.length ≤ 64 by omega, show wr.length ≤ 64 by omega]
                rw [e]; exact Hloop.out ⟨a1, a2, a3, a4, a5, a6⟩ rfl
              | false =>
                go_enter Tryz.func38, Tryz.ntmps38
                go_wp2_with (first
                  | (go_at_call 32; refine (hgood _ (below_new _ _)).mono ?_; rintro e w1 ⟨rfl, hb1⟩))
                go_ret
                exact ⟨by rw [Hq.out]; simp, below_trans (below_new _ _) hb1⟩
            · have b0 : decide ((64 : Int) < (wr.length : Int)) = true := by simp; omega
              have b1 : decide ((64 : Int) < (rd.length : Int)) = false := by simp; omega
              go_enter Tryz.func38, Tryz.ntmps38
              go_wp2
              go_ret
              exact ⟨by rw [Hq.out]; rw [(by simp; omega : decide (wr.length ≤ 64) = false)]; simp, below_new _ _⟩
          · have b0 : decide ((64 : Int) < (rd.length : Int)) = true := by simp; omega
            go_enter Tryz.func38, Tryz.ntmps38
            go_wp2
            go_ret
            exact ⟨by rw [Hq.out]; rw [(by simp; omega : decide (rd.length ≤ 64) = false)]; simp, below_new _ _⟩
        · go_enter Tryz.func38, Tryz.ntmps38
          go_wp2
          go_ret
          exact ⟨by rw [Hq.out, decide_eq_false (by omega : ¬ sp ≤ 1099511627776)]; simp, below_new _ _⟩
      · go_enter Tryz.func38, Tryz.ntmps38
        go_wp2
        go_ret
        exact ⟨by rw [Hq.out, decide_eq_false (by omega : ¬ 0 ≤ sp)]; simp, below_new _ _⟩
    · go_enter Tryz.func38, Tryz.ntmps38
      go_wp2
      go_ret
      exact ⟨by rw [Hq.out, decide_eq_false (by omega : ¬ se ≤ 8)]; simp, below_new _ _⟩
  · go_enter Tryz.func38, Tryz.ntmps38
    go_wp2
    go_ret
    exact ⟨by rw [Hq.out, decide_eq_false (by omega : ¬ 1 ≤ se)]; simp, below_new _ _⟩


end Go.Proofs.YtgmcpfcpdmnebaaGreat
