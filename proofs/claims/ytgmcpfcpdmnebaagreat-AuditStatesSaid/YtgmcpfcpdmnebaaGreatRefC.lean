/- The references of layers 14 and 8: Stale, May, Same. -/
import Derived.Test.YtgmcpfcpdmnebaaGreatRefB
namespace Go.Proofs.YtgmcpfcpdmnebaaGreat
open Go.RowKit Go.Proofs Go.Shelf

set_option maxRecDepth 100000 in
set_option maxHeartbeats 2000000 in
theorem rstale_any (r : Rec) (later : List Rec) (cs : List Value) (v : Value) (w : World) (hr : RecE w cs r) (hv : SlP 5 RecE w v later) : Calls Tryz.prog 49 #[.agg cs.toArray, v] w (Gives w (.int .i64 (staleS r later))) := by
  obtain ⟨rv, wv, rfl, -, -, hwr, -⟩ := hr
  obtain ⟨q, cap, rfl, hwc, hwl, hcells⟩ := hwr.readsAt
  obtain ⟨q2, cap2, rfl, hlc, hll, -, hlcells⟩ := hv.recsAt
  have hq : staleS r later = idx (fun o => r.reads.any fun x => touchesS o x) later 0 := rfl
  go_enter Tryz.func49, Tryz.ntmps49
  go_wp2_with fail
  generalize hB0 : (w.alloc (.cells #[.int .i64 r.session, .int .i64 r.snap, .bool r.strict, .slice q r.reads.length cap, wv] 32)) = W0
  have hW : Below w.heap.size w W0 := by rw [← hB0]; exact below_new _ _
  have d4 : W0.cell? ⟨w.heap.size, 3, none⟩ = some (.slice q r.reads.length cap) := by rw [← hB0]; simp
  clear hB0
  go_loopw [11] (fun i wr => ∃ k : Nat, k ≤ later.length ∧ i = .int .i64 k ∧ Below W0.heap.size W0 wr ∧ Hid (NoneTo (fun o => r.reads.any fun x => touchesS o x) later k)) (fun i _ => later.length - (intOf i).toNat)
  case atStart => exact ⟨0, Nat.zero_le _, rfl, Below.refl _ _, Lib.hid (NoneTo.zero _ _)⟩
  case round =>
    obtain ⟨k, hk, rfl, hb, hn⟩ := hrel
    have hbw := below_trans hW hb
    by_cases hlt : k < later.length
    · obtain ⟨b, off, rq, rc, wq, wc, rfl, he, -, -, c0, c1, c2, c3, c4⟩ := hlcells k hlt
      replace c0 := bcell hbw c0
      replace c1 := bcell hbw c1
      replace c2 := bcell hbw c2
      replace c3 := bcell hbw c3
      replace c4 := bcell hbw c4
      replace d4 := bcell hb d4
      have l0 := World.block_lt_of_cell? _ _ d4
      have Hs := Lib.hid (hn.out.succ hlt)
      have Hi := Lib.hid (idx_at 0 hn.out hlt)
      have n0 : (0 : Int) ≤ (k : Int) := by omega
      have n1 : (k : Int) < (later.length : Int) := by omega
      have Hq := Lib.hid hq
      clear hlcells hq hv
      generalize later[k] = o at *
      have hcall := fun W x ds hb hx => rtouches_any o x _ ds W (RecE.mono.mono (w' := W) hb he) hx
      go_wp2_with fail
      generalize hB1 : wr.alloc (.cells #[.int .i64 o.session, .int .i64 o.snap, .bool o.strict, .slice rq o.reads.length rc, .slice wq o.writes.length wc] 32) = W1
      have hb1 : Below wr.heap.size wr W1 := by rw [← hB1]; exact below_new _ _
      have e0 : W1.cell? ⟨wr.heap.size, 0, none⟩ = some (.int .i64 o.session) := by rw [← hB1]; simp
      have e1 : W1.cell? ⟨wr.heap.size, 1, none⟩ = some (.int .i64 o.snap) := by rw [← hB1]; simp
      have e2 : W1.cell? ⟨wr.heap.size, 2, none⟩ = some (.bool o.strict) := by rw [← hB1]; simp
      have e3 : W1.cell? ⟨wr.heap.size, 3, none⟩ = some (.slice rq o.reads.length rc) := by rw [← hB1]; simp
      have e4 : W1.cell? ⟨wr.heap.size, 4, none⟩ = some (.slice wq o.writes.length wc) := by rw [← hB1]; simp
      clear hB1 c0 c1 c2 c3 c4 d4 he
      obtain ⟨wo, hwo⟩ : ∃ wo : World, wo = wr := ⟨_, rfl⟩
      subst hwo
      go_loopw [19] (fun i wr2 => ∃ j : Nat, j ≤ r.reads.length ∧ i = .int .i64 j ∧ Below W1.heap.size W1 wr2 ∧ Hid (NoneTo (fun x : Rd => touchesS o x) r.reads j)) (fun i _ => r.reads.length - (intOf i).toNat)
      case atStart => exact ⟨0, Nat.zero_le _, rfl, Below.refl _ _, Lib.hid (NoneTo.zero _ _)⟩
      case round =>
        obtain ⟨j, hj, rfl, hb2, hn2⟩ := hrel
        have hbj := below_trans hb1 hb2
        have hbw2 := below_trans hbw hbj
        by_cases hlt2 : j < r.reads.length
        · obtain ⟨b3, off3, pq, pn, pc, rfl, hxe, c0, c1, c2, c3⟩ := hcells j hlt2
          have hxe' := fun W hb => RdE.mono.mono (w' := W) hb hxe
          replace c3 := bcell hbw2 c3
          replace c0 := bcell hbw2 c0
          replace c1 := bcell hbw2 c1
          replace c2 := bcell hbw2 c2
          replace e0 := bcell hb2 e0
          replace e1 := bcell hb2 e1
          replace e2 := bcell hb2 e2
          replace e3 := bcell hb2 e3
          replace e4 := bcell hb2 e4
          have l1 := World.block_lt_of_cell? _ _ e0
          have Hs2 := Lib.hid (hn2.out.succ hlt2)
          have Ha := Lib.hid (any_at (p := fun x : Rd => touchesS o x) hlt2)
          have n2 : (0 : Int) ≤ (j : Int) := by omega
          have n3 : (j : Int) < (r.reads.length : Int) := by omega
          clear hcells hwr
          replace hcall := fun W hb => hcall W r.reads[j] _ hb (hxe' W hb)
          cases hp : touchesS o r.reads[j] with
          | true =>
            have Hp := Lib.hid (Ha.out hp)
            rw [hp] at hcall
            clear hp
            generalize r.reads[j] = x at *
            clear hxe hxe'
            go_wp2_with (first | (go_at_call 75; refine (hcall _ (below_trans hbw2 (below_new _ _))).mono ?_; rintro e w5 ⟨rfl, hb5⟩) | fail)
            go_ret
            exact ⟨by rw [Hq.out, Hi.out Hp.out]; simp, below_trans (below_trans hbw2 (below_new _ _)) hb5⟩
          | false =>
            have Hp := Lib.hid (Hs2.out hp)
            rw [hp] at hcall
            clear hp
            generalize r.reads[j] = x at *
            clear hxe hxe'
            go_wp2_with (first | (go_at_call 75; refine (hcall _ (below_trans hbw2 (below_new _ _))).mono ?_; rintro e w5 ⟨rfl, hb5⟩) | fail)
            go_roundw
            case rel => exact ⟨j + 1, hlt2, by go_num, below_trans (below_trans hb2 (below_new _ _)) hb5, Hp⟩
            case measure => simp [intOf]; omega
        · have hje : j = r.reads.length := by omega
          subst hje
          clear hcells hcall
          have Hk := Lib.hid (Hs.out hn2.out.any)
          go_wp2_with fail
          go_roundw
          case rel => exact ⟨k + 1, hlt, by go_num, below_trans hb hbj, Hk⟩
          case measure => simp [intOf]; omega
    · have hke : k = later.length := by omega
      subst hke
      clear hlcells hcells
      go_wp2_with fail
      go_ret
      exact ⟨by rw [hq, hn.out.idx]; rfl, hbw⟩

theorem rmay_any (r : Rec) (later : List Rec) (cs : List Value) (v : Value) (w : World) (hr : RecE w cs r) (hv : SlP 5 RecE w v later) : Calls Tryz.prog 29 #[.agg cs.toArray, v] w (Gives w (.int .i64 (mayS r later))) := by
  have hE := hr
  obtain ⟨rv, wv, rfl, -, -, -, -⟩ := hr
  have hclash := fun W hb => rclash_any r later _ v W (RecE.mono.mono (w' := W) hb hE) (hv.mono RecE.mono hb)
  have hstale := fun W hb => rstale_any r later _ v W (RecE.mono.mono (w' := W) hb hE) (hv.mono RecE.mono hb)
  have hq : mayS r later = if decide (0 ≤ clashS r later) || r.strict && decide (0 ≤ staleS r later) then 10 else 0 := rfl
  generalize mayS r later = m at hq ⊢
  generalize clashS r later = c at hclash hq
  generalize staleS r later = t at hstale hq
  generalize r.strict = sb at hq hclash hstale
  have Hq := Lib.hid hq
  clear hq hv hE
  by_cases hc : 0 ≤ c
  · go_enter Tryz.func29, Tryz.ntmps29
    go_wp2_with (first
      | (go_at_call 48; refine (hclash _ (below_new _ _)).mono ?_; rintro e w1 ⟨rfl, hb1⟩))
    go_ret
    exact ⟨by rw [Hq.out]; simp [hc], below_trans (below_new _ _) hb1⟩
  · cases sb with
    | false =>
      go_enter Tryz.func29, Tryz.ntmps29
      go_wp2_with (first
        | (go_at_call 48; refine (hclash _ (below_new _ _)).mono ?_; rintro e w1 ⟨rfl, hb1⟩; have c2 := bcell hb1 (a := ⟨w.heap.size, 2, none⟩) (v := .bool false) (by simp)))
      go_ret
      exact ⟨by rw [Hq.out]; simp [hc], below_trans (below_new _ _) hb1⟩
    | true =>
      go_enter Tryz.func29, Tryz.ntmps29
      go_wp2_with (first
        | (go_at_call 48; refine (hclash _ (below_new _ _)).mono ?_; rintro e w1 ⟨rfl, hb1⟩; have c0 := bcell hb1 (a := ⟨w.heap.size, 0, none⟩) (v := .int .i64 r.session) (by simp); have c1 := bcell hb1 (a := ⟨w.heap.size, 1, none⟩) (v := .int .i64 r.snap) (by simp); have c2 := bcell hb1 (a := ⟨w.heap.size, 2, none⟩) (v := .bool true) (by simp); have c3 := bcell hb1 (a := ⟨w.heap.size, 3, none⟩) (v := rv) (by simp); have c4 := bcell hb1 (a := ⟨w.heap.size, 4, none⟩) (v := wv) (by simp))
        | (go_at_call 49; refine (hstale _ (below_trans (below_new _ _) hb1)).mono ?_; rintro e w2 ⟨rfl, hb2⟩))
      all_goals (go_ret; refine ⟨?_, below_trans (below_trans (below_new _ _) hb1) hb2⟩; rw [Hq.out]; simp_all)


set_option maxHeartbeats 400000 in
theorem rsame_any (a b : List Pair) (va vb : Value) (w : World) (ha : SlP 3 PairE w va a) (hb : SlP 3 PairE w vb b) : Calls Tryz.prog 6 #[va, vb] w (Gives w (.bool (samePairs a b))) := by
  obtain ⟨p, cap, rfl, hlc, hcap, hcells⟩ := ha.pairs
  obtain ⟨p', cap', rfl, hlc', hcap', hcells'⟩ := hb.pairs
  have hgd : Tryz.prog.eqGuardType Tryz.prog.depth 35 = false := by kernel_rfl
  by_cases hl : a.length = b.length
  · have Hx : Hid (samePairs a b = samePairs (a.drop 0) (b.drop 0)) := Lib.hid rfl
    have Hl := Lib.hid hl
    have n0 : ((a.length : Int) != (b.length : Int)) = false := by simp; omega
    clear hl ha hb
    go_enter Tryz.func6, Tryz.ntmps6
    go_wp2
    go_loopw [13, 5] (fun i _ wr => ∃ k : Nat, k ≤ a.length ∧ i = .int .i64 k ∧ Below w.heap.size w wr ∧ Hid (samePairs a b = samePairs (a.drop k) (b.drop k))) (fun i _ _ => a.length - (intOf i).toNat)
    case atStart => exact ⟨0, Nat.zero_le _, rfl, Below.refl _ _, Hx⟩
    case round =>
      obtain ⟨k, hk, rfl, hbw, hx⟩ := hrel
      by_cases hlt : k < a.length
      · have hlt' : k < b.length := by have := Hl.out; omega
        obtain ⟨g, off, rfl, -, c0, c1, c2⟩ := hcells k hlt
        obtain ⟨g', off', rfl, -, c0', c1', c2'⟩ := hcells' k hlt'
        have hne := neq_pair a[k] b[k]
        have hdr := samePairs_drop hlt hlt'
        replace c0 := fun s => later_cell (bcell hbw c0) s
        replace c1 := fun s => later_cell (bcell hbw c1) s
        replace c2 := fun s => later_cell (bcell hbw c2) s
        replace c0' := fun s => later_cell (bcell hbw c0') s
        replace c1' := fun s => later_cell (bcell hbw c1') s
        replace c2' := fun s => later_cell (bcell hbw c2') s
        have m0 : (0 : Int) ≤ (k : Int) := by omega
        have m1 : (k : Int) < (a.length : Int) := by omega
        have m2 : (k : Int) < (b.length : Int) := by omega
        have Hdr := Lib.hid hdr
        clear hdr hcells hcells'
        generalize a[k] = x at *
        generalize b[k] = y at *
        cases hpq : pairEq x y with
        | true =>
          rw [hpq] at hne
          simp only [Bool.not_true] at hne
          have Hpq := Lib.hid hpq
          clear hpq
          go_wp2
          refine wp_region_mild (by kernel_rfl) (by kernel_rfl) ?_
          repeat (go_big_quiet_step (fail))
          refine wpQuiet_nil ?_
          intro W hW
          go_wp2
          go_roundw
          case rel => exact ⟨k + 1, by omega, by go_num, below_trans hbw hW, Lib.hid (by rw [hx.out, Hdr.out, Hpq.out]; rfl)⟩
          case measure => simp [intOf]; omega
        | false =>
          rw [hpq] at hne
          simp only [Bool.not_false] at hne
          have Hpq := Lib.hid hpq
          clear hpq
          go_wp2
          refine wp_region_mild (by kernel_rfl) (by kernel_rfl) ?_
          repeat (go_big_quiet_step (fail))
          refine wpQuiet_nil ?_
          intro W hW
          go_wp2
          go_ret
          exact ⟨by rw [hx.out, Hdr.out, Hpq.out]; rfl, below_trans hbw hW⟩
      · have : k = a.length := by omega
        subst this
        clear hcells hcells'
        go_wp2
        go_ret
        refine ⟨?_, hbw⟩
        rw [hx.out, List.drop_length, Hl.out, List.drop_length]; rfl
  · have hq : samePairs a b = false := by
      cases h : samePairs a b with
      | false => rfl
      | true => exact absurd (congrArg List.length (samePairs_iff.1 h)) hl
    have n0 : ((a.length : Int) != (b.length : Int)) = true := by simp; omega
    have Hq := Lib.hid hq
    clear hq hcells hcells' ha hb hl
    go_enter Tryz.func6, Tryz.ntmps6
    go_wp2
    go_ret
    exact ⟨by rw [Hq.out]; rfl, Below.refl _ _⟩

set_option maxRecDepth 100000 in
set_option maxHeartbeats 1000000 in
/-- whole -/
theorem rwhole_any (l : List Rec) (v : Value) (w : World) (hv : SlP 5 RecE w v l) : Calls Tryz.prog 22 #[v] w (Gives w (.bool (behindOK l))) := by
  obtain ⟨q, cap, rfl, hlc, hll, -, hcells⟩ := hv.recsAt
  have hq : behindOK l = !(l.any fun r => !goodS r.writes) := by unfold behindOK; rw [List.all_eq_not_any_not]
  go_enter Tryz.func22, Tryz.ntmps22
  go_wp2_with fail
  go_loopw [7] (fun i wr => ∃ k : Nat, k ≤ l.length ∧ i = .int .i64 k ∧ Below w.heap.size w wr ∧ Hid (NoneTo (fun r : Rec => !goodS r.writes) l k)) (fun i _ => l.length - (intOf i).toNat)
  case atStart => exact ⟨0, Nat.zero_le _, rfl, Below.refl _ _, Lib.hid (NoneTo.zero _ _)⟩
  case round =>
    obtain ⟨k, hk, rfl, hb, hn⟩ := hrel
    by_cases hlt : k < l.length
    · obtain ⟨b, off, rq, rc, wq, wc, rfl, he, hrd, hwr, c0, c1, c2, c3, c4⟩ := hcells k hlt
      replace c0 := bcell hb c0
      replace c1 := bcell hb c1
      replace c2 := bcell hb c2
      replace c3 := bcell hb c3
      replace c4 := bcell hb c4
      have Hs := Lib.hid (hn.out.succ hlt)
      have Ha := Lib.hid (any_at (p := fun r : Rec => !goodS r.writes) hlt)
      have n0 : (0 : Int) ≤ (k : Int) := by omega
      have n1 : (k : Int) < (l.length : Int) := by omega
      have Hq := Lib.hid hq
      have hcall := fun W hb => rgood_any l[k].writes _ W (hwr.mono PairE.mono (w' := W) hb)
      clear hcells hq hv hrd hwr he
      cases hp : goodS l[k].writes with
      | false =>
        have Hp := Lib.hid (Ha.out (by simp [hp]))
        rw [hp] at hcall
        clear hp
        generalize l[k] = r at *
        go_wp2_with (first | (go_at_call 36; refine (hcall _ (below_trans hb (below_new _ _))).mono ?_; rintro e w5 ⟨rfl, hb5⟩) | fail)
        go_ret
        exact ⟨by rw [Hq.out, Hp.out]; rfl, below_trans (below_trans hb (below_new _ _)) hb5⟩
      | true =>
        have Hp := Lib.hid (Hs.out (by simp [hp]))
        rw [hp] at hcall
        clear hp
        generalize l[k] = r at *
        go_wp2_with (first | (go_at_call 36; refine (hcall _ (below_trans hb (below_new _ _))).mono ?_; rintro e w5 ⟨rfl, hb5⟩) | fail)
        go_roundw
        case rel => exact ⟨k + 1, hlt, by go_num, below_trans (below_trans hb (below_new _ _)) hb5, Hp⟩
        case measure => simp [intOf]; omega
    · have hke : k = l.length := by omega
      subst hke
      clear hcells
      go_wp2_with fail
      go_ret
      exact ⟨by rw [hq, hn.out.any]; rfl, hb⟩

set_option maxRecDepth 100000 in
set_option maxHeartbeats 1000000 in
/-- Strict -/
theorem rstrict_any (l : List Rec) (v : Value) (w : World) (hv : SlP 5 RecE w v l) : Calls Tryz.prog 16 #[v] w (Gives w (.bool (strictS l))) := by
  obtain ⟨q, cap, rfl, hlc, hll, -, hcells⟩ := hv.recsAt
  have hq : strictS l = !(l.any fun r => !r.strict) := rfl
  go_enter Tryz.func16, Tryz.ntmps16
  go_wp2_with fail
  go_loopw [7] (fun i wr => ∃ k : Nat, k ≤ l.length ∧ i = .int .i64 k ∧ Below w.heap.size w wr ∧ Hid (NoneTo (fun r : Rec => !r.strict) l k)) (fun i _ => l.length - (intOf i).toNat)
  case atStart => exact ⟨0, Nat.zero_le _, rfl, Below.refl _ _, Lib.hid (NoneTo.zero _ _)⟩
  case round =>
    obtain ⟨k, hk, rfl, hb, hn⟩ := hrel
    by_cases hlt : k < l.length
    · obtain ⟨b, off, rq, rc, wq, wc, rfl, he, hrd, hwr, c0, c1, c2, c3, c4⟩ := hcells k hlt
      replace c0 := bcell hb c0
      replace c1 := bcell hb c1
      replace c2 := bcell hb c2
      replace c3 := bcell hb c3
      replace c4 := bcell hb c4
      have Hs := Lib.hid (hn.out.succ hlt)
      have Ha := Lib.hid (any_at (p := fun r : Rec => !r.strict) hlt)
      have n0 : (0 : Int) ≤ (k : Int) := by omega
      have n1 : (k : Int) < (l.length : Int) := by omega
      have Hq := Lib.hid hq
      clear hcells hq hv hrd hwr he
      generalize l[k] = r at *
      cases hp : r.strict with
      | false =>
        have Hp := Lib.hid (Ha.out (by simp [hp]))
        rw [hp] at c2
        clear hp
        go_wp2_with fail
        go_ret
        exact ⟨by rw [Hq.out, Hp.out]; rfl, below_trans hb (below_new _ _)⟩
      | true =>
        have Hp := Lib.hid (Hs.out (by simp [hp]))
        rw [hp] at c2
        clear hp
        go_wp2_with fail
        go_roundw
        case rel => exact ⟨k + 1, hlt, by go_num, below_trans hb (below_new _ _), Hp⟩
        case measure => simp [intOf]; omega
    · have hke : k = l.length := by omega
      subst hke
      clear hcells
      go_wp2_with fail
      go_ret
      exact ⟨by rw [hq, hn.out.any]; rfl, hb⟩

/-- first -/
def cutN (l : List Rec) (n : Int) : Nat := min n.toNat l.length
theorem rfirst_any (l : List Rec) (v : Value) (n : Int) (w : World) (hv : SlP 5 RecE w v l) (hn : I64 n) : Calls Tryz.prog 21 #[v, .int .i64 n] w (fun e w' => ∃ v', e = .returned v' ∧ SlP 5 RecE w v' (l.take (cutN l n)) ∧ w = w') := by
  have hv0 := hv
  obtain ⟨q, cap, rfl, hlc, hll, h0, -⟩ := hv
  unfold I64 at hn
  have hv' : ∀ i, i ≤ l.length → SlP 5 RecE w (.slice q i cap) (l.take i) := fun i hi => hv0.take i hi
  by_cases h1 : n < 0
  · have e : cutN l n = 0 := by unfold cutN; omega
    rw [e]
    have H := Lib.hid (hv' 0 (by omega))
    clear hv' hv0 e
    go_enter Tryz.func21, Tryz.ntmps21
    go_wp2_with fail
    go_ret
    exact ⟨_, rfl, H.out, rfl⟩
  · by_cases h2 : (l.length : Int) < n
    · have e : cutN l n = l.length := by unfold cutN; omega
      rw [e]
      have H := Lib.hid (hv' l.length (by omega))
      clear hv' hv0 e
      go_enter Tryz.func21, Tryz.ntmps21
      go_wp2_with fail
      go_ret
      exact ⟨_, rfl, by simpa using H.out, rfl⟩
    · obtain ⟨k, rfl⟩ : ∃ k : Nat, n = (k : Int) := ⟨n.toNat, by omega⟩
      have e : cutN l k = k := by unfold cutN; omega
      rw [e]
      have H := Lib.hid (hv' k (by omega))
      clear hv' hv0 e
      have h3 : (k : Int) ≤ (cap : Int) := by omega
      go_enter Tryz.func21, Tryz.ntmps21
      go_wp2_with fail
      go_ret
      exact ⟨_, rfl, H.out, rfl⟩

end Go.Proofs.YtgmcpfcpdmnebaaGreat
