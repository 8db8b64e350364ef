/- The reference's Light and the law's light: what they let in. -/
import Derived.Test.YtgmcpfcpdmnebaaGreatSerial
namespace Go.Proofs.YtgmcpfcpdmnebaaGreat
open Go.RowKit Go.Proofs Go.Shelf

/-- Light answers some number; where it isn't below 0, reads and writes are few. -/
def LightOut (r : Rec) (w : World) (e : Ending) (w' : World) : Prop := ∃ n : Int, e = .returned (.int .i64 n) ∧ I64 n ∧ (0 ≤ n → r.reads.length ≤ 100 ∧ r.writes.length ≤ 100) ∧ Below w.heap.size w w'

theorem wrap64_I (n : Int) : I64 (wrap64 n) := by unfold I64 wrap64; omega
theorem wrapI (n : Int) : I64 (IntKind.i64.wrap n) := by unfold I64 IntKind.wrap; simp [IntKind.signed, IntKind.bits]; omega

set_option maxRecDepth 100000 in
set_option maxHeartbeats 2000000 in
theorem light_rec (r : Rec) (cs : List Value) (n : Int) (w : World) (hr : RecE w cs r) (hn : I64 n) : Calls Tryz.prog 17 #[.agg cs.toArray, .int .i64 n] w (LightOut r w) := by
  obtain ⟨rv, wv, rfl, -, -, hrd, hwr⟩ := hr
  obtain ⟨q, cap, rfl, hwc, hwl, hwcells⟩ := hwr.pairs
  obtain ⟨q2, cap2, rfl, hrc, hrl, -, hrcells⟩ := hrd
  go_enter Tryz.func17, Tryz.ntmps17
  go_wp2_with fail
  all_goals first | (go_ret; exact ⟨-1, rfl, by unfold I64; omega, fun h => by omega, below_new _ _⟩) | skip
  have hh : (0 ≤ wrap64 (n - wrap64 (wrap64 (1 + (r.reads.length : Int)) + (r.writes.length : Int))) ∧ (r.reads.length : Int) ≤ 100) ∧ (r.writes.length : Int) ≤ 100 := by assumption
  have hrl' : r.reads.length ≤ 100 := by omega
  have hwl' : r.writes.length ≤ 100 := by omega
  have hm := wrap64_I (n - wrap64 (wrap64 (1 + (r.reads.length : Int)) + (r.writes.length : Int)))
  generalize wrap64 (n - wrap64 (wrap64 (1 + (r.reads.length : Int)) + (r.writes.length : Int))) = m0 at *
  clear hh hrl hwl
  go_loopw [38, 1] (fun i u wr => ∃ (k : Nat) (m : Int), k ≤ r.writes.length ∧ i = .int .i64 k ∧ u = .int .i64 m ∧ I64 m ∧ Below (w.heap.size + 1) (w.alloc (.cells #[.int .i64 r.session, .int .i64 r.snap, .bool r.strict, .slice q2 r.reads.length cap2, .slice q r.writes.length cap] 32)) wr) (fun i _ _ => r.writes.length - (intOf i).toNat)
  case atStart => exact ⟨0, m0, Nat.zero_le _, rfl, rfl, hm, Below.refl _ _⟩
  case round =>
    obtain ⟨k, m, hk, rfl, rfl, hm', hb⟩ := hrel
    by_cases hlt : k < r.writes.length
    · obtain ⟨b, off, rfl, ⟨s1, s2⟩, c0, c1, c2⟩ := hwcells k hlt
      have hb0 := below_trans (below_new w _) (hb.mono (by simp))
      replace c0 := bcell hb0 c0
      replace c1 := bcell hb0 c1
      replace c2 := bcell hb0 c2
      clear hwcells hrcells hwr hb0
      have n0 : (0 : Int) ≤ (k : Int) := by omega
      have n1 : (k : Int) < (r.writes.length : Int) := by omega
      go_wp2_with fail
      all_goals first
        | (go_ret; exact ⟨-1, rfl, by unfold I64; omega, fun h => by omega, below_trans (below_new w _) (((hb.alloc (by have := hb.size; simp at this; omega) _)).mono (by simp))⟩)
        | (go_roundw
           case rel => exact ⟨k + 1, _, hlt, by go_num, rfl, wrap64_I _, hb.alloc (by have := hb.size; simp at this; omega) _⟩
           case measure => simp [intOf]; omega)
        | skip
    · have hke : k = r.writes.length := by omega
      subst hke
      have hb0 := below_trans (below_new w _) (hb.mono (by simp))
      have hB : ∀ i, wr.cell? ⟨w.heap.size, i, none⟩ = (w.alloc (.cells #[.int .i64 r.session, .int .i64 r.snap, .bool r.strict, .slice q2 r.reads.length cap2, .slice q r.writes.length cap] 32)).cell? ⟨w.heap.size, i, none⟩ := fun i => hb.cell (p := ⟨w.heap.size, i, none⟩) (by simp)
      have d3 := hB 3
      clear hwcells hwr hB
      go_wp2_with fail
      clear d3 hb hm hk
      have hsz := hb0.size
      go_loopw [58, 1] (fun i u wr2 => ∃ (k : Nat) (m : Int), k ≤ r.reads.length ∧ i = .int .i64 k ∧ u = .int .i64 m ∧ I64 m ∧ Below wr.heap.size wr wr2) (fun i _ _ => r.reads.length - (intOf i).toNat)
      case atStart => exact ⟨0, m, Nat.zero_le _, rfl, rfl, by assumption, Below.refl _ _⟩
      case round =>
        obtain ⟨k, m, hk, rfl, rfl, hm', hb⟩ := hrel
        by_cases hlt : k < r.reads.length
        · obtain ⟨b, off, cs, rfl, hcs, ⟨pv, rfl, s1, s2, hps⟩, hc⟩ := hrcells k hlt
          have hb1 := below_trans hb0 hb
          have c0 := bcell hb1 (hc 0 (by simp))
          have c1 := bcell hb1 (hc 1 (by simp))
          have c2 := bcell hb1 (hc 2 (by simp))
          have c3 := bcell hb1 (hc 3 (by simp))
          simp only [List.getElem_cons_zero, List.getElem_cons_succ, Nat.add_zero] at c0 c1 c2 c3
          obtain ⟨q3, cap3, rfl, hpc, hpl, hpcells⟩ := hps.pairs
          clear hrcells hc hcs
          generalize r.reads[k] = x at *
          have n0 : (0 : Int) ≤ (k : Int) := by omega
          have n1 : (k : Int) < (r.reads.length : Int) := by omega
          go_wp2_with fail
          all_goals first
            | (go_ret; exact ⟨-1, rfl, by unfold I64; omega, fun h => by omega, below_trans hb1 (below_new _ _)⟩)
            | skip
          obtain ⟨wo, hwo⟩ : ∃ wo : World, wo = wr := ⟨_, rfl⟩
          have hb2 : Below w.heap.size w wo := by rw [hwo]; exact hb1
          have hb3 := hb
          rw [← hwo] at hb3
          have hps' := hps
          clear hps c0 c1 c2 c3 hb1 hb
          subst hwo
          have hbn := below_new wo (.cells #[.bool x.scan, .string x.key, .string x.to, .slice q3 x.pairs.length cap3] 37)
          go_loopw [84, 1] (fun i u wr2 => ∃ (j : Nat) (m : Int), j ≤ x.pairs.length ∧ i = .int .i64 j ∧ u = .int .i64 m ∧ I64 m ∧ Below wo.heap.size wo wr2) (fun i _ _ => x.pairs.length - (intOf i).toNat)
          case atStart => exact ⟨0, _, Nat.zero_le _, rfl, rfl, wrap64_I _, hbn⟩
          case round =>
            obtain ⟨j, m, hj, rfl, rfl, hm', hb⟩ := hrel
            by_cases hlt2 : j < x.pairs.length
            · obtain ⟨b4, off4, rfl, ⟨z1, z2⟩, c0, c1, c2⟩ := hpcells j hlt2
              replace c0 := bcell hb (bcell hb2 c0)
              replace c1 := bcell hb (bcell hb2 c1)
              replace c2 := bcell hb (bcell hb2 c2)
              clear hpcells hps' hbn
              have n3 : (0 : Int) ≤ (j : Int) := by omega
              have n4 : (j : Int) < (x.pairs.length : Int) := by omega
              go_wp2_with fail
              all_goals first
                | (go_ret; exact ⟨-1, rfl, by unfold I64; omega, fun h => by omega, below_trans (below_trans hb2 hb) (below_new _ _)⟩)
                | (go_roundw
                   case rel => exact ⟨j + 1, _, hlt2, by go_num, rfl, wrap64_I _, below_trans hb (below_new _ _)⟩
                   case measure => simp [intOf]; omega)
                | skip
            · have hke : j = x.pairs.length := by omega
              subst hke
              clear hpcells hps'
              go_wp2_with fail
              go_roundw
              case rel => exact ⟨k + 1, m, hlt, by go_num, rfl, hm', below_trans hb3 hb⟩
              case measure => simp [intOf]; omega
        · have hke : k = r.reads.length := by omega
          subst hke
          clear hrcells
          go_wp2_with fail
          go_ret
          exact ⟨m, rfl, hm', fun _ => ⟨hrl', hwl'⟩, below_trans hb0 hb⟩

/-- The law's light: it lets in but few. -/
def Few (l : List Rec) : Prop := l.length ≤ 25 ∧ ∀ r ∈ l, r.reads.length ≤ 100 ∧ r.writes.length ≤ 100
def LightL (l : List Rec) (w : World) (e : Ending) (w' : World) : Prop := ∃ b : Bool, e = .returned (.bool b) ∧ (b = true → Few l) ∧ Below w.heap.size w w'

set_option maxRecDepth 100000 in
set_option maxHeartbeats 1000000 in
theorem light_law (l : List Rec) (v : Value) (w : World) (hv : SlP 5 RecE w v l) : Calls Tryz.prog 4 #[v] w (LightL l w) := by
  obtain ⟨q, cap, rfl, hlc, hcap, -, hcells⟩ := hv.recsAt
  by_cases h25 : (25 : Int) < (l.length : Int)
  · clear hcells
    go_enter Tryz.func4, Tryz.ntmps4
    go_wp2_with fail
    go_ret
    exact ⟨false, rfl, fun h => by simp at h, Below.refl _ _⟩
  · go_enter Tryz.func4, Tryz.ntmps4
    go_wp2_with fail
    go_loopw [3, 11] (fun u i wr => ∃ (k : Nat) (m : Int), k ≤ l.length ∧ i = .int .i64 k ∧ u = .int .i64 m ∧ I64 m ∧ (∀ j, (hj : j < l.length) → j < k → l[j].reads.length ≤ 100 ∧ l[j].writes.length ≤ 100) ∧ Below w.heap.size w wr) (fun _ i _ => l.length - (intOf i).toNat)
    case atStart => exact ⟨0, 500, Nat.zero_le _, rfl, rfl, by unfold I64; omega, fun j hj h => by omega, Below.refl _ _⟩
    case round =>
      obtain ⟨k, m, hk, rfl, rfl, hm, hall, hb⟩ := hrel
      by_cases hlt : k < l.length
      · obtain ⟨b, off, rq, rc, wq, wc, rfl, he, hrd, hw, c0, c1, c2, c3, c4⟩ := hcells k hlt
        have hcall := fun W hb => light_rec l[k] _ m W (RecE.mono.mono (w' := W) hb he) hm
        generalize hr : l[k] = r at *
        have Hr := Lib.hid hr
        have Hall := Lib.hid hall
        have hb1 := fun o => below_trans hb (below_new wr o)
        replace c0 := bcell hb c0
        replace c1 := bcell hb c1
        replace c2 := bcell hb c2
        replace c3 := bcell hb c3
        replace c4 := bcell hb c4
        clear hr hall hcells he hrd hw hv
        go_wp2_with (first
          | (go_at_call 17; refine (hcall _ (hb1 _)).mono ?_; rintro e w1 ⟨n1, rfl, hn1, hq1, hb2⟩; have hb3 := below_trans (hb1 _) hb2)
          | fail)
        all_goals first
          | (go_ret; exact ⟨false, rfl, fun h => by simp at h, hb3⟩)
          | (have hge : 0 ≤ n1 := by omega
             have hrr := hq1 hge
             go_roundw
             case rel => exact ⟨k + 1, n1, hlt, by go_num, rfl, hn1, fun j hj h => by
               rcases Nat.lt_succ_iff_lt_or_eq.1 h with h | h
               · exact Hall.out j hj h
               · subst h; rw [Hr.out]; exact hrr, hb3⟩
             case measure => simp [intOf]; omega)
      · have hke : k = l.length := by omega
        subst hke
        have Hall := Lib.hid hall
        clear hall hcells hv
        go_wp2_with fail
        go_ret
        refine ⟨true, rfl, fun _ => ⟨by omega, fun r hr => ?_⟩, hb⟩
        obtain ⟨j, hj, rfl⟩ := List.getElem_of_mem hr
        exact Hall.out j hj hj

theorem Few.writes {l : List Rec} (h : Few l) : writesN l ≤ 1000000 := by
  have key : ∀ (l : List Rec), (∀ r ∈ l, r.writes.length ≤ 100) → writesN l ≤ 100 * l.length := by
    intro l
    induction l with
    | nil => intro _; simp [writesN]
    | cons r l ih =>
      intro h
      have h1 := h r (by simp)
      have h2 := ih fun x hx => h x (by simp [hx])
      unfold writesN at *
      simp only [List.map_cons, List.sum_cons, List.length_cons]
      omega
  have := key l fun r hr => (h.2 r hr).2
  have := h.1
  omega

end Go.Proofs.YtgmcpfcpdmnebaaGreat
