/- slices.Equal at pairs. -/
import Derived.Test.YtgmcpfcpdmnebaaGreatCert3
namespace Go.Proofs.YtgmcpfcpdmnebaaGreat
open Go.RowKit Go.Proofs Go.Shelf

def pairEq (x y : Pair) : Bool := eqB x.key y.key && eqB x.val y.val && x.dead == y.dead
def samePairs : List Pair → List Pair → Bool
  | [], [] => true
  | x :: a, y :: b => pairEq x y && samePairs a b
  | _, _ => false

theorem toList_inj {a b : ByteArray} (h : a.toList = b.toList) : a = b := by
  have := beq_toListBytes a b
  rw [h] at this
  simp only [BEq.rfl] at this
  have h2 : (a == b) = true := this
  rcases a with ⟨a⟩
  rcases b with ⟨b⟩
  have h3 : ((⟨a⟩ : ByteArray) == ⟨b⟩) = (a == b) := rfl
  rw [h3, beq_iff_eq] at h2
  rw [h2]

theorem eqB_eq {a b : ByteArray} : eqB a b = true ↔ a = b := ⟨fun h => toList_inj (eqB_iff.1 h), fun h => by rw [h]; exact eqB_self b⟩

theorem pairEq_iff {x y : Pair} : pairEq x y = true ↔ x = y := by
  obtain ⟨a, b, c⟩ := x
  obtain ⟨a', b', c'⟩ := y
  simp only [pairEq, Bool.and_eq_true, eqB_eq, beq_iff_eq, Pair.mk.injEq, and_assoc]

theorem samePairs_iff : ∀ {a b : List Pair}, samePairs a b = true ↔ a = b
  | [], [] => by simp [samePairs]
  | [], y :: b => by simp [samePairs]
  | x :: a, [] => by simp [samePairs]
  | x :: a, y :: b => by simp [samePairs, pairEq_iff, samePairs_iff]

theorem samePairs_drop {a b : List Pair} {k : Nat} (h1 : k < a.length) (h2 : k < b.length) : samePairs (a.drop k) (b.drop k) = (pairEq a[k] b[k] && samePairs (a.drop (k + 1)) (b.drop (k + 1))) := by
  rw [List.drop_eq_getElem_cons h1, List.drop_eq_getElem_cons h2]; rfl

theorem neq_pair (x y : Pair) (w : World) : (binOp .neq 35 (.agg #[.string x.key, .string x.val, .bool x.dead]) (.agg #[.string y.key, .string y.val, .bool y.dead])).run Tryz.prog w = .ok (.bool (!pairEq x y)) w := by
  have hS : Tryz.prog.underlying 35 = some (.struct (Tryz.prog.fieldsOf 35)) := by kernel_rfl
  have hp : Tryz.prog.stoodInHeld 35 = false := by kernel_rfl
  rw [run_neq_struct, show (10000 : Nat) = 9999 + 1 from rfl, run_equalIn_agg w 9999 35 _ _ hS hp]
  have us := Tryz.underlying9
  have ub := Tryz.underlying4
  have zs := Tryz.sizeOf9
  have zb := Tryz.sizeOf4
  have gs := Tryz.isAgg9
  have gb := Tryz.isAgg4
  simp only [Program.fieldsOf, Tryz.underlying35]
  go_simp
  unfold pairEq eqB
  by_cases h1 : x.key.toList = y.key.toList <;> by_cases h2 : x.val.toList = y.val.toList <;> cases x.dead <;> cases y.dead <;> simp [h1, h2]

set_option maxHeartbeats 400000 in
theorem equal_pairs (a b : List Pair) (va vb : Value) (w : World) (ha : SlP 3 PairE w va a) (hb : SlP 3 PairE w vb b) : Calls Tryz.prog 62 #[va, vb] w (Gives w (.bool (samePairs a b))) := by
  obtain ⟨p, cap, rfl, hlc, hcap, hcells⟩ := ha.pairs
  obtain ⟨p', cap', rfl, hlc', hcap', hcells'⟩ := hb.pairs
  have hgd : Tryz.prog.eqGuardType Tryz.prog.depth 35 = false := by kernel_rfl
  by_cases hl : a.length = b.length
  · have Hx : Hid (samePairs a b = samePairs (a.drop 0) (b.drop 0)) := Lib.hid rfl
    have Hl := Lib.hid hl
    have n0 : ((a.length : Int) != (b.length : Int)) = false := by simp; omega
    clear hl ha hb
    go_enter Tryz.func62, Tryz.ntmps62
    go_wp2
    go_loopw [13, 5] (fun i _ wr => ∃ k : Nat, k ≤ a.length ∧ i = .int .i64 k ∧ Below w.heap.size w wr ∧ Hid (samePairs a b = samePairs (a.drop k) (b.drop k))) (fun i _ _ => a.length - (intOf i).toNat)
    case atStart => exact ⟨0, Nat.zero_le _, rfl, Below.refl _ _, Hx⟩
    case round =>
      obtain ⟨k, hk, rfl, hbw, hx⟩ := hrel
      by_cases hlt : k < a.length
      · have hlt' : k < b.length := by have := Hl.out; omega
        obtain ⟨g, off, rfl, -, c0, c1, c2⟩ := hcells k hlt
        obtain ⟨g', off', rfl, -, c0', c1', c2'⟩ := hcells' k hlt'
        have hne := neq_pair a[k] b[k]
        have hdr := samePairs_drop hlt hlt'
        replace c0 := fun s => later_cell (bcell hbw c0) s
        replace c1 := fun s => later_cell (bcell hbw c1) s
        replace c2 := fun s => later_cell (bcell hbw c2) s
        replace c0' := fun s => later_cell (bcell hbw c0') s
        replace c1' := fun s => later_cell (bcell hbw c1') s
        replace c2' := fun s => later_cell (bcell hbw c2') s
        have m0 : (0 : Int) ≤ (k : Int) := by omega
        have m1 : (k : Int) < (a.length : Int) := by omega
        have m2 : (k : Int) < (b.length : Int) := by omega
        have Hdr := Lib.hid hdr
        clear hdr hcells hcells'
        generalize a[k] = x at *
        generalize b[k] = y at *
        cases hpq : pairEq x y with
        | true =>
          rw [hpq] at hne
          simp only [Bool.not_true] at hne
          have Hpq := Lib.hid hpq
          clear hpq
          go_wp2
          refine wp_region_mild (by kernel_rfl) (by kernel_rfl) ?_
          repeat (go_big_quiet_step (fail))
          refine wpQuiet_nil ?_
          intro W hW
          go_wp2
          go_roundw
          case rel => exact ⟨k + 1, by omega, by go_num, below_trans hbw hW, Lib.hid (by rw [hx.out, Hdr.out, Hpq.out]; rfl)⟩
          case measure => simp [intOf]; omega
        | false =>
          rw [hpq] at hne
          simp only [Bool.not_false] at hne
          have Hpq := Lib.hid hpq
          clear hpq
          go_wp2
          refine wp_region_mild (by kernel_rfl) (by kernel_rfl) ?_
          repeat (go_big_quiet_step (fail))
          refine wpQuiet_nil ?_
          intro W hW
          go_wp2
          go_ret
          exact ⟨by rw [hx.out, Hdr.out, Hpq.out]; rfl, below_trans hbw hW⟩
      · have : k = a.length := by omega
        subst this
        clear hcells hcells'
        go_wp2
        go_ret
        refine ⟨?_, hbw⟩
        rw [hx.out, List.drop_length, Hl.out, List.drop_length]; rfl
  · have hq : samePairs a b = false := by
      cases h : samePairs a b with
      | false => rfl
      | true => exact absurd (congrArg List.length (samePairs_iff.1 h)) hl
    have n0 : ((a.length : Int) != (b.length : Int)) = true := by simp; omega
    have Hq := Lib.hid hq
    clear hq hcells hcells' ha hb hl
    go_enter Tryz.func62, Tryz.ntmps62
    go_wp2
    go_ret
    exact ⟨by rw [Hq.out]; rfl, Below.refl _ _⟩

end Go.Proofs.YtgmcpfcpdmnebaaGreat
