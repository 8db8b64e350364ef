/- The reference of layer 14: who wrote what, and who may stand behind whom. -/
import Derived.Test.YtgmcpfcpdmnebaaGreatRefA
namespace Go.Proofs.YtgmcpfcpdmnebaaGreat
open Go.RowKit Go.Proofs Go.Shelf

/-- None of the first k is so. -/
def NoneTo {α : Type} (p : α → Bool) (l : List α) (k : Nat) : Prop := ∀ j, j < k → (h : j < l.length) → p l[j] = false
theorem NoneTo.zero {α : Type} (p : α → Bool) (l : List α) : NoneTo p l 0 := fun j h => by omega
theorem NoneTo.succ {α : Type} {p : α → Bool} {l : List α} {k : Nat} (h : NoneTo p l k) (hk : k < l.length) (hp : p l[k] = false) : NoneTo p l (k + 1) := fun j hj hl => by
  by_cases e : j = k
  · subst e; exact hp
  · exact h j (by omega) hl
theorem NoneTo.any {α : Type} {p : α → Bool} {l : List α} (h : NoneTo p l l.length) : l.any p = false := by
  rw [List.any_eq_false]
  intro x hx
  obtain ⟨j, hj, rfl⟩ := List.getElem_of_mem hx
  rw [h j hj hj]; decide
theorem any_at {α : Type} {p : α → Bool} {l : List α} {k : Nat} (hk : k < l.length) (hp : p l[k] = true) : l.any p = true := List.any_eq_true.2 ⟨_, List.getElem_mem hk, hp⟩
theorem NoneTo.idx {α : Type} {p : α → Bool} {l : List α} (h : NoneTo p l l.length) : idx p l 0 = -1 := (idx_lower p l 0).2 h.any
theorem idx_at {α : Type} {p : α → Bool} : ∀ {l : List α} {k : Nat} (n : Nat), NoneTo p l k → (hk : k < l.length) → p l[k] = true → idx p l n = (n + k : Nat)
  | [], k, n, _, hk, _ => by simp at hk
  | x :: l, 0, n, _, _, hp => by simp only [List.getElem_cons_zero] at hp; simp [idx, hp]
  | x :: l, k + 1, n, h, hk, hp => by
    have h0 : p x = false := h 0 (by omega) (by simp)
    have ih := idx_at (l := l) (k := k) (n + 1) (fun j hj hl => h (j + 1) (by omega) (by simpa using hl)) (by simpa using hk) (by simpa using hp)
    simp only [idx, h0]
    rw [if_neg (by decide), ih]
    congr 1; omega

set_option maxRecDepth 100000 in
set_option maxHeartbeats 1000000 in
theorem rwrote_any (r : Rec) (cs : List Value) (key : ByteArray) (w : World) (hr : RecE w cs r) : Calls Tryz.prog 74 #[.agg cs.toArray, .string key] w (Gives w (.bool (wroteS r key))) := by
  obtain ⟨rv, wv, rfl, -, -, -, hwr⟩ := hr
  obtain ⟨q, cap, rfl, hwc, hwl, hcells⟩ := hwr.pairs
  have hq : wroteS r key = r.writes.any fun p => eqB p.key key := rfl
  go_enter Tryz.func74, Tryz.ntmps74
  go_wp2_with fail
  go_loopw [10] (fun i wr => ∃ k : Nat, k ≤ r.writes.length ∧ i = .int .i64 k ∧ Below w.heap.size w wr ∧ Hid (NoneTo (fun p : Pair => eqB p.key key) r.writes k)) (fun i _ => r.writes.length - (intOf i).toNat)
  case atStart => exact ⟨0, Nat.zero_le _, rfl, below_new _ _, Lib.hid (NoneTo.zero _ _)⟩
  case round =>
    obtain ⟨k, hk, rfl, hb, hn⟩ := hrel
    by_cases hlt : k < r.writes.length
    · obtain ⟨b, off, rfl, ⟨z1, z2⟩, c0, c1, c2⟩ := hcells k hlt
      replace c0 := bcell hb c0
      replace c1 := bcell hb c1
      replace c2 := bcell hb c2
      have Hs := Lib.hid (hn.out.succ hlt)
      have Ha := Lib.hid (any_at (p := fun p : Pair => eqB p.key key) hlt)
      have n0 : (0 : Int) ≤ (k : Int) := by omega
      have n1 : (k : Int) < (r.writes.length : Int) := by omega
      clear hcells
      cases hp : (r.writes[k].key.toList == key.toList) with
      | true =>
        have Hp := Lib.hid (Ha.out hp)
        generalize r.writes[k] = p at *
        go_wp2_with fail
        go_ret
        exact ⟨by rw [hq, Hp.out]; rfl, below_trans hb (below_new _ _)⟩
      | false =>
        have Hp := Lib.hid (Hs.out hp)
        generalize r.writes[k] = p at *
        go_wp2_with fail
        go_roundw
        case rel => exact ⟨k + 1, hlt, by go_num, below_trans hb (below_new _ _), Hp⟩
        case measure => simp [intOf]; omega
    · have hke : k = r.writes.length := by omega
      subst hke
      clear hcells
      go_wp2_with fail
      go_ret
      exact ⟨by rw [hq, hn.out.any]; rfl, hb⟩

def touchP (x : Rd) (p : Pair) : Bool := if x.scan then inRange p.key x.key x.to else eqB p.key x.key

set_option maxRecDepth 100000 in
set_option maxHeartbeats 2000000 in
theorem rtouches_any (r : Rec) (x : Rd) (cs ds : List Value) (w : World) (hr : RecE w cs r) (hx : RdE w ds x) : Calls Tryz.prog 75 #[.agg cs.toArray, .agg ds.toArray] w (Gives w (.bool (touchesS r x))) := by
  obtain ⟨rv, wv, rfl, -, -, -, hwr⟩ := hr
  obtain ⟨pv, rfl, -, -, -⟩ := hx
  obtain ⟨q, cap, rfl, hwc, hwl, hcells⟩ := hwr.pairs
  have hq : touchesS r x = r.writes.any (touchP x) := rfl
  go_enter Tryz.func75, Tryz.ntmps75
  go_wp2_with fail
  generalize hB0 : (w.alloc (.cells #[.int .i64 r.session, .int .i64 r.snap, .bool r.strict, rv, .slice q r.writes.length cap] 32)).alloc (.cells #[.bool x.scan, .string x.key, .string x.to, pv] 37) = W0
  have hW : Below w.heap.size w W0 := by rw [← hB0]; exact below_alloc (below_new _ _) _
  have d0 : W0.cell? ⟨w.heap.size + 1, 0, none⟩ = some (.bool x.scan) := by rw [← hB0]; simp
  have d1 : W0.cell? ⟨w.heap.size + 1, 1, none⟩ = some (.string x.key) := by rw [← hB0]; simp
  have d2 : W0.cell? ⟨w.heap.size + 1, 2, none⟩ = some (.string x.to) := by rw [← hB0]; simp
  clear hB0
  go_loopw [10] (fun i wr => ∃ k : Nat, k ≤ r.writes.length ∧ i = .int .i64 k ∧ Below W0.heap.size W0 wr ∧ Hid (NoneTo (touchP x) r.writes k)) (fun i _ => r.writes.length - (intOf i).toNat)
  case atStart => exact ⟨0, Nat.zero_le _, rfl, Below.refl _ _, Lib.hid (NoneTo.zero _ _)⟩
  case round =>
    obtain ⟨k, hk, rfl, hb, hn⟩ := hrel
    have hbw := below_trans hW hb
    by_cases hlt : k < r.writes.length
    · obtain ⟨b, off, rfl, ⟨z1, z2⟩, c0, c1, c2⟩ := hcells k hlt
      replace c0 := bcell hbw c0
      replace c1 := bcell hbw c1
      replace c2 := bcell hbw c2
      replace d0 := bcell hb d0
      replace d1 := bcell hb d1
      replace d2 := bcell hb d2
      have l0 := World.block_lt_of_cell? _ _ d0
      have Hs := Lib.hid (hn.out.succ hlt)
      have Ha := Lib.hid (any_at (p := touchP x) hlt)
      have n0 : (0 : Int) ≤ (k : Int) := by omega
      have n1 : (k : Int) < (r.writes.length : Int) := by omega
      clear hcells hW
      generalize r.writes[k] = p at *
      have hT : touchP x p = (if x.scan then (!Op.bytesLess p.key.toList x.key.toList && Op.bytesLess p.key.toList x.to.toList) else (p.key.toList == x.key.toList)) := rfl
      have Hq := Lib.hid hq
      have HT := Lib.hid hT
      clear hq hT
      cases hs : x.scan <;> cases h1 : Op.bytesLess p.key.toList x.key.toList <;> cases h2 : Op.bytesLess p.key.toList x.to.toList <;> cases h3 : (p.key.toList == x.key.toList) <;>
        (rw [hs] at d0
         have HT1 : Hid (touchP x p = _) := Lib.hid HT.out
         go_wp2_with fail
         first
           | (go_ret
              go_light
              refine ⟨?_, below_trans hbw (below_new _ _)⟩
              have e : touchP x p = true := by rw [HT.out]; simp [*]
              rw [Hq.out, Ha.out e]; rfl)
           | (go_roundw
              case rel =>
                go_light
                exact ⟨k + 1, hlt, by go_num, below_trans hb (below_new _ _), Lib.hid (Hs.out (by rw [HT.out]; simp [*]))⟩
              case measure => go_light; simp [intOf]; omega))
    · have hke : k = r.writes.length := by omega
      subst hke
      clear hcells
      go_wp2_with fail
      go_ret
      exact ⟨by rw [hq, hn.out.any]; rfl, hbw⟩

set_option maxRecDepth 100000 in
set_option maxHeartbeats 2000000 in
theorem rclash_any (r : Rec) (later : List Rec) (cs : List Value) (v : Value) (w : World) (hr : RecE w cs r) (hv : SlP 5 RecE w v later) : Calls Tryz.prog 48 #[.agg cs.toArray, v] w (Gives w (.int .i64 (clashS r later))) := by
  obtain ⟨rv, wv, rfl, -, -, -, hwr⟩ := hr
  obtain ⟨q, cap, rfl, hwc, hwl, hcells⟩ := hwr.pairs
  obtain ⟨q2, cap2, rfl, hlc, hll, -, hlcells⟩ := hv.recsAt
  have hq : clashS r later = idx (fun o => r.writes.any fun p => wroteS o p.key) later 0 := rfl
  go_enter Tryz.func48, Tryz.ntmps48
  go_wp2_with fail
  generalize hB0 : (w.alloc (.cells #[.int .i64 r.session, .int .i64 r.snap, .bool r.strict, rv, .slice q r.writes.length cap] 32)) = W0
  have hW : Below w.heap.size w W0 := by rw [← hB0]; exact below_new _ _
  have d4 : W0.cell? ⟨w.heap.size, 4, none⟩ = some (.slice q r.writes.length cap) := by rw [← hB0]; simp
  clear hB0
  go_loopw [11] (fun i wr => ∃ k : Nat, k ≤ later.length ∧ i = .int .i64 k ∧ Below W0.heap.size W0 wr ∧ Hid (NoneTo (fun o => r.writes.any fun p => wroteS o p.key) later k)) (fun i _ => later.length - (intOf i).toNat)
  case atStart => exact ⟨0, Nat.zero_le _, rfl, Below.refl _ _, Lib.hid (NoneTo.zero _ _)⟩
  case round =>
    obtain ⟨k, hk, rfl, hb, hn⟩ := hrel
    have hbw := below_trans hW hb
    by_cases hlt : k < later.length
    · obtain ⟨b, off, rq, rc, wq, wc, rfl, he, -, -, c0, c1, c2, c3, c4⟩ := hlcells k hlt
      replace c0 := bcell hbw c0
      replace c1 := bcell hbw c1
      replace c2 := bcell hbw c2
      replace c3 := bcell hbw c3
      replace c4 := bcell hbw c4
      replace d4 := bcell hb d4
      have l0 := World.block_lt_of_cell? _ _ d4
      have Hs := Lib.hid (hn.out.succ hlt)
      have Hi := Lib.hid (idx_at 0 hn.out hlt)
      have n0 : (0 : Int) ≤ (k : Int) := by omega
      have n1 : (k : Int) < (later.length : Int) := by omega
      have Hq := Lib.hid hq
      clear hlcells hq hv
      generalize later[k] = o at *
      have hcall := fun W key hb => rwrote_any o _ key W (RecE.mono.mono (w' := W) hb he)
      go_wp2_with fail
      generalize hB1 : wr.alloc (.cells #[.int .i64 o.session, .int .i64 o.snap, .bool o.strict, .slice rq o.reads.length rc, .slice wq o.writes.length wc] 32) = W1
      have hb1 : Below wr.heap.size wr W1 := by rw [← hB1]; exact below_new _ _
      have e0 : W1.cell? ⟨wr.heap.size, 0, none⟩ = some (.int .i64 o.session) := by rw [← hB1]; simp
      have e1 : W1.cell? ⟨wr.heap.size, 1, none⟩ = some (.int .i64 o.snap) := by rw [← hB1]; simp
      have e2 : W1.cell? ⟨wr.heap.size, 2, none⟩ = some (.bool o.strict) := by rw [← hB1]; simp
      have e3 : W1.cell? ⟨wr.heap.size, 3, none⟩ = some (.slice rq o.reads.length rc) := by rw [← hB1]; simp
      have e4 : W1.cell? ⟨wr.heap.size, 4, none⟩ = some (.slice wq o.writes.length wc) := by rw [← hB1]; simp
      clear hB1 c0 c1 c2 c3 c4 d4 he
      obtain ⟨wo, hwo⟩ : ∃ wo : World, wo = wr := ⟨_, rfl⟩
      subst hwo
      go_loopw [19] (fun i wr2 => ∃ j : Nat, j ≤ r.writes.length ∧ i = .int .i64 j ∧ Below W1.heap.size W1 wr2 ∧ Hid (NoneTo (fun p : Pair => wroteS o p.key) r.writes j)) (fun i _ => r.writes.length - (intOf i).toNat)
      case atStart => exact ⟨0, Nat.zero_le _, rfl, Below.refl _ _, Lib.hid (NoneTo.zero _ _)⟩
      case round =>
        obtain ⟨j, hj, rfl, hb2, hn2⟩ := hrel
        have hbj := below_trans hb1 hb2
        have hbw2 := below_trans hbw hbj
        by_cases hlt2 : j < r.writes.length
        · obtain ⟨b3, off3, rfl, ⟨z1, z2⟩, c0, c1, c2⟩ := hcells j hlt2
          replace c0 := bcell hbw2 c0
          replace c1 := bcell hbw2 c1
          replace c2 := bcell hbw2 c2
          replace e0 := bcell hb2 e0
          replace e1 := bcell hb2 e1
          replace e2 := bcell hb2 e2
          replace e3 := bcell hb2 e3
          replace e4 := bcell hb2 e4
          have l1 := World.block_lt_of_cell? _ _ e0
          have Hs2 := Lib.hid (hn2.out.succ hlt2)
          have Ha := Lib.hid (any_at (p := fun p : Pair => wroteS o p.key) hlt2)
          have n2 : (0 : Int) ≤ (j : Int) := by omega
          have n3 : (j : Int) < (r.writes.length : Int) := by omega
          clear hcells hwr
          replace hcall := fun W hb => hcall W r.writes[j].key hb
          cases hp : wroteS o r.writes[j].key with
          | true =>
            have Hp := Lib.hid (Ha.out hp)
            rw [hp] at hcall
            clear hp
            generalize r.writes[j] = p at *
            go_wp2_with (first | (go_at_call 74; refine (hcall _ (below_trans hbw2 (below_new _ _))).mono ?_; rintro e w5 ⟨rfl, hb5⟩) | fail)
            go_ret
            exact ⟨by rw [Hq.out, Hi.out Hp.out]; simp, below_trans (below_trans hbw2 (below_new _ _)) hb5⟩
          | false =>
            have Hp := Lib.hid (Hs2.out hp)
            rw [hp] at hcall
            clear hp
            generalize r.writes[j] = p at *
            go_wp2_with (first | (go_at_call 74; refine (hcall _ (below_trans hbw2 (below_new _ _))).mono ?_; rintro e w5 ⟨rfl, hb5⟩) | fail)
            go_roundw
            case rel => exact ⟨j + 1, hlt2, by go_num, below_trans (below_trans hb2 (below_new _ _)) hb5, Hp⟩
            case measure => simp [intOf]; omega
        · have hje : j = r.writes.length := by omega
          subst hje
          clear hcells hcall
          have Hk := Lib.hid (Hs.out hn2.out.any)
          go_wp2_with fail
          go_roundw
          case rel => exact ⟨k + 1, hlt, by go_num, below_trans hb hbj, Hk⟩
          case measure => simp [intOf]; omega
    · have hke : k = later.length := by omega
      subst hke
      clear hlcells hcells
      go_wp2_with fail
      go_ret
      exact ⟨by rw [hq, hn.out.idx]; rfl, hbw⟩

end Go.Proofs.YtgmcpfcpdmnebaaGreat
