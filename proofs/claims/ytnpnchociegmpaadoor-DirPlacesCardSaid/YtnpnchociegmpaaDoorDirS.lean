/- The directory: the numbers of a list that is read. -/
import Derived.Test.YtnpnchociegmpaaDoorDirR
namespace Go.Proofs.YtnpnchociegmpaaDoor
open Go.RowKit Go.Proofs Go.Shelf
attribute [local go_sem ↓] Go.wp_at_zero Go.wp_at_succ

theorem slp_drop {w : World} {v : Value} {l : List UInt8} (h : SlP 1 ByteE w v l) (k : Nat) (hk : k ≤ l.length) (h0 : 0 < l.length) : ∃ g o cap, v = .slice (some ⟨g, o, none⟩) l.length cap ∧ l.length ≤ cap ∧ l.length ≤ 9223372036854775807 ∧ SlP 1 ByteE w (.slice (some ⟨g, o + k, none⟩) (l.length - k) (cap - k)) (l.drop k) := by
  obtain ⟨q, cap, rfl, h1, h2, h3, h4⟩ := id h
  obtain ⟨b, off, cs, rfl, -⟩ := h4 0 h0
  have := slp_part (m := l.length - k) h (show k + (l.length - k) ≤ l.length by omega)
  rw [List.take_of_length_le (by rw [List.length_drop]; omega)] at this
  exact ⟨b, off, cap, rfl, h1, by omega, this⟩

/-- What is left to be read, and whether all was right; they lie in blocks p and q of the call's own. -/
structure NumAt (w0 w : World) (p q : Nat) (x : List UInt8) (bad : Bool) : Prop where
  has : ∃ v, w.heap[p]? = some (.cells #[v] 32 (0, 0)) ∧ SlP 1 ByteE w0 v x
  flag : w.heap[q]? = some (.cells #[.bool bad] 4 (0, 0))
  base : Below w0.heap.size w0 w
  ge : w0.heap.size ≤ p ∧ w0.heap.size ≤ q ∧ p ≠ q

theorem NumAt.keep {w0 w w' : World} {p q : Nat} {x : List UInt8} {bad : Bool} (h : NumAt w0 w p q x bad) (hb : Below w.heap.size w w') : NumAt w0 w' p q x bad := by
  obtain ⟨v, h1, h2⟩ := h.has
  exact ⟨⟨v, (hb.block p (heap_lt h1)).trans h1, h2⟩, (hb.block q (heap_lt h.flag)).trans h.flag, below_trans h.base hb, h.ge⟩

def NumOut1 (w0 w : World) (p q mo : Nat) (x : List UInt8) (bad : Bool) (e : Ending) (w' : World) : Prop :=
  e = .returned (.int .i64 (numP mo x bad).1) ∧ NumAt w0 w' p q (numP mo x bad).2.1 (numP mo x bad).2.2 ∧ Kept (fun k => k < w.heap.size ∧ k ≠ p ∧ k ≠ q) w w'

theorem set_kept {w w1 : World} {p q : Nat} (h : Kept (fun k => k < w.heap.size ∧ k ≠ p ∧ k ≠ q) w w1) (u : Value) (i : Nat) : Kept (fun k => k < w.heap.size ∧ k ≠ p ∧ k ≠ q) w (w1.setCell ⟨q, i, none⟩ u) := h.setCell (by simp) u
theorem set_kept' {w w1 : World} {p q : Nat} (h : Kept (fun k => k < w.heap.size ∧ k ≠ p ∧ k ≠ q) w w1) (u : Value) (i : Nat) : Kept (fun k => k < w.heap.size ∧ k ≠ p ∧ k ≠ q) w (w1.setCell ⟨p, i, none⟩ u) := h.setCell (by simp) u

set_option maxRecDepth 100000 in
set_option maxHeartbeats 4000000 in
theorem num1_any (w0 w : World) (p q mo : Nat) (x : List UInt8) (bad : Bool) (h : NumAt w0 w p q x bad) (hmo : mo ≤ 1099511627776) : Calls Tryd.prog 59 #[.int .u64 mo, .pointer (some ⟨p, 0, none⟩), .pointer (some ⟨q, 0, none⟩)] w (NumOut1 w0 w p q mo x bad) := by
  obtain ⟨v, hp, hv⟩ := h.has
  have hq := h.flag
  have hbase := h.base
  obtain ⟨hg1, hg2, hne⟩ := h.ge
  have lp := heap_lt hp
  have lq := heap_lt hq
  have c0 : w.cell? ⟨p, 0, none⟩ = some v := by rw [block_cell hp]; rfl
  have hget := getnum_any v x w (hv.mono ByteE.mono hbase)
  unfold NumOut at hget
  have hok := getNumS_ok x
  have hP : numP mo x bad = if bad = true ∨ (getNumS x).2.2 = false ∨ mo < (getNumS x).1 then (0, x, true) else ((getNumS x).1, x.drop (getNumS x).2.1, false) := rfl
  have hx0 : (getNumS x).2.2 = true → 0 < x.length := fun h => by have := hok.2.1 h; omega
  have hdrop : (getNumS x).2.2 = true → _ := fun h => slp_drop hv (getNumS x).2.1 (hok.2.1 h).2 (hx0 h)
  generalize getNumS x = r at *
  obtain ⟨n, k, ok⟩ := r
  dsimp only at hget hok hP hx0 hdrop
  have hb01 : ∀ w1, Below w.heap.size w w1 → w1.heap[p]? = some (.cells #[v] 32 (0, 0)) ∧ w1.heap[q]? = some (.cells #[.bool bad] 4 (0, 0)) := fun w1 hb => ⟨(hb.block p lp).trans hp, (hb.block q lq).trans hq⟩
  cases bad with
  | true =>
    have Hr : Hid (numP mo x true = (0, x, true)) := Lib.hid (by rw [hP, if_pos (.inl rfl)])
    clear hP hok hx0 hdrop
    go_enter Tryd.func59, Tryd.ntmps59
    go_wp2_with (first
      | (go_at_call 60; refine hget.mono ?_; rintro e w1 ⟨rfl, hb1⟩; obtain ⟨hp1, hq1⟩ := hb01 w1 hb1; have c1 : w1.cell? ⟨q, 0, none⟩ = some (.bool true) := (by rw [block_cell hq1]; rfl); have z1 := block_free hq1 0)
      | fail)
    go_ret
    have hk1 : Kept (fun k => k < w.heap.size ∧ k ≠ p ∧ k ≠ q) w w1 := kept_of_below hb1 fun k hk => hk.1
    have hq2 := block_set hq1 0 (.bool true)
    have hp2 := (Below.heap_setCell w1 ⟨q, 0, none⟩ (.bool true) p hne).trans hp1
    refine ⟨by rw [Hr.out]; rfl, by rw [Hr.out]; exact ⟨⟨v, hp2, hv⟩, hq2, (hbase.trans (hb1.mono hbase.size)).setCell (p := ⟨q, 0, none⟩) hg2 _, hg1, hg2, hne⟩, set_kept hk1 _ 0⟩
  | false =>
    cases ok with
    | false =>
      have Hr : Hid (numP mo x false = (0, x, true)) := Lib.hid (by rw [hP, if_pos (.inr (.inl rfl))])
      clear hP hok hx0 hdrop
      go_enter Tryd.func59, Tryd.ntmps59
      go_wp2_with (first
        | (go_at_call 60; refine hget.mono ?_; rintro e w1 ⟨rfl, hb1⟩; obtain ⟨hp1, hq1⟩ := hb01 w1 hb1; have c1 : w1.cell? ⟨q, 0, none⟩ = some (.bool false) := (by rw [block_cell hq1]; rfl); have z1 := block_free hq1 0)
        | fail)
      go_ret
      have hk1 : Kept (fun k => k < w.heap.size ∧ k ≠ p ∧ k ≠ q) w w1 := kept_of_below hb1 fun k hk => hk.1
      have hq2 := block_set hq1 0 (.bool true)
      have hp2 := (Below.heap_setCell w1 ⟨q, 0, none⟩ (.bool true) p hne).trans hp1
      refine ⟨by rw [Hr.out]; rfl, by rw [Hr.out]; exact ⟨⟨v, hp2, hv⟩, hq2, (hbase.trans (hb1.mono hbase.size)).setCell (p := ⟨q, 0, none⟩) hg2 _, hg1, hg2, hne⟩, set_kept hk1 _ 0⟩
    | true =>
      by_cases hn : (mo : Int) < (n : Int)
      · skip
        have Hr : Hid (numP mo x false = (0, x, true)) := Lib.hid (by rw [hP, if_pos (.inr (.inr (by omega)))])
        clear hP hok hx0 hdrop
        go_enter Tryd.func59, Tryd.ntmps59
        go_wp2_with (first
          | (go_at_call 60; refine hget.mono ?_; rintro e w1 ⟨rfl, hb1⟩; obtain ⟨hp1, hq1⟩ := hb01 w1 hb1; have c1 : w1.cell? ⟨q, 0, none⟩ = some (.bool false) := (by rw [block_cell hq1]; rfl); have z1 := block_free hq1 0)
          | fail)
        go_ret
        have hk1 : Kept (fun k => k < w.heap.size ∧ k ≠ p ∧ k ≠ q) w w1 := kept_of_below hb1 fun k hk => hk.1
        have hq2 := block_set hq1 0 (.bool true)
        have hp2 := (Below.heap_setCell w1 ⟨q, 0, none⟩ (.bool true) p hne).trans hp1
        refine ⟨by rw [Hr.out]; rfl, by rw [Hr.out]; exact ⟨⟨v, hp2, hv⟩, hq2, (hbase.trans (hb1.mono hbase.size)).setCell (p := ⟨q, 0, none⟩) hg2 _, hg1, hg2, hne⟩, set_kept hk1 _ 0⟩
      · obtain ⟨g, o, cap, rfl, hc1, hc2, hv2⟩ := hdrop rfl
        have Hr : Hid (numP mo x false = (n, x.drop k, false)) := Lib.hid (by rw [hP, if_neg (by simp; omega)])
        have hk1' := (hok.2.1 rfl).2
        have hk0 : (k : Int) ≤ (x.length : Int) := by omega
        have hkz : (0 : Int) ≤ (k : Int) := by omega
        have hn1 : IntKind.i64.wrap (n : Int) = (n : Int) := IntWalk.i64_in _ (by omega)
        clear hP hok hx0 hdrop
        go_enter Tryd.func59, Tryd.ntmps59
        go_upto_region 3 with (first
          | (go_at_call 60; refine hget.mono ?_; rintro e w1 ⟨rfl, hb1⟩; obtain ⟨hp1, hq1⟩ := hb01 w1 hb1; have c1 : w1.cell? ⟨q, 0, none⟩ = some (.bool false) := (by rw [block_cell hq1]; rfl); have z1 := block_free hq1 0)
          | fail)
        have hk1 : Kept (fun k => k < w.heap.size ∧ k ≠ p ∧ k ≠ q) w w1 := kept_of_below hb1 fun k hk => hk.1
        rw [decide_eq_false (show ¬ mo < n by omega)]
        have hq2 := block_set hq1 0 (.bool false)
        have hp2 := (Below.heap_setCell w1 ⟨q, 0, none⟩ (.bool false) p hne).trans hp1
        have hbas2 : Below w0.heap.size w0 (w1.setCell ⟨q, 0, none⟩ (.bool false)) := (hbase.trans (hb1.mono hbase.size)).setCell (p := ⟨q, 0, none⟩) hg2 _
        have hk2 := set_kept hk1 (.bool false) 0
        generalize World.setCell w1 _ _ = w2 at *
        have d0 : w2.cell? ⟨q, 0, none⟩ = some (.bool false) := by rw [block_cell hq2]; rfl
        have d1 : w2.cell? ⟨p, 0, none⟩ = some (.slice (some ⟨g, o, none⟩) x.length cap) := by rw [block_cell hp2]; rfl
        have z2 := block_free hp2 0
        have hfin : ∀ v2, SlP 1 ByteE w0 v2 (x.drop k) → NumOut1 w0 w p q mo x false (.returned (.int .i64 n)) (w2.setCell ⟨p, 0, none⟩ v2) := fun v2 h2 => by
          unfold NumOut1
          rw [Hr.out]
          exact ⟨rfl, ⟨⟨v2, block_set hp2 0 v2, h2⟩, (Below.heap_setCell w2 ⟨p, 0, none⟩ v2 q (Ne.symm hne)).trans hq2, hbas2.setCell (p := ⟨p, 0, none⟩) hg1 _, hg1, hg2, hne⟩, set_kept' hk2 _ 0⟩
        go_wp2_with fail
        · go_ret
          have hcap : cap = k := by assumption
          refine hfin _ ?_
          have e : x.drop k = [] := List.drop_of_length_le (by omega)
          rw [e, show x.length - k = 0 by omega]
          exact ⟨_, 0, rfl, by simp, by simp, fun _ => rfl, fun j hj => by simp at hj⟩
        · go_ret
          exact hfin _ hv2

end Go.Proofs.YtnpnchociegmpaaDoor
