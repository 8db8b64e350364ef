/- The directory: the numbers of a list that is read. -/
/- The directory: bytes.Equal; what parse's list fits. -/
import Derived.Test.YtlhefifejcoecaaGreatDoorDirR
import Derived.Shelf.Bytes.SlSmallAll
namespace Go.Proofs.YtlhefifejcoecaaGreatDoor
open Go.RowKit Go.Proofs Go.Shelf
attribute [local go_sem ↓] Go.wp_at_zero Go.wp_at_succ

theorem slp_drop {w : World} {v : Value} {l : List UInt8} (h : SlP 1 ByteE w v l) (k : Nat) (hk : k ≤ l.length) (h0 : 0 < l.length) : ∃ g o cap, v = .slice (some ⟨g, o, none⟩) l.length cap ∧ l.length ≤ cap ∧ l.length ≤ 9223372036854775807 ∧ SlP 1 ByteE w (.slice (some ⟨g, o + k, none⟩) (l.length - k) (cap - k)) (l.drop k) := by
  obtain ⟨q, cap, rfl, h1, h2, h3, h4⟩ := id h
  obtain ⟨b, off, cs, rfl, -⟩ := h4 0 h0
  have := slp_part (m := l.length - k) h (show k + (l.length - k) ≤ l.length by omega)
  rw [List.take_of_length_le (by rw [List.length_drop]; omega)] at this
  exact ⟨b, off, cap, rfl, h1, by omega, this⟩

/-- What is left to be read, and whether all was right; they lie in blocks p and q of the call's own. -/
structure NumAt (w0 w : World) (p q : Nat) (x : List UInt8) (bad : Bool) : Prop where
  has : ∃ v, w.heap[p]? = some (.cells #[v] 25 (0, 0)) ∧ SlP 1 ByteE w0 v x
  flag : w.heap[q]? = some (.cells #[.bool bad] 4 (0, 0))
  base : Below w0.heap.size w0 w
  ge : w0.heap.size ≤ p ∧ w0.heap.size ≤ q ∧ p ≠ q

theorem NumAt.keep {w0 w w' : World} {p q : Nat} {x : List UInt8} {bad : Bool} (h : NumAt w0 w p q x bad) (hb : Below w.heap.size w w') : NumAt w0 w' p q x bad := by
  obtain ⟨v, h1, h2⟩ := h.has
  exact ⟨⟨v, (hb.block p (heap_lt h1)).trans h1, h2⟩, (hb.block q (heap_lt h.flag)).trans h.flag, below_trans h.base hb, h.ge⟩

def NumOut1 (w0 w : World) (p q mo : Nat) (x : List UInt8) (bad : Bool) (e : Ending) (w' : World) : Prop :=
  e = .returned (.int .i64 (numP mo x bad).1) ∧ NumAt w0 w' p q (numP mo x bad).2.1 (numP mo x bad).2.2 ∧ Kept (fun k => k < w.heap.size ∧ k ≠ p ∧ k ≠ q) w w'

theorem set_kept {w w1 : World} {p q : Nat} (h : Kept (fun k => k < w.heap.size ∧ k ≠ p ∧ k ≠ q) w w1) (u : Value) (i : Nat) : Kept (fun k => k < w.heap.size ∧ k ≠ p ∧ k ≠ q) w (w1.setCell ⟨q, i, none⟩ u) := h.setCell (by simp) u
theorem set_kept' {w w1 : World} {p q : Nat} (h : Kept (fun k => k < w.heap.size ∧ k ≠ p ∧ k ≠ q) w w1) (u : Value) (i : Nat) : Kept (fun k => k < w.heap.size ∧ k ≠ p ∧ k ≠ q) w (w1.setCell ⟨p, i, none⟩ u) := h.setCell (by simp) u

set_option maxRecDepth 100000 in
set_option maxHeartbeats 4000000 in
theorem num1_any (w0 w : World) (p q mo : Nat) (x : List UInt8) (bad : Bool) (h : NumAt w0 w p q x bad) (hmo : mo ≤ 1099511627776) : Calls Tryz.prog 93 #[.int .u64 mo, .pointer (some ⟨p, 0, none⟩), .pointer (some ⟨q, 0, none⟩)] w (NumOut1 w0 w p q mo x bad) := by
  obtain ⟨v, hp, hv⟩ := h.has
  have hq := h.flag
  have hbase := h.base
  obtain ⟨hg1, hg2, hne⟩ := h.ge
  have lp := heap_lt hp
  have lq := heap_lt hq
  have c0 : w.cell? ⟨p, 0, none⟩ = some v := by rw [block_cell hp]; rfl
  have hget := getnum_any v x w (hv.mono ByteE.mono hbase)
  unfold NumOut at hget
  have hok := getNumS_ok x
  have hP : numP mo x bad = if bad = true ∨ (getNumS x).2.2 = false ∨ mo < (getNumS x).1 then (0, x, true) else ((getNumS x).1, x.drop (getNumS x).2.1, false) := rfl
  have hx0 : (getNumS x).2.2 = true → 0 < x.length := fun h => by have := hok.2.1 h; omega
  have hdrop : (getNumS x).2.2 = true → _ := fun h => slp_drop hv (getNumS x).2.1 (hok.2.1 h).2 (hx0 h)
  generalize getNumS x = r at *
  obtain ⟨n, k, ok⟩ := r
  dsimp only at hget hok hP hx0 hdrop
  have hb01 : ∀ w1, Below w.heap.size w w1 → w1.heap[p]? = some (.cells #[v] 25 (0, 0)) ∧ w1.heap[q]? = some (.cells #[.bool bad] 4 (0, 0)) := fun w1 hb => ⟨(hb.block p lp).trans hp, (hb.block q lq).trans hq⟩
  cases bad with
  | true =>
    have Hr : Hid (numP mo x true = (0, x, true)) := Lib.hid (by rw [hP, if_pos (.inl rfl)])
    clear hP hok hx0 hdrop
    go_enter Tryz.func93, Tryz.ntmps93
    go_wp2_with (first
      | (go_at_call 94; refine hget.mono ?_; rintro e w1 ⟨rfl, hb1⟩; obtain ⟨hp1, hq1⟩ := hb01 w1 hb1; have c1 : w1.cell? ⟨q, 0, none⟩ = some (.bool true) := (by rw [block_cell hq1]; rfl); have z1 := block_free hq1 0)
      | fail)
    go_ret
    have hk1 : Kept (fun k => k < w.heap.size ∧ k ≠ p ∧ k ≠ q) w w1 := kept_of_below hb1 fun k hk => hk.1
    have hq2 := block_set hq1 0 (.bool true)
    have hp2 := (Below.heap_setCell w1 ⟨q, 0, none⟩ (.bool true) p hne).trans hp1
    refine ⟨by rw [Hr.out]; rfl, by rw [Hr.out]; exact ⟨⟨v, hp2, hv⟩, hq2, (hbase.trans (hb1.mono hbase.size)).setCell (p := ⟨q, 0, none⟩) hg2 _, hg1, hg2, hne⟩, set_kept hk1 _ 0⟩
  | false =>
    cases ok with
    | false =>
      have Hr : Hid (numP mo x false = (0, x, true)) := Lib.hid (by rw [hP, if_pos (.inr (.inl rfl))])
      clear hP hok hx0 hdrop
      go_enter Tryz.func93, Tryz.ntmps93
      go_wp2_with (first
        | (go_at_call 94; refine hget.mono ?_; rintro e w1 ⟨rfl, hb1⟩; obtain ⟨hp1, hq1⟩ := hb01 w1 hb1; have c1 : w1.cell? ⟨q, 0, none⟩ = some (.bool false) := (by rw [block_cell hq1]; rfl); have z1 := block_free hq1 0)
        | fail)
      go_ret
      have hk1 : Kept (fun k => k < w.heap.size ∧ k ≠ p ∧ k ≠ q) w w1 := kept_of_below hb1 fun k hk => hk.1
      have hq2 := block_set hq1 0 (.bool true)
      have hp2 := (Below.heap_setCell w1 ⟨q, 0, none⟩ (.bool true) p hne).trans hp1
      refine ⟨by rw [Hr.out]; rfl, by rw [Hr.out]; exact ⟨⟨v, hp2, hv⟩, hq2, (hbase.trans (hb1.mono hbase.size)).setCell (p := ⟨q, 0, none⟩) hg2 _, hg1, hg2, hne⟩, set_kept hk1 _ 0⟩
    | true =>
      by_cases hn : (mo : Int) < (n : Int)
      · skip
        have Hr : Hid (numP mo x false = (0, x, true)) := Lib.hid (by rw [hP, if_pos (.inr (.inr (by omega)))])
        clear hP hok hx0 hdrop
        go_enter Tryz.func93, Tryz.ntmps93
        go_wp2_with (first
          | (go_at_call 94; refine hget.mono ?_; rintro e w1 ⟨rfl, hb1⟩; obtain ⟨hp1, hq1⟩ := hb01 w1 hb1; have c1 : w1.cell? ⟨q, 0, none⟩ = some (.bool false) := (by rw [block_cell hq1]; rfl); have z1 := block_free hq1 0)
          | fail)
        go_ret
        have hk1 : Kept (fun k => k < w.heap.size ∧ k ≠ p ∧ k ≠ q) w w1 := kept_of_below hb1 fun k hk => hk.1
        have hq2 := block_set hq1 0 (.bool true)
        have hp2 := (Below.heap_setCell w1 ⟨q, 0, none⟩ (.bool true) p hne).trans hp1
        refine ⟨by rw [Hr.out]; rfl, by rw [Hr.out]; exact ⟨⟨v, hp2, hv⟩, hq2, (hbase.trans (hb1.mono hbase.size)).setCell (p := ⟨q, 0, none⟩) hg2 _, hg1, hg2, hne⟩, set_kept hk1 _ 0⟩
      · obtain ⟨g, o, cap, rfl, hc1, hc2, hv2⟩ := hdrop rfl
        have Hr : Hid (numP mo x false = (n, x.drop k, false)) := Lib.hid (by rw [hP, if_neg (by simp; omega)])
        have hk1' := (hok.2.1 rfl).2
        have hk0 : (k : Int) ≤ (x.length : Int) := by omega
        have hkz : (0 : Int) ≤ (k : Int) := by omega
        have hn1 : IntKind.i64.wrap (n : Int) = (n : Int) := IntWalk.i64_in _ (by omega)
        clear hP hok hx0 hdrop
        go_enter Tryz.func93, Tryz.ntmps93
        go_upto_region 3 with (first
          | (go_at_call 94; refine hget.mono ?_; rintro e w1 ⟨rfl, hb1⟩; obtain ⟨hp1, hq1⟩ := hb01 w1 hb1; have c1 : w1.cell? ⟨q, 0, none⟩ = some (.bool false) := (by rw [block_cell hq1]; rfl); have z1 := block_free hq1 0)
          | fail)
        have hk1 : Kept (fun k => k < w.heap.size ∧ k ≠ p ∧ k ≠ q) w w1 := kept_of_below hb1 fun k hk => hk.1
        rw [decide_eq_false (show ¬ mo < n by omega)]
        have hq2 := block_set hq1 0 (.bool false)
        have hp2 := (Below.heap_setCell w1 ⟨q, 0, none⟩ (.bool false) p hne).trans hp1
        have hbas2 : Below w0.heap.size w0 (w1.setCell ⟨q, 0, none⟩ (.bool false)) := (hbase.trans (hb1.mono hbase.size)).setCell (p := ⟨q, 0, none⟩) hg2 _
        have hk2 := set_kept hk1 (.bool false) 0
        generalize World.setCell w1 _ _ = w2 at *
        have d0 : w2.cell? ⟨q, 0, none⟩ = some (.bool false) := by rw [block_cell hq2]; rfl
        have d1 : w2.cell? ⟨p, 0, none⟩ = some (.slice (some ⟨g, o, none⟩) x.length cap) := by rw [block_cell hp2]; rfl
        have z2 := block_free hp2 0
        have hfin : ∀ v2, SlP 1 ByteE w0 v2 (x.drop k) → NumOut1 w0 w p q mo x false (.returned (.int .i64 n)) (w2.setCell ⟨p, 0, none⟩ v2) := fun v2 h2 => by
          unfold NumOut1
          rw [Hr.out]
          exact ⟨rfl, ⟨⟨v2, block_set hp2 0 v2, h2⟩, (Below.heap_setCell w2 ⟨p, 0, none⟩ v2 q (Ne.symm hne)).trans hq2, hbas2.setCell (p := ⟨p, 0, none⟩) hg1 _, hg1, hg2, hne⟩, set_kept' hk2 _ 0⟩
        go_wp2_with fail
        · go_ret
          have hcap : cap = k := by assumption
          refine hfin _ ?_
          have e : x.drop k = [] := List.drop_of_length_le (by omega)
          rw [e, show x.length - k = 0 by omega]
          exact ⟨_, 0, rfl, by simp, by simp, fun _ => rfl, fun j hj => by simp at hj⟩
        · go_ret
          exact hfin _ hv2

end Go.Proofs.YtlhefifejcoecaaGreatDoor

namespace Go.Proofs.YtlhefifejcoecaaGreatDoor
open Go.RowKit Go.Proofs Go.Shelf
attribute [local go_sem ↓] Go.wp_at_zero Go.wp_at_succ

theorem conv_bytes {w : World} {v : Value} {l : List UInt8} (h : SlP 1 ByteE w v l) : (convert 25 9 v).run Tryz.prog w = .ok (.string ⟨l.toArray⟩) w := by
  obtain ⟨q, cap, rfl, h1, h2, h0, h3⟩ := h
  cases l with
  | nil => exact run_convert_bytes_zero (P := Tryz.prog) w 25 5 Tryz.underlying25 Tryz.underlying5 q cap 9 Tryz.underlying9
  | cons x r =>
    obtain ⟨b, off, cs, rfl, -⟩ := h3 0 (by simp)
    refine run_convert_bytes_back (P := Tryz.prog) w 25 9 5 ⟨b, off, none⟩ cap (x :: r) Tryz.underlying25 Tryz.underlying5 Tryz.underlying9 (fun j hj => ?_)
    obtain ⟨b', off', cs, e, hl, he, hc⟩ := h3 j hj
    simp only [Option.some.injEq, Addr.mk.injEq] at e
    obtain ⟨rfl, rfl, -⟩ := e
    unfold ByteE at he
    subst he
    have := hc 0 (by simp)
    rw [Addr.add_lit]
    simpa [u8] using this

theorem bytes_eq (a b : List UInt8) : decide ((⟨a.toArray⟩ : ByteArray) = ⟨b.toArray⟩) = decide (a = b) := decide_eq_decide.2 ⟨fun h => by
  have := congrArg (fun x : ByteArray => x.data.toList) h
  simpa using this, fun h => by rw [h]⟩

set_option maxRecDepth 100000 in
theorem beq_any (u v : Value) (a b : List UInt8) (w : World) (hu : SlP 1 ByteE w u a) (hv : SlP 1 ByteE w v b) : Calls Tryz.prog 97 #[u, v] w (Gives w (.bool (decide (a = b)))) := by
  have c1 := conv_bytes hu
  have c2 := conv_bytes hv
  have hq2 : ((⟨a.toArray⟩ : ByteArray).toList == (⟨b.toArray⟩ : ByteArray).toList) = decide (a = b) := by
    rw [ByteArray.toList_eq, ByteArray.toList_eq]
    exact Bool.eq_iff_iff.2 (by simp)
  have Hq2 := Lib.hid hq2
  clear hq2 hu hv
  generalize (⟨a.toArray⟩ : ByteArray) = x at *
  generalize (⟨b.toArray⟩ : ByteArray) = y at *
  go_enter Tryz.func97, Tryz.ntmps97
  go_wp2_with fail
  go_ret
  refine ⟨?_, Below.refl _ _⟩
  rw [← Hq2.out]
  rfl

theorem fext_le {m : Files} {B : Nat} (h : ∀ x ∈ m, x.2.1 ≤ B ∧ x.2.2 ≤ B) (s : List UInt8) : (fext m s).1 ≤ B ∧ (fext m s).2 ≤ B := by
  unfold fext fget
  cases hf : m.find? fun x => decide ((⟨s.toArray⟩ : ByteArray) = x.1) with
  | none => simp
  | some x => exact h x (List.mem_of_find?_eq_some hf)

theorem fits_of {m : Files} (h1 : m.length ≤ 10) (h2 : ∀ x ∈ m, x.1.size ≤ 8 ∧ x.2.1 ≤ 1048576 ∧ x.2.2 ≤ 1048576) {epoch : Nat} (he : epoch ≤ 1099511627776) : Fits epoch m := by
  have hl : (namesS m).length = m.length := by rw [(names_perm m).length_eq, List.length_map]
  have hx := fun s => fext_le (fun x hx => (h2 x hx).2) s
  have hent : ∀ s ∈ namesS m, (entryS m s).length ≤ 17 := by
    intro s hs
    obtain ⟨x, hxm, e⟩ := names_mem hs
    have hsz := (h2 x hxm).1
    rw [e] at hsz
    have hs8 : s.length ≤ 8 := by simpa [ByteArray.size] using hsz
    have hxs := hx s
    unfold entryS
    unfold fext at hxs
    simp only [List.length_append]
    have k1 := numS_len_small (n := s.length) (by omega)
    have k2 := numS_len_lt (n := ((fget m ⟨s.toArray⟩).getD (0, 0)).1) (k := 3) (by omega)
    have k3 := numS_len_lt (n := ((fget m ⟨s.toArray⟩).getD (0, 0)).2) (k := 3) (by omega)
    omega
  have hb : (bodyS epoch m (namesS m)).length ≤ 178 := by
    unfold bodyS
    simp only [List.length_append]
    have k1 := numS_len_lt (n := epoch) (k := 6) (by omega)
    have k2 := numS_len_small (n := m.length) (by omega)
    have := flat_len _ hent
    omega
  refine ⟨?_, by omega, by omega⟩
  unfold frameS sumB
  simp only [List.length_append, List.length_cons, List.length_nil]
  have := numS_len_small (n := (bodyS epoch m (namesS m)).length) (by omega)
  omega

theorem numP_le (mo : Nat) (x : List UInt8) (bad : Bool) : (numP mo x bad).1 ≤ mo ∧ (numP mo x bad).2.1.length ≤ x.length := by
  unfold numP
  split
  · exact ⟨Nat.zero_le _, Nat.le_refl _⟩
  · rename_i h
    refine ⟨?_, by rw [List.length_drop]; omega⟩
    dsimp only
    rcases Nat.lt_or_ge mo (getNumS x).1 with h1 | h1
    · exact absurd (.inr (.inr h1)) h
    · exact h1

theorem fset_len (m : Files) (k : ByteArray) (e : Nat × Nat) : (fset m k e).length ≤ m.length + 1 := by
  unfold fset
  split <;> simp

theorem fset_mem {m : Files} {k : ByteArray} {e : Nat × Nat} {x : ByteArray × Nat × Nat} (h : x ∈ fset m k e) : x ∈ m ∨ x = (k, e) := by
  unfold fset at h
  split at h
  · exact List.mem_or_eq_of_mem_set h
  · rcases List.mem_append.1 h with h | h
    · exact .inl h
    · exact .inr (by simpa using h)

theorem getStrS_ok (b : List UInt8) (mo : Nat) (h : (getStrS b mo).2.2 = true) : (getStrS b mo).1.size ≤ mo ∧ (getStrS b mo).2.1 ≤ b.length ∧ 0 < b.length := by
  unfold getStrS at h ⊢
  split at h
  · cases h
  · rename_i hc
    rw [if_neg hc]
    have hok := getNumS_ok b
    have h1 : (getNumS b).2.2 = true := by
      cases h2 : (getNumS b).2.2 with
      | true => rfl
      | false => exact absurd (.inl h2) hc
    have h2 := hok.2.1 h1
    refine ⟨?_, ?_, by omega⟩
    · dsimp only
      simp only [ByteArray.size, List.size_toArray, List.length_take, List.length_drop]
      have h3 : ¬ mo < (getNumS b).1 := fun h3 => hc (.inr (.inl h3))
      omega
    · dsimp only
      have h3 : ¬ b.length - (getNumS b).2.1 < (getNumS b).1 := fun h3 => hc (.inr (.inr h3))
      omega

end Go.Proofs.YtlhefifejcoecaaGreatDoor
