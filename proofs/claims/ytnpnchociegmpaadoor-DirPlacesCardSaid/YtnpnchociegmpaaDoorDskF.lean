/- The disk: New. -/
import Derived.Test.YtnpnchociegmpaaDoorDskE
namespace Go.Proofs.YtnpnchociegmpaaDoor
open Go.RowKit Go.Proofs Go.Shelf
attribute [local go_sem ↓] Go.wp_at_zero Go.wp_at_succ

def zeros (n : Nat) : List UInt8 := List.replicate n 0

theorem secInfo : ∃ i, Tryd.prog.info? 78 = some i ∧ i.zero = some (.agg (Array.replicate 32 (.int .u8 0))) ∧ i.size = 32 ∧ i.bytes = 32 := by
  have h : (Tryd.prog.info? 78).map (fun i => (i.zero, i.size, i.bytes)) = some (some (.agg (Array.replicate 32 (.int .u8 0))), 32, 32) := by kernel_rfl
  obtain ⟨i0, hi, hz0, hz1, hz2⟩ := info_parts h
  exact ⟨i0, hi, hz0, hz1, hz2⟩

theorem made_zeros (n : Nat) : (madeCells (Value.agg (Array.replicate 32 (.int .u8 0))).cells (n * 32)).toList = (zeros (32 * n)).map u8 := by
  have e : (Value.agg (Array.replicate 32 (.int .u8 0))).cells = Array.replicate 32 (.int .u8 0) := rfl
  rw [e]
  unfold madeCells zeros
  rw [List.map_replicate]
  apply List.ext_getElem?
  intro j
  rw [List.getElem?_replicate]
  by_cases hj : j < n * 32
  · have hm : j % 32 < 32 := Nat.mod_lt _ (by decide)
    rw [if_pos (by omega)]
    simp [hj, hm, u8]
  · rw [if_neg (by omega)]
    simp; omega

set_option maxRecDepth 100000 in
set_option maxHeartbeats 2000000 in
theorem new_any (w : World) (n : Nat) (h1 : 1 ≤ n) (h2 : n ≤ 4096) :
    Calls Tryd.prog 7 #[.int .i64 n] w (fun e w' => ∃ D, e = .returned (.pointer (some ⟨D, 0, none⟩)) ∧ DiskAt w' (fun k => k < w.heap.size) D n (zeros (32 * n)) (zeros (32 * n)) false ∧ Below w.heap.size w w') := by
  obtain ⟨i0, hi, hz, hz1, hz2⟩ := secInfo
  have n1 : ¬ (n : Int) < 1 := by omega
  have n2 : ¬ (4096 : Int) < (n : Int) := by omega
  have hmm := @run_makeMap Tryd.prog
  go_enter Tryd.func7, Tryd.ntmps7
  go_wp2_with (first
    | (at_make; refine wpList_make_full _ rfl _ _ 56 rfl w.heap.size 78 i0 _ 32 Tryd.underlying56 hi hz hz1 .i64 .i64 _ _ n rfl rfl rfl rfl (by rw [hz2]; omega) (by unfold maxLen; omega) (Nat.le_refl _) ?_; intro w3 hown3 hg3)
    | fail)
  go_ret
  have hs3 : w3.heap[w.heap.size]? = some (.cells ((zeros (32 * n)).map u8).toArray 78 (0, 0)) := by
    rcases hown3.2 with ⟨h, -⟩ | ⟨g, cap, cur, h, -, hg, hc, -, hcs, ht⟩
    · cases h
    · simp only [Value.slice.injEq, Option.some.injEq, Addr.mk.injEq, true_and, and_true] at h
      obtain ⟨rfl, rfl⟩ := h
      rw [hg]
      have e : cur.toList = (zeros (32 * n)).map u8 := by
        rw [← made_zeros, ← ht, List.take_of_length_le (by rw [Array.length_toList]; omega)]
      rw [← e]
  have hsz3 := hg3.size
  have hl3 := heap_lt hs3
  have hb3 : Below w.heap.size w w3 := grown_below (Below.refl _ _) hg3 (Nat.le_refl _) (by simp)
  generalize hwD : (w3.alloc (.map #[] 0)).alloc (.cells #[.slice (some ⟨w.heap.size, 0, none⟩) n n, .map (some w3.heap.size), .slice none 0 0, .bool false, .int .i64 0, .slice none 0 0, .int .i64 0] 59) = wD
  have hD1 : wD.heap[w3.heap.size + 1]? = some (.cells #[.slice (some ⟨w.heap.size, 0, none⟩) n n, .map (some w3.heap.size), .slice none 0 0, .bool false, .int .i64 0, .slice none 0 0, .int .i64 0] 59 (0, 0)) := by
    rw [← hwD]
    have := heap_alloc_new (w3.alloc (.map #[] 0)) (.cells #[.slice (some ⟨w.heap.size, 0, none⟩) n n, .map (some w3.heap.size), .slice none 0 0, .bool false, .int .i64 0, .slice none 0 0, .int .i64 0] 59)
    rwa [World.size_alloc] at this
  have hm1 : MapA (Value.int .i64) wD w3.heap.size [] := by
    rw [← hwD]
    exact (MapA.made w3).below (below_new _ _)
  have hbD : Below w3.heap.size w3 wD := by rw [← hwD]; exact below_alloc (below_new _ _) _
  refine ⟨w3.heap.size + 1, rfl, ⟨w.heap.size, w3.heap.size, .slice none 0 0, [], [], fun _ => 0, hD1, (hbD.block _ hl3).trans hs3, hm1, fun i => by simp [mget], World.ownsRow_nil _ _ _ _, fun i hi => by simp at hi, fun i hi => by simp at hi, List.nodup_nil, fun i _ _ => rfl, ⟨by simp [zeros], by simp [zeros]⟩, ⟨h1, h2⟩, by omega, by omega, by omega, fun g hg => by simp [Value.ownBlock] at hg, fun i hi => by simp at hi⟩, hb3.trans (hbD.mono (by omega))⟩

end Go.Proofs.YtnpnchociegmpaaDoor
