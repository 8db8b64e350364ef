/- The disk: Start, Crash with nothing kept, New. -/
/- The disk: New. -/
import Derived.Test.YtlhefifejcoecaaGreatDoorDskD
import Derived.Carry
namespace Go.Proofs.YtlhefifejcoecaaGreatDoor
open Go.RowKit Go.Proofs Go.Shelf
attribute [local go_sem ↓] Go.wp_at_zero Go.wp_at_succ

section
variable {w : World} {K : Nat → Prop} {D n : Nat} {safe cur : List UInt8} {off : Bool} {s m : Nat} {ov : Value} {es : List (Int × Value)} {O L : List Nat} {bl : Nat → Nat}

/-- Whether there is power is another. -/
theorem DiskX.power (h : DiskX w K D n safe cur off s m ov es O L bl) (b : Bool) : DiskX (w.setCell ⟨D, 3, none⟩ (.bool b)) K D n safe cur b s m ov es O L bl := by
  obtain ⟨n1, n2, n3, n4, n5⟩ := h.ne
  have hset := fun (k : Nat) (hk : k ≠ D) => Below.heap_setCell w ⟨D, 3, none⟩ (.bool b) k hk
  exact ⟨by rw [block_set h.blk]; rfl, (hset s n1.symm).trans h.sblk, h.map.block (hset m n2), h.get, ownsRow_other h.ord fun g hg => hset g (h.ord_ne hg).1,
    fun i hi => by obtain ⟨a, b, c⟩ := h.each i hi; exact ⟨a, (hset _ (n5 i hi).1).trans b, c⟩, h.inj, h.nodup, h.clean, h.len, h.small, h.free⟩

theorem size_setCell (w : World) (a : Addr) (v : Value) : (w.setCell a v).heap.size = w.heap.size := by simp [World.setCell]

/-- All that was not safe is lost. -/
theorem DiskX.crash (h : DiskX w K D n safe cur off s m ov es O L bl) (hK : ∀ k, K k → k < w.heap.size) :
    DiskX (((((w.setCell ⟨D, 1, none⟩ (.map (some w.heap.size))).setCell ⟨D, 2, none⟩ (.slice none 0 0)).setCell ⟨D, 3, none⟩ (.bool true)).setCell ⟨D, 4, none⟩ (.int .i64 0)).alloc (.map #[] 0)) K D n safe safe true s w.heap.size (.slice none 0 0) [] [] [] bl ∧
    Kept K w (((((w.setCell ⟨D, 1, none⟩ (.map (some w.heap.size))).setCell ⟨D, 2, none⟩ (.slice none 0 0)).setCell ⟨D, 3, none⟩ (.bool true)).setCell ⟨D, 4, none⟩ (.int .i64 0)).alloc (.map #[] 0)) := by
  obtain ⟨n1, n2, n3, n4, n5⟩ := h.ne
  obtain ⟨f1, f2, f3, f4, f5⟩ := h.free
  have hDl := heap_lt h.blk
  have hset : ∀ (k : Nat), k ≠ D → ((((w.setCell ⟨D, 1, none⟩ (.map (some w.heap.size))).setCell ⟨D, 2, none⟩ (.slice none 0 0)).setCell ⟨D, 3, none⟩ (.bool true)).setCell ⟨D, 4, none⟩ (.int .i64 0)).heap[k]? = w.heap[k]? := fun k hk =>
    (Below.heap_setCell _ _ _ k hk).trans ((Below.heap_setCell _ _ _ k hk).trans ((Below.heap_setCell _ _ _ k hk).trans (Below.heap_setCell _ _ _ k hk)))
  have hb4 : ((((w.setCell ⟨D, 1, none⟩ (.map (some w.heap.size))).setCell ⟨D, 2, none⟩ (.slice none 0 0)).setCell ⟨D, 3, none⟩ (.bool true)).setCell ⟨D, 4, none⟩ (.int .i64 0)).heap[D]? = some (.cells #[.slice (some ⟨s, 0, none⟩) n n, .map (some w.heap.size), .slice none 0 0, .bool true, .int .i64 0, .slice none 0 0, .int .i64 0] 95 (0, 0)) := by
    rw [block_set (block_set (block_set (block_set h.blk 1 _) 2 _) 3 _) 4 _]; rfl
  have hsz : ((((w.setCell ⟨D, 1, none⟩ (.map (some w.heap.size))).setCell ⟨D, 2, none⟩ (.slice none 0 0)).setCell ⟨D, 3, none⟩ (.bool true)).setCell ⟨D, 4, none⟩ (.int .i64 0)).heap.size = w.heap.size := by
    rw [size_setCell, size_setCell, size_setCell, size_setCell]
  have hkept : Kept K w ((((w.setCell ⟨D, 1, none⟩ (.map (some w.heap.size))).setCell ⟨D, 2, none⟩ (.slice none 0 0)).setCell ⟨D, 3, none⟩ (.bool true)).setCell ⟨D, 4, none⟩ (.int .i64 0)) := by
    refine ((((Kept.setCell (Kept.refl _ _) ?_ _).setCell ?_ _).setCell ?_ _).setCell ?_ _)
    all_goals exact f1
  generalize ((((w.setCell ⟨D, 1, none⟩ (.map (some w.heap.size))).setCell ⟨D, 2, none⟩ (.slice none 0 0)).setCell ⟨D, 3, none⟩ (.bool true)).setCell ⟨D, 4, none⟩ (.int .i64 0)) = W at *
  refine ⟨⟨(Below.heap_alloc _ _ _ (by omega)).trans hb4, (Below.heap_alloc _ _ _ (by have := heap_lt h.sblk; omega)).trans ((hset s n1.symm).trans h.sblk), by have := MapA.made (enc := Value.int .i64) W; rwa [hsz] at this, fun i => by simp [mget], World.ownsRow_nil _ _ _ _, fun i hi => by simp at hi, fun i hi => by simp at hi, List.nodup_nil, fun i _ _ => rfl, ⟨h.len.1, h.len.1⟩, h.small, f1, f2, fun hk => by have := hK _ hk; omega, fun g hg => by simp [Value.ownBlock] at hg, fun i hi => by simp at hi⟩, ?_⟩
  exact hkept.trans (kept_of_below (below_new W _) fun k hk => by rw [hsz]; exact hK k hk)
end

theorem step_copy_none {P : Program} {w : World} {ops : Array Oper} {o : Oper} {a : Act} {K : Act → World → Prop} {Q : Exit → Act → World → Prop} {E : Prop} (hgd : o.guard = none) (d s : Operand) (dT sT : TypeId)
    (ho : o.op = .call { callee := .builtin .copy, args := #[d, s], argTypes := #[dT, sT] }) (elem : TypeId) (hu : P.underlying dT = some (.slice elem)) (hsz : (P.info? elem).map (·.size) = some 1)
    (dp sp : Option Addr) (dLen dCap sLen sCap : Nat) (hd : a.eval d = .slice dp dLen dCap) (hs : a.eval s = .slice sp sLen sCap) (hn : Nat.min sLen dLen = 0) (h : K (a.put o.dst (goInt 0)) w) :
    if Region.wanted o (yielded ops a.tmps) = true then Oper.wp P o a w K Q else E := by
  have hw : Region.wanted o (yielded ops a.tmps) = true := by simp [Region.wanted, hgd]
  rw [if_pos hw]
  have hrun := run_copy_none (P := P) w dT sT o.type elem dp sp dLen dCap sLen sCap hu hsz hn
  unfold Oper.wp
  simp [execOp, ho, resolve, invoke, builtin, hd, hs, hrun, Result.andThen]
  exact h

set_option maxRecDepth 100000 in
theorem start_any (w : World) (K : Nat → Prop) (D n : Nat) (safe cur : List UInt8) (h : DiskAt w K D n safe cur true) (hK : ∀ k, K k → k < w.heap.size) :
    Calls Tryz.prog 26 #[.pointer (some ⟨D, 0, none⟩)] w (fun e w' => e = .returned (.bool true) ∧ DiskAt w' K D n safe cur false ∧ Kept K w w') := by
  have hmade := made_any w K D n safe cur true h
  obtain ⟨s, m, ov, es, L, bl, hx⟩ := h
  obtain ⟨-, -, -, c3, -, -, -, hD⟩ := hx.cells
  have Hx := Lib.hid hx
  have hfz := fun W hb => block_free (hx.below (w' := W) hb).blk 3
  clear hx
  go_enter Tryz.func26, Tryz.ntmps26
  go_wp2_with (first
    | (go_at_call 56; refine hmade.mono ?_; rintro e w1 ⟨rfl, hb1⟩; have d3 := bcell hb1 c3; have z3 := hfz w1 hb1)
    | fail)
  go_ret
  exact ⟨rfl, ⟨_, _, _, _, _, _, (Hx.out.below hb1).power false⟩, (kept_of_below hb1 hK).setCell (p := ⟨D, 3, none⟩) Hx.out.free.1 _⟩

set_option maxRecDepth 100000 in
theorem contains_nil (i : Int) (w : World) : Calls Tryz.prog 59 #[.slice none 0 0, .int .i64 i] w (Gives w (.bool false)) := by
  have hidx : ∀ W, Calls Tryz.prog 99 #[.slice none 0 0, .int .i64 i] W (Gives W (.int .i64 (-1))) := fun W => by
    go_enter Tryz.func99, Tryz.ntmps99
    go_wp2_with fail
    go_loopw [8] (fun x wr => x = .int .i64 0 ∧ wr = W) (fun _ _ => 0)
    case atStart => exact ⟨rfl, rfl⟩
    case round =>
      obtain ⟨rfl, rfl⟩ := hrel
      go_wp2_with fail
      go_ret
      exact ⟨rfl, Below.refl _ _⟩
  go_enter Tryz.func59, Tryz.ntmps59
  go_wp2_with (first | (go_at_call 99; refine (hidx _).mono ?_; rintro e w1 ⟨rfl, hb1⟩) | fail)
  go_ret
  exact ⟨rfl, hb1⟩

set_option maxRecDepth 100000 in
set_option maxHeartbeats 4000000 in
theorem crash_any (w : World) (K : Nat → Prop) (D n : Nat) (safe cur : List UInt8) (h : DiskAt w K D n safe cur false) (hK : ∀ k, K k → k < w.heap.size) :
    Calls Tryz.prog 25 #[.pointer (some ⟨D, 0, none⟩), .slice none 0 0, .int .i64 0] w (fun e w' => e = .returned (.bool true) ∧ DiskAt w' K D n safe safe true ∧ Kept K w w') := by
  have hmade := made_any w K D n safe cur false h
  obtain ⟨s, m, ov, es, O, bl, hx⟩ := h
  obtain ⟨c0, c1, c2, c3, -, -, -, hD⟩ := hx.cells
  obtain ⟨q, cap, rfl, hoc, hcell⟩ := ord_cell hx.ord
  have Hx := Lib.hid hx
  have hOn : O.length ≤ 4096 := Nat.le_trans (nodup_len n O hx.nodup fun i hi => (hx.each i hi).1) hx.small.2
  have Hcell := Lib.hid hcell
  clear hx hcell
  go_enter Tryz.func25, Tryz.ntmps25
  go_wp2_with (first
    | (go_at_call 56; refine hmade.mono ?_; rintro e w1 ⟨rfl, hb1⟩; replace c0 := bcell hb1 c0; replace c1 := bcell hb1 c1; replace c2 := bcell hb1 c2; replace c3 := bcell hb1 c3)
    | fail)
  obtain ⟨wB, hwB⟩ : ∃ wB : World, wB = w1 := ⟨_, rfl⟩
  subst hwB
  have hN4 := Hx.out.small
  go_loopw [7, 25] (fun l x wr => ∃ k : Nat, k ≤ O.length ∧ x = .int .i64 k ∧ l = .bool (decide (0 < k)) ∧ Below w.heap.size w wr) (fun _ x _ => O.length - (intOf x).toNat)
  case atStart => exact ⟨0, Nat.zero_le _, rfl, rfl, hb1⟩
  case round =>
    obtain ⟨k, hk, rfl, rfl, hb⟩ := hrel
    have hxr := Hx.out.below hb
    obtain ⟨d0, d1, d2, -, -, -, -, hDr⟩ := hxr.cells
    have Hxr := Lib.hid hxr
    clear hxr c0 c1 c2 c3
    by_cases hlt : k < O.length
    · obtain ⟨g, rfl, e0⟩ := Hcell.out k hlt
      replace e0 := bcell hb e0
      have hmem : O[k] ∈ O := List.getElem_mem hlt
      obtain ⟨hin, -, -⟩ := Hxr.out.each _ hmem
      have hlook := fun W (hw : Below wr.heap.size wr W) => (Hxr.out.below hw).look O[k]
      simp only [if_pos hmem] at hlook
      have Hlook := Lib.hid hlook
      clear hlook hmem
      have n0 : (0 : Int) ≤ (k : Int) := by omega
      have n1 : (k : Int) < (O.length : Int) := by omega
      generalize O[k] = i at *
      generalize bl i = bi at *
      have m0 : (0 : Int) ≤ (i : Int) := by omega
      have m1 : (i : Int) < (n : Int) := by omega
      have hcon := contains_nil (i : Int) wr
      by_cases hk0 : k = 0
      · subst hk0
        go_upto_region 12 with (first
          | (go_at_call 59; refine hcon.mono ?_; rintro e w3 ⟨rfl, hb3⟩; replace d0 := bcell hb3 d0; replace d1 := bcell hb3 d1)
          | fail)
        have hl3 := Hlook.out _ hb3.drew
        refine wp_region_held_drew (S := (fun w' => w' = w3.drew)) (by kernel_rfl) (by rfl) (fun hHeld => ?_)
        refine' takeL (v := _) 0 rfl (by kernel_rfl) (by kernel_rfl) (by kernel_rfl) (fun _ _ _ h => h) (by rfl) ?_ (by assumption) ?_; rotate_left 1; (focus (intro w hSw; (try dsimp only at hSw); go_simp; (try with_reducible rfl); done))
        (try simp only [Act.put, List.setIfInBounds_toArray, List.set_cons_zero, List.set_cons_succ])
        refine' takeL (v := _) 1 rfl (by kernel_rfl) (by kernel_rfl) (by kernel_rfl) (fun _ _ _ h => h) (by rfl) ?_ (by assumption) ?_; rotate_left 1; (focus (intro w hSw; (try dsimp only at hSw); go_simp; (try with_reducible rfl); done))
        (try simp only [Act.put, List.setIfInBounds_toArray, List.set_cons_zero, List.set_cons_succ])
        refine' takeL (v := _) 2 rfl (by kernel_rfl) (by kernel_rfl) (by kernel_rfl) (fun _ _ _ h => h) (by rfl) ?_ (by assumption) ?_; rotate_left 1; (focus (intro w hSw; (try dsimp only at hSw); go_simp; (try with_reducible rfl); done))
        (try simp only [Act.put, List.setIfInBounds_toArray, List.set_cons_zero, List.set_cons_succ])
        refine' takeL (v := _) 3 rfl (by kernel_rfl) (by kernel_rfl) (by kernel_rfl) (fun _ _ _ h => h) (by rfl) ?_ (by assumption) ?_; rotate_left 1; (focus (intro w hSw; (try dsimp only at hSw); go_simp; (try with_reducible rfl); done))
        (try simp only [Act.put, List.setIfInBounds_toArray, List.set_cons_zero, List.set_cons_succ])
        refine' takeL (v := _) 4 rfl (by kernel_rfl) (by kernel_rfl) (by kernel_rfl) (fun _ _ _ h => h) (by rfl) ?_ (by assumption) ?_; rotate_left 1; (focus (intro w hSw; (try dsimp only at hSw); go_simp; (try with_reducible rfl); done))
        (try simp only [Act.put, List.setIfInBounds_toArray, List.set_cons_zero, List.set_cons_succ])
        refine' takeL (v := _) 5 rfl (by kernel_rfl) (by kernel_rfl) (by kernel_rfl) (fun _ _ _ h => h) (by rfl) ?_ (by assumption) ?_; rotate_left 1; (focus (intro w hSw; (try dsimp only at hSw); go_simp; (try with_reducible rfl); done))
        (try simp only [Act.put, List.setIfInBounds_toArray, List.set_cons_zero, List.set_cons_succ])
        refine' takeL (v := _) 6 rfl (by kernel_rfl) (by kernel_rfl) (by kernel_rfl) (fun _ _ _ h => h) (by rfl) ?_ (by assumption) ?_; rotate_left 1; (focus (intro w hSw; (try dsimp only at hSw); go_simp; (try with_reducible rfl); done))
        (try simp only [Act.put, List.setIfInBounds_toArray, List.set_cons_zero, List.set_cons_succ])
        refine' takeL (v := _) 7 rfl (by kernel_rfl) (by kernel_rfl) (by kernel_rfl) (fun _ _ _ h => h) (by rfl) ?_ (by assumption) ?_; rotate_left 1; (focus (intro w hSw; (try dsimp only at hSw); go_simp; (try with_reducible rfl); done))
        (try simp only [Act.put, List.setIfInBounds_toArray, List.set_cons_zero, List.set_cons_succ])
        refine' takeL (v := _) 8 rfl (by kernel_rfl) (by kernel_rfl) (by kernel_rfl) (fun _ _ _ h => h) (by rfl) ?_ (by assumption) ?_; rotate_left 1; (focus (intro w hSw; (try dsimp only at hSw); go_simp; (try with_reducible rfl); done))
        (try simp only [Act.put, List.setIfInBounds_toArray, List.set_cons_zero, List.set_cons_succ])
        refine' takeL (v := _) 9 rfl (by kernel_rfl) (by kernel_rfl) (by kernel_rfl) (fun _ _ _ h => h) (by rfl) ?_ (by assumption) ?_; rotate_left 1; (focus (intro w hSw; (try dsimp only at hSw); go_simp; (try with_reducible rfl); done))
        (try simp only [Act.put, List.setIfInBounds_toArray, List.set_cons_zero, List.set_cons_succ])
        refine' takeL (v := _) 10 rfl (by kernel_rfl) (by kernel_rfl) (by kernel_rfl) (fun _ _ _ h => h) (by rfl) ?_ (by assumption) ?_; rotate_left 1; (focus (intro w hSw; (try dsimp only at hSw); go_simp; (try with_reducible rfl); done))
        (try simp only [Act.put, List.setIfInBounds_toArray, List.set_cons_zero, List.set_cons_succ])
        refine' takeL (v := _) 11 rfl (by kernel_rfl) (by kernel_rfl) (by kernel_rfl) (fun _ _ _ h => h) (by rfl) ?_ (by assumption) ?_; rotate_left 1; (focus (intro w hSw; (try dsimp only at hSw); go_simp; (try with_reducible rfl); done))
        (try simp only [Act.put, List.setIfInBounds_toArray, List.set_cons_zero, List.set_cons_succ])
        refine' takeL (v := _) 12 rfl (by kernel_rfl) (by kernel_rfl) (by kernel_rfl) (fun _ _ _ h => h) (by rfl) ?_ (by assumption) ?_; rotate_left 1; (focus (intro w hSw; (try dsimp only at hSw); go_simp; (try with_reducible rfl); done))
        (try simp only [Act.put, List.setIfInBounds_toArray, List.set_cons_zero, List.set_cons_succ])
        refine' takeL (v := _) 13 rfl (by kernel_rfl) (by kernel_rfl) (by kernel_rfl) (fun _ _ _ h => h) (by rfl) ?_ (by assumption) ?_; rotate_left 1; (focus (intro w hSw; (try dsimp only at hSw); go_simp; (try with_reducible rfl); done))
        (try simp only [Act.put, List.setIfInBounds_toArray, List.set_cons_zero, List.set_cons_succ])
        refine' takeL (v := _) 14 rfl (by kernel_rfl) (by kernel_rfl) (by kernel_rfl) (fun _ _ _ h => h) (by rfl) ?_ (by assumption) ?_; rotate_left 1; (focus (intro w hSw; (try dsimp only at hSw); go_simp; (try with_reducible rfl); done))
        (try simp only [Act.put, List.setIfInBounds_toArray, List.set_cons_zero, List.set_cons_succ])
        refine' takeL (v := _) 15 rfl (by kernel_rfl) (by kernel_rfl) (by kernel_rfl) (fun _ _ _ h => h) (by rfl) ?_ (by assumption) ?_; rotate_left 1; (focus (intro w hSw; (try dsimp only at hSw); go_simp; (try with_reducible rfl); done))
        (try simp only [Act.put, List.setIfInBounds_toArray, List.set_cons_zero, List.set_cons_succ])
        refine' takeL (v := _) 16 rfl (by kernel_rfl) (by kernel_rfl) (by kernel_rfl) (fun _ _ _ h => h) (by rfl) ?_ (by assumption) ?_; rotate_left 1; (focus (intro w hSw; (try dsimp only at hSw); go_simp; (try with_reducible rfl); done))
        (try simp only [Act.put, List.setIfInBounds_toArray, List.set_cons_zero, List.set_cons_succ])
        refine stepL 17 rfl (by kernel_rfl) (fun K hK => ?_)
        refine step_copy_none (by rfl) _ _ 25 25 rfl 5 Tryz.underlying25 u8_size _ _ _ _ _ _ rfl rfl (by rfl) ?_
        refine hK.out _ _ (by rfl) (fun hHeld => ?_)
        clear hK K
        (try simp only [Act.put, List.setIfInBounds_toArray, List.set_cons_zero, List.set_cons_succ])
        refine wpAnyH_done (by kernel_rfl) ?_ _
        go_wp2_with fail
        exact ⟨⟨1, hlt, rfl, rfl, (below_trans hb hb3).drew⟩, by simp [intOf]; omega⟩
      · have m2 : decide (0 < k) = true := by simp; omega
        rw [m2]
        go_wp2_with (first
          | (go_at_call 59; refine hcon.mono ?_; rintro e w3 ⟨rfl, hb3⟩)
          | fail)
        go_roundw
        case rel => exact ⟨k + 1, hlt, by go_num, by simp, below_trans hb hb3⟩
        case measure => simp [intOf]; omega
    · have hke : k = O.length := by omega
      have hfz1 := block_free Hxr.out.blk 1
      have hfz2 := block_free Hxr.out.blk 2
      have hfz3 := block_free Hxr.out.blk 3
      have hfz4 := block_free Hxr.out.blk 4
      have d3 := Hxr.out.cells.2.2.2.1
      have d4 := Hxr.out.cells.2.2.2.2.1
      have hmm := @run_makeMap Tryz.prog
      have hcr := Lib.hid (Hxr.out.crash fun k hk => Nat.lt_of_lt_of_le (hK k hk) hb.size)
      go_wp2_with fail
      go_ret
      exact ⟨rfl, ⟨_, _, _, _, _, _, hcr.out.1⟩, (kept_of_below hb hK).trans hcr.out.2⟩

end Go.Proofs.YtlhefifejcoecaaGreatDoor

namespace Go.Proofs.YtlhefifejcoecaaGreatDoor
open Go.RowKit Go.Proofs Go.Shelf
attribute [local go_sem ↓] Go.wp_at_zero Go.wp_at_succ

def zeros (n : Nat) : List UInt8 := List.replicate n 0

theorem secInfo : ∃ i, Tryz.prog.info? 98 = some i ∧ i.zero = some (.agg (Array.replicate 32 (.int .u8 0))) ∧ i.size = 32 ∧ i.bytes = 32 := by
  have h : (Tryz.prog.info? 98).map (fun i => (i.zero, i.size, i.bytes)) = some (some (.agg (Array.replicate 32 (.int .u8 0))), 32, 32) := by kernel_rfl
  obtain ⟨i0, hi, hz0, hz1, hz2⟩ := info_parts h
  exact ⟨i0, hi, hz0, hz1, hz2⟩

theorem made_zeros (n : Nat) : (madeCells (Value.agg (Array.replicate 32 (.int .u8 0))).cells (n * 32)).toList = (zeros (32 * n)).map u8 := by
  have e : (Value.agg (Array.replicate 32 (.int .u8 0))).cells = Array.replicate 32 (.int .u8 0) := rfl
  rw [e]
  unfold madeCells zeros
  rw [List.map_replicate]
  apply List.ext_getElem?
  intro j
  rw [List.getElem?_replicate]
  by_cases hj : j < n * 32
  · have hm : j % 32 < 32 := Nat.mod_lt _ (by decide)
    rw [if_pos (by omega)]
    simp [hj, hm, u8]
  · rw [if_neg (by omega)]
    simp; omega

set_option maxRecDepth 100000 in
set_option maxHeartbeats 2000000 in
theorem new_any (w : World) (n : Nat) (h1 : 1 ≤ n) (h2 : n ≤ 4096) :
    Calls Tryz.prog 49 #[.int .i64 n] w (fun e w' => ∃ D, e = .returned (.pointer (some ⟨D, 0, none⟩)) ∧ DiskAt w' (fun k => k < w.heap.size) D n (zeros (32 * n)) (zeros (32 * n)) false ∧ Below w.heap.size w w') := by
  obtain ⟨i0, hi, hz, hz1, hz2⟩ := secInfo
  have n1 : ¬ (n : Int) < 1 := by omega
  have n2 : ¬ (4096 : Int) < (n : Int) := by omega
  have hmm := @run_makeMap Tryz.prog
  go_enter Tryz.func49, Tryz.ntmps49
  go_wp2_with (first
    | (at_make; refine wpList_make_full _ rfl _ _ 92 rfl w.heap.size 98 i0 _ 32 Tryz.underlying92 hi hz hz1 .i64 .i64 _ _ n rfl rfl rfl rfl (by rw [hz2]; omega) (by unfold maxLen; omega) (Nat.le_refl _) ?_; intro w3 hown3 hg3)
    | fail)
  go_ret
  have hs3 : w3.heap[w.heap.size]? = some (.cells ((zeros (32 * n)).map u8).toArray 98 (0, 0)) := by
    rcases hown3.2 with ⟨h, -⟩ | ⟨g, cap, cur, h, -, hg, hc, -, hcs, ht⟩
    · cases h
    · simp only [Value.slice.injEq, Option.some.injEq, Addr.mk.injEq, true_and, and_true] at h
      obtain ⟨rfl, rfl⟩ := h
      rw [hg]
      have e : cur.toList = (zeros (32 * n)).map u8 := by
        rw [← made_zeros, ← ht, List.take_of_length_le (by rw [Array.length_toList]; omega)]
      rw [← e]
  have hsz3 := hg3.size
  have hl3 := heap_lt hs3
  have hb3 : Below w.heap.size w w3 := grown_below (Below.refl _ _) hg3 (Nat.le_refl _) (by simp)
  generalize hwD : (w3.alloc (.map #[] 0)).alloc (.cells #[.slice (some ⟨w.heap.size, 0, none⟩) n n, .map (some w3.heap.size), .slice none 0 0, .bool false, .int .i64 0, .slice none 0 0, .int .i64 0] 95) = wD
  have hD1 : wD.heap[w3.heap.size + 1]? = some (.cells #[.slice (some ⟨w.heap.size, 0, none⟩) n n, .map (some w3.heap.size), .slice none 0 0, .bool false, .int .i64 0, .slice none 0 0, .int .i64 0] 95 (0, 0)) := by
    rw [← hwD]
    have := heap_alloc_new (w3.alloc (.map #[] 0)) (.cells #[.slice (some ⟨w.heap.size, 0, none⟩) n n, .map (some w3.heap.size), .slice none 0 0, .bool false, .int .i64 0, .slice none 0 0, .int .i64 0] 95)
    rwa [World.size_alloc] at this
  have hm1 : MapA (Value.int .i64) wD w3.heap.size [] := by
    rw [← hwD]
    exact (MapA.made w3).below (below_new _ _)
  have hbD : Below w3.heap.size w3 wD := by rw [← hwD]; exact below_alloc (below_new _ _) _
  refine ⟨w3.heap.size + 1, rfl, ⟨w.heap.size, w3.heap.size, .slice none 0 0, [], [], fun _ => 0, hD1, (hbD.block _ hl3).trans hs3, hm1, fun i => by simp [mget], World.ownsRow_nil _ _ _ _, fun i hi => by simp at hi, fun i hi => by simp at hi, List.nodup_nil, fun i _ _ => rfl, ⟨by simp [zeros], by simp [zeros]⟩, ⟨h1, h2⟩, by omega, by omega, by omega, fun g hg => by simp [Value.ownBlock] at hg, fun i hi => by simp at hi⟩, hb3.trans (hbD.mono (by omega))⟩

end Go.Proofs.YtlhefifejcoecaaGreatDoor
