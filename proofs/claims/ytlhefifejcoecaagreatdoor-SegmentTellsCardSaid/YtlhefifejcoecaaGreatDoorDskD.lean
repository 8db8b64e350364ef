/- The disk: settle, Sync. -/
import Derived.Test.YtlhefifejcoecaaGreatDoorDskC
import Derived.Test.YtlhefifejcoecaaGreatDoorReg
namespace Go.Proofs.YtlhefifejcoecaaGreatDoor
open Go.RowKit Go.Proofs Go.Shelf
attribute [local go_sem ↓] Go.wp_at_zero Go.wp_at_succ

theorem settle_cells {w : World} {s i n : Nat} {safe x : List UInt8} {T : TypeId} (hs : w.heap[s]? = some (.cells (safe.map u8).toArray T (0, 0))) (hl : safe.length = 32 * n) (hi : i < n) (hx : x.length = 32) :
    (w.setCells s (i * 32) (x.map u8)).heap[s]? = some (.cells ((setSec safe i x).map u8).toArray T (0, 0)) ∧ (∀ k, k ≠ s → (w.setCells s (i * 32) (x.map u8)).heap[k]? = w.heap[k]?) ∧
    (w.setCells s (i * 32) (x.map u8)).os = w.os ∧ (w.setCells s (i * 32) (x.map u8)).tape = w.tape ∧ (w.setCells s (i * 32) (x.map u8)).output = w.output ∧ (w.setCells s (i * 32) (x.map u8)).heap.size = w.heap.size := by
  obtain ⟨cur', c1, c2, c3, c4, c5, c6, c7, c8⟩ := heap_setCells s T (0, 0) (x.map u8) (i * 32) w _ hs (by rw [List.length_map, List.size_toArray, List.length_map]; omega)
  have e : cur' = ((setSec safe i x).map u8).toArray := by
    apply Array.toList_inj.1
    rw [c3]
    unfold setSec splice
    simp [List.map_take, List.map_drop, Nat.mul_comm]
  exact ⟨by rw [c1, e], c5, c6, c7, c8, c4⟩

set_option maxRecDepth 100000 in
set_option maxHeartbeats 2000000 in
theorem settle_any (w : World) (K : Nat → Prop) (D n : Nat) (safe cur : List UInt8) (off : Bool) (s m : Nat) (ov : Value) (es : List (Int × Value)) (O L : List Nat) (bl : Nat → Nat) (i : Nat) (h : DiskX w K D n safe cur off s m ov es O (i :: L) bl) (hK : ∀ k, K k → k < w.heap.size) :
    Calls Tryz.prog 60 #[.pointer (some ⟨D, 0, none⟩), .int .i64 i] w (fun e w' => e = .returned (.tuple #[]) ∧ DiskX w' K D n (setSec safe i (sec cur i)) cur off s m ov (mdel es (i : Int)) O L bl ∧ Kept K w w') := by
  obtain ⟨c0, c1, -, -, -, -, -, hD⟩ := h.cells
  have hm : i ∈ i :: L := by simp
  obtain ⟨hin, hib, his⟩ := h.each i hm
  have hlook := h.look i
  rw [if_pos hm] at hlook
  have hat := h.at_ hin
  rw [if_pos hm, if_pos hm] at hat
  have hsl : (sec cur i).length = 32 := sec_len h.len.2 hin
  have hth : w.there s (i * 32) 32 := there_block h.sblk (by rw [List.size_toArray, List.length_map, h.len.1]; omega)
  have hset := settle_cells (w := w.drew) h.sblk h.len.1 hin hsl
  have hlook2 := (h.below (Below.refl _ w).drew).look i
  rw [if_pos hm] at hlook2
  have hsz : (Tryz.prog.info? 98).map (·.size) = some ((sec cur i).map u8).length := by rw [List.length_map, hsl]; exact sector_size
  have hone := one_u8 (sec cur i)
  have n0 : (0 : Int) ≤ (i : Int) := by omega
  have n1 : (i : Int) < (n : Int) := by omega
  have Hx := Lib.hid h
  have Hset := Lib.hid hset
  have hxl : ((sec cur i).map u8).length = 32 := by rw [List.length_map, hsl]
  clear h hset hm hib hsl
  generalize hsx : (sec cur i).map u8 = sx at *
  have Hsx := Lib.hid hsx
  generalize hbi : bl i = bi at *
  have Hxl := Lib.hid hxl
  have Hhat := Lib.hid hat
  have Hth := Lib.hid hth
  clear hsx hbi hxl hat hth
  have hlk := fun w' (e : w' = w.drew) => show (Instr.lookup 93 (.map (some m)) (.int .i64 (i : Int)) false).run Tryz.prog w' = .ok (.pointer (some ⟨bi, 0, none⟩)) w' by rw [e]; exact hlook2
  clear hlook2
  go_enter Tryz.func60, Tryz.ntmps60
  go_upto_region 0 with fail
  refine wp_region_last_of (S := (fun w' => w' = w.drew)) 14 (by kernel_rfl) rfl rfl (by kernel_rfl) ?_
  have hHeld : (((fun w' => w' = w.drew)) : World → Prop) _ := (by rfl)
  refine' takeL (v := _) 0 rfl (by kernel_rfl) (by kernel_rfl) (by kernel_rfl) (fun _ _ _ h => h) (by rfl) ?_ (by assumption) ?_; rotate_left 1; (focus (intro w hSw; (try dsimp only at hSw); go_simp; (try with_reducible rfl); done))
  (try simp only [Act.put, List.setIfInBounds_toArray, List.set_cons_zero, List.set_cons_succ])
  refine' takeL (v := _) 1 rfl (by kernel_rfl) (by kernel_rfl) (by kernel_rfl) (fun _ _ _ h => h) (by rfl) ?_ (by assumption) ?_; rotate_left 1; (focus (intro w hSw; (try dsimp only at hSw); go_simp; (try with_reducible rfl); done))
  (try simp only [Act.put, List.setIfInBounds_toArray, List.set_cons_zero, List.set_cons_succ])
  refine' takeL (v := _) 2 rfl (by kernel_rfl) (by kernel_rfl) (by kernel_rfl) (fun _ _ _ h => h) (by rfl) ?_ (by assumption) ?_; rotate_left 1; (focus (intro w hSw; (try dsimp only at hSw); go_simp; (try with_reducible rfl); done))
  (try simp only [Act.put, List.setIfInBounds_toArray, List.set_cons_zero, List.set_cons_succ])
  refine' takeL (v := _) 3 rfl (by kernel_rfl) (by kernel_rfl) (by kernel_rfl) (fun _ _ _ h => h) (by rfl) ?_ (by assumption) ?_; rotate_left 1; (focus (intro w hSw; (try dsimp only at hSw); go_simp; (try with_reducible rfl); done))
  (try simp only [Act.put, List.setIfInBounds_toArray, List.set_cons_zero, List.set_cons_succ])
  refine' takeL (v := _) 4 rfl (by kernel_rfl) (by kernel_rfl) (by kernel_rfl) (fun _ _ _ h => h) (by rfl) ?_ (by assumption) ?_; rotate_left 1; (focus (intro w hSw; (try dsimp only at hSw); go_simp; (try with_reducible rfl); done))
  (try simp only [Act.put, List.setIfInBounds_toArray, List.set_cons_zero, List.set_cons_succ])
  refine' takeL (v := _) 5 rfl (by kernel_rfl) (by kernel_rfl) (by kernel_rfl) (fun _ _ _ h => h) (by rfl) ?_ (by assumption) ?_; rotate_left 1; (focus (intro w hSw; (try dsimp only at hSw); go_simp; (try with_reducible rfl); done))
  (try simp only [Act.put, List.setIfInBounds_toArray, List.set_cons_zero, List.set_cons_succ])
  refine' takeL (v := _) 6 rfl (by kernel_rfl) (by kernel_rfl) (by kernel_rfl) (fun _ _ _ h => h) (by rfl) ?_ (by assumption) ?_; rotate_left 1; (focus (intro w hSw; (try dsimp only at hSw); go_simp; (try with_reducible rfl); done))
  (try simp only [Act.put, List.setIfInBounds_toArray, List.set_cons_zero, List.set_cons_succ])
  refine' takeL (v := _) 7 rfl (by kernel_rfl) (by kernel_rfl) (by kernel_rfl) (fun _ _ _ h => h) (by rfl) ?_ (by assumption) ?_; rotate_left 1; (focus (intro w hSw; (try dsimp only at hSw); go_simp; (try with_reducible rfl); done))
  (try simp only [Act.put, List.setIfInBounds_toArray, List.set_cons_zero, List.set_cons_succ])
  refine' takeL (v := _) 8 rfl (by kernel_rfl) (by kernel_rfl) (by kernel_rfl) (fun _ _ _ h => h) (by rfl) ?_ (by assumption) ?_; rotate_left 1; (focus (intro w hSw; (try dsimp only at hSw); go_simp; (try with_reducible rfl); done))
  (try simp only [Act.put, List.setIfInBounds_toArray, List.set_cons_zero, List.set_cons_succ])
  refine' takeL (v := _) 9 rfl (by kernel_rfl) (by kernel_rfl) (by kernel_rfl) (fun _ _ _ h => h) (by rfl) ?_ (by assumption) ?_; rotate_left 1; (focus (intro w hSw; (try dsimp only at hSw); go_simp; (try with_reducible rfl); done))
  (try simp only [Act.put, List.setIfInBounds_toArray, List.set_cons_zero, List.set_cons_succ])
  refine' takeL (v := _) 10 rfl (by kernel_rfl) (by kernel_rfl) (by kernel_rfl) (fun _ _ _ h => h) (by rfl) ?_ (by assumption) ?_; rotate_left 1; (focus (intro w hSw; (try dsimp only at hSw); go_simp; (try with_reducible rfl); done))
  (try simp only [Act.put, List.setIfInBounds_toArray, List.set_cons_zero, List.set_cons_succ])
  refine' takeL (v := _) 11 rfl (by kernel_rfl) (by kernel_rfl) (by kernel_rfl) (fun _ _ _ h => h) (by rfl) ?_ (by assumption) ?_; rotate_left 1; (focus (intro w hSw; (try dsimp only at hSw); go_simp; (try with_reducible rfl); done))
  (try simp only [Act.put, List.setIfInBounds_toArray, List.set_cons_zero, List.set_cons_succ])
  refine' takeYL (v := _) 12 rfl (by kernel_rfl) (by kernel_rfl) (by kernel_rfl) (fun _ _ _ h => h) (yieldsIf_load_mid (by rfl) 98 _ rfl bi 0 rfl sx _ (fun w' e => by rw [e]; simpa using Hhat.out) Tryz.underlying98 rfl hsz) (by assumption) ?_
  (try simp only [Act.put, List.setIfInBounds_toArray, List.set_cons_zero, List.set_cons_succ])
  refine' takeL (v := _) 13 rfl (by kernel_rfl) (by kernel_rfl) (by kernel_rfl) (fun _ _ _ h => h) (by rfl) ?_ (by assumption) ?_; rotate_left 1; (focus (intro w hSw; (try dsimp only at hSw); go_simp; (try with_reducible rfl); done))
  (try simp only [Act.put, List.setIfInBounds_toArray, List.set_cons_zero, List.set_cons_succ])
  refine wpAnyH_done (by kernel_rfl) ?_ _
  unfold withLast
  refine wp_store_mid 98 _ _ rfl s (i * 32) sx.toArray rfl rfl (by rw [List.size_toArray, Hxl.out]; simpa using Hth.out) (by rw [List.size_toArray]; exact hsz) hone ?_
  generalize hw1 : World.setCells _ _ _ _ = w1
  have hs1 := Hset.out
  rw [show w.drew.setCells s (i * 32) sx = w1 from hw1] at hs1
  clear hw1
  obtain ⟨g1, g2, g3, g4, g5, g6⟩ := hs1
  obtain ⟨e1, e2, e3, e4, e5⟩ := Hx.out.ne
  have y1 : w1.cell? ⟨D, 1, none⟩ = some (.map (some m)) := (World.cell?_of_block (w := w) (a := ⟨D, 1, none⟩) (g2 D e1)).trans c1
  have hm1 : MapA (Value.int .i64) w1 m es := Hx.out.map.block (g2 m e3)
  have G1 := Lib.hid g1
  have G2 := Lib.hid g2
  clear g1 g2
  go_wp2_with (first
    | (refine wpList_mapDel rfl _ _ 93 3 rfl secKey Tryz.underlying93 rfl hm1 (i : Int) rfl ?_; intro w2 hm2 hg2)
    | fail)
  first | refine bodyPost_end (results_none rfl _ _ _) rfl ?_ | refine bodyPost_ret (results_none rfl _ _ _) rfl ?_
  have hfar : ∀ k, k < w.heap.size → k ≠ s → k ≠ m → w2.heap[k]? = w.heap[k]? := fun k hlt hk hk2 => by
    have g6' : w1.heap.size = w.heap.size := g6
    exact (hg2.block k (by omega) (fun e => hk2 (by cases e; rfl))).trans (G2.out k hk)
  obtain ⟨f1, f2, f3, f4, f5⟩ := Hx.out.free
  have hsl := heap_lt Hx.out.sblk
  have g6' : w1.heap.size = w.heap.size := g6
  refine ⟨rfl, Hx.out.settle (hfar D hD e1 e2.symm) ((hg2.block s (by omega) (fun e => e3 (by cases e; rfl))).trans G1.out) hm2 ?_ hfar, ⟨hg2.os.trans g3, hg2.tape.trans g4, hg2.output.trans g5, by have := hg2.size; omega, fun k hk => hfar k (hK k hk) (fun e => f2 (e ▸ hk)) (fun e => f3 (e ▸ hk))⟩⟩
  obtain ⟨_, _, _, _, _, _, hn⟩ := Hx.out.map
  exact hn

/-- A sector's list, read in order. -/
theorem ord_cell {w : World} {ov : Value} {O : List Nat} (h : w.ownsRow 0 3 1 ov O.length (O.map fun (i : Nat) => Value.int .i64 (i : Int))) : ∃ q cap, ov = .slice q O.length cap ∧ O.length ≤ cap ∧ ∀ j, (hj : j < O.length) → ∃ g, q = some ⟨g, 0, none⟩ ∧ w.cell? ⟨g, j, none⟩ = some (.int .i64 (O[j] : Int)) := by
  rcases h.2 with ⟨rfl, hn⟩ | ⟨g, cap, cur, rfl, hb, hg, hc, hm, hsz, ht⟩
  · exact ⟨none, 0, by rw [hn], by omega, fun j hj => by omega⟩
  · refine ⟨_, cap, rfl, hc, fun j hj => ⟨g, rfl, ?_⟩⟩
    have := h.cells (g := g) rfl j (.int .i64 (O[j] : Int)) (by simp [hj])
    rw [Addr.add_lit, Nat.zero_add] at this
    exact this

/-- The order is cleared. -/
theorem DiskX.clear {w : World} {K : Nat → Prop} {D n : Nat} {safe cur : List UInt8} {off : Bool} {s m : Nat} {ov : Value} {es : List (Int × Value)} {O : List Nat} {bl : Nat → Nat} (h : DiskX w K D n safe cur off s m ov es O [] bl) :
    DiskX (w.setCell ⟨D, 2, none⟩ (.slice none 0 0)) K D n safe cur off s m (.slice none 0 0) es [] [] bl := by
  obtain ⟨n1, n2, n3, n4, n5⟩ := h.ne
  obtain ⟨f1, f2, f3, f4, f5⟩ := h.free
  have hset := fun (k : Nat) (hk : k ≠ D) => Below.heap_setCell w ⟨D, 2, none⟩ (.slice none 0 0) k hk
  exact ⟨by rw [block_set h.blk]; rfl, (hset s n1.symm).trans h.sblk, h.map.block (hset m n2), h.get, World.ownsRow_nil _ _ _ _, fun i hi => by simp at hi, fun i hi => by simp at hi, List.nodup_nil, h.clean, h.len, h.small, f1, f2, f3, fun g hg => by simp [Value.ownBlock] at hg, fun i hi => by simp at hi⟩

set_option maxRecDepth 100000 in
set_option maxHeartbeats 2000000 in
theorem sync_any (w : World) (K : Nat → Prop) (D n : Nat) (safe cur : List UInt8) (h : DiskAt w K D n safe cur false) (hK : ∀ k, K k → k < w.heap.size) :
    Calls Tryz.prog 74 #[.pointer (some ⟨D, 0, none⟩)] w (fun e w' => e = .returned (.int .i64 0) ∧ DiskAt w' K D n cur cur false ∧ Kept K w w') := by
  have hmay := fun W hb => may_any W K D n safe cur false (h.below (w' := W) hb)
  have hstr := fun W hb => strikes_any W K D n safe cur false (h.below (w' := W) hb)
  simp only [Bool.false_eq_true, if_false] at hmay
  obtain ⟨s, m, ov, es, O, bl, hx⟩ := h
  obtain ⟨-, -, c2, -, -, -, -, hD⟩ := hx.cells
  obtain ⟨q, cap, rfl, hoc, hcell⟩ := ord_cell hx.ord
  have Hx := Lib.hid hx
  have hOn : O.length ≤ 4096 := Nat.le_trans (nodup_len n O hx.nodup fun i hi => (hx.each i hi).1) hx.small.2
  by_cases h0 : O.length = 0
  · have hO : O = [] := List.eq_nil_of_length_eq_zero h0
    subst hO
    have hst := hx.still
    have Hst := Lib.hid hst
    clear hst hx hcell h0
    go_enter Tryz.func74, Tryz.ntmps74
    go_wp2_with (first
      | (go_at_call 90; refine (hmay _ (Below.refl _ _)).mono ?_; rintro e w1 ⟨rfl, hb1⟩; replace c2 := bcell hb1 c2)
      | fail)
    go_ret
    have hfin := Hx.out.below hb1
    rw [← Hst.out] at hfin
    exact ⟨rfl, ⟨_, _, _, _, _, _, hfin⟩, kept_of_below hb1 hK⟩
  · have h1 : ((O.length : Int) == 0) = false := beq_false_of_ne (by omega)
    clear hx h0
    have Hcell := Lib.hid hcell
    clear hcell
    go_enter Tryz.func74, Tryz.ntmps74
    go_wp2_with (first
      | (go_at_call 90; refine (hmay _ (Below.refl _ _)).mono ?_; rintro e w1 ⟨rfl, hb1⟩; have c2a := bcell hb1 c2)
      | (go_at_call 109; refine (hstr _ hb1).mono ?_; rintro e w2 ⟨rfl, hb2⟩; have hb1 := below_trans hb1 hb2; have c2b := bcell hb1 c2)
      | fail)
    have hx1 := Lib.hid (Hx.out.below hb1)
    have hk1 := kept_of_below hb1 hK
    clear hmay hstr
    go_loopw [24] (fun x wr => ∃ k : Nat, k ≤ O.length ∧ x = .int .i64 k ∧ Hid (∃ safe' es', DiskX wr K D n safe' cur false s m (.slice q O.length cap) es' O (O.drop k) bl) ∧ Kept K w wr) (fun x _ => O.length - (intOf x).toNat)
    case atStart => exact ⟨0, Nat.zero_le _, rfl, Lib.hid ⟨safe, es, by rw [List.drop_zero]; exact hx1.out⟩, hk1⟩
    case round =>
      obtain ⟨k, hk, rfl, Hr, hkr⟩ := hrel
      by_cases hlt : k < O.length
      · obtain ⟨safe', es', hxr⟩ := Hr.out
        obtain ⟨q', cap', hv, -, hcr⟩ := ord_cell hxr.ord
        simp only [Value.slice.injEq] at hv
        obtain ⟨rfl, -, rfl⟩ := hv
        obtain ⟨g, rfl, d0⟩ := hcr k hlt
        have n0 : (0 : Int) ≤ (k : Int) := by omega
        have n1 : (k : Int) < (O.length : Int) := by omega
        rw [List.drop_eq_getElem_cons hlt] at hxr
        have hset := settle_any wr K D n safe' cur false s m _ es' O (O.drop (k + 1)) bl O[k] hxr (fun j hj => Nat.lt_of_lt_of_le (hK j hj) hkr.size)
        clear hcr hxr Hr
        generalize O[k] = i at *
        go_wp2_with (first
          | (go_at_call 60; refine hset.mono ?_; rintro e w3 ⟨rfl, hx3, hk3⟩)
          | fail)
        go_roundw
        case rel => exact ⟨k + 1, hlt, by go_num, Lib.hid ⟨_, _, hx3⟩, hkr.trans hk3⟩
        case measure => simp [intOf]; omega
      · have hke : k = O.length := by omega
        subst hke
        obtain ⟨safe', es', hxr⟩ := Hr.out
        rw [List.drop_length] at hxr
        have hst := hxr.still
        subst hst
        obtain ⟨-, -, y2, -, -, -, -, hDr⟩ := hxr.cells
        have yz : wr.frozen? ⟨D, 2, none⟩ = false := block_free hxr.blk 2
        have Hfin := Lib.hid hxr.clear
        have hfD := hxr.free.1
        clear hxr Hr
        go_wp2_with fail
        go_ret
        exact ⟨rfl, ⟨_, _, _, _, _, _, Hfin.out⟩, hkr.setCell (p := ⟨D, 2, none⟩) hfD _⟩

end Go.Proofs.YtlhefifejcoecaaGreatDoor
