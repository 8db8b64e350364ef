/- The disk: Write. -/
import Derived.Test.YtlhefifejcoecaaGreatDoorJDskA
import Derived.Laws.CopyRow
import Derived.Laws.CopyOwn
import Derived.Deep.DeepCutAuto
import Derived.Deep.LoopGhost
import Derived.Deep.CutBlock
namespace Go.Proofs.YtlhefifejcoecaaGreatDoor
open Go.RowKit Go.Proofs Go.Shelf
attribute [local go_sem ↓] Go.wp_at_zero Go.wp_at_succ

/-- Bytes in kept memory. -/
def SrcK (K : Nat → Prop) (w : World) (v : Value) (bs : List UInt8) : Prop := SlP 1 ByteE w v bs ∧ ∀ q n c, v = .slice q n c → ∀ a, q = some a → K a.block

theorem SrcK.open {K : Nat → Prop} {w : World} {v : Value} {bs : List UInt8} (h : SrcK K w v bs) : ∃ q cap, v = .slice q bs.length cap ∧ bs.length ≤ cap ∧ bs.length ≤ 9223372036854775807 ∧ (q = none → cap = 0) ∧
    (0 < bs.length → ∃ b o, q = some ⟨b, o, none⟩ ∧ K b ∧ ∀ j (hj : j < bs.length), w.cell? ⟨b, o + j, none⟩ = some (u8 bs[j])) := by
  obtain ⟨⟨q, cap, rfl, h1, h2, h0, h3⟩, hK⟩ := h
  refine ⟨q, cap, rfl, h1, h2, h0, fun hp => ?_⟩
  obtain ⟨b, o, cs, rfl, -, -, -⟩ := h3 0 hp
  refine ⟨b, o, rfl, hK _ _ _ rfl _ rfl, fun j hj => ?_⟩
  obtain ⟨b', o', cs, e, -, hcs, hc⟩ := h3 j hj
  simp only [Option.some.injEq, Addr.mk.injEq] at e
  obtain ⟨rfl, rfl, -⟩ := e
  subst hcs
  simpa using hc 0 (by simp)

theorem SrcK.kept {K : Nat → Prop} {w w' : World} {v : Value} {bs : List UInt8} (h : SrcK K w v bs) (hk : Kept K w w') : SrcK K w' v bs := by
  refine ⟨?_, h.2⟩
  obtain ⟨⟨q, cap, rfl, h1, h2, h0, h3⟩, hK⟩ := h
  refine ⟨q, cap, rfl, h1, h2, h0, fun j hj => ?_⟩
  obtain ⟨b, o, cs, rfl, hk2, he, hc⟩ := h3 j hj
  exact ⟨b, o, cs, rfl, hk2, he, fun i hi => (hk.cell (p := ⟨b, o + j * 1 + i, none⟩) (show K b from hK _ _ _ rfl _ rfl)).trans (hc i hi)⟩

theorem there_block {w : World} {b o k : Nat} {cs : Array Value} {T : TypeId} (h : w.heap[b]? = some (.cells cs T (0, 0))) (hk : o + k ≤ cs.size) : w.there b o k := fun j hj => by
  refine ⟨?_, by simp [World.frozen?, h]⟩
  rw [cell_of_row w b _ cs T _ h, Array.getElem?_eq_getElem (by omega)]; rfl

theorem there_new (w : World) {k : Nat} {cs : Array Value} {T : TypeId} (hk : k ≤ cs.size) : (w.alloc (.cells cs T)).there w.heap.size 0 k := there_block (heap_alloc_new _ _) (by omega)

theorem one_u8 (xs : List UInt8) : (xs.map u8).toArray.all (·.oneCell') = true := all_oneCell_toArray fun v hv => by
  obtain ⟨x, -, rfl⟩ := List.mem_map.1 hv
  rfl

theorem new_sector (w : World) {T : TypeId} {zs : Array Value} {sx : List Value} (hz : zs.size = sx.length) : ((w.alloc (.cells zs T)).setCells w.heap.size 0 sx).heap[w.heap.size]? = some (.cells sx.toArray T (0, 0)) ∧ Below w.heap.size w ((w.alloc (.cells zs T)).setCells w.heap.size 0 sx) ∧
    ((w.alloc (.cells zs T)).setCells w.heap.size 0 sx).heap.size = w.heap.size + 1 := by
  obtain ⟨cur', c1, c2, c3, c4, c5, c6, c7, c8⟩ := heap_setCells w.heap.size T (0, 0) sx 0 (w.alloc (.cells zs T)) zs (heap_alloc_new _ _) (by omega)
  have e : cur' = sx.toArray := by
    apply Array.toList_inj.1
    rw [c3]
    simp [List.drop_of_length_le, hz]
  refine ⟨by rw [c1, e], ⟨c6, c7, c8, by rw [c4]; simp, fun k hk => ?_⟩, by rw [c4]; simp⟩
  rw [c5 k (by omega)]
  exact Below.heap_alloc _ _ _ hk

theorem intElt : Elt Tryz.prog 3 1 8 := by
  have h : (Tryz.prog.info? 3).map (fun i => (i.zero, i.size, i.bytes)) = some (some (.int .i64 0), 1, 8) := by kernel_rfl
  obtain ⟨i0, hi, hz0, hz1, hz2⟩ := info_parts h
  exact ⟨⟨i0, _, hi, hz0, hz1, hz2, rfl⟩, by decide⟩

theorem src_int (w1 : World) (x : Int) : Src Tryz.prog 1 26 (.slice (some ⟨w1.heap.size, 0, none⟩) 1 1) 1 [.int .i64 x] (w1.alloc (.cells #[.int .i64 x] 3)) :=
  Src.ofSlice _ Tryz.underlying26 _ _ _ _ rfl (cell_one_new _ _ _) (by simp [Value.oneCell'])

theorem own_slice {w : World} {base : Nat} {T : TypeId} {k n : Nat} {v : Value} {xs : List Value} (h : w.ownsRow base T k v n xs) : ∃ q cap, v = .slice q n cap := by
  rcases h.2 with ⟨rfl, hn⟩ | ⟨g, cap, cur, rfl, _⟩
  · exact ⟨none, 0, by rw [hn]⟩
  · exact ⟨_, _, rfl⟩

theorem nodup_len : ∀ (n : Nat) (L : List Nat), L.Nodup → (∀ i ∈ L, i < n) → L.length ≤ n
  | 0, L, _, h => by
    cases L with
    | nil => simp
    | cons x L => exact absurd (h x (by simp)) (by omega)
  | n + 1, L, hn, h => by
    have ih := nodup_len n (L.filter fun x => !(x == n)) (hn.filter _) fun i hi => by
      obtain ⟨h1, h2⟩ := List.mem_filter.1 hi
      have := h i h1
      have h3 : i ≠ n := by simpa using h2
      omega
    have hc : L.count n ≤ 1 := List.nodup_iff_count.1 hn n
    have e := List.length_eq_countP_add_countP (fun x => x == n) (l := L)
    rw [List.countP_eq_length_filter (p := fun a => ¬(a == n) = true)] at e
    have e2 : (L.filter fun x => decide (¬(x == n) = true)) = L.filter fun x => !(x == n) := by
      congr 1; funext x; cases (x == n) <;> rfl
    rw [e2] at e
    have : List.countP (fun x => x == n) L = L.count n := rfl
    omega

section
variable {wc w5 w6 w7 : World} {K : Nat → Prop} {D n : Nat} {safe cu : List UInt8} {s m : Nat} {ov ov' : Value} {es : List (Int × Value)} {L : List Nat} {bl : Nat → Nat} {o : Obj}

theorem DiskX.far6 (h : DiskX wc K D n safe cu false s m ov es L L bl) (hb5 : Below wc.heap.size wc w5) (hg6 : w5.grownBy w6 (some m)) {k : Nat} (hk : k < wc.heap.size) (hkm : k ≠ m) : w6.heap[k]? = wc.heap[k]? := by
  have := h.map.lt
  exact (hg6.block k (Nat.lt_of_lt_of_le hk hb5.size) (fun e => hkm (by cases e; rfl))).trans (hb5.block k hk)

theorem DiskX.far7 (h : DiskX wc K D n safe cu false s m ov es L L bl) (hb5 : Below wc.heap.size wc w5) (hg6 : w5.grownBy w6 (some m)) (hg7 : (w6.alloc o).grownBy w7 ov.ownBlock) {k : Nat} (hk : k < wc.heap.size) (hkm : k ≠ m) (hko : ov.ownBlock ≠ some k) : w7.heap[k]? = wc.heap[k]? := by
  have h1 : k < w6.heap.size := Nat.lt_of_lt_of_le (Nat.lt_of_lt_of_le hk hb5.size) hg6.size
  exact (hg7.block k (by simp; omega) (fun e => hko e.symm)).trans ((Below.heap_alloc _ _ _ h1).trans (h.far6 hb5 hg6 hk hkm))

theorem DiskX.dirty_run (h : DiskX wc K D n safe cu false s m ov es L L bl) {i : Nat} (hi : i < n) (hni : i ∉ L) (hK : ∀ k, K k → k < wc.heap.size) (hb5 : Below wc.heap.size wc w5) (hn5 : w5.heap.size = wc.heap.size + 1)
    (hnew : w5.heap[wc.heap.size]? = some (.cells ((sec cu i).map u8).toArray 98 (0, 0))) (hm6 : MapA (Value.int .i64) w6 m (mset es (i : Int) (.pointer (some ⟨wc.heap.size, 0, none⟩)))) (hg6 : w5.grownBy w6 (some m))
    (hg7 : (w6.alloc o).grownBy w7 ov.ownBlock) (hown7 : w7.ownsRow 0 3 1 ov' (L.length + 1) ((L.map fun (i : Nat) => Value.int .i64 (i : Int)) ++ [.int .i64 (i : Int)])) (hat7 : ov'.ownBlock = ov.ownBlock ∨ ov'.ownBlock = some (w6.alloc o).heap.size) :
    DiskX (w7.setCell ⟨D, 2, none⟩ ov') K D n safe cu false s m ov' (mset es (i : Int) (.pointer (some ⟨wc.heap.size, 0, none⟩))) (L ++ [i]) (L ++ [i]) (fun j => if j = i then wc.heap.size else bl j) ∧ Kept K wc (w7.setCell ⟨D, 2, none⟩ ov') := by
  obtain ⟨n1, n2, n3, n4, n5⟩ := h.ne
  obtain ⟨f1, f2, f3, f4, f5⟩ := h.free
  have hDl := heap_lt h.blk
  have hml := h.map.lt
  have hs6 : w5.heap.size ≤ w6.heap.size := hg6.size
  have hs7 : w6.heap.size + 1 ≤ w7.heap.size := by have := hg7.size; simpa using this
  have hov : ∀ k, ov.ownBlock = some k → k < wc.heap.size := fun k hk => (h.ord.lt k hk).2
  have hov' : ∀ k, ov'.ownBlock = some k → k ≠ D ∧ ¬ K k := fun k hk => by
    rcases hat7 with e | e
    · rw [e] at hk; exact ⟨(h.ord_ne hk).1, f4 k hk⟩
    · rw [e] at hk
      cases hk
      simp only [World.size_alloc]
      exact ⟨by omega, fun hKk => by have := hK _ hKk; omega⟩
  have hfar := fun {k : Nat} hk hkm hko => h.far7 (k := k) hb5 hg6 hg7 hk hkm hko
  have hset := fun (k : Nat) (hk : k ≠ D) => Below.heap_setCell w7 ⟨D, 2, none⟩ ov' k hk
  have hDw : w7.heap[D]? = _ := (hfar hDl n2.symm (fun e => (h.ord_ne e).1 rfl)).trans h.blk
  have hnew7 : w7.heap[wc.heap.size]? = some (.cells ((sec cu i).map u8).toArray 98 (0, 0)) := by
    refine (hg7.block _ (by simp; omega) (fun e => by have := hov _ e.symm; omega)).trans ((Below.heap_alloc _ _ _ (by omega)).trans ((hg6.block _ (by omega) (fun e => by cases e; omega)).trans hnew))
  have hm7 : w7.heap[m]? = w6.heap[m]? := (hg7.block m (by simp; omega) (fun e => n4 m e.symm rfl)).trans (Below.heap_alloc _ _ _ (by omega))
  refine ⟨h.dirty hi hni (Nat.le_refl _) (fun hk => by have := hK _ hk; omega) (fun g hg => (hov' g hg).2) ?_ ?_ (hm6.block ((hset m n2).trans hm7)) (ownsRow_other hown7 fun g hg => hset g (hov' g hg).1) ?_ (fun j hj => ?_), ?_⟩
  · rw [block_set hDw]; rfl
  · exact (hset s n1.symm).trans (hfar (heap_lt h.sblk) n3.symm (fun e => (h.ord_ne e).2.1 rfl))
  · rw [← h.clean i hi hni]
    exact (hset _ (by omega)).trans hnew7
  · obtain ⟨a1, a2, a3⟩ := h.each j hj
    exact (hset _ (n5 j hj).1).trans (hfar (heap_lt a2) (n5 j hj).2 (fun e => (h.ord_ne e).2.2 j hj rfl))
  · refine Kept.setCell ⟨hg7.os.trans (hg6.os.trans hb5.os), hg7.tape.trans (hg6.tape.trans hb5.tape), hg7.output.trans (hg6.output.trans hb5.output), by omega, fun k hk => ?_⟩ f1 _
    exact hfar (hK k hk) (fun e => f3 (e ▸ hk)) (fun e => f4 k e hk)
end

/-- copy into a dirty sector. -/
theorem DiskX.patch_run {w : World} {K : Nat → Prop} {D n : Nat} {safe cu : List UInt8} {off : Bool} {s m : Nat} {ov : Value} {es : List (Int × Value)} {O L : List Nat} {bl : Nat → Nat} (h : DiskX w K D n safe cu off s m ov es O L bl) {i r : Nat} {x : List UInt8} {cs : List Value} (hi : i ∈ L) (hr : r + x.length ≤ 32) (hcs : cs = x.map u8) :
    DiskX (w.setRow (bl i) (((sec cu i).map u8).toArray.toList.take r ++ (cs ++ ((sec cu i).map u8).toArray.toList.drop (r + cs.length))).toArray) K D n safe (splice cu (32 * i + r) x) off s m ov es O L bl ∧
    Kept K w (w.setRow (bl i) (((sec cu i).map u8).toArray.toList.take r ++ (cs ++ ((sec cu i).map u8).toArray.toList.drop (r + cs.length))).toArray) := by
  subst hcs
  have hb := (h.each i hi).2.1
  have hf := h.free.2.2.2.2 i hi
  refine ⟨h.patch hi hr ?_ (fun k hk => setRow_other _ _ _ _ hk), ⟨rfl, rfl, rfl, by simp [World.setRow], fun k hk => setRow_other _ _ _ _ (fun e => hf (e ▸ hk))⟩⟩
  rw [setRow_heap w _ _ _ _ _ hb]
  simp [splice, List.map_take, List.map_drop]

theorem SrcK.drop {K : Nat → Prop} {w : World} {b0 o0 c cap1 k : Nat} {xs : List UInt8} (h : SrcK K w (.slice (some ⟨b0, o0, none⟩) c cap1) xs) (hk : k ≤ xs.length) : SrcK K w (.slice (some ⟨b0, o0 + k, none⟩) (c - k) (cap1 - k)) (xs.drop k) := by
  obtain ⟨⟨q, cap, hv, h1, h2, h0, h3⟩, hK⟩ := h
  have hKb : K b0 := hK _ _ _ rfl _ rfl
  simp only [Value.slice.injEq] at hv
  obtain ⟨rfl, rfl, rfl⟩ := hv
  refine ⟨⟨_, _, by rw [List.length_drop], by rw [List.length_drop]; omega, by rw [List.length_drop]; omega, fun h => by simp at h, fun j hj => ?_⟩, fun q n c hv a ha => ?_⟩
  · rw [List.length_drop] at hj
    obtain ⟨b, o, cs, e, h4, h5, h6⟩ := h3 (k + j) (by omega)
    simp only [Option.some.injEq, Addr.mk.injEq] at e
    obtain ⟨rfl, rfl, -⟩ := e
    refine ⟨_, _, cs, rfl, h4, by rw [List.getElem_drop]; exact h5, fun i hi => ?_⟩
    rw [← h6 i hi]
    congr 2; omega
  · simp only [Value.slice.injEq] at hv
    obtain ⟨rfl, -, -⟩ := hv
    cases ha; exact hKb

theorem SrcK.empty {K : Nat → Prop} {w : World} {b0 o0 cap : Nat} (hKb : K b0) : SrcK K w (.slice (some ⟨b0, o0, none⟩) 0 cap) [] :=
  ⟨⟨_, cap, rfl, by simp, by simp, fun h => by simp at h, fun j hj => by simp at hj⟩, fun q n c hv a ha => by
    simp only [Value.slice.injEq] at hv
    obtain ⟨rfl, -, -⟩ := hv
    cases ha; exact hKb⟩

theorem SrcK.cut {K : Nat → Prop} {w : World} {b0 o0 c cap1 k j : Nat} {bs : List UInt8} (h : SrcK K w (.slice (some ⟨b0, o0, none⟩) c cap1) (bs.drop j)) (hKb : K b0) (hl : (bs.drop j).length = c) (hk : k ≤ c) (hc : c ≤ cap1) :
    SrcK K w (.slice (if cap1 = k then some ⟨b0, o0, none⟩ else some ⟨b0, o0 + k, none⟩) (c - k) (cap1 - k)) (bs.drop (j + k)) := by
  by_cases e : cap1 = k
  · rw [if_pos e]
    have e2 : c - k = 0 := by omega
    have e3 : bs.drop (j + k) = [] := by
      rw [← List.drop_drop]
      exact List.drop_of_length_le (by omega)
    rw [e2, e3]
    exact SrcK.empty hKb
  · rw [if_neg e, ← List.drop_drop]
    exact h.drop (xs := bs.drop j) (by omega)

theorem sector_size : (Tryz.prog.info? 98).map (·.size) = some 32 := by kernel_rfl

set_option maxRecDepth 100000 in
set_option maxHeartbeats 4000000 in
theorem write_any (w : World) (K : Nat → Prop) (D n : Nat) (safe cur : List UInt8) (h : DiskAt w K D n safe cur false) (a : Nat) (v : Value) (bs : List UInt8) (hv : SrcK K w v bs) (hin : a + bs.length ≤ 32 * n) (hK : ∀ k, K k → k < w.heap.size) :
    Calls Tryz.prog 73 #[.pointer (some ⟨D, 0, none⟩), .int .i64 a, v] w (fun e w' => e = .returned (.int .i64 0) ∧ DiskAt w' K D n safe (splice cur a bs) false ∧ Kept K w w') := by
  have hmay := fun W hb => may_any W K D n safe cur false (h.below (w' := W) hb)
  have hsize := fun W hb => size_any W K D n safe cur false (h.below (w' := W) hb)
  have hstr := fun W hb => strikes_any W K D n safe cur false (h.below (w' := W) hb)
  obtain ⟨-, hcl, hn1, hn2⟩ := h.lens
  simp only [Bool.false_eq_true, if_false] at hmay
  have Hd := Lib.hid h
  have Hv := Lib.hid hv
  obtain ⟨q, cap, rfl, hvc, hvl, hv0, -⟩ := hv.open
  clear h hv
  have n0 : (0 : Int) ≤ (a : Int) := by omega
  have n1 : ¬ ((32 * n : Nat) : Int) < (a : Int) := by omega
  have n3 : IntKind.i64.wrap (((32 * n : Nat) : Int) - (a : Int)) = ((32 * n - a : Nat) : Int) := by rw [IntWalk.i64_in _ (by omega)]; omega
  have n4 : ¬ ((32 * n - a : Nat) : Int) < (bs.length : Int) := by omega
  generalize hN : 32 * n = N at *
  have HN := Lib.hid hN
  clear hN
  by_cases hz : bs.length = 0
  · have hbs : bs = [] := List.eq_nil_of_length_eq_zero hz
    subst hbs
    rw [splice_nil]
    clear hz
    go_enter Tryz.func73, Tryz.ntmps73
    go_wp2_with (first
      | (go_at_call 90; refine (hmay _ (Below.refl _ _)).mono ?_; rintro e w1 ⟨rfl, hb1⟩)
      | (go_at_call 51; refine (hsize _ (by assumption)).mono ?_; rintro e w2 ⟨rfl, hb2⟩; have hb1 := below_trans hb1 hb2)
      | fail)
    go_ret
    exact ⟨rfl, Hd.out.below hb1, kept_of_below hb1 hK⟩
  · have n5 : ((bs.length : Int) == 0) = false := beq_false_of_ne (by omega)
    go_enter Tryz.func73, Tryz.ntmps73
    go_wp2_with (first
      | (go_at_call 90; refine (hmay _ (Below.refl _ _)).mono ?_; rintro e w1 ⟨rfl, hb1⟩)
      | (go_at_call 51; refine (hsize _ (by assumption)).mono ?_; rintro e w2 ⟨rfl, hb2⟩; have hb1 := below_trans hb1 hb2)
      | (go_at_call 109; refine (hstr _ (by assumption)).mono ?_; rintro e w2 ⟨rfl, hb2⟩; have hb1 := below_trans hb1 hb2)
      | fail)
    have Hd0 := Lib.hid (Hd.out.below hb1)
    have Hv0 := Lib.hid (Hv.out.kept (kept_of_below hb1 hK))
    have hk0 := kept_of_below hb1 hK
    clear hmay hsize hstr
    go_loopw [1, 2] (fun p b wr => ∃ j : Nat, j ≤ bs.length ∧ p = .int .i64 ((a + j : Nat) : Int) ∧ Hid (DiskAt wr K D n safe (splice cur a (bs.take j)) false) ∧ Hid (SrcK K wr b (bs.drop j)) ∧ Kept K w wr) (fun p _ _ => a + bs.length - (intOf p).toNat)
    case atStart => exact ⟨0, Nat.zero_le _, rfl, Lib.hid (by rw [List.take_zero, splice_nil]; exact Hd0.out), Hv0, hk0⟩
    case round =>
      obtain ⟨j, hj, rfl, Hdr, Hvr, hkr⟩ := hrel
      obtain ⟨q1, cap1, rfl, hc1, hl1, hn1', hsrc⟩ := Hvr.out.open
      have hrl : (bs.drop j).length = bs.length - j := List.length_drop
      rw [hrl] at hc1 hl1 ⊢
      by_cases hlt : j < bs.length
      · obtain ⟨b0, o0, rfl, hKb, hcell⟩ := hsrc (by omega)
        have Hcell := Lib.hid hcell
        have Hrl := Lib.hid hrl
        have m0 : (0 : Int) < ((bs.length - j : Nat) : Int) := by omega
        obtain ⟨p, hp⟩ : ∃ p, p = a + j := ⟨_, rfl⟩
        rw [← hp]
        obtain ⟨i, hi'⟩ : ∃ i, i = p / 32 := ⟨_, rfl⟩
        obtain ⟨r, hr'⟩ : ∃ r, r = p % 32 := ⟨_, rfl⟩
        have e1 : (p : Int) / 32 = (i : Int) := by omega
        have e2 : (p : Int) % 32 = (r : Int) := by omega
        have hin' : i < n := by have := HN.out; omega
        have hr32 : r < 32 := by omega
        have hp32 : p = 32 * i + r := by omega
        have Hp32 := Lib.hid hp32
        have Hp := Lib.hid hp
        clear hsrc hcell hrl hp hi' hr' hp32
        obtain ⟨c, hc⟩ : ∃ c, c = bs.length - j := ⟨_, rfl⟩
        rw [← hc]
        rw [← hc] at m0 hc1 hl1
        have Hc := Lib.hid hc
        clear hc
        generalize hcu : splice cur a (bs.take j) = cu at *
        have Hcu := Lib.hid hcu
        clear hcu
        obtain ⟨s, m, ov, es, L, bl, hx⟩ := Hdr.out
        obtain ⟨c0, c1, c2, -, -, -, -, hD⟩ := hx.cells
        have hlook := hx.look i
        have hsn0 : (0 : Int) ≤ (i : Int) := by omega
        have hsn1 : (i : Int) < (n : Int) := by omega
        have Hx := Lib.hid hx
        have Hat := Lib.hid (hx.at_ hin')
        clear hx
        go_upto_region 14 with fail
        go_cut [8, 51] (fun i8 t wc => i8 = .int .i64 i ∧ t = .bool (!decide (i ∈ L)) ∧ wc = wr)
        case first => as_aux_lemma =>
          by_cases hm : i ∈ L
          · rw [if_pos hm] at hlook
            have Hm := Lib.hid hm
            clear hm
            generalize bl i = bi at *
            go_wp2_with fail
            go_meet
            case rel => exact ⟨rfl, by rw [decide_eq_true Hm.out]; rfl, rfl⟩
          · rw [if_neg hm] at hlook
            have Hm := Lib.hid hm
            clear hm
            go_wp2_with fail
            go_meet
            case rel => exact ⟨rfl, by rw [decide_eq_false Hm.out]; rfl, rfl⟩
        case rest => as_aux_lemma =>
        obtain ⟨rfl, rfl, rfl⟩ := hcut
        go_upto_if 51 with fail
        go_cut [8] (fun i8 w2 => i8 = .int .i64 i ∧ Hid (∃ s m ov es L bl, DiskX w2 K D n safe cu false s m ov es L L bl ∧ i ∈ L) ∧ Kept K wc w2)
        case first => as_aux_lemma =>
          by_cases hm : i ∈ L
          · have Hm := Lib.hid hm
            rw [decide_eq_true hm]
            clear hm
            go_wp2_with fail
            go_meet
            case rel => exact ⟨rfl, Lib.hid ⟨_, _, _, _, _, _, Hx.out, Hm.out⟩, Kept.refl _ _⟩
          · have hat := Hat.out
            rw [if_neg hm, if_neg hm] at hat
            rw [decide_eq_false hm]
            have Hm := Lib.hid hm
            clear hm
            have hsl : (sec cu i).length = 32 := sec_len Hx.out.len.2 hin'
            have hsz : (Tryz.prog.info? 98).map (·.size) = some ((sec cu i).map YtlhefifejcoecaaGreatDoor.u8).length := by rw [List.length_map, hsl]; exact sector_size
            have hone := one_u8 (sec cu i)
            have Hsl := Lib.hid hsl
            clear hsl
            generalize hsx : (sec cu i).map YtlhefifejcoecaaGreatDoor.u8 = sx at *
            have Hsx := Lib.hid hsx
            clear hsx
            have hs32 : sx.length = 32 := by rw [← Hsx.out, List.length_map, Hsl.out]
            have Hs32 := Lib.hid hs32
            clear hs32
            have hLn : L.length ≤ n := nodup_len n L Hx.out.nodup fun i hi => (Hx.out.each i hi).1
            have hDm := Hx.out.ne.2.1.symm
            have HKc : Hid (∀ k, K k → k < wc.heap.size) := Lib.hid fun k hk => Nat.lt_of_lt_of_le (hK k hk) hkr.size
            go_wp2_with (first
              | (refine wpList_load_mid rfl 98 _ rfl s (i * 32) rfl _ _ hat Tryz.underlying98 rfl hsz ?_)
              | (refine wpList_store_mid rfl 98 _ _ rfl wc.heap.size 0 sx.toArray rfl rfl (there_new wc (by rw [List.size_toArray, Hs32.out]; decide)) (by rw [List.size_toArray]; exact hsz) hone ?_; generalize hw5 : World.setCells _ _ _ _ = w5; have hns : w5.heap[wc.heap.size]? = some (.cells sx.toArray 98 (0, 0)) ∧ Below wc.heap.size wc w5 ∧ w5.heap.size = wc.heap.size + 1 := (by rw [← hw5]; exact new_sector wc (by rw [Hs32.out]; rfl)); clear hw5; obtain ⟨hnew, hb5, hn5⟩ := hns; have Hnew := Lib.hid hnew; clear hnew; have y1 := bcell hb5 c1; have hm5 := Hx.out.map.below hb5)
              | (at_mapUpdate; refine wpList_mapSet rfl _ _ _ _ rfl secKey Tryz.underlying93 rfl hm5 (i : Int) rfl _ rfl ?_; intro w6 hm6 hg6; have z2 := (World.cell?_of_block (w := wc) (a := ⟨D, 2, none⟩) (Hx.out.far6 hb5 hg6 hD hDm)).trans c2; have l2 := World.block_lt_of_cell? _ _ z2; have hord6 := ownsRow_other (w' := w6) Hx.out.ord fun g hg => Hx.out.far6 hb5 hg6 (Hx.out.ord.lt g hg).2 (Hx.out.ne.2.2.2.1 g hg).symm)
              | (at_builtin; refine wpList_app (v := ov) rfl _ _ 26 26 rfl 0 3 1 8 intElt Tryz.underlying26 L.length _ rfl (hord6.alloc _) rfl 1 _ (src_int w6 i) (by unfold maxLen; omega) (by omega) (Nat.zero_le _) ?_; intro ov2 w7 hown7 hg7 hat7; obtain ⟨q7, cap7, hov2⟩ := own_slice hown7; subst hov2; have hf7 := Hx.out.far7 hb5 hg6 hg7 hD hDm (fun e => (Hx.out.ord_ne e).1 rfl); have z3 := (World.cell?_of_block (w := wc) (a := ⟨D, 2, none⟩) hf7).trans c2; have z4 : w7.frozen? ⟨D, 2, none⟩ = false := (by rw [Hx.out.blk] at hf7; exact block_free hf7 2); have Hf7 := Lib.hid hf7; clear hf7)
              | fail)
            have hdr := Hx.out.dirty_run hin' Hm.out HKc.out hb5 hn5 (by rw [Hsx.out]; exact Hnew.out) hm6 hg6 hg7 hown7 hat7
            have Hdr2 := Lib.hid hdr
            clear hdr
            go_meet
            case rel => exact ⟨rfl, Lib.hid ⟨_, _, _, _, _, _, Hdr2.out.1, by simp⟩, Hdr2.out.2⟩
        case rest => as_aux_lemma =>
          obtain ⟨rfl, Hex, hk2⟩ := hcut
          obtain ⟨w3, hw3⟩ : ∃ w3 : World, w3 = wc := ⟨_, rfl⟩
          subst hw3
          clear hlook c0 c1 c2 Hx Hat hD Hdr
          obtain ⟨s2, m2, ov2, es2, L2, bl2, hx2, hm2⟩ := Hex.out
          clear Hex
          obtain ⟨c0, c1, c2, -, -, -, -, hD⟩ := hx2.cells
          have hlook := hx2.look i
          rw [if_pos hm2] at hlook
          have hblk := (hx2.each i hm2).2.1
          have hsl : (sec cu i).length = 32 := sec_len hx2.len.2 hin'
          have Hx2 := Lib.hid hx2
          have Hm2 := Lib.hid hm2
          have hcsz : ((sec cu i).map YtlhefifejcoecaaGreatDoor.u8).toArray.size = 32 := by rw [List.size_toArray, List.length_map, hsl]
          clear hx2 hm2 hsl
          have Hbi := Lib.hid (rfl : bl2 i = bl2 i)
          generalize hbi : bl2 i = bi at hlook hblk
          have Hbi := Lib.hid hbi
          clear hbi
          have k1 : (0 : Int) ≤ (r : Int) := by omega
          have k2 : (r : Int) ≤ 32 := by omega
          by_cases hle : 32 - r ≤ c
          · skip
            have hxl : ((bs.drop j).take (32 - r)).length = (32 - r) := by have := Hc.out; rw [List.length_take, List.length_drop]; omega
            obtain ⟨cs, hcs⟩ : ∃ cs, cs = ((bs.drop j).take (32 - r)).map YtlhefifejcoecaaGreatDoor.u8 := ⟨_, rfl⟩
            have hcl1 : cs.length = (32 - r) := by rw [hcs, List.length_map, hxl]
            have hsrcw : ∀ t v, cs[t]? = some v → w3.cell? ((⟨b0, o0, none⟩ : Addr).add t) = some v := fun t v hv => by
              have ht : t < (32 - r) := by
                rcases Nat.lt_or_ge t (32 - r) with h | h
                · exact h
                · rw [List.getElem?_eq_none (by omega)] at hv; cases hv
              have ht2 : t < (bs.drop j).length := by have := Hc.out; have := Hrl.out; omega
              rw [Addr.add_lit, hk2.cell (p := ⟨b0, o0 + t, none⟩) hKb, Hcell.out t ht2]
              rw [hcs, List.getElem?_map, List.getElem?_take, if_pos ht, List.getElem?_eq_getElem ht2] at hv
              exact hv
            have hone : ∀ v ∈ cs, v.oneCell' = true := fun v hv => by
              rw [hcs] at hv
              obtain ⟨x, -, rfl⟩ := List.mem_map.1 hv
              rfl
            have Hcs := Lib.hid hcs
            have Hxl := Lib.hid hxl
            have hpS : p + (32 - r) ≤ 300000 := by have := HN.out; have := Hc.out; have := Hp.out; omega
            have k5 : IntKind.i64.wrap ((p : Int) + (((32 - r) : Nat) : Int)) = ((p + (32 - r) : Nat) : Int) := by rw [IntWalk.i64_in _ (by omega)]; omega
            have k6 : (0 : Int) ≤ (((32 - r) : Nat) : Int) := by omega
            have k7 : (((32 - r) : Nat) : Int) ≤ (c : Int) := by omega
            have k8 : (((32 - r) : Nat) : Int) ≤ (cap1 : Int) := by omega
            have hmin : (32 - r) = Nat.min c (32 - r) := by have : Nat.min c (32 - r) = min c (32 - r) := rfl; omega
            have Hmin := Lib.hid hmin
            clear hcs hxl hmin
            go_upto_region 19 with (first
              | (refine wpList_copy_own rfl _ _ 25 25 rfl 5 Tryz.underlying25 u8_size bi r (32 - r) (32 - r) ⟨b0, o0, none⟩ c cap1 rfl rfl _ _ hblk cs (by rw [hcl1]; exact Hmin.out) hsrcw (by rw [hcl1, hcsz]; omega) hone ?_; generalize hw4 : World.setRow _ _ _ = w4; have Hw4 := Lib.hid hw4; clear hw4)
              | fail)
            refine wp_region_quiet_lit (by kernel_rfl) (by kernel_rfl) ?_
            repeat (any_goals (first | go_big_quiet_step (fail) | quiet_step (fail) | (refine wpQuiet_step (fun K hK => ?_); go_simp; split <;> (refine hK _ ?_; clear hK K))))
            all_goals (refine wpQuiet_nil ?_; intro _ hw'; obtain ⟨nq, hw''⟩ := hw'; subst hw'')
            have hpr := Hx2.out.patch_run Hm2.out (r := r) (x := (bs.drop j).take (32 - r)) (by rw [Hxl.out]; omega) Hcs.out
            rw [Hbi.out, Hw4.out] at hpr
            have hdrw := below_drewN (Below.refl w4.heap.size w4) nq
            have hsp : splice cu (32 * i + r) ((bs.drop j).take (32 - r)) = splice cur a (bs.take (j + (32 - r))) := by
              have h1 := Hc.out
              have h2 : (bs.take j).length = j := by rw [List.length_take]; omega
              have h3 := splice_splice (b := cur) (x := bs.take j) (y := (bs.drop j).take (32 - r)) (at_ := a) (by rw [h2, Hxl.out]; omega)
              rw [h2, Hcu.out, ← Hp.out, Hp32.out] at h3
              rw [h3, List.take_add]
            rw [hsp] at hpr
            have hfd := Lib.hid (show DiskAt (w4.drewN nq) K D n safe (splice cur a (bs.take (j + (32 - r)))) false from ⟨_, _, _, _, _, _, hpr.1.below hdrw⟩)
            have hkk : Kept K w (w4.drewN nq) := ((hkr.trans hk2).trans hpr.2).trans (kept_of_below (B := w.heap.size) (below_drewN (Below.refl _ _) _) hK)
            have hvr := Hvr.out
            rw [Hrl.out, ← Hc.out] at hvr
            have hsv := Lib.hid ((hvr.kept ((hk2.trans hpr.2).trans (kept_of_below (B := w.heap.size) (below_drewN (Below.refl _ w4) nq) hK))).cut (c := c) (cap1 := cap1) (j := j) (bs := bs) hKb (by have := Hc.out; have := Hrl.out; omega) (k := (32 - r)) (by omega) (by omega))
            have hmes : a + bs.length - (p + (32 - r)) < a + bs.length - p := by have := Hp.out; have := Hc.out; omega
            have hjk : j + (32 - r) ≤ bs.length := by have := Hc.out; omega
            have hpk : ((p : Int) + (((32 - r) : Nat) : Int)) = ((a + (j + (32 - r)) : Nat) : Int) := by have := Hp.out; omega
            have hmes2 := Lib.hid hmes
            have hpk2 := Lib.hid hpk
            clear hpr hdrw hsp hmes hpk hvr
            go_wp2_with fail
            refine ⟨⟨j + (32 - r), hjk, by rw [hpk2.out], hfd, ?_, hkk⟩, ?_⟩
            · first
                | exact hsv
                | exact Lib.hid (by have h := hsv.out; rw [Nat.sub_self] at h; exact h)
            · have := hmes2.out
              simp only [intOf]
              omega
          · skip
            have hxl : ((bs.drop j).take c).length = c := by have := Hc.out; rw [List.length_take, List.length_drop]; omega
            obtain ⟨cs, hcs⟩ : ∃ cs, cs = ((bs.drop j).take c).map YtlhefifejcoecaaGreatDoor.u8 := ⟨_, rfl⟩
            have hcl1 : cs.length = c := by rw [hcs, List.length_map, hxl]
            have hsrcw : ∀ t v, cs[t]? = some v → w3.cell? ((⟨b0, o0, none⟩ : Addr).add t) = some v := fun t v hv => by
              have ht : t < c := by
                rcases Nat.lt_or_ge t c with h | h
                · exact h
                · rw [List.getElem?_eq_none (by omega)] at hv; cases hv
              have ht2 : t < (bs.drop j).length := by have := Hc.out; have := Hrl.out; omega
              rw [Addr.add_lit, hk2.cell (p := ⟨b0, o0 + t, none⟩) hKb, Hcell.out t ht2]
              rw [hcs, List.getElem?_map, List.getElem?_take, if_pos ht, List.getElem?_eq_getElem ht2] at hv
              exact hv
            have hone : ∀ v ∈ cs, v.oneCell' = true := fun v hv => by
              rw [hcs] at hv
              obtain ⟨x, -, rfl⟩ := List.mem_map.1 hv
              rfl
            have Hcs := Lib.hid hcs
            have Hxl := Lib.hid hxl
            have hpS : p + c ≤ 300000 := by have := HN.out; have := Hc.out; have := Hp.out; omega
            have k5 : IntKind.i64.wrap ((p : Int) + ((c : Nat) : Int)) = ((p + c : Nat) : Int) := by rw [IntWalk.i64_in _ (by omega)]; omega
            have k6 : (0 : Int) ≤ ((c : Nat) : Int) := by omega
            have k7 : ((c : Nat) : Int) ≤ (c : Int) := by omega
            have k8 : ((c : Nat) : Int) ≤ (cap1 : Int) := by omega
            have hmin : c = Nat.min c (32 - r) := by have : Nat.min c (32 - r) = min c (32 - r) := rfl; omega
            have Hmin := Lib.hid hmin
            clear hcs hxl hmin
            go_upto_region 19 with (first
              | (refine wpList_copy_own rfl _ _ 25 25 rfl 5 Tryz.underlying25 u8_size bi r (32 - r) (32 - r) ⟨b0, o0, none⟩ c cap1 rfl rfl _ _ hblk cs (by rw [hcl1]; exact Hmin.out) hsrcw (by rw [hcl1, hcsz]; omega) hone ?_; generalize hw4 : World.setRow _ _ _ = w4; have Hw4 := Lib.hid hw4; clear hw4)
              | fail)
            refine wp_region_quiet_lit (by kernel_rfl) (by kernel_rfl) ?_
            repeat (any_goals (first | go_big_quiet_step (fail) | quiet_step (fail) | (refine wpQuiet_step (fun K hK => ?_); go_simp; split <;> (refine hK _ ?_; clear hK K))))
            all_goals (refine wpQuiet_nil ?_; intro _ hw'; obtain ⟨nq, hw''⟩ := hw'; subst hw'')
            have hpr := Hx2.out.patch_run Hm2.out (r := r) (x := (bs.drop j).take c) (by rw [Hxl.out]; omega) Hcs.out
            rw [Hbi.out, Hw4.out] at hpr
            have hdrw := below_drewN (Below.refl w4.heap.size w4) nq
            have hsp : splice cu (32 * i + r) ((bs.drop j).take c) = splice cur a (bs.take (j + c)) := by
              have h1 := Hc.out
              have h2 : (bs.take j).length = j := by rw [List.length_take]; omega
              have h3 := splice_splice (b := cur) (x := bs.take j) (y := (bs.drop j).take c) (at_ := a) (by rw [h2, Hxl.out]; omega)
              rw [h2, Hcu.out, ← Hp.out, Hp32.out] at h3
              rw [h3, List.take_add]
            rw [hsp] at hpr
            have hfd := Lib.hid (show DiskAt (w4.drewN nq) K D n safe (splice cur a (bs.take (j + c))) false from ⟨_, _, _, _, _, _, hpr.1.below hdrw⟩)
            have hkk : Kept K w (w4.drewN nq) := ((hkr.trans hk2).trans hpr.2).trans (kept_of_below (B := w.heap.size) (below_drewN (Below.refl _ _) _) hK)
            have hvr := Hvr.out
            rw [Hrl.out, ← Hc.out] at hvr
            have hsv := Lib.hid ((hvr.kept ((hk2.trans hpr.2).trans (kept_of_below (B := w.heap.size) (below_drewN (Below.refl _ w4) nq) hK))).cut (c := c) (cap1 := cap1) (j := j) (bs := bs) hKb (by have := Hc.out; have := Hrl.out; omega) (k := c) (by omega) (by omega))
            have hmes : a + bs.length - (p + c) < a + bs.length - p := by have := Hp.out; have := Hc.out; omega
            have hjk : j + c ≤ bs.length := by have := Hc.out; omega
            have hpk : ((p : Int) + ((c : Nat) : Int)) = ((a + (j + c) : Nat) : Int) := by have := Hp.out; omega
            have hmes2 := Lib.hid hmes
            have hpk2 := Lib.hid hpk
            clear hpr hdrw hsp hmes hpk hvr
            go_wp2_with fail
            refine ⟨⟨j + c, hjk, by rw [hpk2.out], hfd, ?_, hkk⟩, ?_⟩
            · first
                | exact hsv
                | exact Lib.hid (by have h := hsv.out; rw [Nat.sub_self] at h; exact h)
            · have := hmes2.out
              simp only [intOf]
              omega
      · have hje : j = bs.length := by omega
        have hfin := Hdr.out
        rw [hje, List.take_length] at hfin
        have Hfin := Lib.hid hfin
        have hz0 : bs.length - j = 0 := by omega
        rw [hz0]
        clear hfin hje hsrc hrl hc1 hl1
        go_wp2_with fail
        go_ret
        exact ⟨rfl, Hfin.out, hkr⟩

end Go.Proofs.YtlhefifejcoecaaGreatDoor
