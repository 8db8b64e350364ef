/- What is kept beside a thing that changes; a disk, as it lies in memory. -/
import Derived.Test.YtlhefifejcoecaaGreatDoorPack2
import Derived.Test.YtlhefifejcoecaaGreatDoorJMap
import Derived.Test.YtlhefifejcoecaaGreatDoorRows2
namespace Go.Proofs.YtlhefifejcoecaaGreatDoor
open Go.RowKit Go.Proofs Go.Shelf

/-- The blocks K are as they were; the streams too; no block has gone. -/
structure Kept (K : Nat → Prop) (w w' : World) : Prop where
  os : w'.os = w.os
  tape : w'.tape = w.tape
  output : w'.output = w.output
  size : w.heap.size ≤ w'.heap.size
  block : ∀ k, K k → w'.heap[k]? = w.heap[k]?

theorem Kept.refl (K : Nat → Prop) (w : World) : Kept K w w := ⟨rfl, rfl, rfl, Nat.le_refl _, fun _ _ => rfl⟩
theorem Kept.trans {K : Nat → Prop} {a b c : World} (h : Kept K a b) (k : Kept K b c) : Kept K a c :=
  ⟨k.os.trans h.os, k.tape.trans h.tape, k.output.trans h.output, Nat.le_trans h.size k.size, fun i hi => (k.block i hi).trans (h.block i hi)⟩
theorem Kept.less {K K' : Nat → Prop} {w w' : World} (h : Kept K w w') (hK : ∀ k, K' k → K k) : Kept K' w w' := ⟨h.os, h.tape, h.output, h.size, fun k hk => h.block k (hK k hk)⟩
theorem Kept.drew {K : Nat → Prop} {a w : World} (h : Kept K a w) : Kept K a w.drew := ⟨h.os, h.tape, h.output, h.size, h.block⟩
theorem kept_of_below {K : Nat → Prop} {B : Nat} {w w' : World} (h : Below B w w') (hK : ∀ k, K k → k < B) : Kept K w w' := ⟨h.os, h.tape, h.output, h.size, fun k hk => h.block k (hK k hk)⟩
theorem Kept.setCell {K : Nat → Prop} {a w : World} (h : Kept K a w) {p : Addr} (hp : ¬ K p.block) (u : Value) : Kept K a (w.setCell p u) :=
  h.trans ⟨rfl, rfl, rfl, by simp [World.setCell], fun k hk => Below.heap_setCell _ _ _ _ (fun e => hp (e ▸ hk))⟩
theorem Kept.grown {K : Nat → Prop} {a w w' : World} {row : Option Nat} (h : Kept K a w) (hg : w.grownBy w' row) (hK : ∀ k, K k → k < w.heap.size) (hr : ∀ k, row = some k → ¬ K k) : Kept K a w' :=
  h.trans ⟨hg.os, hg.tape, hg.output, hg.size, fun k hk => hg.block k (hK k hk) (fun e => hr k e.symm hk)⟩
theorem Kept.cell {K : Nat → Prop} {w w' : World} (h : Kept K w w') {p : Addr} (hp : K p.block) : w'.cell? p = w.cell? p := World.cell?_of_block (w := w) (h.block p.block hp)
theorem Kept.below {B : Nat} {w w' : World} (h : Kept (fun k => k < B) w w') : Below B w w' := ⟨h.os, h.tape, h.output, h.size, h.block⟩

/-- A sector of bytes. -/
def sec (b : List UInt8) (i : Nat) : List UInt8 := (b.drop (32 * i)).take 32

theorem sec_len {b : List UInt8} {n i : Nat} (h : b.length = 32 * n) (hi : i < n) : (sec b i).length = 32 := by
  unfold sec
  rw [List.length_take, List.length_drop]; omega

theorem sec_get {b : List UInt8} {n i j : Nat} (_h : b.length = 32 * n) (_hi : i < n) (hj : j < 32) : (sec b i)[j]? = b[32 * i + j]? := by
  unfold sec
  rw [List.getElem?_take, if_pos hj, List.getElem?_drop]

/-- Bytes with others from a place on. -/
def splice (b : List UInt8) (at_ : Nat) (x : List UInt8) : List UInt8 := b.take at_ ++ x ++ b.drop (at_ + x.length)

theorem splice_len {b x : List UInt8} {at_ : Nat} (h : at_ + x.length ≤ b.length) : (splice b at_ x).length = b.length := by
  unfold splice
  simp only [List.length_append, List.length_take, List.length_drop]; omega

theorem splice_get {b x : List UInt8} {at_ : Nat} (h : at_ + x.length ≤ b.length) (i : Nat) : (splice b at_ x)[i]? = if at_ ≤ i ∧ i < at_ + x.length then x[i - at_]? else b[i]? := by
  unfold splice
  rw [List.getElem?_append, List.getElem?_append]
  simp only [List.length_append, List.length_take, Nat.min_eq_left (show at_ ≤ b.length by omega)]
  by_cases h1 : i < at_
  · rw [if_pos (by omega), if_pos h1, if_neg (by omega), List.getElem?_take, if_pos h1]
  · by_cases h2 : i < at_ + x.length
    · rw [if_pos h2, if_neg h1, if_pos ⟨by omega, h2⟩]
    · rw [if_neg h2, if_neg (by omega), List.getElem?_drop]
      congr 1
      omega

theorem splice_nil {b : List UInt8} {at_ : Nat} : splice b at_ [] = b := by simp [splice]

/-- Piece by piece. -/
theorem splice_splice {b x y : List UInt8} {at_ : Nat} (h : at_ + x.length + y.length ≤ b.length) : splice (splice b at_ x) (at_ + x.length) y = splice b at_ (x ++ y) := by
  apply List.ext_getElem?
  intro i
  rw [splice_get (by rw [splice_len (by omega)]; omega), splice_get (by omega), splice_get (by rw [List.length_append]; omega), List.length_append, List.getElem?_append]
  by_cases h1 : at_ + x.length ≤ i ∧ i < at_ + x.length + y.length
  · rw [if_pos h1, if_pos (by omega), if_neg (by omega)]
    congr 1; omega
  · rw [if_neg h1]
    by_cases h2 : at_ ≤ i ∧ i < at_ + x.length
    · rw [if_pos h2, if_pos (by omega), if_pos (by omega)]
    · rw [if_neg h2, if_neg (by omega)]

theorem sec_splice_far {b x : List UInt8} {n at_ i : Nat} (hb : b.length = 32 * n) (hi : i < n) (h : at_ + x.length ≤ b.length) (hf : 32 * i + 32 ≤ at_ ∨ at_ + x.length ≤ 32 * i) : sec (splice b at_ x) i = sec b i := by
  apply List.ext_getElem?
  intro j
  by_cases hj : j < 32
  · rw [sec_get (by rw [splice_len h]; exact hb) hi hj, sec_get hb hi hj, splice_get h, if_neg (by omega)]
  · rw [List.getElem?_eq_none (by rw [sec_len (by rw [splice_len h]; exact hb) hi]; omega), List.getElem?_eq_none (by rw [sec_len hb hi]; omega)]

theorem sec_splice_near {b x : List UInt8} {n at_ i : Nat} (hb : b.length = 32 * n) (hi : i < n) (h1 : 32 * i ≤ at_) (h2 : at_ + x.length ≤ 32 * i + 32) : sec (splice b at_ x) i = splice (sec b i) (at_ - 32 * i) x := by
  have h : at_ + x.length ≤ b.length := by omega
  have hl := sec_len hb hi
  apply List.ext_getElem?
  intro j
  rw [splice_get (by omega)]
  by_cases hj : j < 32
  · rw [sec_get (by rw [splice_len h]; exact hb) hi hj, sec_get hb hi hj, splice_get h]
    by_cases h3 : at_ ≤ 32 * i + j ∧ 32 * i + j < at_ + x.length
    · rw [if_pos h3, if_pos (by omega)]; congr 1; omega
    · rw [if_neg h3, if_neg (by omega)]
  · rw [List.getElem?_eq_none (by rw [sec_len (by rw [splice_len h]; exact hb) hi]; omega), if_neg (by omega), List.getElem?_eq_none (by omega)]

theorem secs_eq {b c : List UInt8} {n : Nat} (hb : b.length = 32 * n) (hc : c.length = 32 * n) (h : ∀ i, i < n → sec b i = sec c i) : b = c := by
  apply List.ext_getElem?
  intro k
  by_cases hk : k < 32 * n
  · have hi : k / 32 < n := by omega
    have e : k = 32 * (k / 32) + k % 32 := (Nat.div_add_mod k 32).symm
    have hm : k % 32 < 32 := Nat.mod_lt _ (by decide)
    rw [e, ← sec_get hb hi hm, ← sec_get hc hi hm, h _ hi]
  · rw [List.getElem?_eq_none (by omega), List.getElem?_eq_none (by omega)]

/-- The bytes of a disk with what is written in one sector. -/
def setSec (b : List UInt8) (i : Nat) (x : List UInt8) : List UInt8 := splice b (32 * i) x

theorem setSec_same {b x : List UInt8} {n i : Nat} (hb : b.length = 32 * n) (hi : i < n) (hx : x.length = 32) : sec (setSec b i x) i = x := by
  unfold setSec
  rw [sec_splice_near hb hi (Nat.le_refl _) (by omega), Nat.sub_self]
  have hl := sec_len hb hi
  unfold splice
  simp [hx, List.drop_of_length_le (show (sec b i).length ≤ 32 by omega)]

theorem setSec_other {b x : List UInt8} {n i j : Nat} (hb : b.length = 32 * n) (hi : i < n) (hj : j < n) (hx : x.length = 32) (hij : i ≠ j) : sec (setSec b i x) j = sec b j :=
  sec_splice_far hb hj (by omega) (by omega)

theorem setSec_len {b x : List UInt8} {n i : Nat} (hb : b.length = 32 * n) (hi : i < n) (hx : x.length = 32) : (setSec b i x).length = 32 * n := by
  unfold setSec; rw [splice_len (by omega), hb]

/-- A disk, with all that it is made of: O is what its order lists, L are the sectors that are dirty. -/
structure DiskX (w : World) (K : Nat → Prop) (D n : Nat) (safe cur : List UInt8) (off : Bool) (s m : Nat) (ov : Value) (es : List (Int × Value)) (O L : List Nat) (bl : Nat → Nat) : Prop where
  blk : w.heap[D]? = some (.cells #[.slice (some ⟨s, 0, none⟩) n n, .map (some m), ov, .bool off, .int .i64 0, .slice none 0 0, .int .i64 0] 95 (0, 0))
  sblk : w.heap[s]? = some (.cells (safe.map u8).toArray 98 (0, 0))
  map : MapA (Value.int .i64) w m es
  get : ∀ i : Nat, mget es (i : Int) = if i ∈ L then some (.pointer (some ⟨bl i, 0, none⟩)) else none
  ord : w.ownsRow 0 3 1 ov O.length (O.map fun (i : Nat) => Value.int .i64 (i : Int))
  each : ∀ i ∈ L, i < n ∧ w.heap[bl i]? = some (.cells ((sec cur i).map u8).toArray 98 (0, 0)) ∧ bl i ≠ s
  inj : ∀ i ∈ L, ∀ j ∈ L, bl i = bl j → i = j
  nodup : L.Nodup
  clean : ∀ i, i < n → i ∉ L → sec cur i = sec safe i
  len : safe.length = 32 * n ∧ cur.length = 32 * n
  small : 1 ≤ n ∧ n ≤ 4096
  free : ¬ K D ∧ ¬ K s ∧ ¬ K m ∧ (∀ g, ov.ownBlock = some g → ¬ K g) ∧ ∀ i ∈ L, ¬ K (bl i)

/-- A disk: what is safe, what is read, whether there is power; none of its blocks is one of K. -/
def DiskAt (w : World) (K : Nat → Prop) (D n : Nat) (safe cur : List UInt8) (off : Bool) : Prop := ∃ s m ov es L bl, DiskX w K D n safe cur off s m ov es L L bl

theorem heap_lt {w : World} {k : Nat} {o : Obj} (h : w.heap[k]? = some o) : k < w.heap.size := by
  rcases Nat.lt_or_ge k w.heap.size with h1 | h1
  · exact h1
  · rw [Array.getElem?_eq_none h1] at h; cases h

theorem ownsRow_below {w w' : World} {base : Nat} {e : TypeId} {size n : Nat} {v : Value} {xs : List Value} (h : w.ownsRow base e size v n xs) (hb : Below w.heap.size w w') : w'.ownsRow base e size v n xs := by
  refine h.kept (row := none) ⟨hb.os, hb.tape, hb.output, hb.size, fun k hk _ => hb.block k hk⟩ ?_
  cases hv : v.ownBlock with
  | none => exact .inl rfl
  | some k => exact .inr (by simp)

theorem DiskX.below {w w' : World} {K : Nat → Prop} {D n : Nat} {safe cur : List UInt8} {off : Bool} {s m : Nat} {ov : Value} {es : List (Int × Value)} {O L : List Nat} {bl : Nat → Nat}
    (h : DiskX w K D n safe cur off s m ov es O L bl) (hb : Below w.heap.size w w') : DiskX w' K D n safe cur off s m ov es O L bl :=
  ⟨(hb.block _ (heap_lt h.blk)).trans h.blk, (hb.block _ (heap_lt h.sblk)).trans h.sblk, h.map.below hb, h.get, ownsRow_below h.ord hb,
    fun i hi => by obtain ⟨a, b, c⟩ := h.each i hi; exact ⟨a, (hb.block _ (heap_lt b)).trans b, c⟩, h.inj, h.nodup, h.clean, h.len, h.small, h.free⟩

theorem DiskAt.below {w w' : World} {K : Nat → Prop} {D n : Nat} {safe cur : List UInt8} {off : Bool} (h : DiskAt w K D n safe cur off) (hb : Below w.heap.size w w') : DiskAt w' K D n safe cur off := by
  obtain ⟨s, m, ov, es, L, bl, h⟩ := h
  exact ⟨s, m, ov, es, L, bl, h.below hb⟩

/-- More blocks that are new are kept too. -/
theorem DiskX.more {w : World} {K K' : Nat → Prop} {D n : Nat} {safe cur : List UInt8} {off : Bool} {s m : Nat} {ov : Value} {es : List (Int × Value)} {O L : List Nat} {bl : Nat → Nat}
    (h : DiskX w K D n safe cur off s m ov es O L bl) (hK : ∀ k, k < w.heap.size → K' k → K k) : DiskX w K' D n safe cur off s m ov es O L bl := by
  obtain ⟨f1, f2, f3, f4, f5⟩ := h.free
  exact ⟨h.blk, h.sblk, h.map, h.get, h.ord, h.each, h.inj, h.nodup, h.clean, h.len, h.small,
    fun hk => f1 (hK _ (heap_lt h.blk) hk), fun hk => f2 (hK _ (heap_lt h.sblk) hk), fun hk => f3 (hK _ h.map.lt hk), fun g hg hk => f4 g hg (hK _ (h.ord.lt g hg).2 hk), fun i hi hk => f5 i hi (hK _ (heap_lt (h.each i hi).2.1) hk)⟩

theorem DiskAt.more {w : World} {K K' : Nat → Prop} {D n : Nat} {safe cur : List UInt8} {off : Bool} (h : DiskAt w K D n safe cur off) (hK : ∀ k, k < w.heap.size → K' k → K k) : DiskAt w K' D n safe cur off := by
  obtain ⟨s, m, ov, es, L, bl, h⟩ := h
  exact ⟨s, m, ov, es, L, bl, h.more hK⟩

theorem DiskAt.lens {w : World} {K : Nat → Prop} {D n : Nat} {safe cur : List UInt8} {off : Bool} (h : DiskAt w K D n safe cur off) : safe.length = 32 * n ∧ cur.length = 32 * n ∧ 1 ≤ n ∧ n ≤ 4096 := by
  obtain ⟨s, m, ov, es, L, bl, h⟩ := h
  exact ⟨h.len.1, h.len.2, h.small⟩

/-- The cells of the disk's own block. -/
theorem DiskX.cells {w : World} {K : Nat → Prop} {D n : Nat} {safe cur : List UInt8} {off : Bool} {s m : Nat} {ov : Value} {es : List (Int × Value)} {O L : List Nat} {bl : Nat → Nat}
    (h : DiskX w K D n safe cur off s m ov es O L bl) : w.cell? ⟨D, 0, none⟩ = some (.slice (some ⟨s, 0, none⟩) n n) ∧ w.cell? ⟨D, 1, none⟩ = some (.map (some m)) ∧ w.cell? ⟨D, 2, none⟩ = some ov ∧
      w.cell? ⟨D, 3, none⟩ = some (.bool off) ∧ w.cell? ⟨D, 4, none⟩ = some (.int .i64 0) ∧ w.cell? ⟨D, 5, none⟩ = some (.slice none 0 0) ∧ w.cell? ⟨D, 6, none⟩ = some (.int .i64 0) ∧ D < w.heap.size :=
  ⟨by rw [block_cell h.blk]; rfl, by rw [block_cell h.blk]; rfl, by rw [block_cell h.blk]; rfl, by rw [block_cell h.blk]; rfl, by rw [block_cell h.blk]; rfl, by rw [block_cell h.blk]; rfl, by rw [block_cell h.blk]; rfl, heap_lt h.blk⟩

theorem ownsRow_other {w w' : World} {base : Nat} {e : TypeId} {size n : Nat} {v : Value} {xs : List Value} (h : w.ownsRow base e size v n xs) (hb : ∀ g, v.ownBlock = some g → w'.heap[g]? = w.heap[g]?) : w'.ownsRow base e size v n xs := by
  refine ⟨h.1, ?_⟩
  rcases h.2 with h2 | ⟨g, cap, cur, rfl, h3, h4, h5⟩
  · exact .inl h2
  · exact .inr ⟨g, cap, cur, rfl, h3, (hb g rfl).trans h4, h5⟩

section
variable {w : World} {K : Nat → Prop} {D n : Nat} {safe cur : List UInt8} {off : Bool} {s m : Nat} {ov : Value} {es : List (Int × Value)} {O L : List Nat} {bl : Nat → Nat}

theorem cells_type {w : World} {k : Nat} {a b : Array Value} {T T' : TypeId} {f f' : Nat × Nat} (h1 : w.heap[k]? = some (.cells a T f)) (h2 : w.heap[k]? = some (.cells b T' f')) : T = T' := by
  rw [h1] at h2
  simp only [Option.some.injEq, Obj.cells.injEq] at h2
  exact h2.2.1
theorem tDS : (95 : TypeId) ≠ 98 := by decide
theorem tDI : (95 : TypeId) ≠ 3 := by decide
theorem tSI : (98 : TypeId) ≠ 3 := by decide

theorem DiskX.ord_ne (h : DiskX w K D n safe cur off s m ov es O L bl) {g : Nat} (hg : ov.ownBlock = some g) : g ≠ D ∧ g ≠ s ∧ (∀ i ∈ L, g ≠ bl i) := by
  obtain ⟨cs, hcs⟩ : ∃ cs, w.heap[g]? = some (.cells cs 3 (0, 0)) := by
    rcases h.ord.2 with ⟨rfl, -⟩ | ⟨g', cap, cs, rfl, -, h2, -⟩
    · cases hg
    · cases hg; exact ⟨cs, h2⟩
  refine ⟨?_, ?_, fun i hi => ?_⟩
  · rintro rfl; exact tDI (cells_type h.blk hcs)
  · rintro rfl; exact tSI (cells_type h.sblk hcs)
  · rintro rfl; exact tSI (cells_type (h.each i hi).2.1 hcs)

theorem DiskX.ne (h : DiskX w K D n safe cur off s m ov es O L bl) : D ≠ s ∧ m ≠ D ∧ m ≠ s ∧ (∀ g, ov.ownBlock = some g → m ≠ g) ∧ ∀ i ∈ L, bl i ≠ D ∧ bl i ≠ m := by
  obtain ⟨ms, clock, hm, -⟩ := h.map
  refine ⟨?_, ?_, ?_, fun g hg => ?_, fun i hi => ⟨?_, ?_⟩⟩
  · intro e; have h1 := h.blk; rw [e] at h1; exact tDS (cells_type h1 h.sblk)
  · rintro rfl; rw [h.blk] at hm; cases hm
  · rintro rfl; rw [h.sblk] at hm; cases hm
  · rintro rfl
    rcases h.ord.2 with ⟨rfl, -⟩ | ⟨g', cap, cs, rfl, -, h2, -⟩
    · cases hg
    · cases hg; rw [hm] at h2; cases h2
  · intro e; have h1 := (h.each i hi).2.1; rw [e] at h1; exact tDS (cells_type h.blk h1)
  · intro e; have := (h.each i hi).2.1; rw [e, hm] at this; cases this

/-- A sector more is dirty: its block is new, the map and the order have it. -/
theorem DiskX.dirty (h : DiskX w K D n safe cur off s m ov es L L bl) {w' : World} {i b : Nat} {ov' : Value} (hi : i < n) (hni : i ∉ L) (hbn : w.heap.size ≤ b) (hKb : ¬ K b) (hKo : ∀ g, ov'.ownBlock = some g → ¬ K g)
    (hblk : w'.heap[D]? = some (.cells #[.slice (some ⟨s, 0, none⟩) n n, .map (some m), ov', .bool off, .int .i64 0, .slice none 0 0, .int .i64 0] 95 (0, 0)))
    (hs : w'.heap[s]? = w.heap[s]?) (hm : MapA (Value.int .i64) w' m (mset es (i : Int) (.pointer (some ⟨b, 0, none⟩))))
    (hord : w'.ownsRow 0 3 1 ov' (L.length + 1) ((L.map fun (i : Nat) => Value.int .i64 (i : Int)) ++ [.int .i64 (i : Int)]))
    (hb : w'.heap[b]? = some (.cells ((sec safe i).map u8).toArray 98 (0, 0))) (hold : ∀ j ∈ L, w'.heap[bl j]? = w.heap[bl j]?) :
    DiskX w' K D n safe cur off s m ov' (mset es (i : Int) (.pointer (some ⟨b, 0, none⟩))) (L ++ [i]) (L ++ [i]) (fun j => if j = i then b else bl j) := by
  obtain ⟨f1, f2, f3, f4, f5⟩ := h.free
  have hlt : ∀ j ∈ L, bl j ≠ b := fun j hj e => by have := heap_lt (h.each j hj).2.1; omega
  have hji : ∀ j ∈ L, j ≠ i := fun j hj e => hni (e ▸ hj)
  refine ⟨hblk, hs.trans h.sblk, hm, fun j => ?_, by simpa using hord, fun j hj => ?_, fun j hj k hk e => ?_, ?_, fun j hjn hj => ?_, h.len, h.small, f1, f2, f3, hKo, fun j hj => ?_⟩
  · rw [mget_set]
    by_cases e : j = i
    · subst e; simp
    · have : ¬ ((j : Int) = (i : Int)) := by omega
      rw [if_neg this, h.get, if_neg e]
      simp [e]
  · rcases List.mem_append.1 hj with hj | hj
    · obtain ⟨a1, a2, a3⟩ := h.each j hj
      rw [if_neg (hji j hj)]
      exact ⟨a1, (hold j hj).trans a2, a3⟩
    · simp only [List.mem_cons, List.not_mem_nil, or_false] at hj
      subst hj
      rw [if_pos rfl, h.clean j hi hni]
      exact ⟨hi, hb, fun e => by have := heap_lt h.sblk; omega⟩
  · rcases List.mem_append.1 hj with hj' | hj' <;> rcases List.mem_append.1 hk with hk' | hk'
    · simp only [if_neg (hji j hj'), if_neg (hji k hk')] at e
      exact h.inj j hj' k hk' e
    · have hki : k = i := by simpa using hk'
      simp only [if_neg (hji j hj'), if_pos hki] at e
      exact absurd e (hlt j hj')
    · have hji' : j = i := by simpa using hj'
      simp only [if_neg (hji k hk'), if_pos hji'] at e
      exact absurd e.symm (hlt k hk')
    · have h1 : j = i := by simpa using hj'
      have h2 : k = i := by simpa using hk'
      rw [h1, h2]
  · rw [List.nodup_append]
    exact ⟨h.nodup, by simp, fun a ha c hc => by simp only [List.mem_cons, List.not_mem_nil, or_false] at hc; subst hc; exact hji a ha⟩
  · exact h.clean j hjn fun hj2 => hj (by simp [hj2])
  · rcases List.mem_append.1 hj with hj | hj
    · rw [if_neg (hji j hj)]; exact f5 j hj
    · simp only [List.mem_cons, List.not_mem_nil, or_false] at hj
      subst hj
      rw [if_pos rfl]; exact hKb

/-- Bytes are written into a sector that is dirty. -/
theorem DiskX.patch (h : DiskX w K D n safe cur off s m ov es O L bl) {w' : World} {i o : Nat} {x : List UInt8} (hi : i ∈ L) (ho : o + x.length ≤ 32)
    (hb : w'.heap[bl i]? = some (.cells ((splice (sec cur i) o x).map u8).toArray 98 (0, 0))) (hold : ∀ k, k ≠ bl i → w'.heap[k]? = w.heap[k]?) :
    DiskX w' K D n safe (splice cur (32 * i + o) x) off s m ov es O L bl := by
  obtain ⟨hin, hib, his⟩ := h.each i hi
  obtain ⟨n1, n2, n3, n4, n5⟩ := h.ne
  have hc := h.len.2
  have hfit : 32 * i + o + x.length ≤ cur.length := by omega
  have hnear : sec (splice cur (32 * i + o) x) i = splice (sec cur i) o x := by
    rw [sec_splice_near hc hin (by omega) (by omega)]; congr 1; omega
  have hfar : ∀ j, j < n → j ≠ i → sec (splice cur (32 * i + o) x) j = sec cur j := fun j hj hne => sec_splice_far hc hj hfit (by omega)
  refine ⟨(hold _ (n5 i hi).1.symm).trans h.blk, (hold _ his.symm).trans h.sblk, h.map.block (hold _ (n5 i hi).2.symm), h.get, ownsRow_other h.ord fun g hg => hold _ ((h.ord_ne hg).2.2 i hi), fun j hj => ?_, h.inj, h.nodup, fun j hjn hj => ?_, ⟨h.len.1, by rw [splice_len hfit]; exact hc⟩, h.small, h.free⟩
  · obtain ⟨a1, a2, a3⟩ := h.each j hj
    by_cases e : j = i
    · subst e; rw [hnear]; exact ⟨a1, hb, a3⟩
    · rw [hfar j a1 e]
      exact ⟨a1, (hold _ fun e2 => e (h.inj j hj i hi e2)).trans a2, a3⟩
  · rw [hfar j hjn fun e => hj (e ▸ hi)]; exact h.clean j hjn hj

/-- A dirty sector is safe. -/
theorem DiskX.settle {i : Nat} (h : DiskX w K D n safe cur off s m ov es O (i :: L) bl) {w' : World} (hD : w'.heap[D]? = w.heap[D]?)
    (hs : w'.heap[s]? = some (.cells ((setSec safe i (sec cur i)).map u8).toArray 98 (0, 0))) (hm : MapA (Value.int .i64) w' m (mdel es (i : Int))) (hmn : (es.map (·.1)).Nodup) (hold : ∀ k, k < w.heap.size → k ≠ s → k ≠ m → w'.heap[k]? = w.heap[k]?) :
    DiskX w' K D n (setSec safe i (sec cur i)) cur off s m ov (mdel es (i : Int)) O L bl := by
  obtain ⟨hin, -, -⟩ := h.each i (by simp)
  obtain ⟨n1, n2, n3, n4, n5⟩ := h.ne
  obtain ⟨f1, f2, f3, f4, f5⟩ := h.free
  have hnd := List.nodup_cons.1 h.nodup
  have hl := sec_len h.len.2 hin
  refine ⟨hD.trans h.blk, hs, hm, fun j => ?_, ownsRow_other h.ord fun g hg => hold _ (h.ord.lt g hg).2 (h.ord_ne hg).2.1 (n4 g hg).symm, fun j hj => ?_, fun j hj k hk e => h.inj j (by simp [hj]) k (by simp [hk]) e, hnd.2, fun j hjn hj => ?_, ⟨setSec_len h.len.1 hin hl, h.len.2⟩, h.small, f1, f2, f3, f4, fun j hj => f5 j (by simp [hj])⟩
  · rw [mget_del hmn, h.get]
    by_cases e : j = i
    · subst e; rw [if_pos rfl, if_neg hnd.1]
    · have : ¬ ((j : Int) = (i : Int)) := by omega
      rw [if_neg this]
      simp [e]
  · obtain ⟨a1, a2, a3⟩ := h.each j (by simp [hj])
    exact ⟨a1, (hold _ (heap_lt a2) a3 (n5 j (by simp [hj])).2).trans a2, a3⟩
  · by_cases e : j = i
    · subst e; rw [setSec_same h.len.1 hin hl]
    · rw [setSec_other h.len.1 hin hjn hl (Ne.symm e)]
      exact h.clean j hjn (by simp [e, hj])

/-- None is dirty any more. -/
theorem DiskX.still (h : DiskX w K D n safe cur off s m ov es O [] bl) : cur = safe := secs_eq h.len.2 h.len.1 fun i hi => h.clean i hi (by simp)

end

end Go.Proofs.YtlhefifejcoecaaGreatDoor
