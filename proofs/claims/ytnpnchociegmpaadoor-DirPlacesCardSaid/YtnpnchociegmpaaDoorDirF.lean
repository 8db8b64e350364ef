/- The directory, as it lies in memory; made, Epoch. -/
import Derived.Test.YtnpnchociegmpaaDoorDirE
namespace Go.Proofs.YtnpnchociegmpaaDoor
open Go.RowKit Go.Proofs Go.Shelf
attribute [local go_sem ↓] Go.wp_at_zero Go.wp_at_succ

/-- A directory X on the disk D: its files bn, those that were last saved bs; none of its blocks is one of K. -/
structure DirX (w : World) (K : Nat → Prop) (X D n : Nat) (safe cur : List UInt8) (off : Bool) (bn bs : Nat) (now saved : Files) (epoch which : Nat) : Prop where
  blk : w.heap[X]? = some (.cells #[.pointer (some ⟨D, 0, none⟩), .map (some bn), .map (some bs), .int .i64 epoch, .int .i64 which] 55 (0, 0))
  now : FilesAt w bn now
  saved : FilesAt w bs saved
  disk : DiskAt w (fun k => K k ∨ k = X ∨ k = bn ∨ k = bs) D n safe cur off
  free : ¬ K X ∧ ¬ K bn ∧ ¬ K bs
  ne : bn ≠ bs

def DirAt (w : World) (K : Nat → Prop) (X D n : Nat) (safe cur : List UInt8) (off : Bool) (now saved : Files) (epoch which : Nat) : Prop := ∃ bn bs, DirX w K X D n safe cur off bn bs now saved epoch which

theorem DirX.below {w w' : World} {K : Nat → Prop} {X D n : Nat} {safe cur : List UInt8} {off : Bool} {bn bs : Nat} {now saved : Files} {epoch which : Nat} (h : DirX w K X D n safe cur off bn bs now saved epoch which) (hb : Below w.heap.size w w') :
    DirX w' K X D n safe cur off bn bs now saved epoch which :=
  ⟨(hb.block _ (heap_lt h.blk)).trans h.blk, h.now.below hb, h.saved.below hb, h.disk.below hb, h.free, h.ne⟩

theorem DirAt.below {w w' : World} {K : Nat → Prop} {X D n : Nat} {safe cur : List UInt8} {off : Bool} {now saved : Files} {epoch which : Nat} (h : DirAt w K X D n safe cur off now saved epoch which) (hb : Below w.heap.size w w') : DirAt w' K X D n safe cur off now saved epoch which := by
  obtain ⟨bn, bs, h⟩ := h
  exact ⟨bn, bs, h.below hb⟩

theorem DirX.cells {w : World} {K : Nat → Prop} {X D n : Nat} {safe cur : List UInt8} {off : Bool} {bn bs : Nat} {now saved : Files} {epoch which : Nat} (h : DirX w K X D n safe cur off bn bs now saved epoch which) :
    w.cell? ⟨X, 0, none⟩ = some (.pointer (some ⟨D, 0, none⟩)) ∧ w.cell? ⟨X, 1, none⟩ = some (.map (some bn)) ∧ w.cell? ⟨X, 2, none⟩ = some (.map (some bs)) ∧ w.cell? ⟨X, 3, none⟩ = some (.int .i64 epoch) ∧ w.cell? ⟨X, 4, none⟩ = some (.int .i64 which) ∧ X < w.heap.size :=
  ⟨by rw [block_cell h.blk]; rfl, by rw [block_cell h.blk]; rfl, by rw [block_cell h.blk]; rfl, by rw [block_cell h.blk]; rfl, by rw [block_cell h.blk]; rfl, heap_lt h.blk⟩

/-- Blocks that the disk's own doings keep: the directory stands. -/
theorem DirX.kept {w w' : World} {K : Nat → Prop} {X D n : Nat} {safe cur safe' cur' : List UInt8} {off off' : Bool} {bn bs : Nat} {now saved : Files} {epoch which : Nat} (h : DirX w K X D n safe cur off bn bs now saved epoch which)
    (hk : Kept (fun k => K k ∨ k = X ∨ k = bn ∨ k = bs) w w') (hd : DiskAt w' (fun k => K k ∨ k = X ∨ k = bn ∨ k = bs) D n safe' cur' off') : DirX w' K X D n safe' cur' off' bn bs now saved epoch which :=
  ⟨(hk.block X (.inr (.inl rfl))).trans h.blk, ⟨h.now.map.block (hk.block bn (.inr (.inr (.inl rfl)))), h.now.small, h.now.few⟩, ⟨h.saved.map.block (hk.block bs (.inr (.inr (.inr rfl)))), h.saved.small, h.saved.few⟩, hd, h.free, h.ne⟩

set_option maxRecDepth 100000 in
theorem dmade_any (w : World) (K : Nat → Prop) (X D n : Nat) (safe cur : List UInt8) (off : Bool) (now saved : Files) (epoch which : Nat) (h : DirAt w K X D n safe cur off now saved epoch which) :
    Calls Tryd.prog 35 #[.pointer (some ⟨X, 0, none⟩)] w (Gives w (.bool true)) := by
  obtain ⟨bn, bs, h⟩ := h
  obtain ⟨c0, -, -, -, -, hX⟩ := h.cells
  clear h
  go_enter Tryd.func35, Tryd.ntmps35
  go_wp2_with fail
  go_ret
  exact ⟨rfl, Below.refl _ _⟩

set_option maxRecDepth 100000 in
theorem dmade_nil (w : World) : Calls Tryd.prog 35 #[.pointer none] w (Gives w (.bool false)) := by
  go_enter Tryd.func35, Tryd.ntmps35
  go_wp2_with fail
  go_ret
  exact ⟨rfl, Below.refl _ _⟩

set_option maxRecDepth 100000 in
theorem epoch_any (w : World) (K : Nat → Prop) (X D n : Nat) (safe cur : List UInt8) (off : Bool) (now saved : Files) (epoch which : Nat) (h : DirAt w K X D n safe cur off now saved epoch which) :
    Calls Tryd.prog 20 #[.pointer (some ⟨X, 0, none⟩)] w (Gives w (.int .i64 epoch)) := by
  have hmade := dmade_any w K X D n safe cur off now saved epoch which h
  obtain ⟨bn, bs, h⟩ := h
  obtain ⟨-, -, -, c3, -, hX⟩ := h.cells
  clear h
  go_enter Tryd.func20, Tryd.ntmps20
  go_wp2_with (first | (go_at_call 35; refine hmade.mono ?_; rintro e w1 ⟨rfl, hb1⟩; have d3 := bcell hb1 c3) | fail)
  go_ret
  exact ⟨rfl, hb1⟩

end Go.Proofs.YtnpnchociegmpaaDoor
