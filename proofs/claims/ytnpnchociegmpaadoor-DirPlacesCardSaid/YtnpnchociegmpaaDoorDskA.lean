/- The disk: made, Size, may, strikes, Start; New. -/
import Derived.Test.YtnpnchociegmpaaDoorDsk
import Derived.Deep.MidRow
import Derived.Outline
namespace Go.Proofs.YtnpnchociegmpaaDoor
open Go.RowKit Go.Proofs Go.Shelf
attribute [local go_sem ↓] Go.wp_at_zero Go.wp_at_succ

theorem DiskAt.cells {w : World} {K : Nat → Prop} {D n : Nat} {safe cur : List UInt8} {off : Bool} (h : DiskAt w K D n safe cur off) : ∃ s m ov, w.cell? ⟨D, 0, none⟩ = some (.slice (some ⟨s, 0, none⟩) n n) ∧ w.cell? ⟨D, 1, none⟩ = some (.map (some m)) ∧ w.cell? ⟨D, 2, none⟩ = some ov ∧
      w.cell? ⟨D, 3, none⟩ = some (.bool off) ∧ w.cell? ⟨D, 4, none⟩ = some (.int .i64 0) ∧ w.cell? ⟨D, 5, none⟩ = some (.slice none 0 0) ∧ w.cell? ⟨D, 6, none⟩ = some (.int .i64 0) ∧ D < w.heap.size := by
  obtain ⟨s, m, ov, es, L, bl, h⟩ := h
  exact ⟨s, m, ov, h.cells⟩

set_option maxRecDepth 100000 in
theorem made_any (w : World) (K : Nat → Prop) (D n : Nat) (safe cur : List UInt8) (off : Bool) (h : DiskAt w K D n safe cur off) : Calls Tryd.prog 42 #[.pointer (some ⟨D, 0, none⟩)] w (Gives w (.bool true)) := by
  obtain ⟨s, m, ov, c0, -, -, -, -, -, -, hD⟩ := h.cells
  go_enter Tryd.func42, Tryd.ntmps42
  go_wp2_with fail
  go_ret
  exact ⟨rfl, Below.refl _ _⟩

set_option maxRecDepth 100000 in
theorem size_any (w : World) (K : Nat → Prop) (D n : Nat) (safe cur : List UInt8) (off : Bool) (h : DiskAt w K D n safe cur off) : Calls Tryd.prog 27 #[.pointer (some ⟨D, 0, none⟩)] w (Gives w (.int .i64 (32 * n : Nat))) := by
  have hmade := made_any w K D n safe cur off h
  obtain ⟨-, -, hn1, hn2⟩ := h.lens
  obtain ⟨s, m, ov, c0, -, -, -, -, -, -, hD⟩ := h.cells
  have hw : IntKind.i64.wrap ((n : Int) * 32) = ((32 * n : Nat) : Int) := by rw [IntWalk.i64_in _ (by omega)]; omega
  clear h
  go_enter Tryd.func27, Tryd.ntmps27
  go_wp2_with (first | (go_at_call 42; refine hmade.mono ?_; rintro e w1 ⟨rfl, hb1⟩; have d0 := bcell hb1 c0) | fail)
  go_ret
  exact ⟨rfl, hb1⟩

set_option maxRecDepth 100000 in
theorem may_any (w : World) (K : Nat → Prop) (D n : Nat) (safe cur : List UInt8) (off : Bool) (h : DiskAt w K D n safe cur off) : Calls Tryd.prog 48 #[.pointer (some ⟨D, 0, none⟩)] w (Gives w (.int .i64 (if off then 7 else 0))) := by
  have hmade := made_any w K D n safe cur off h
  obtain ⟨s, m, ov, -, -, -, c3, -, -, -, hD⟩ := h.cells
  clear h
  cases off <;>
  · go_enter Tryd.func48, Tryd.ntmps48
    go_wp2_with (first | (go_at_call 42; refine hmade.mono ?_; rintro e w1 ⟨rfl, hb1⟩; have d3 := bcell hb1 c3) | fail)
    go_ret
    exact ⟨rfl, hb1⟩

set_option maxRecDepth 100000 in
theorem strikes_any (w : World) (K : Nat → Prop) (D n : Nat) (safe cur : List UInt8) (off : Bool) (h : DiskAt w K D n safe cur off) : Calls Tryd.prog 49 #[.pointer (some ⟨D, 0, none⟩)] w (Gives w (.bool false)) := by
  obtain ⟨s, m, ov, -, -, -, -, c4, -, -, hD⟩ := h.cells
  clear h
  go_enter Tryd.func49, Tryd.ntmps49
  go_wp2_with fail
  go_ret
  exact ⟨rfl, Below.refl _ _⟩

end Go.Proofs.YtnpnchociegmpaaDoor
