/- The directory: extents, names. -/
import Derived.Test.YtnpnchociegmpaaDoorDskF
import Derived.Test.YtnpnchociegmpaaDoorOpenF
namespace Go.Proofs.YtnpnchociegmpaaDoor
open Go.RowKit Go.Proofs Go.Shelf
attribute [local go_sem ↓] Go.wp_at_zero Go.wp_at_succ

def extV (e : Nat × Nat) : Value := .agg #[.int .i64 e.1, .int .i64 e.2]
def meetsS (a b : Nat × Nat) : Bool := decide (a.1 < b.1 + b.2) && decide (b.1 < a.1 + a.2)

set_option maxRecDepth 100000 in
theorem end_any (b c : Nat) (w : World) (hb : b ≤ 1000000000) (hc : c ≤ 1000000000) : Calls Tryd.prog 71 #[.agg #[.int .i64 b, .int .i64 c]] w (Gives w (.int .i64 (b + c : Nat))) := by
  have hs : IntKind.i64.wrap ((b : Int) + (c : Int)) = ((b + c : Nat) : Int) := by rw [IntWalk.i64_in _ (by omega)]; omega
  go_enter Tryd.func71, Tryd.ntmps71
  go_wp2_with fail
  go_ret
  refine ⟨?_, below_new _ _⟩
  simp

set_option maxRecDepth 100000 in
set_option maxHeartbeats 1000000 in
theorem meets_any (a b : Nat × Nat) (w : World) (h1 : a.1 ≤ 1000000000) (h2 : a.2 ≤ 1000000000) (h3 : b.1 ≤ 1000000000) (h4 : b.2 ≤ 1000000000) :
    Calls Tryd.prog 64 #[extV a, extV b] w (Gives w (.bool (meetsS a b))) := by
  obtain ⟨a1, a2⟩ := a
  obtain ⟨b1, b2⟩ := b
  dsimp only at *
  have hq : meetsS (a1, a2) (b1, b2) = (decide (a1 < b1 + b2) && decide (b1 < a1 + a2)) := rfl
  rw [hq]
  show Calls _ _ #[.agg #[.int .i64 a1, .int .i64 a2], .agg #[.int .i64 b1, .int .i64 b2]] w _
  have hea := fun W => end_any a1 a2 W h1 h2
  have heb := fun W => end_any b1 b2 W h3 h4
  have hab := below_alloc (below_new w (.cells #[.int .i64 a1, .int .i64 a2] 69)) (.cells #[.int .i64 b1, .int .i64 b2] 69)
  go_enter Tryd.func64, Tryd.ntmps64
  go_upto_region 1 with fail
  generalize hW0 : (w.alloc (.cells #[.int .i64 a1, .int .i64 a2] 69)).alloc (.cells #[.int .i64 b1, .int .i64 b2] 69) = W0
  have hb0 : Below w.heap.size w W0 := by rw [← hW0]; exact hab
  have c0 : W0.cell? ⟨w.heap.size, 0, none⟩ = some (.int .i64 a1) := by rw [← hW0]; simp
  have c1 : W0.cell? ⟨w.heap.size, 1, none⟩ = some (.int .i64 a2) := by rw [← hW0]; simp
  have c2 : W0.cell? ⟨w.heap.size + 1, 0, none⟩ = some (.int .i64 b1) := by rw [← hW0]; simp
  have c3 : W0.cell? ⟨w.heap.size + 1, 1, none⟩ = some (.int .i64 b2) := by rw [← hW0]; simp
  clear hW0 hab hq
  have d0 := fun s' => later_cell c0 s'
  have d1 := fun s' => later_cell c1 s'
  have d2 := fun s' => later_cell c2 s'
  have d3 := fun s' => later_cell c3 s'
  have hA := fun s' => hea (later W0 s')
  have hB := fun s' => heb (later W0 s')
  have s1 : ((b1 : Int) + (b2 : Int)) = ((b1 + b2 : Nat) : Int) := by omega
  have s2 : ((a1 : Int) + (a2 : Int)) = ((a1 + a2 : Nat) : Int) := by omega
  generalize b1 + b2 = B at *
  generalize a1 + a2 = A at *
  clear s1 s2
  refine wp_region_mild (by kernel_rfl) (by kernel_rfl) ?_
  repeat (any_goals (first | go_big_quiet_step ((first | (exact mild_of (hB _)) | (exact mild_of (hA _)))) | quiet_step ((first | (exact mild_of (hB _)) | (exact mild_of (hA _)))) | (refine wpQuiet_step (fun K hK => ?_); go_simp; split <;> (refine hK _ ?_; clear hK K))))
  all_goals (refine wpQuiet_nil ?_; intro W hW)
  all_goals
    (go_wp2
     go_ret
     refine ⟨?_, below_trans hb0 hW⟩
     first
       | (rw [decide_eq_true (by omega : a1 < B)]; rfl)
       | (rw [decide_eq_false (by omega : ¬ a1 < B)]; rfl))

def goodChar (c : UInt8) : Bool := (decide (97 ≤ c.toNat) && decide (c.toNat ≤ 122)) || (decide (48 ≤ c.toNat) && decide (c.toNat ≤ 57))
def goodNameS (s : ByteArray) : Bool := s.toList.all goodChar && decide (1 ≤ s.size) && decide (s.size ≤ 8)

set_option maxRecDepth 100000 in
theorem sectors_any (w : World) (K : Nat → Prop) (D n : Nat) (safe cur : List UInt8) (off : Bool) (h : DiskAt w K D n safe cur off) : Calls Tryd.prog 28 #[.pointer (some ⟨D, 0, none⟩)] w (Gives w (.int .i64 n)) := by
  have hsize := size_any w K D n safe cur off h
  obtain ⟨-, -, hn1, hn2⟩ := h.lens
  have hd : (((32 * n : Nat) : Int)) / 32 = (n : Int) := by omega
  clear h
  generalize 32 * n = N at *
  go_enter Tryd.func28, Tryd.ntmps28
  go_wp2_with (first | (go_at_call 27; refine hsize.mono ?_; rintro e w1 ⟨rfl, hb1⟩) | fail)
  go_ret
  exact ⟨rfl, hb1⟩

end Go.Proofs.YtnpnchociegmpaaDoor
