/- The directory: steps, one behind the other. -/
import Derived.Test.YtnpnchociegmpaaDoorDirD
import Derived.Test.YtnpnchociegmpaaDoorRound
namespace Go.Proofs.YtnpnchociegmpaaDoor
open Go.RowKit Go.Proofs Go.Shelf
attribute [local go_sem ↓] Go.wp_at_zero Go.wp_at_succ

set_option maxRecDepth 100000 in
theorem steps_any (b o cap : Nat) (R : Nat → World → Prop) (g : Nat → FuncId) (ba lb : Nat → Array Value) (hcell : ∀ j, j < 3 → ∀ W, R j W → W.cell? ⟨b, o + j, none⟩ = some (.func (.func (g j)) (ba j) (lb j)))
    (eg : ∀ j args w, (callFunc (g j) args).run Tryd.prog w = .ok (.enter (g j) args) w) (hc : ∀ j, j < 3 → ∀ W, R j W → Calls Tryd.prog (g j) (ba j ++ lb j) W (fun e w' => e = .returned (.int .i64 0) ∧ R (j + 1) w')) (w : World) (h0 : R 0 w) :
    Calls Tryd.prog 33 #[.slice (some ⟨b, o, none⟩) 3 cap] w (fun e w' => e = .returned (.int .i64 0) ∧ R 3 w') := by
  have Hcell := Lib.hid hcell
  have Hc := Lib.hid hc
  have H0 := Lib.hid h0
  clear hcell hc h0
  go_enter Tryd.func33, Tryd.ntmps33
  go_wp2_with fail
  go_loopw [8] (fun x wr => ∃ k : Nat, k ≤ 3 ∧ x = .int .i64 k ∧ Hid (R k wr)) (fun x _ => 3 - (intOf x).toNat)
  case atStart => exact ⟨0, by omega, rfl, H0⟩
  case round =>
    obtain ⟨k, hk, rfl, hr⟩ := hrel
    by_cases hlt : k < 3
    · have n0 : (0 : Int) ≤ (k : Int) := by omega
      have n1 : (k : Int) < 3 := by omega
      have c0 := Hcell.out k hlt wr hr.out
      have hcall := Hc.out k hlt wr hr.out
      have egk := eg k
      clear eg
      generalize g k = gk at *
      generalize lb k = lk at *
      generalize ba k = bk at *
      go_wp2_with (refine hcall.mono ?_; rintro e w2 ⟨rfl, hr2⟩)
      go_roundw
      case rel => exact ⟨k + 1, hlt, by go_num, Lib.hid hr2⟩
      case measure => simp [intOf]; omega
    · have hke : k = 3 := by omega
      subst hke
      clear eg
      go_wp2_with fail
      go_ret
      exact ⟨rfl, hr.out⟩

end Go.Proofs.YtnpnchociegmpaaDoor
