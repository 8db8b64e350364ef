/- The directory: place. -/
import Derived.Test.YtnpnchociegmpaaDoorDirL
import Derived.WalkMore
import Derived.Deep.LoopGhost
namespace Go.Proofs.YtnpnchociegmpaaDoor
open Go.RowKit Go.Proofs Go.Shelf
attribute [local go_sem ↓] Go.wp_at_zero Go.wp_at_succ

theorem load_ext (w : World) (b o : Nat) (v0 v1 : Value) (h0 : w.cell? ⟨b, o, none⟩ = some v0) (h1 : w.cell? ⟨b, o + 1, none⟩ = some v1) : (loadVar 69 ⟨b, o, none⟩).run Tryd.prog w = .ok (.agg #[v0, v1]) w := by
  have ha : (isAgg 69).run Tryd.prog w = .ok true w := by kernel_rfl
  have hs : (sizeOf 69).run Tryd.prog w = .ok 2 w := by kernel_rfl
  simp [loadVar, ha, hs, loadCells, loadCellsFrom, Result.andThen, h0, h1, Addr.add]

theorem results_ext {fn : Func} {a u : Tmp} (h : fn.results = #[.cell a 69, .tmp u]) (tmps : Array Value) (w : World) (b o : Nat) (v0 v1 : Value) (ha : tmps.getD a undef = .pointer (some ⟨b, o, none⟩)) (h0 : w.cell? ⟨b, o, none⟩ = some v0) (h1 : w.cell? ⟨b, o + 1, none⟩ = some v1) :
    (results fn tmps).run Tryd.prog w = .ok (.tuple #[.agg #[v0, v1], tmps.getD u undef]) w := by
  have h2 := load_ext w b o v0 v1 h0 h1
  simp only [Array.getD_eq_getD_getElem?] at ha
  simp [results, h, ha, asAddr, h2, Result.andThen]

def tk (now saved : Files) (i : Nat) : Bool := takenS now saved (i, 1)
/-- Where place finds room. -/
def PlaceS (now saved : Files) (n : Nat) (c : Int) : Option Nat → Prop
  | some b => 16 ≤ b ∧ (b : Int) + c ≤ n ∧ (∀ i : Nat, b ≤ i → (i : Int) < b + c → tk now saved i = false) ∧ ∀ b' : Nat, 16 ≤ b' → b' < b → ∃ i : Nat, b' ≤ i ∧ (i : Int) < b' + c ∧ tk now saved i = true
  | none => ∀ b' : Nat, 16 ≤ b' → (b' : Int) + c ≤ n → ∃ i : Nat, b' ≤ i ∧ (i : Int) < b' + c ∧ tk now saved i = true

def placeV (r : Option Nat) (c : Int) : Value := match r with | some b => .agg #[.int .i64 b, .int .i64 c] | none => .agg #[.int .i64 0, .int .i64 0]
def PlaceOut (now saved : Files) (n : Nat) (c : Int) (w : World) (e : Ending) (w' : World) : Prop :=
  ∃ r, PlaceS now saved n c r ∧ e = .returned (.tuple #[placeV r c, .bool r.isSome]) ∧ Below w.heap.size w w'

set_option maxRecDepth 100000 in
set_option maxHeartbeats 4000000 in
theorem place_any (w : World) (K : Nat → Prop) (X D n : Nat) (safe cur : List UInt8) (off : Bool) (now saved : Files) (epoch which : Nat) (h : DirAt w K X D n safe cur off now saved epoch which) (c : Int) (hc : 1 ≤ c) (hc2 : c ≤ 9223372036854775807) (hn : 16 ≤ n) :
    Calls Tryd.prog 37 #[.pointer (some ⟨X, 0, none⟩), .int .i64 c] w (PlaceOut now saved n c w) := by
  have htk := fun (i : Nat) W (hb : Below w.heap.size w W) (hi : i ≤ 1000000) => taken_any W K X D n safe cur off now saved epoch which (h.below hb) (i, 1) (by dsimp only; omega) (by dsimp only; omega)
  have hsec : ∀ W, Below w.heap.size w W → Calls Tryd.prog 28 #[.pointer (some ⟨D, 0, none⟩)] W (Gives W (.int .i64 n)) := fun W hb => by
    obtain ⟨bn, bs, h⟩ := h
    exact sectors_any W _ D n safe cur off (h.disk.below hb)
  have hn2 : n ≤ 4096 := by
    obtain ⟨bn, bs, h⟩ := h
    exact h.disk.lens.2.2.2
  obtain ⟨bn, bs, h⟩ := h
  obtain ⟨c0, -, -, -, -, lX⟩ := h.cells
  have Htk := Lib.hid htk
  clear h htk
  go_enter Tryd.func37, Tryd.ntmps37
  go_upto_region 1 with fail
  generalize hB0 : World.alloc w _ = W0
  have hb0 : Below w.heap.size w W0 := by rw [← hB0]; exact below_new _ _
  have r0 : W0.heap[w.heap.size]? = some (.cells #[.int .i64 0, .int .i64 0] 69 (0, 0)) := by rw [← hB0]; exact heap_alloc_new _ _
  clear hB0
  replace c0 := bcell hb0 c0
  go_step3
  go_upto_region 2 with (first | (go_at_call 28; refine (hsec _ hb0).mono ?_; rintro e w1 ⟨rfl, hb1⟩) | fail)
  have hb01 := below_trans hb0 hb1
  have lp1 : w.heap.size < W0.heap.size := heap_lt r0
  go_wp2_with fail
  go_step3
  go_wp2_with fail
  have htk0 := Htk.out 0 w (Below.refl _ _) (by omega)
  clear htk0 hsec c0
  go_loopg [7, 8] n (fun g b _ wr => ∃ k : Nat, b = .int .i64 k ∧ 16 ≤ k ∧ k ≤ n ∧ n - k ≤ g ∧ Below w1.heap.size w1 wr ∧ Hid (∀ b' : Nat, 16 ≤ b' → b' < k → ∃ i : Nat, b' ≤ i ∧ (i : Int) < b' + c ∧ tk now saved i = true))
  case atStart => exact ⟨16, rfl, Nat.le_refl _, hn, by omega, Below.refl _ _, Lib.hid fun b' h1 h2 => by omega⟩
  case round =>
    obtain ⟨k, rfl, hk1, hk2, hkg, hb, hpast⟩ := hrel
    have hbw := below_trans hb01 hb
    have m0 : (k : Int) ≤ (n : Int) := by omega
    have e1 : IntKind.i64.wrap ((n : Int) - (k : Int)) = (n : Int) - (k : Int) := IntWalk.i64_in _ (by omega)
    have r1 : wr.heap[w.heap.size]? = some (.cells #[.int .i64 0, .int .i64 0] 69 (0, 0)) := ((hb1.trans (hb.mono hb1.size)).block _ lp1).trans r0
    have hfz := fun (i : Nat) => block_free r1 i
    have d0 : wr.cell? ⟨w.heap.size, 0, none⟩ = some (.int .i64 0) := by rw [block_cell r1]; rfl
    have d1 : wr.cell? ⟨w.heap.size, 1, none⟩ = some (.int .i64 0) := by rw [block_cell r1]; rfl
    by_cases hfit : c ≤ (n : Int) - (k : Int)
    · obtain ⟨en, hen⟩ : ∃ en : Nat, (en : Int) = k + c := ⟨(k + c).toNat, by omega⟩
      have e2 : IntKind.i64.wrap ((k : Int) + c) = (en : Int) := by rw [IntWalk.i64_in _ (by omega)]; omega
      have hke : k ≤ en := by omega
      have hen2 : en ≤ n := by omega
      have Hen := Lib.hid hen
      clear hen
      go_wp2_with fail
      obtain ⟨wo, hwo⟩ : ∃ wo : World, wo = wr := ⟨_, rfl⟩
      subst hwo
      obtain ⟨go, hgo⟩ : ∃ go : Nat, go = gk := ⟨_, rfl⟩
      subst hgo
      go_loopg [7, 8] n (fun g b i wr => ∃ j : Nat, b = .int .i64 k ∧ i = .int .i64 j ∧ k ≤ j ∧ j ≤ en ∧ en - j ≤ g ∧ Below wo.heap.size wo wr ∧ Hid (∀ i : Nat, k ≤ i → i < j → tk now saved i = false))
      case atStart => exact ⟨k, rfl, rfl, Nat.le_refl _, hke, by omega, Below.refl _ _, Lib.hid fun i h1 h2 => by omega⟩
      case round =>
        obtain ⟨j, rfl, rfl, hj1, hj2, hjg, hbi, hfree⟩ := hrel
        have hbow := below_trans hbw hbi
        by_cases hje : j < en
        · have hje2 : (j : Int) < (en : Int) := by omega
          have hcall := Htk.out j wr hbow (by omega)
          have e3 : IntKind.i64.wrap ((j : Int) + 1) = ((j + 1 : Nat) : Int) := by rw [IntWalk.i64_in _ (by omega)]; omega
          cases htj : tk now saved j with
          | false =>
            have htj2 := htj
            unfold tk at htj2
            rw [htj2] at hcall
            have Hfree : Hid (∀ i : Nat, k ≤ i → i < j + 1 → tk now saved i = false) := Lib.hid fun i h1 h2 => by
              by_cases h3 : i = j
              · subst h3; exact htj
              · exact hfree.out i h1 (by omega)
            clear htj htj2
            go_wp2_with (first | (go_at_call 47; refine hcall.mono ?_; rintro e w3 ⟨rfl, hb3⟩) | fail)
            go_roundg (gk - 1)
            case measure => omega
            case rel => exact ⟨j + 1, rfl, by go_num, by omega, by omega, by omega, below_trans hbi hb3, Hfree⟩
          | true =>
            have htj2 := htj
            unfold tk at htj2
            rw [htj2] at hcall
            have Hnext : Hid (∀ b' : Nat, 16 ≤ b' → b' < j + 1 → ∃ i : Nat, b' ≤ i ∧ (i : Int) < b' + c ∧ tk now saved i = true) := Lib.hid fun b' h1 h2 => by
              by_cases h3 : b' < k
              · exact hpast.out b' h1 h3
              · exact ⟨j, by omega, by have := Hen.out; omega, htj⟩
            clear htj htj2
            go_wp2_with (first | (go_at_call 47; refine hcall.mono ?_; rintro e w3 ⟨rfl, hb3⟩) | fail)
            go_roundg (go - 1)
            case measure => omega
            case rel => exact ⟨j + 1, by go_num, by omega, by omega, by omega, below_trans hb (below_trans hbi hb3), Hnext⟩
        · have hje2 : j = en := by omega
          subst hje2
          have r2 := (hbi.block _ (heap_lt r1)).trans r1
          have hfz2 := fun (i : Nat) => block_free r2 i
          replace d0 := bcell hbi d0
          replace d1 := bcell hbi d1
          have Hyes : Hid (PlaceS now saved n c (some k)) := Lib.hid ⟨hk1, by omega, fun i h1 h2 => hfree.out i h1 (by have := Hen.out; omega), hpast.out⟩
          go_wp2_with fail
          have r3 := block_set (block_set r2 0 (.int .i64 k)) 1 (.int .i64 c)
          refine bodyPost_ret (results_ext rfl _ _ w.heap.size 0 (.int .i64 k) (.int .i64 c) rfl (by rw [block_cell r3]; rfl) (by rw [block_cell r3]; rfl)) rfl ?_
          exact ⟨_, Hyes.out, rfl, (hbow.setCell (Nat.le_refl _) _).setCell (Nat.le_refl _) _⟩
    · have hlt : (n : Int) - (k : Int) < c := by omega
      have Hno : Hid (PlaceS now saved n c none) := Lib.hid (fun b' h1 h2 => hpast.out b' h1 (by omega))
      go_wp2_with fail
      have r3 := block_set (block_set r1 0 (.int .i64 0)) 1 (.int .i64 0)
      refine bodyPost_ret (results_ext rfl _ _ w.heap.size 0 (.int .i64 0) (.int .i64 0) rfl (by rw [block_cell r3]; rfl) (by rw [block_cell r3]; rfl)) rfl ?_
      exact ⟨_, Hno.out, rfl, (hbw.setCell (Nat.le_refl _) _).setCell (Nat.le_refl _) _⟩

end Go.Proofs.YtnpnchociegmpaaDoor
