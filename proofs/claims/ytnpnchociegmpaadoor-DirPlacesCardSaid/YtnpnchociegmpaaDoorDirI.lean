/- The directory: Format. -/
import Derived.Test.YtnpnchociegmpaaDoorDirH
namespace Go.Proofs.YtnpnchociegmpaaDoor
open Go.RowKit Go.Proofs Go.Shelf
attribute [local go_sem ↓] Go.wp_at_zero Go.wp_at_succ

/-- The disk's bytes behind Format. -/
def formS (cur : List UInt8) : List UInt8 := splice (splice cur 0 (listS 1 [])) 256 (listS 0 [])

/-- Three steps, each by itself. -/
theorem steps3 (b cap : Nat) (R0 R1 R2 R3 : World → Prop) (f0 f1 f2 : FuncId) (b0 b1 b2 l0 l1 l2 : Array Value)
    (hcell : ∀ W, R0 W ∨ R1 W ∨ R2 W → W.cell? ⟨b, 0, none⟩ = some (.func (.func f0) b0 l0) ∧ W.cell? ⟨b, 1, none⟩ = some (.func (.func f1) b1 l1) ∧ W.cell? ⟨b, 2, none⟩ = some (.func (.func f2) b2 l2))
    (e0 : Enters Tryd.prog f0) (e1 : Enters Tryd.prog f1) (e2 : Enters Tryd.prog f2)
    (h0 : ∀ W, R0 W → Calls Tryd.prog f0 (b0 ++ l0) W (fun e w' => e = .returned (.int .i64 0) ∧ R1 w')) (h1 : ∀ W, R1 W → Calls Tryd.prog f1 (b1 ++ l1) W (fun e w' => e = .returned (.int .i64 0) ∧ R2 w'))
    (h2 : ∀ W, R2 W → Calls Tryd.prog f2 (b2 ++ l2) W (fun e w' => e = .returned (.int .i64 0) ∧ R3 w')) (w : World) (hw : R0 w) :
    Calls Tryd.prog 33 #[.slice (some ⟨b, 0, none⟩) 3 cap] w (fun e w' => e = .returned (.int .i64 0) ∧ R3 w') := by
  refine steps_any b 0 cap (fun j => match j with | 0 => R0 | 1 => R1 | 2 => R2 | _ => R3) (fun j => match j with | 0 => f0 | 1 => f1 | _ => f2) (fun j => match j with | 0 => b0 | 1 => b1 | _ => b2) (fun j => match j with | 0 => l0 | 1 => l1 | _ => l2) ?_ ?_ ?_ w hw
  · intro j hj W hR
    match j, hj with
    | 0, _ => exact (hcell W (.inl hR)).1
    | 1, _ => exact (hcell W (.inr (.inl hR))).2.1
    | 2, _ => exact (hcell W (.inr (.inr hR))).2.2
  · intro j
    match j with
    | 0 => exact e0
    | 1 => exact e1
    | (k + 2) => exact e2
  · intro j hj W hR
    match j, hj with
    | 0, _ => exact h0 W hR
    | 1, _ => exact h1 W hR
    | 2, _ => exact h2 W hR

set_option maxRecDepth 100000 in
set_option maxHeartbeats 4000000 in
theorem format_any (w : World) (Kp : Nat → Prop) (D n : Nat) (safe cur : List UInt8) (h : DiskAt w Kp D n safe cur false) (hKp : ∀ k, Kp k → k < w.heap.size) (hK0 : Kp 0) (hN : Nib w) (hn : 24 ≤ n) (hf0 : Fits 0 []) (hf1 : Fits 1 []) :
    Calls Tryd.prog 8 #[.pointer (some ⟨D, 0, none⟩)] w (fun e w' => ∃ X, e = .returned (.tuple #[.pointer (some ⟨X, 0, none⟩), .int .i64 0]) ∧ DirAt w' Kp X D n (formS cur) (formS cur) false [] [] 1 0 ∧ Kept Kp w w') := by
  obtain ⟨sz, hsz⟩ : ∃ sz, sz = 32 * n := ⟨_, rfl⟩
  have hsize := fun W (hb : Below w.heap.size w W) => size_any W Kp D n safe cur false (h.below hb)
  have hsect := fun W (hb : Below w.heap.size w W) => sectors_any W Kp D n safe cur false (h.below hb)
  rw [← hsz] at hsize
  have n1 : ¬ (sz : Int) = 0 := by omega
  have n2 : ¬ (n : Int) < 24 := by omega
  have Hsz := Lib.hid hsz
  have Hd := Lib.hid h
  have hln := h.lens
  have hmm := @run_makeMap Tryd.prog
  clear h hsz
  go_enter Tryd.func8, Tryd.ntmps8
  go_upto_region 1 with fail
  generalize hB0 : (w.alloc (.cells #[.pointer (some ⟨D, 0, none⟩)] 23)) = W0
  have hb0 : Below w.heap.size w W0 := by rw [← hB0]; exact below_new _ _
  have c0 : W0.cell? ⟨w.heap.size, 0, none⟩ = some (.pointer (some ⟨D, 0, none⟩)) := by rw [← hB0]; simp
  have lp : w.heap.size < W0.heap.size := by rw [← hB0]; simp
  clear hB0
  go_upto_region 6 with (first
    | (go_at_call 27; refine (hsize _ hb0).mono ?_; rintro e w1 ⟨rfl, hb1'⟩; have hb1 := below_trans hb0 hb1'; have c1 := bcell hb1' c0)
    | (go_at_call 28; refine (hsect _ hb1).mono ?_; rintro e w2 ⟨rfl, hb2'⟩; have hb2 := below_trans hb1 hb2'; have c2 := bcell hb2' c1)
    | fail)
  have lp2 : w.heap.size < w2.heap.size := by have := hb1'.size; have := hb2'.size; omega
  clear hsize hsect
  refine wp_region_held_drew (S := (fun w' => w'.cell? ⟨w.heap.size, 0, none⟩ = some (.pointer (some ⟨D, 0, none⟩)))) (by kernel_rfl) (by exact c2) (fun hHeld => ?_)
  refine' takeL (v := _) 0 rfl (by kernel_rfl) (by kernel_rfl) (by kernel_rfl) (fun _ _ _ h => h) (by rfl) ?_ (by assumption) ?_; rotate_left 1; (focus (intro w hSw; (try dsimp only at hSw); go_simp; (try with_reducible rfl); done))
  (try simp only [Act.put, List.setIfInBounds_toArray, List.set_cons_zero, List.set_cons_succ])
  refine' takeL (v := _) 2 rfl (by kernel_rfl) (by kernel_rfl) (by kernel_rfl) (fun _ _ _ h => h) (by rfl) ?_ (by assumption) ?_; rotate_left 1; (focus (intro w hSw; (try dsimp only at hSw); go_simp; (try with_reducible rfl); done))
  (try simp only [Act.put, List.setIfInBounds_toArray, List.set_cons_zero, List.set_cons_succ])
  refine' takeL (v := _) 4 rfl (by kernel_rfl) (by kernel_rfl) (by kernel_rfl) (fun _ _ _ h => h) (by rfl) ?_ (by assumption) ?_; rotate_left 1; (focus (intro w hSw; (try dsimp only at hSw); go_simp; (try with_reducible rfl); done))
  (try simp only [Act.put, List.setIfInBounds_toArray, List.set_cons_zero, List.set_cons_succ])
  refine' takeL (v := _) 5 rfl (by kernel_rfl) (by kernel_rfl) (by kernel_rfl) (fun _ _ _ h => h) (by rfl) ?_ (by assumption) ?_; rotate_left 1; (focus (intro w hSw; (try dsimp only at hSw); go_simp; (try with_reducible rfl); done))
  (try simp only [Act.put, List.setIfInBounds_toArray, List.set_cons_zero, List.set_cons_succ])
  refine stepL 1 rfl (by kernel_rfl) (fun K hK => ?_)
  go_simp
  go_at_call 29
  refine (fmt1_any w2.drew w.heap.size lp2 0 1).mono ?_
  rintro e w3 ⟨x1, y1, rfl, lx1, ly1, cx1, cy1, hb3'⟩
  have hb3 : Below w2.heap.size w2 w3 := below_trans (Below.refl _ _).drew hb3'
  replace lx1 : w2.heap.size ≤ x1 := lx1
  replace ly1 : w2.heap.size ≤ y1 := ly1
  have c3 := bcell hb3 c2
  have lp3 : w.heap.size < w3.heap.size := by have := hb3.size; omega
  have mx1 := World.block_lt_of_cell? _ _ cx1
  have my1 := World.block_lt_of_cell? _ _ cy1
  refine hK.out _ _ (by exact c3) (fun hHeld => ?_)
  clear hK K
  (try simp only [Act.put, List.setIfInBounds_toArray, List.set_cons_zero, List.set_cons_succ])
  refine stepL 3 rfl (by kernel_rfl) (fun K hK => ?_)
  go_simp
  go_at_call 29
  refine (fmt1_any w3 w.heap.size lp3 1 0).mono ?_
  rintro e w4 ⟨x2, y2, rfl, lx2, ly2, cx2, cy2, hb4⟩
  have c4 := bcell hb4 c3
  have mx2 := World.block_lt_of_cell? _ _ cx2
  have my2 := World.block_lt_of_cell? _ _ cy2
  replace cx1 := bcell hb4 cx1
  replace cy1 := bcell hb4 cy1
  refine hK.out _ _ (by exact c4) (fun hHeld => ?_)
  clear hK K
  (try simp only [Act.put, List.setIfInBounds_toArray, List.set_cons_zero, List.set_cons_succ])
  refine stepL 6 rfl (by kernel_rfl) (fun K hK => ?_)
  go_simp
  generalize hB5 : World.alloc w4 _ = w5
  have hb5 : Below w4.heap.size w4 w5 := by rw [← hB5]; exact below_new _ _
  have cf0 : w5.cell? ⟨w4.heap.size, 0, none⟩ = some (.func (.func 30) #[] #[.pointer (some ⟨w.heap.size, 0, none⟩), .pointer (some ⟨x1, 0, none⟩), .pointer (some ⟨y1, 0, none⟩)]) := by rw [← hB5]; simp
  have cf1 : w5.cell? ⟨w4.heap.size, 1, none⟩ = some (.func (.func 30) #[] #[.pointer (some ⟨w.heap.size, 0, none⟩), .pointer (some ⟨x2, 0, none⟩), .pointer (some ⟨y2, 0, none⟩)]) := by rw [← hB5]; simp
  have cf2 : w5.cell? ⟨w4.heap.size, 2, none⟩ = some (.func (.func 34) #[.pointer (some ⟨D, 0, none⟩)] #[]) := by rw [← hB5]; simp
  have mf := World.block_lt_of_cell? _ _ cf0
  clear hB5
  have c5 := bcell hb5 c4
  replace cx1 := bcell hb5 cx1
  replace cy1 := bcell hb5 cy1
  replace cx2 := bcell hb5 cx2
  replace cy2 := bcell hb5 cy2
  have hb05 := below_trans hb2 (below_trans hb3 (below_trans hb4 hb5))
  have hd5 : DiskAt w5 (fun k => Kp k ∨ w.heap.size ≤ k ∧ k < w5.heap.size) D n safe cur false := (Hd.out.more (fun k hk h2 => by
    rcases h2 with h2 | h2
    · exact h2
    · omega)).below hb05
  have hs3 := hb3.size
  have hs4 := hb4.size
  have hs5 := hb5.size
  have hs2 := hb2.size
  dsimp only at mf mx1 my1 mx2 my2
  have kp5 : w.heap.size < w5.heap.size := by omega
  have kf : w.heap.size ≤ w4.heap.size := by omega
  have hK2 : ∀ k, (Kp k ∨ w.heap.size ≤ k ∧ k < w5.heap.size) → k < w5.heap.size := fun k hk => by
    rcases hk with hk | hk
    · have := hKp k hk; omega
    · exact hk.2
  have hN5 := hN.below hb05
  have hst := steps3 w4.heap.size 3
    (fun W => Kept (fun k => Kp k ∨ w.heap.size ≤ k ∧ k < w5.heap.size) w5 W ∧ DiskAt W (fun k => Kp k ∨ w.heap.size ≤ k ∧ k < w5.heap.size) D n safe cur false)
    (fun W => Kept (fun k => Kp k ∨ w.heap.size ≤ k ∧ k < w5.heap.size) w5 W ∧ DiskAt W (fun k => Kp k ∨ w.heap.size ≤ k ∧ k < w5.heap.size) D n safe (splice cur 0 (listS 1 [])) false)
    (fun W => Kept (fun k => Kp k ∨ w.heap.size ≤ k ∧ k < w5.heap.size) w5 W ∧ DiskAt W (fun k => Kp k ∨ w.heap.size ≤ k ∧ k < w5.heap.size) D n safe (formS cur) false)
    (fun W => Kept (fun k => Kp k ∨ w.heap.size ≤ k ∧ k < w5.heap.size) w5 W ∧ DiskAt W (fun k => Kp k ∨ w.heap.size ≤ k ∧ k < w5.heap.size) D n (formS cur) (formS cur) false)
    30 30 34 #[] #[] #[.pointer (some ⟨D, 0, none⟩)] #[.pointer (some ⟨w.heap.size, 0, none⟩), .pointer (some ⟨x1, 0, none⟩), .pointer (some ⟨y1, 0, none⟩)] #[.pointer (some ⟨w.heap.size, 0, none⟩), .pointer (some ⟨x2, 0, none⟩), .pointer (some ⟨y2, 0, none⟩)] #[]
    (fun W hR => by
      have hk : Kept (fun k => Kp k ∨ w.heap.size ≤ k ∧ k < w5.heap.size) w5 W := by rcases hR with hR | hR | hR <;> exact hR.1
      exact ⟨(hk.cell (.inr ⟨kf, mf⟩)).trans cf0, (hk.cell (.inr ⟨kf, mf⟩)).trans cf1, (hk.cell (.inr ⟨kf, mf⟩)).trans cf2⟩)
    (enters_of Tryd.func30 (by kernel_rfl) rfl) (enters_of Tryd.func30 (by kernel_rfl) rfl) (enters_of Tryd.func34 (by kernel_rfl) rfl)
    (fun W hR => by
      obtain ⟨hk, hd⟩ := hR
      have kp : (fun k => Kp k ∨ w.heap.size ≤ k ∧ k < w5.heap.size) w.heap.size := .inr ⟨Nat.le_refl _, by omega⟩
      have kx : (fun k => Kp k ∨ w.heap.size ≤ k ∧ k < w5.heap.size) x1 := .inr ⟨by omega, by omega⟩
      have ky : (fun k => Kp k ∨ w.heap.size ≤ k ∧ k < w5.heap.size) y1 := .inr ⟨by omega, by omega⟩
      refine (fmt2_any W _ D n safe cur hd (fun k hk2 => Nat.lt_of_lt_of_le (hK2 k hk2) hk.size) w.heap.size x1 y1 0 1 ((hk.cell kp).trans c5) ((hk.cell kx).trans cx1) ((hk.cell ky).trans cy1) kp kx ky (hN5.kept hk (.inl hK0)) (by omega) (by omega) (by omega) hf1).mono ?_
      rintro e w' ⟨rfl, hd', hk'⟩
      exact ⟨rfl, hk.trans hk', by simpa using hd'⟩)
    (fun W hR => by
      obtain ⟨hk, hd⟩ := hR
      have kp : (fun k => Kp k ∨ w.heap.size ≤ k ∧ k < w5.heap.size) w.heap.size := .inr ⟨Nat.le_refl _, by omega⟩
      have kx : (fun k => Kp k ∨ w.heap.size ≤ k ∧ k < w5.heap.size) x2 := .inr ⟨by omega, by omega⟩
      have ky : (fun k => Kp k ∨ w.heap.size ≤ k ∧ k < w5.heap.size) y2 := .inr ⟨by omega, by omega⟩
      refine (fmt2_any W _ D n safe _ hd (fun k hk2 => Nat.lt_of_lt_of_le (hK2 k hk2) hk.size) w.heap.size x2 y2 1 0 ((hk.cell kp).trans c5) ((hk.cell kx).trans cx2) ((hk.cell ky).trans cy2) kp kx ky (hN5.kept hk (.inl hK0)) (by omega) (by omega) (by omega) hf0).mono ?_
      rintro e w' ⟨rfl, hd', hk'⟩
      exact ⟨rfl, hk.trans hk', hd'⟩)
    (fun W hR => by
      obtain ⟨hk, hd⟩ := hR
      refine (sync_any W _ D n safe _ hd (fun k hk2 => Nat.lt_of_lt_of_le (hK2 k hk2) hk.size)).mono ?_
      rintro e w' ⟨rfl, hd', hk'⟩
      exact ⟨rfl, hk.trans hk', hd'⟩) w5 ⟨Kept.refl _ _, hd5⟩
  refine hK.out _ _ (by exact c5) (fun hHeld => ?_)
  clear hK K
  (try simp only [Act.put, List.setIfInBounds_toArray, List.set_cons_zero, List.set_cons_succ])
  refine stepL 7 rfl (by kernel_rfl) (fun K hK => ?_)
  go_simp
  go_at_call 33
  refine hst.mono ?_
  rintro e w8 ⟨rfl, hk8, hd8⟩
  have c8 := (hk8.cell (p := ⟨w.heap.size, 0, none⟩) (.inr ⟨Nat.le_refl _, kp5⟩)).trans c5
  refine hK.out _ _ (by exact c8) (fun hHeld => ?_)
  clear hK K
  (try simp only [Act.put, List.setIfInBounds_toArray, List.set_cons_zero, List.set_cons_succ])
  refine' takeL (v := _) 8 rfl (by kernel_rfl) (by kernel_rfl) (by kernel_rfl) (fun _ _ _ h => h) (by rfl) ?_ (by assumption) ?_; rotate_left 1; (focus (intro w hSw; (try dsimp only at hSw); go_simp; (try with_reducible rfl); done))
  (try simp only [Act.put, List.setIfInBounds_toArray, List.set_cons_zero, List.set_cons_succ])
  refine wpAnyH_done (by kernel_rfl) ?_ _
  clear hst
  go_wp2_with fail
  go_ret2
  generalize hB9 : World.alloc _ _ = w9
  have hX9 : w9.heap[w8.heap.size + 1 + 1]? = some (.cells #[.pointer (some ⟨D, 0, none⟩), .map (some w8.heap.size), .map (some (w8.heap.size + 1)), .int .i64 1, .int .i64 0] 55 (0, 0)) := by
    rw [← hB9]
    have := heap_alloc_new ((w8.alloc (.map #[] 0)).alloc (.map #[] 0)) (.cells #[.pointer (some ⟨D, 0, none⟩), .map (some w8.heap.size), .map (some (w8.heap.size + 1)), .int .i64 1, .int .i64 0] 55)
    simpa [World.size_alloc] using this
  have hb9 : Below w8.heap.size w8 w9 := by rw [← hB9]; exact below_alloc (below_alloc (below_new _ _) _) _
  have hm1 : MapA Value.string w9 w8.heap.size [] := by
    rw [← hB9]
    exact (MapA.made w8).below (below_alloc (below_new _ _) _)
  have hm2 : MapA Value.string w9 (w8.heap.size + 1) [] := by
    rw [← hB9]
    have := (MapA.made (enc := Value.string) (w8.alloc (.map #[] 0))).below (below_new _ (.cells #[.pointer (some ⟨D, 0, none⟩), .map (some w8.heap.size), .map (some (w8.heap.size + 1)), .int .i64 1, .int .i64 0] 55))
    simpa [World.size_alloc] using this
  have hs8 := hk8.size
  have hw8 : ∀ k, Kp k → k < w8.heap.size := fun k hk => by have := hKp k hk; omega
  refine ⟨w8.heap.size + 1 + 1, rfl, ⟨w8.heap.size, w8.heap.size + 1, hX9, ⟨hm1, by simp, by simp⟩, ⟨hm2, by simp, by simp⟩, (hd8.more (fun k hk h2 => ?_)).below hb9, ⟨fun h => ?_, fun h => ?_, fun h => ?_⟩, by omega⟩, (kept_of_below (hb05.trans (Below.refl _ _)) hKp).trans ((hk8.less (fun k hk => .inl hk)).trans (kept_of_below hb9 hw8))⟩
  · rcases h2 with h2 | h2 | h2 | h2
    · exact .inl h2
    all_goals omega
  · have := hw8 _ h; omega
  · have := hw8 _ h; omega
  · have := hw8 _ h; omega

end Go.Proofs.YtnpnchociegmpaaDoor
