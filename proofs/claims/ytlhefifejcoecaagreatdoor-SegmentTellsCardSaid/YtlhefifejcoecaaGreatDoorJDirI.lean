/- The directory: Format. -/
/- The directory: a copy of its files; Save. -/
/- The directory: Save. -/
import Derived.Test.YtlhefifejcoecaaGreatDoorJDirE
import Derived.Shelf.SlMaps.Clone
namespace Go.Proofs.YtlhefifejcoecaaGreatDoor
open Go.RowKit Go.Proofs Go.Shelf
attribute [local go_sem ↓] Go.wp_at_zero Go.wp_at_succ

/-- The disk's bytes behind Format. -/
def formS (cur : List UInt8) : List UInt8 := splice (splice cur 0 (listS 1 [])) 256 (listS 0 [])

/-- Three steps, each by itself. -/
theorem steps3 (b cap : Nat) (R0 R1 R2 R3 : World → Prop) (f0 f1 f2 : FuncId) (b0 b1 b2 l0 l1 l2 : Array Value)
    (hcell : ∀ W, R0 W ∨ R1 W ∨ R2 W → W.cell? ⟨b, 0, none⟩ = some (.func (.func f0) b0 l0) ∧ W.cell? ⟨b, 1, none⟩ = some (.func (.func f1) b1 l1) ∧ W.cell? ⟨b, 2, none⟩ = some (.func (.func f2) b2 l2))
    (e0 : Enters Tryz.prog f0) (e1 : Enters Tryz.prog f1) (e2 : Enters Tryz.prog f2)
    (h0 : ∀ W, R0 W → Calls Tryz.prog f0 (b0 ++ l0) W (fun e w' => e = .returned (.int .i64 0) ∧ R1 w')) (h1 : ∀ W, R1 W → Calls Tryz.prog f1 (b1 ++ l1) W (fun e w' => e = .returned (.int .i64 0) ∧ R2 w'))
    (h2 : ∀ W, R2 W → Calls Tryz.prog f2 (b2 ++ l2) W (fun e w' => e = .returned (.int .i64 0) ∧ R3 w')) (w : World) (hw : R0 w) :
    Calls Tryz.prog 84 #[.slice (some ⟨b, 0, none⟩) 3 cap] w (fun e w' => e = .returned (.int .i64 0) ∧ R3 w') := by
  refine steps_any b 0 cap (fun j => match j with | 0 => R0 | 1 => R1 | 2 => R2 | _ => R3) (fun j => match j with | 0 => f0 | 1 => f1 | _ => f2) (fun j => match j with | 0 => b0 | 1 => b1 | _ => b2) (fun j => match j with | 0 => l0 | 1 => l1 | _ => l2) ?_ ?_ ?_ w hw
  · intro j hj W hR
    match j, hj with
    | 0, _ => exact (hcell W (.inl hR)).1
    | 1, _ => exact (hcell W (.inr (.inl hR))).2.1
    | 2, _ => exact (hcell W (.inr (.inr hR))).2.2
  · intro j
    match j with
    | 0 => exact e0
    | 1 => exact e1
    | (k + 2) => exact e2
  · intro j hj W hR
    match j, hj with
    | 0, _ => exact h0 W hR
    | 1, _ => exact h1 W hR
    | 2, _ => exact h2 W hR

set_option maxRecDepth 100000 in
set_option maxHeartbeats 4000000 in
theorem format_any (w : World) (Kp : Nat → Prop) (D n : Nat) (safe cur : List UInt8) (h : DiskAt w Kp D n safe cur false) (hKp : ∀ k, Kp k → k < w.heap.size) (hK0 : Kp 2) (hN : Nib w) (hn : 24 ≤ n) (hf0 : Fits 0 []) (hf1 : Fits 1 []) :
    Calls Tryz.prog 50 #[.pointer (some ⟨D, 0, none⟩)] w (fun e w' => ∃ X, e = .returned (.tuple #[.pointer (some ⟨X, 0, none⟩), .int .i64 0]) ∧ DirAt w' Kp X D n (formS cur) (formS cur) false [] [] 1 0 ∧ Kept Kp w w') := by
  obtain ⟨sz, hsz⟩ : ∃ sz, sz = 32 * n := ⟨_, rfl⟩
  have hsize := fun W (hb : Below w.heap.size w W) => size_any W Kp D n safe cur false (h.below hb)
  have hsect := fun W (hb : Below w.heap.size w W) => sectors_any W Kp D n safe cur false (h.below hb)
  rw [← hsz] at hsize
  have n1 : ¬ (sz : Int) = 0 := by omega
  have n2 : ¬ (n : Int) < 24 := by omega
  have Hsz := Lib.hid hsz
  have Hd := Lib.hid h
  have hln := h.lens
  have hmm := @run_makeMap Tryz.prog
  clear h hsz
  go_enter Tryz.func50, Tryz.ntmps50
  go_upto_region 1 with fail
  generalize hB0 : (w.alloc (.cells #[.pointer (some ⟨D, 0, none⟩)] 33)) = W0
  have hb0 : Below w.heap.size w W0 := by rw [← hB0]; exact below_new _ _
  have c0 : W0.cell? ⟨w.heap.size, 0, none⟩ = some (.pointer (some ⟨D, 0, none⟩)) := by rw [← hB0]; simp
  have lp : w.heap.size < W0.heap.size := by rw [← hB0]; simp
  clear hB0
  go_upto_region 6 with (first
    | (go_at_call 51; refine (hsize _ hb0).mono ?_; rintro e w1 ⟨rfl, hb1'⟩; have hb1 := below_trans hb0 hb1'; have c1 := bcell hb1' c0)
    | (go_at_call 54; refine (hsect _ hb1).mono ?_; rintro e w2 ⟨rfl, hb2'⟩; have hb2 := below_trans hb1 hb2'; have c2 := bcell hb2' c1)
    | fail)
  have lp2 : w.heap.size < w2.heap.size := by have := hb1'.size; have := hb2'.size; omega
  clear hsize hsect
  refine wp_region_held_drew (S := (fun w' => w'.cell? ⟨w.heap.size, 0, none⟩ = some (.pointer (some ⟨D, 0, none⟩)))) (by kernel_rfl) (by exact c2) (fun hHeld => ?_)
  refine' takeL (v := _) 0 rfl (by kernel_rfl) (by kernel_rfl) (by kernel_rfl) (fun _ _ _ h => h) (by rfl) ?_ (by assumption) ?_; rotate_left 1; (focus (intro w hSw; (try dsimp only at hSw); go_simp; (try with_reducible rfl); done))
  (try simp only [Act.put, List.setIfInBounds_toArray, List.set_cons_zero, List.set_cons_succ])
  refine' takeL (v := _) 2 rfl (by kernel_rfl) (by kernel_rfl) (by kernel_rfl) (fun _ _ _ h => h) (by rfl) ?_ (by assumption) ?_; rotate_left 1; (focus (intro w hSw; (try dsimp only at hSw); go_simp; (try with_reducible rfl); done))
  (try simp only [Act.put, List.setIfInBounds_toArray, List.set_cons_zero, List.set_cons_succ])
  refine' takeL (v := _) 4 rfl (by kernel_rfl) (by kernel_rfl) (by kernel_rfl) (fun _ _ _ h => h) (by rfl) ?_ (by assumption) ?_; rotate_left 1; (focus (intro w hSw; (try dsimp only at hSw); go_simp; (try with_reducible rfl); done))
  (try simp only [Act.put, List.setIfInBounds_toArray, List.set_cons_zero, List.set_cons_succ])
  refine' takeL (v := _) 5 rfl (by kernel_rfl) (by kernel_rfl) (by kernel_rfl) (fun _ _ _ h => h) (by rfl) ?_ (by assumption) ?_; rotate_left 1; (focus (intro w hSw; (try dsimp only at hSw); go_simp; (try with_reducible rfl); done))
  (try simp only [Act.put, List.setIfInBounds_toArray, List.set_cons_zero, List.set_cons_succ])
  refine stepL 1 rfl (by kernel_rfl) (fun K hK => ?_)
  go_simp
  go_at_call 88
  refine (fmt1_any w2.drew w.heap.size lp2 0 1).mono ?_
  rintro e w3 ⟨x1, y1, rfl, lx1, ly1, cx1, cy1, hb3'⟩
  have hb3 : Below w2.heap.size w2 w3 := below_trans (Below.refl _ _).drew hb3'
  replace lx1 : w2.heap.size ≤ x1 := lx1
  replace ly1 : w2.heap.size ≤ y1 := ly1
  have c3 := bcell hb3 c2
  have lp3 : w.heap.size < w3.heap.size := by have := hb3.size; omega
  have mx1 := World.block_lt_of_cell? _ _ cx1
  have my1 := World.block_lt_of_cell? _ _ cy1
  refine hK.out _ _ (by exact c3) (fun hHeld => ?_)
  clear hK K
  (try simp only [Act.put, List.setIfInBounds_toArray, List.set_cons_zero, List.set_cons_succ])
  refine stepL 3 rfl (by kernel_rfl) (fun K hK => ?_)
  go_simp
  go_at_call 88
  refine (fmt1_any w3 w.heap.size lp3 1 0).mono ?_
  rintro e w4 ⟨x2, y2, rfl, lx2, ly2, cx2, cy2, hb4⟩
  have c4 := bcell hb4 c3
  have mx2 := World.block_lt_of_cell? _ _ cx2
  have my2 := World.block_lt_of_cell? _ _ cy2
  replace cx1 := bcell hb4 cx1
  replace cy1 := bcell hb4 cy1
  refine hK.out _ _ (by exact c4) (fun hHeld => ?_)
  clear hK K
  (try simp only [Act.put, List.setIfInBounds_toArray, List.set_cons_zero, List.set_cons_succ])
  refine stepL 6 rfl (by kernel_rfl) (fun K hK => ?_)
  go_simp
  generalize hB5 : World.alloc w4 _ = w5
  have hb5 : Below w4.heap.size w4 w5 := by rw [← hB5]; exact below_new _ _
  have cf0 : w5.cell? ⟨w4.heap.size, 0, none⟩ = some (.func (.func 89) #[] #[.pointer (some ⟨w.heap.size, 0, none⟩), .pointer (some ⟨x1, 0, none⟩), .pointer (some ⟨y1, 0, none⟩)]) := by rw [← hB5]; simp
  have cf1 : w5.cell? ⟨w4.heap.size, 1, none⟩ = some (.func (.func 89) #[] #[.pointer (some ⟨w.heap.size, 0, none⟩), .pointer (some ⟨x2, 0, none⟩), .pointer (some ⟨y2, 0, none⟩)]) := by rw [← hB5]; simp
  have cf2 : w5.cell? ⟨w4.heap.size, 2, none⟩ = some (.func (.func 74) #[.pointer (some ⟨D, 0, none⟩)] #[]) := by rw [← hB5]; simp
  have mf := World.block_lt_of_cell? _ _ cf0
  clear hB5
  have c5 := bcell hb5 c4
  replace cx1 := bcell hb5 cx1
  replace cy1 := bcell hb5 cy1
  replace cx2 := bcell hb5 cx2
  replace cy2 := bcell hb5 cy2
  have hb05 := below_trans hb2 (below_trans hb3 (below_trans hb4 hb5))
  have hd5 : DiskAt w5 (fun k => Kp k ∨ w.heap.size ≤ k ∧ k < w5.heap.size) D n safe cur false := (Hd.out.more (fun k hk h2 => by
    rcases h2 with h2 | h2
    · exact h2
    · omega)).below hb05
  have hs3 := hb3.size
  have hs4 := hb4.size
  have hs5 := hb5.size
  have hs2 := hb2.size
  dsimp only at mf mx1 my1 mx2 my2
  have kp5 : w.heap.size < w5.heap.size := by omega
  have kf : w.heap.size ≤ w4.heap.size := by omega
  have hK2 : ∀ k, (Kp k ∨ w.heap.size ≤ k ∧ k < w5.heap.size) → k < w5.heap.size := fun k hk => by
    rcases hk with hk | hk
    · have := hKp k hk; omega
    · exact hk.2
  have hN5 := hN.below hb05
  have hst := steps3 w4.heap.size 3
    (fun W => Kept (fun k => Kp k ∨ w.heap.size ≤ k ∧ k < w5.heap.size) w5 W ∧ DiskAt W (fun k => Kp k ∨ w.heap.size ≤ k ∧ k < w5.heap.size) D n safe cur false)
    (fun W => Kept (fun k => Kp k ∨ w.heap.size ≤ k ∧ k < w5.heap.size) w5 W ∧ DiskAt W (fun k => Kp k ∨ w.heap.size ≤ k ∧ k < w5.heap.size) D n safe (splice cur 0 (listS 1 [])) false)
    (fun W => Kept (fun k => Kp k ∨ w.heap.size ≤ k ∧ k < w5.heap.size) w5 W ∧ DiskAt W (fun k => Kp k ∨ w.heap.size ≤ k ∧ k < w5.heap.size) D n safe (formS cur) false)
    (fun W => Kept (fun k => Kp k ∨ w.heap.size ≤ k ∧ k < w5.heap.size) w5 W ∧ DiskAt W (fun k => Kp k ∨ w.heap.size ≤ k ∧ k < w5.heap.size) D n (formS cur) (formS cur) false)
    89 89 74 #[] #[] #[.pointer (some ⟨D, 0, none⟩)] #[.pointer (some ⟨w.heap.size, 0, none⟩), .pointer (some ⟨x1, 0, none⟩), .pointer (some ⟨y1, 0, none⟩)] #[.pointer (some ⟨w.heap.size, 0, none⟩), .pointer (some ⟨x2, 0, none⟩), .pointer (some ⟨y2, 0, none⟩)] #[]
    (fun W hR => by
      have hk : Kept (fun k => Kp k ∨ w.heap.size ≤ k ∧ k < w5.heap.size) w5 W := by rcases hR with hR | hR | hR <;> exact hR.1
      exact ⟨(hk.cell (.inr ⟨kf, mf⟩)).trans cf0, (hk.cell (.inr ⟨kf, mf⟩)).trans cf1, (hk.cell (.inr ⟨kf, mf⟩)).trans cf2⟩)
    (enters_of Tryz.func89 (by kernel_rfl) rfl) (enters_of Tryz.func89 (by kernel_rfl) rfl) (enters_of Tryz.func74 (by kernel_rfl) rfl)
    (fun W hR => by
      obtain ⟨hk, hd⟩ := hR
      have kp : (fun k => Kp k ∨ w.heap.size ≤ k ∧ k < w5.heap.size) w.heap.size := .inr ⟨Nat.le_refl _, by omega⟩
      have kx : (fun k => Kp k ∨ w.heap.size ≤ k ∧ k < w5.heap.size) x1 := .inr ⟨by omega, by omega⟩
      have ky : (fun k => Kp k ∨ w.heap.size ≤ k ∧ k < w5.heap.size) y1 := .inr ⟨by omega, by omega⟩
      refine (fmt2_any W _ D n safe cur hd (fun k hk2 => Nat.lt_of_lt_of_le (hK2 k hk2) hk.size) w.heap.size x1 y1 0 1 ((hk.cell kp).trans c5) ((hk.cell kx).trans cx1) ((hk.cell ky).trans cy1) kp kx ky (hN5.kept hk (.inl hK0)) (by omega) (by omega) (by omega) hf1).mono ?_
      rintro e w' ⟨rfl, hd', hk'⟩
      exact ⟨rfl, hk.trans hk', by simpa using hd'⟩)
    (fun W hR => by
      obtain ⟨hk, hd⟩ := hR
      have kp : (fun k => Kp k ∨ w.heap.size ≤ k ∧ k < w5.heap.size) w.heap.size := .inr ⟨Nat.le_refl _, by omega⟩
      have kx : (fun k => Kp k ∨ w.heap.size ≤ k ∧ k < w5.heap.size) x2 := .inr ⟨by omega, by omega⟩
      have ky : (fun k => Kp k ∨ w.heap.size ≤ k ∧ k < w5.heap.size) y2 := .inr ⟨by omega, by omega⟩
      refine (fmt2_any W _ D n safe _ hd (fun k hk2 => Nat.lt_of_lt_of_le (hK2 k hk2) hk.size) w.heap.size x2 y2 1 0 ((hk.cell kp).trans c5) ((hk.cell kx).trans cx2) ((hk.cell ky).trans cy2) kp kx ky (hN5.kept hk (.inl hK0)) (by omega) (by omega) (by omega) hf0).mono ?_
      rintro e w' ⟨rfl, hd', hk'⟩
      exact ⟨rfl, hk.trans hk', hd'⟩)
    (fun W hR => by
      obtain ⟨hk, hd⟩ := hR
      refine (sync_any W _ D n safe _ hd (fun k hk2 => Nat.lt_of_lt_of_le (hK2 k hk2) hk.size)).mono ?_
      rintro e w' ⟨rfl, hd', hk'⟩
      exact ⟨rfl, hk.trans hk', hd'⟩) w5 ⟨Kept.refl _ _, hd5⟩
  refine hK.out _ _ (by exact c5) (fun hHeld => ?_)
  clear hK K
  (try simp only [Act.put, List.setIfInBounds_toArray, List.set_cons_zero, List.set_cons_succ])
  refine stepL 7 rfl (by kernel_rfl) (fun K hK => ?_)
  go_simp
  go_at_call 84
  refine hst.mono ?_
  rintro e w8 ⟨rfl, hk8, hd8⟩
  have c8 := (hk8.cell (p := ⟨w.heap.size, 0, none⟩) (.inr ⟨Nat.le_refl _, kp5⟩)).trans c5
  refine hK.out _ _ (by exact c8) (fun hHeld => ?_)
  clear hK K
  (try simp only [Act.put, List.setIfInBounds_toArray, List.set_cons_zero, List.set_cons_succ])
  refine' takeL (v := _) 8 rfl (by kernel_rfl) (by kernel_rfl) (by kernel_rfl) (fun _ _ _ h => h) (by rfl) ?_ (by assumption) ?_; rotate_left 1; (focus (intro w hSw; (try dsimp only at hSw); go_simp; (try with_reducible rfl); done))
  (try simp only [Act.put, List.setIfInBounds_toArray, List.set_cons_zero, List.set_cons_succ])
  refine wpAnyH_done (by kernel_rfl) ?_ _
  clear hst
  go_wp2_with fail
  go_ret2
  generalize hB9 : World.alloc _ _ = w9
  have hX9 : w9.heap[w8.heap.size + 1 + 1]? = some (.cells #[.pointer (some ⟨D, 0, none⟩), .map (some w8.heap.size), .map (some (w8.heap.size + 1)), .int .i64 1, .int .i64 0] 37 (0, 0)) := by
    rw [← hB9]
    have := heap_alloc_new ((w8.alloc (.map #[] 0)).alloc (.map #[] 0)) (.cells #[.pointer (some ⟨D, 0, none⟩), .map (some w8.heap.size), .map (some (w8.heap.size + 1)), .int .i64 1, .int .i64 0] 37)
    simpa [World.size_alloc] using this
  have hb9 : Below w8.heap.size w8 w9 := by rw [← hB9]; exact below_alloc (below_alloc (below_new _ _) _) _
  have hm1 : MapA Value.string w9 w8.heap.size [] := by
    rw [← hB9]
    exact (MapA.made w8).below (below_alloc (below_new _ _) _)
  have hm2 : MapA Value.string w9 (w8.heap.size + 1) [] := by
    rw [← hB9]
    have := (MapA.made (enc := Value.string) (w8.alloc (.map #[] 0))).below (below_new _ (.cells #[.pointer (some ⟨D, 0, none⟩), .map (some w8.heap.size), .map (some (w8.heap.size + 1)), .int .i64 1, .int .i64 0] 37))
    simpa [World.size_alloc] using this
  have hs8 := hk8.size
  have hw8 : ∀ k, Kp k → k < w8.heap.size := fun k hk => by have := hKp k hk; omega
  refine ⟨w8.heap.size + 1 + 1, rfl, ⟨w8.heap.size, w8.heap.size + 1, hX9, ⟨hm1, by simp, by simp⟩, ⟨hm2, by simp, by simp⟩, (hd8.more (fun k hk h2 => ?_)).below hb9, ⟨fun h => ?_, fun h => ?_, fun h => ?_⟩, by omega⟩, (kept_of_below (hb05.trans (Below.refl _ _)) hKp).trans ((hk8.less (fun k hk => .inl hk)).trans (kept_of_below hb9 hw8))⟩
  · rcases h2 with h2 | h2 | h2 | h2
    · exact .inl h2
    all_goals omega
  · have := hw8 _ h; omega
  · have := hw8 _ h; omega
  · have := hw8 _ h; omega

end Go.Proofs.YtlhefifejcoecaaGreatDoor

namespace Go.Proofs.YtlhefifejcoecaaGreatDoor
open Go.RowKit Go.Proofs Go.Shelf
attribute [local go_sem ↓] Go.wp_at_zero Go.wp_at_succ

set_option maxRecDepth 100000 in
set_option maxHeartbeats 2000000 in
/-- maps.Clone: a new block with the old entries. -/
theorem clone_any (b : Nat) (es : Array MapEntry) (clock : Nat) (w : World) (hb : w.heap[b]? = some (.map es clock)) :
    Calls Tryz.prog 55 #[.map (some b)] w fun e w' => e = .returned (.map (some w.heap.size)) ∧ w' = w.alloc (.map es clock) := by
  have hq := fun w => run_eql_map_nil_sl (P := Tryz.prog) w 35 _ _ (some b) Tryz.underlying35
  go_enter Tryz.func55, Tryz.ntmps55
  go_wp2
  rw [run_callFunc_extern Tryz.func98 (by kernel_rfl) (by kernel_rfl) (by kernel_rfl) (e := Extern.MapsClone.clone) (by kernel_rfl), run_maps_clone_sl w 35 hb]
  simp only [Result.andThen]
  rw [Oper.upon_value]
  go_wp2
  rw [run_typeAssert_map_sl _ 35 _ _ _ _ Tryz.underlying35]
  simp only [Result.andThen]
  rw [Oper.upon_value]
  go_wp2
  go_ret
  exact ⟨rfl, rfl⟩

theorem FilesAt.clone {w : World} {b : Nat} {m : Files} (h : FilesAt w b m) : ∃ es clock, w.heap[b]? = some (.map es clock) ∧ FilesAt (w.alloc (.map es clock)) w.heap.size m := by
  obtain ⟨⟨es, clock, hb, hr⟩, h2, h3⟩ := h
  exact ⟨es, clock, hb, ⟨es, clock, heap_alloc_new _ _, hr⟩, h2, h3⟩

set_option maxRecDepth 100000 in
/-- Save's list. -/
theorem save1_any (w : World) (K : Nat → Prop) (D n : Nat) (safe cur : List UInt8) (h : DiskAt w K D n safe cur false) (hK : ∀ k, K k → k < w.heap.size) (p q X bn o epoch : Nat) (now : Files) (cp : w.cell? ⟨p, 0, none⟩ = some (.pointer (some ⟨X, 0, none⟩)))
    (cq : w.cell? ⟨q, 0, none⟩ = some (.int .i64 o)) (c0 : w.cell? ⟨X, 0, none⟩ = some (.pointer (some ⟨D, 0, none⟩))) (c1 : w.cell? ⟨X, 1, none⟩ = some (.map (some bn))) (c3 : w.cell? ⟨X, 3, none⟩ = some (.int .i64 epoch)) (hf : FilesAt w bn now)
    (kp : K p) (kq : K q) (kX : K X) (hN : Nib w) (ho : o ≤ 1) (hn : 16 ≤ n) (he : epoch ≤ 1000000000000) (hfit : Fits (epoch + 1) now) :
    Calls Tryz.prog 82 #[.pointer (some ⟨p, 0, none⟩), .pointer (some ⟨q, 0, none⟩)] w (fun e w' => e = .returned (.int .i64 0) ∧ DiskAt w' K D n safe (splice cur (256 * o) (listS (epoch + 1) now)) false ∧ Kept K w w') := by
  obtain ⟨ep, hep⟩ : ∃ ep, ep = epoch + 1 := ⟨_, rfl⟩
  rw [← hep] at hfit ⊢
  have hlist := bytesof_any ep bn now w.drew (hf.below (Below.refl _ _).drew) (hN.below (Below.refl _ _).drew) (by omega) hfit.2.2 hfit.1 hfit.2.1
  obtain ⟨pa, hpa⟩ : ∃ pa, pa = 256 * o := ⟨_, rfl⟩
  have hput := fun W v (hb : Below w.heap.size w W) (hv : OwnB W w.heap.size v (listS ep now)) => put_any w W K D n safe cur h hb hK pa v (listS ep now) hv (by rw [listS_len hfit]; omega) (by rw [listS_len hfit]; omega)
  have lp := World.block_lt_of_cell? _ _ cp
  have lq := World.block_lt_of_cell? _ _ cq
  have lX := World.block_lt_of_cell? _ _ c0
  have e1 : IntKind.i64.wrap ((o : Int) * 256) = (pa : Int) := by rw [IntWalk.i64_in _ (by omega)]; omega
  have e2 : IntKind.i64.wrap ((epoch : Int) + 1) = (ep : Int) := by rw [IntWalk.i64_in _ (by omega)]; omega
  rw [← hpa]
  have Hpa := Lib.hid hpa
  have Hep := Lib.hid hep
  clear h hpa hep hf
  go_enter Tryz.func82, Tryz.ntmps82
  go_upto_region 1 with fail
  refine wp_region_held_drew (S := (fun w' => w'.cell? ⟨p, 0, none⟩ = some (.pointer (some ⟨X, 0, none⟩)) ∧ w'.cell? ⟨q, 0, none⟩ = some (.int .i64 o) ∧ w'.cell? ⟨X, 0, none⟩ = some (.pointer (some ⟨D, 0, none⟩)) ∧ w'.cell? ⟨X, 1, none⟩ = some (.map (some bn)) ∧ w'.cell? ⟨X, 3, none⟩ = some (.int .i64 epoch))) (by kernel_rfl) (by exact ⟨cp, cq, c0, c1, c3⟩) (fun hHeld => ?_)
  refine' takeL (v := _) 0 rfl (by kernel_rfl) (by kernel_rfl) (by kernel_rfl) (fun _ _ _ h => h) (by rfl) ?_ (by assumption) ?_; rotate_left 1; (focus (intro w hSw; (try dsimp only at hSw); go_simp; (try with_reducible rfl); done))
  (try simp only [Act.put, List.setIfInBounds_toArray, List.set_cons_zero, List.set_cons_succ])
  refine' takeL (v := _) 1 rfl (by kernel_rfl) (by kernel_rfl) (by kernel_rfl) (fun _ _ _ h => h) (by rfl) ?_ (by assumption) ?_; rotate_left 1; (focus (intro w hSw; (try dsimp only at hSw); go_simp; (try with_reducible rfl); done))
  (try simp only [Act.put, List.setIfInBounds_toArray, List.set_cons_zero, List.set_cons_succ])
  refine' takeL (v := _) 2 rfl (by kernel_rfl) (by kernel_rfl) (by kernel_rfl) (fun _ _ _ h => h) (by rfl) ?_ (by assumption) ?_; rotate_left 1; (focus (intro w hSw; (try dsimp only at hSw); go_simp; (try with_reducible rfl); done))
  (try simp only [Act.put, List.setIfInBounds_toArray, List.set_cons_zero, List.set_cons_succ])
  refine' takeL (v := _) 3 rfl (by kernel_rfl) (by kernel_rfl) (by kernel_rfl) (fun _ _ _ h => h) (by rfl) ?_ (by assumption) ?_; rotate_left 1; (focus (intro w hSw; (try dsimp only at hSw); go_simp; (try with_reducible rfl); done))
  (try simp only [Act.put, List.setIfInBounds_toArray, List.set_cons_zero, List.set_cons_succ])
  refine' takeL (v := _) 4 rfl (by kernel_rfl) (by kernel_rfl) (by kernel_rfl) (fun _ _ _ h => h) (by rfl) ?_ (by assumption) ?_; rotate_left 1; (focus (intro w hSw; (try dsimp only at hSw); go_simp; (try with_reducible rfl); done))
  (try simp only [Act.put, List.setIfInBounds_toArray, List.set_cons_zero, List.set_cons_succ])
  refine' takeL (v := _) 5 rfl (by kernel_rfl) (by kernel_rfl) (by kernel_rfl) (fun _ _ _ h => h) (by rfl) ?_ (by assumption) ?_; rotate_left 1; (focus (intro w hSw; (try dsimp only at hSw); go_simp; (try with_reducible rfl); done))
  (try simp only [Act.put, List.setIfInBounds_toArray, List.set_cons_zero, List.set_cons_succ])
  refine' takeL (v := _) 6 rfl (by kernel_rfl) (by kernel_rfl) (by kernel_rfl) (fun _ _ _ h => h) (by rfl) ?_ (by assumption) ?_; rotate_left 1; (focus (intro w hSw; (try dsimp only at hSw); go_simp; (try with_reducible rfl); done))
  (try simp only [Act.put, List.setIfInBounds_toArray, List.set_cons_zero, List.set_cons_succ])
  refine' takeL (v := _) 7 rfl (by kernel_rfl) (by kernel_rfl) (by kernel_rfl) (fun _ _ _ h => h) (by rfl) ?_ (by assumption) ?_; rotate_left 1; (focus (intro w hSw; (try dsimp only at hSw); go_simp; (try with_reducible rfl); done))
  (try simp only [Act.put, List.setIfInBounds_toArray, List.set_cons_zero, List.set_cons_succ])
  refine' takeL (v := _) 8 rfl (by kernel_rfl) (by kernel_rfl) (by kernel_rfl) (fun _ _ _ h => h) (by rfl) ?_ (by assumption) ?_; rotate_left 1; (focus (intro w hSw; (try dsimp only at hSw); go_simp; (try with_reducible rfl); done))
  (try simp only [Act.put, List.setIfInBounds_toArray, List.set_cons_zero, List.set_cons_succ])
  refine' takeL (v := _) 9 rfl (by kernel_rfl) (by kernel_rfl) (by kernel_rfl) (fun _ _ _ h => h) (by rfl) ?_ (by assumption) ?_; rotate_left 1; (focus (intro w hSw; (try dsimp only at hSw); go_simp; (try with_reducible rfl); done))
  (try simp only [Act.put, List.setIfInBounds_toArray, List.set_cons_zero, List.set_cons_succ])
  refine' takeL (v := _) 10 rfl (by kernel_rfl) (by kernel_rfl) (by kernel_rfl) (fun _ _ _ h => h) (by rfl) ?_ (by assumption) ?_; rotate_left 1; (focus (intro w hSw; (try dsimp only at hSw); go_simp; (try with_reducible rfl); done))
  (try simp only [Act.put, List.setIfInBounds_toArray, List.set_cons_zero, List.set_cons_succ])
  refine' takeL (v := _) 11 rfl (by kernel_rfl) (by kernel_rfl) (by kernel_rfl) (fun _ _ _ h => h) (by rfl) ?_ (by assumption) ?_; rotate_left 1; (focus (intro w hSw; (try dsimp only at hSw); go_simp; (try with_reducible rfl); done))
  (try simp only [Act.put, List.setIfInBounds_toArray, List.set_cons_zero, List.set_cons_succ])
  refine' takeL (v := _) 12 rfl (by kernel_rfl) (by kernel_rfl) (by kernel_rfl) (fun _ _ _ h => h) (by rfl) ?_ (by assumption) ?_; rotate_left 1; (focus (intro w hSw; (try dsimp only at hSw); go_simp; (try with_reducible rfl); done))
  (try simp only [Act.put, List.setIfInBounds_toArray, List.set_cons_zero, List.set_cons_succ])
  refine' takeL (v := _) 13 rfl (by kernel_rfl) (by kernel_rfl) (by kernel_rfl) (fun _ _ _ h => h) (by rfl) ?_ (by assumption) ?_; rotate_left 1; (focus (intro w hSw; (try dsimp only at hSw); go_simp; (try with_reducible rfl); done))
  (try simp only [Act.put, List.setIfInBounds_toArray, List.set_cons_zero, List.set_cons_succ])
  refine' takeL (v := _) 14 rfl (by kernel_rfl) (by kernel_rfl) (by kernel_rfl) (fun _ _ _ h => h) (by rfl) ?_ (by assumption) ?_; rotate_left 1; (focus (intro w hSw; (try dsimp only at hSw); go_simp; (try with_reducible rfl); done))
  (try simp only [Act.put, List.setIfInBounds_toArray, List.set_cons_zero, List.set_cons_succ])
  refine stepL 15 rfl (by kernel_rfl) (fun K hK => ?_)
  go_simp
  go_at_call 83
  refine hlist.mono ?_
  rintro e w1 ⟨v, rfl, hown, hb1'⟩
  have hb1 : Below w.heap.size w w1 := below_trans (Below.refl _ _).drew hb1'
  refine hK.out _ _ (by exact ⟨bcell hb1 cp, bcell hb1 cq, bcell hb1 c0, bcell hb1 c1, bcell hb1 c3⟩) (fun hHeld => ?_)
  clear hK K
  (try simp only [Act.put, List.setIfInBounds_toArray, List.set_cons_zero, List.set_cons_succ])
  refine stepL 16 rfl (by kernel_rfl) (fun K hK => ?_)
  go_simp
  go_at_call 73
  refine (hput w1 v hb1 hown).mono ?_
  rintro e w2 ⟨rfl, hd, hk⟩
  refine hK.out _ _ (by exact ⟨(hk.cell kp).trans (bcell hb1 cp), (hk.cell kq).trans (bcell hb1 cq), (hk.cell kX).trans (bcell hb1 c0), (hk.cell kX).trans (bcell hb1 c1), (hk.cell kX).trans (bcell hb1 c3)⟩) (fun hHeld => ?_)
  clear hK K
  (try simp only [Act.put, List.setIfInBounds_toArray, List.set_cons_zero, List.set_cons_succ])
  refine' takeL (v := _) 17 rfl (by kernel_rfl) (by kernel_rfl) (by kernel_rfl) (fun _ _ _ h => h) (by rfl) ?_ (by assumption) ?_; rotate_left 1; (focus (intro w hSw; (try dsimp only at hSw); go_simp; (try with_reducible rfl); done))
  (try simp only [Act.put, List.setIfInBounds_toArray, List.set_cons_zero, List.set_cons_succ])
  refine wpAnyH_done (by kernel_rfl) ?_ _
  go_wp2_with fail
  go_ret
  exact ⟨rfl, hd, (kept_of_below hb1 hK).trans hk⟩

end Go.Proofs.YtlhefifejcoecaaGreatDoor

namespace Go.Proofs.YtlhefifejcoecaaGreatDoor
open Go.RowKit Go.Proofs Go.Shelf
attribute [local go_sem ↓] Go.wp_at_zero Go.wp_at_succ

/-- The disk's bytes behind Save. -/
def saveS (cur : List UInt8) (which epoch : Nat) (now : Files) : List UInt8 := splice cur (256 * (1 - which)) (listS (epoch + 1) now)

/-- What changes only K's blocks leaves the disk. -/
theorem DiskX.only {w w' : World} {K : Nat → Prop} {D n : Nat} {safe cur : List UInt8} {off : Bool} {s m : Nat} {ov : Value} {es : List (Int × Value)} {O L : List Nat} {bl : Nat → Nat}
    (h : DiskX w K D n safe cur off s m ov es O L bl) (hb : ∀ k, k < w.heap.size → ¬ K k → w'.heap[k]? = w.heap[k]?) : DiskX w' K D n safe cur off s m ov es O L bl := by
  obtain ⟨f1, f2, f3, f4, f5⟩ := h.free
  exact ⟨(hb _ (heap_lt h.blk) f1).trans h.blk, (hb _ (heap_lt h.sblk) f2).trans h.sblk, h.map.block (hb _ h.map.lt f3), h.get, ownsRow_other h.ord (fun g hg => hb g (h.ord.lt g hg).2 (f4 g hg)),
    fun i hi => by obtain ⟨a, b, c⟩ := h.each i hi; exact ⟨a, (hb _ (heap_lt b) (f5 i hi)).trans b, c⟩, h.inj, h.nodup, h.clean, h.len, h.small, h.free⟩

theorem DiskAt.only {w w' : World} {K : Nat → Prop} {D n : Nat} {safe cur : List UInt8} {off : Bool} (h : DiskAt w K D n safe cur off) (hb : ∀ k, k < w.heap.size → ¬ K k → w'.heap[k]? = w.heap[k]?) : DiskAt w' K D n safe cur off := by
  obtain ⟨s, m, ov, es, L, bl, h⟩ := h
  exact ⟨s, m, ov, es, L, bl, h.only hb⟩

set_option maxRecDepth 100000 in
set_option maxHeartbeats 4000000 in
theorem save_any (w : World) (Kp : Nat → Prop) (X D n : Nat) (safe cur : List UInt8) (now saved : Files) (epoch which : Nat) (h : DirAt w Kp X D n safe cur false now saved epoch which) (hKp : ∀ k, Kp k → k < w.heap.size) (hK0 : Kp 2) (hN : Nib w) (hn : 16 ≤ n) (hwh : which ≤ 1)
    (he : epoch ≤ 1000000000000) (hfit : Fits (epoch + 1) now) :
    Calls Tryz.prog 47 #[.pointer (some ⟨X, 0, none⟩)] w (fun e w' => e = .returned (.int .i64 0) ∧ DirAt w' Kp X D n (saveS cur which epoch now) (saveS cur which epoch now) false now now (epoch + 1) (1 - which) ∧ Kept Kp w w') := by
  have hmade := fun W (hb : Below w.heap.size w W) => dmade_any W Kp X D n safe cur false now saved epoch which (h.below hb)
  obtain ⟨bn, bs, hX⟩ := h
  obtain ⟨c0, c1, c2, c3, c4, lX⟩ := hX.cells
  obtain ⟨ot, hot⟩ : ∃ ot, ot = 1 - which := ⟨_, rfl⟩
  have hd := Lib.hid hX.disk
  have HX := Lib.hid hX
  have e0 : IntKind.i64.wrap (1 - (which : Int)) = (ot : Int) := by rw [IntWalk.i64_in _ (by omega)]; omega
  have ho : ot ≤ 1 := by omega
  have Hot := Lib.hid hot
  clear hX hot
  go_enter Tryz.func47, Tryz.ntmps47
  go_upto_region 1 with fail
  generalize hB0 : (w.alloc (.cells #[.pointer (some ⟨X, 0, none⟩)] 29)) = W0
  have hb0 : Below w.heap.size w W0 := by rw [← hB0]; exact below_new _ _
  have p0 : W0.cell? ⟨w.heap.size, 0, none⟩ = some (.pointer (some ⟨X, 0, none⟩)) := by rw [← hB0]; simp
  have lp : w.heap.size < W0.heap.size := by rw [← hB0]; simp
  clear hB0
  replace c0 := bcell hb0 c0
  replace c1 := bcell hb0 c1
  replace c2 := bcell hb0 c2
  replace c3 := bcell hb0 c3
  replace c4 := bcell hb0 c4
  go_upto_region 5 with (first
    | (go_at_call 58; refine (hmade _ hb0).mono ?_; rintro e w1 ⟨rfl, hb1'⟩; have hb1 := below_trans hb0 hb1'; have p1 := bcell hb1' p0; replace c0 := bcell hb1' c0; replace c1 := bcell hb1' c1; replace c2 := bcell hb1' c2; replace c3 := bcell hb1' c3; replace c4 := bcell hb1' c4)
    | fail)
  clear hmade
  generalize hB2 : World.alloc w1 _ = w2
  have hb2' : Below w1.heap.size w1 w2 := by rw [← hB2]; exact below_new _ _
  have q2 : w2.cell? ⟨w1.heap.size, 0, none⟩ = some (.int .i64 ot) := by rw [← hB2]; simp
  have lq : w1.heap.size < w2.heap.size := by rw [← hB2]; simp
  clear hB2
  have hb2 := below_trans hb1 hb2'
  have p2 := bcell hb2' p1
  replace c0 := bcell hb2' c0
  have lp2 : w.heap.size < w1.heap.size := by have := hb1'.size; omega
  clear c1 c2 c3 c4
  refine wp_region_held_drew (S := (fun w' => w'.cell? ⟨w.heap.size, 0, none⟩ = some (.pointer (some ⟨X, 0, none⟩)) ∧ w'.cell? ⟨X, 0, none⟩ = some (.pointer (some ⟨D, 0, none⟩)))) (by kernel_rfl) (by exact ⟨p2, c0⟩) (fun hHeld => ?_)
  refine' takeL (v := _) 0 rfl (by kernel_rfl) (by kernel_rfl) (by kernel_rfl) (fun _ _ _ h => h) (by rfl) ?_ (by assumption) ?_; rotate_left 1; (focus (intro w hSw; (try dsimp only at hSw); go_simp; (try with_reducible rfl); done))
  (try simp only [Act.put, List.setIfInBounds_toArray, List.set_cons_zero, List.set_cons_succ])
  refine' takeL (v := _) 1 rfl (by kernel_rfl) (by kernel_rfl) (by kernel_rfl) (fun _ _ _ h => h) (by rfl) ?_ (by assumption) ?_; rotate_left 1; (focus (intro w hSw; (try dsimp only at hSw); go_simp; (try with_reducible rfl); done))
  (try simp only [Act.put, List.setIfInBounds_toArray, List.set_cons_zero, List.set_cons_succ])
  refine' takeL (v := _) 2 rfl (by kernel_rfl) (by kernel_rfl) (by kernel_rfl) (fun _ _ _ h => h) (by rfl) ?_ (by assumption) ?_; rotate_left 1; (focus (intro w hSw; (try dsimp only at hSw); go_simp; (try with_reducible rfl); done))
  (try simp only [Act.put, List.setIfInBounds_toArray, List.set_cons_zero, List.set_cons_succ])
  refine' takeL (v := _) 3 rfl (by kernel_rfl) (by kernel_rfl) (by kernel_rfl) (fun _ _ _ h => h) (by rfl) ?_ (by assumption) ?_; rotate_left 1; (focus (intro w hSw; (try dsimp only at hSw); go_simp; (try with_reducible rfl); done))
  (try simp only [Act.put, List.setIfInBounds_toArray, List.set_cons_zero, List.set_cons_succ])
  refine' takeL (v := _) 4 rfl (by kernel_rfl) (by kernel_rfl) (by kernel_rfl) (fun _ _ _ h => h) (by rfl) ?_ (by assumption) ?_; rotate_left 1; (focus (intro w hSw; (try dsimp only at hSw); go_simp; (try with_reducible rfl); done))
  (try simp only [Act.put, List.setIfInBounds_toArray, List.set_cons_zero, List.set_cons_succ])
  refine' takeL (v := _) 5 rfl (by kernel_rfl) (by kernel_rfl) (by kernel_rfl) (fun _ _ _ h => h) (by rfl) ?_ (by assumption) ?_; rotate_left 1; (focus (intro w hSw; (try dsimp only at hSw); go_simp; (try with_reducible rfl); done))
  (try simp only [Act.put, List.setIfInBounds_toArray, List.set_cons_zero, List.set_cons_succ])
  refine' takeL (v := _) 6 rfl (by kernel_rfl) (by kernel_rfl) (by kernel_rfl) (fun _ _ _ h => h) (by rfl) ?_ (by assumption) ?_; rotate_left 1; (focus (intro w hSw; (try dsimp only at hSw); go_simp; (try with_reducible rfl); done))
  (try simp only [Act.put, List.setIfInBounds_toArray, List.set_cons_zero, List.set_cons_succ])
  refine' takeL (v := _) 7 rfl (by kernel_rfl) (by kernel_rfl) (by kernel_rfl) (fun _ _ _ h => h) (by rfl) ?_ (by assumption) ?_; rotate_left 1; (focus (intro w hSw; (try dsimp only at hSw); go_simp; (try with_reducible rfl); done))
  (try simp only [Act.put, List.setIfInBounds_toArray, List.set_cons_zero, List.set_cons_succ])
  refine' takeL (v := _) 8 rfl (by kernel_rfl) (by kernel_rfl) (by kernel_rfl) (fun _ _ _ h => h) (by rfl) ?_ (by assumption) ?_; rotate_left 1; (focus (intro w hSw; (try dsimp only at hSw); go_simp; (try with_reducible rfl); done))
  (try simp only [Act.put, List.setIfInBounds_toArray, List.set_cons_zero, List.set_cons_succ])
  refine' takeL (v := _) 9 rfl (by kernel_rfl) (by kernel_rfl) (by kernel_rfl) (fun _ _ _ h => h) (by rfl) ?_ (by assumption) ?_; rotate_left 1; (focus (intro w hSw; (try dsimp only at hSw); go_simp; (try with_reducible rfl); done))
  (try simp only [Act.put, List.setIfInBounds_toArray, List.set_cons_zero, List.set_cons_succ])
  refine' takeL (v := _) 10 rfl (by kernel_rfl) (by kernel_rfl) (by kernel_rfl) (fun _ _ _ h => h) (by rfl) ?_ (by assumption) ?_; rotate_left 1; (focus (intro w hSw; (try dsimp only at hSw); go_simp; (try with_reducible rfl); done))
  (try simp only [Act.put, List.setIfInBounds_toArray, List.set_cons_zero, List.set_cons_succ])
  refine stepL 11 rfl (by kernel_rfl) (fun K hK => ?_)
  go_simp
  generalize hB5 : World.alloc w2 _ = w5
  have hb5 : Below w2.heap.size w2 w5 := by rw [← hB5]; exact below_new _ _
  have cf0 : w5.cell? ⟨w2.heap.size, 0, none⟩ = some (.func (.func 74) #[.pointer (some ⟨D, 0, none⟩)] #[]) := by rw [← hB5]; simp
  have cf1 : w5.cell? ⟨w2.heap.size, 1, none⟩ = some (.func (.func 82) #[] #[.pointer (some ⟨w.heap.size, 0, none⟩), .pointer (some ⟨w1.heap.size, 0, none⟩)]) := by rw [← hB5]; simp
  have cf2 : w5.cell? ⟨w2.heap.size, 2, none⟩ = some (.func (.func 74) #[.pointer (some ⟨D, 0, none⟩)] #[]) := by rw [← hB5]; simp
  have mf := World.block_lt_of_cell? _ _ cf0
  clear hB5
  dsimp only at mf
  have p5 := bcell hb5 p2
  have q5 := bcell hb5 q2
  have c05 := bcell hb5 c0
  have hb05 := below_trans hb2 hb5
  have hs1 := hb1.size
  have hs2 := hb2.size
  have hs5 := hb05.size
  have lX5 : X < w5.heap.size := by omega
  have hbn := HX.out.now.map.lt
  have hbs := HX.out.saved.map.lt
  have hd5 : DiskAt w5.drew (fun k => (Kp k ∨ k = X ∨ k = bn ∨ k = bs) ∨ w.heap.size ≤ k ∧ k < w5.heap.size) D n safe cur false := (hd.out.more (fun k hk h2 => by
    rcases h2 with h2 | h2
    · exact h2
    · omega)).below hb05.drew
  have hK2 : ∀ k, ((Kp k ∨ k = X ∨ k = bn ∨ k = bs) ∨ w.heap.size ≤ k ∧ k < w5.heap.size) → k < w5.heap.size := fun k hk => by
    rcases hk with (hk | hk | hk | hk) | hk
    · have := hKp k hk; omega
    · omega
    · omega
    · omega
    · exact hk.2
  have hN5 := hN.below hb05
  have hf5 := HX.out.now.below hb05
  have c15 := bcell hb05 HX.out.cells.2.1
  have c35 := bcell hb05 HX.out.cells.2.2.2.1
  have hst := steps3 w2.heap.size 3
    (fun W => Kept (fun k => (Kp k ∨ k = X ∨ k = bn ∨ k = bs) ∨ w.heap.size ≤ k ∧ k < w5.heap.size) w5 W ∧ DiskAt W (fun k => (Kp k ∨ k = X ∨ k = bn ∨ k = bs) ∨ w.heap.size ≤ k ∧ k < w5.heap.size) D n safe cur false)
    (fun W => Kept (fun k => (Kp k ∨ k = X ∨ k = bn ∨ k = bs) ∨ w.heap.size ≤ k ∧ k < w5.heap.size) w5 W ∧ DiskAt W (fun k => (Kp k ∨ k = X ∨ k = bn ∨ k = bs) ∨ w.heap.size ≤ k ∧ k < w5.heap.size) D n cur cur false)
    (fun W => Kept (fun k => (Kp k ∨ k = X ∨ k = bn ∨ k = bs) ∨ w.heap.size ≤ k ∧ k < w5.heap.size) w5 W ∧ DiskAt W (fun k => (Kp k ∨ k = X ∨ k = bn ∨ k = bs) ∨ w.heap.size ≤ k ∧ k < w5.heap.size) D n cur (splice cur (256 * ot) (listS (epoch + 1) now)) false)
    (fun W => Kept (fun k => (Kp k ∨ k = X ∨ k = bn ∨ k = bs) ∨ w.heap.size ≤ k ∧ k < w5.heap.size) w5 W ∧ DiskAt W (fun k => (Kp k ∨ k = X ∨ k = bn ∨ k = bs) ∨ w.heap.size ≤ k ∧ k < w5.heap.size) D n (splice cur (256 * ot) (listS (epoch + 1) now)) (splice cur (256 * ot) (listS (epoch + 1) now)) false)
    74 82 74 #[.pointer (some ⟨D, 0, none⟩)] #[] #[.pointer (some ⟨D, 0, none⟩)] #[] #[.pointer (some ⟨w.heap.size, 0, none⟩), .pointer (some ⟨w1.heap.size, 0, none⟩)] #[]
    (fun W hR => by
      have hk : Kept (fun k => (Kp k ∨ k = X ∨ k = bn ∨ k = bs) ∨ w.heap.size ≤ k ∧ k < w5.heap.size) w5 W := by rcases hR with hR | hR | hR <;> exact hR.1
      have kf : (fun k => (Kp k ∨ k = X ∨ k = bn ∨ k = bs) ∨ w.heap.size ≤ k ∧ k < w5.heap.size) w2.heap.size := .inr ⟨by omega, mf⟩
      exact ⟨(hk.cell kf).trans cf0, (hk.cell kf).trans cf1, (hk.cell kf).trans cf2⟩)
    (enters_of Tryz.func74 (by kernel_rfl) rfl) (enters_of Tryz.func82 (by kernel_rfl) rfl) (enters_of Tryz.func74 (by kernel_rfl) rfl)
    (fun W hR => by
      obtain ⟨hk, hd⟩ := hR
      refine (sync_any W _ D n safe _ hd (fun k hk2 => Nat.lt_of_lt_of_le (hK2 k hk2) hk.size)).mono ?_
      rintro e w' ⟨rfl, hd', hk'⟩
      exact ⟨rfl, hk.trans hk', hd'⟩)
    (fun W hR => by
      obtain ⟨hk, hd⟩ := hR
      have kp : (fun k => (Kp k ∨ k = X ∨ k = bn ∨ k = bs) ∨ w.heap.size ≤ k ∧ k < w5.heap.size) w.heap.size := .inr ⟨Nat.le_refl _, by omega⟩
      have kq : (fun k => (Kp k ∨ k = X ∨ k = bn ∨ k = bs) ∨ w.heap.size ≤ k ∧ k < w5.heap.size) w1.heap.size := .inr ⟨by omega, by omega⟩
      have kX : (fun k => (Kp k ∨ k = X ∨ k = bn ∨ k = bs) ∨ w.heap.size ≤ k ∧ k < w5.heap.size) X := .inl (.inr (.inl rfl))
      have kb : (fun k => (Kp k ∨ k = X ∨ k = bn ∨ k = bs) ∨ w.heap.size ≤ k ∧ k < w5.heap.size) bn := .inl (.inr (.inr (.inl rfl)))
      refine (save1_any W _ D n cur cur hd (fun k hk2 => Nat.lt_of_lt_of_le (hK2 k hk2) hk.size) w.heap.size w1.heap.size X bn ot epoch now ((hk.cell kp).trans p5) ((hk.cell kq).trans q5) ((hk.cell kX).trans c05) ((hk.cell kX).trans c15) ((hk.cell kX).trans c35)
        ⟨hf5.map.block (hk.block bn kb), hf5.small, hf5.few⟩ kp kq kX (hN5.kept hk (.inl (.inl hK0))) (by omega) (by omega) (by omega) hfit).mono ?_
      rintro e w' ⟨rfl, hd', hk'⟩
      exact ⟨rfl, hk.trans hk', hd'⟩)
    (fun W hR => by
      obtain ⟨hk, hd⟩ := hR
      refine (sync_any W _ D n cur _ hd (fun k hk2 => Nat.lt_of_lt_of_le (hK2 k hk2) hk.size)).mono ?_
      rintro e w' ⟨rfl, hd', hk'⟩
      exact ⟨rfl, hk.trans hk', hd'⟩) w5.drew ⟨(Kept.refl _ _).drew, hd5⟩
  have Hst := Lib.hid hst
  clear hst hd5 cf0 cf1 cf2 hN5 hf5 c15 c35
  refine hK.out _ _ (by exact ⟨p5, c05⟩) (fun hHeld => ?_)
  clear hK K
  (try simp only [Act.put, List.setIfInBounds_toArray, List.set_cons_zero, List.set_cons_succ])
  refine stepL 12 rfl (by kernel_rfl) (fun K hK => ?_)
  go_simp
  go_at_call 84
  refine Hst.out.mono ?_
  rintro e w8 ⟨rfl, hk8, hd8⟩
  have kp8 : (fun k => (Kp k ∨ k = X ∨ k = bn ∨ k = bs) ∨ w.heap.size ≤ k ∧ k < w5.heap.size) w.heap.size := .inr ⟨Nat.le_refl _, by omega⟩
  have p8 := (hk8.cell (p := ⟨w.heap.size, 0, none⟩) kp8).trans p5
  have kq8 : (fun k => (Kp k ∨ k = X ∨ k = bn ∨ k = bs) ∨ w.heap.size ≤ k ∧ k < w5.heap.size) w1.heap.size := .inr ⟨by omega, by omega⟩
  have q8 := (hk8.cell (p := ⟨w1.heap.size, 0, none⟩) kq8).trans q5
  have kX : (fun k => (Kp k ∨ k = X ∨ k = bn ∨ k = bs) ∨ w.heap.size ≤ k ∧ k < w5.heap.size) X := .inl (.inr (.inl rfl))
  have c08 := (hk8.cell (p := ⟨X, 0, none⟩) kX).trans c05
  refine hK.out _ _ (by exact ⟨p8, c08⟩) (fun hHeld => ?_)
  clear hK K
  (try simp only [Act.put, List.setIfInBounds_toArray, List.set_cons_zero, List.set_cons_succ])
  refine' takeL (v := _) 13 rfl (by kernel_rfl) (by kernel_rfl) (by kernel_rfl) (fun _ _ _ h => h) (by rfl) ?_ (by assumption) ?_; rotate_left 1; (focus (intro w hSw; (try dsimp only at hSw); go_simp; (try with_reducible rfl); done))
  (try simp only [Act.put, List.setIfInBounds_toArray, List.set_cons_zero, List.set_cons_succ])
  refine wpAnyH_done (by kernel_rfl) ?_ _
  clear Hst
  have hXb : w8.heap[X]? = some (.cells #[.pointer (some ⟨D, 0, none⟩), .map (some bn), .map (some bs), .int .i64 epoch, .int .i64 which] 37 (0, 0)) := ((hk8.block X kX).trans (hb05.block X lX)).trans HX.out.blk
  have hfz := fun i => block_free hXb i
  have c38 : w8.cell? ⟨X, 3, none⟩ = some (.int .i64 epoch) := by rw [block_cell hXb]; rfl
  have ep1 : IntKind.i64.wrap ((epoch : Int) + 1) = ((epoch + 1 : Nat) : Int) := by rw [IntWalk.i64_in _ (by omega)]; omega
  obtain ⟨ep, hep⟩ : ∃ ep, ep = epoch + 1 := ⟨_, rfl⟩
  rw [← hep] at ep1
  go_upto_region 9 with fail
  generalize hw9 : World.setCell w8 _ _ = w9
  have hX9 : w9.heap[X]? = some (.cells #[.pointer (some ⟨D, 0, none⟩), .map (some bn), .map (some bs), .int .i64 ((epoch : Int) + 1), .int .i64 which] 37 (0, 0)) := by rw [← hw9]; exact block_set hXb 3 _
  have hk9 : ∀ k, k ≠ X → w9.heap[k]? = w8.heap[k]? := fun k hk => by rw [← hw9]; exact Below.heap_setCell _ _ _ _ (fun e => hk e)
  have hz9 : w9.heap.size = w8.heap.size := by rw [← hw9]; exact size_setCell _ _ _
  have ho9 : Kept (fun k => k ≠ X) w8 w9 := by rw [← hw9]; exact (Kept.refl _ _).setCell (by simp) _
  clear hw9
  have p9 : w9.cell? ⟨w.heap.size, 0, none⟩ = some (.pointer (some ⟨X, 0, none⟩)) := (ho9.cell (p := ⟨w.heap.size, 0, none⟩) (by show w.heap.size ≠ X; omega)).trans p8
  have q9 : w9.cell? ⟨w1.heap.size, 0, none⟩ = some (.int .i64 ot) := (ho9.cell (p := ⟨w1.heap.size, 0, none⟩) (by show w1.heap.size ≠ X; omega)).trans q8
  have c19 : w9.cell? ⟨X, 1, none⟩ = some (.map (some bn)) := by rw [block_cell hX9]; rfl
  have hbX : bn ≠ X := fun e => by
    obtain ⟨es, ck, h1, -⟩ := HX.out.now.map
    rw [e, HX.out.blk] at h1; cases h1
  have hsX : bs ≠ X := fun e => by
    obtain ⟨es, ck, h1, -⟩ := HX.out.saved.map
    rw [e, HX.out.blk] at h1; cases h1
  have kb : (fun k => (Kp k ∨ k = X ∨ k = bn ∨ k = bs) ∨ w.heap.size ≤ k ∧ k < w5.heap.size) bn := .inl (.inr (.inr (.inl rfl)))
  have hf9 : FilesAt w9 bn now := by
    have h5 := HX.out.now.below hb05
    exact ⟨h5.map.block ((hk9 bn hbX).trans (hk8.block bn kb)), h5.small, h5.few⟩
  obtain ⟨es, ck, hmb, hcl⟩ := hf9.clone
  have hcln := clone_any bn es ck w9.drew hmb
  clear hXb hfz c38 p8 q8 c08
  have hfz := fun (i : Nat) => block_free hX9 i
  refine wp_region_held_drew (S := (fun w' => w'.cell? ⟨w.heap.size, 0, none⟩ = some (.pointer (some ⟨X, 0, none⟩)) ∧ w'.cell? ⟨w1.heap.size, 0, none⟩ = some (.int .i64 ot) ∧ w'.cell? ⟨X, 1, none⟩ = some (.map (some bn)))) (by kernel_rfl) (by exact ⟨p9, q9, c19⟩) (fun hHeld => ?_)
  refine' takeL (v := _) 0 rfl (by kernel_rfl) (by kernel_rfl) (by kernel_rfl) (fun _ _ _ h => h) (by rfl) ?_ (by assumption) ?_; rotate_left 1; (focus (intro w hSw; (try dsimp only at hSw); go_simp; (try with_reducible rfl); done))
  (try simp only [Act.put, List.setIfInBounds_toArray, List.set_cons_zero, List.set_cons_succ])
  refine' takeL (v := _) 1 rfl (by kernel_rfl) (by kernel_rfl) (by kernel_rfl) (fun _ _ _ h => h) (by rfl) ?_ (by assumption) ?_; rotate_left 1; (focus (intro w hSw; (try dsimp only at hSw); go_simp; (try with_reducible rfl); done))
  (try simp only [Act.put, List.setIfInBounds_toArray, List.set_cons_zero, List.set_cons_succ])
  refine' takeL (v := _) 2 rfl (by kernel_rfl) (by kernel_rfl) (by kernel_rfl) (fun _ _ _ h => h) (by rfl) ?_ (by assumption) ?_; rotate_left 1; (focus (intro w hSw; (try dsimp only at hSw); go_simp; (try with_reducible rfl); done))
  (try simp only [Act.put, List.setIfInBounds_toArray, List.set_cons_zero, List.set_cons_succ])
  refine' takeL (v := _) 3 rfl (by kernel_rfl) (by kernel_rfl) (by kernel_rfl) (fun _ _ _ h => h) (by rfl) ?_ (by assumption) ?_; rotate_left 1; (focus (intro w hSw; (try dsimp only at hSw); go_simp; (try with_reducible rfl); done))
  (try simp only [Act.put, List.setIfInBounds_toArray, List.set_cons_zero, List.set_cons_succ])
  refine' takeL (v := _) 4 rfl (by kernel_rfl) (by kernel_rfl) (by kernel_rfl) (fun _ _ _ h => h) (by rfl) ?_ (by assumption) ?_; rotate_left 1; (focus (intro w hSw; (try dsimp only at hSw); go_simp; (try with_reducible rfl); done))
  (try simp only [Act.put, List.setIfInBounds_toArray, List.set_cons_zero, List.set_cons_succ])
  refine' takeL (v := _) 5 rfl (by kernel_rfl) (by kernel_rfl) (by kernel_rfl) (fun _ _ _ h => h) (by rfl) ?_ (by assumption) ?_; rotate_left 1; (focus (intro w hSw; (try dsimp only at hSw); go_simp; (try with_reducible rfl); done))
  (try simp only [Act.put, List.setIfInBounds_toArray, List.set_cons_zero, List.set_cons_succ])
  refine' takeL (v := _) 6 rfl (by kernel_rfl) (by kernel_rfl) (by kernel_rfl) (fun _ _ _ h => h) (by rfl) ?_ (by assumption) ?_; rotate_left 1; (focus (intro w hSw; (try dsimp only at hSw); go_simp; (try with_reducible rfl); done))
  (try simp only [Act.put, List.setIfInBounds_toArray, List.set_cons_zero, List.set_cons_succ])
  refine stepL 7 rfl (by kernel_rfl) (fun K hK => ?_)
  go_simp
  go_at_call 55
  refine hcln.mono ?_
  rintro e w10 ⟨rfl, rfl⟩
  have hba := below_new w9.drew (.map es ck)
  refine hK.out _ _ (by exact ⟨bcell hba p9, bcell hba q9, bcell hba c19⟩) (fun hHeld => ?_)
  clear hK K
  (try simp only [Act.put, List.setIfInBounds_toArray, List.set_cons_zero, List.set_cons_succ])
  refine' takeL (v := _) 8 rfl (by kernel_rfl) (by kernel_rfl) (by kernel_rfl) (fun _ _ _ h => h) (by rfl) ?_ (by assumption) ?_; rotate_left 1; (focus (intro w hSw; (try dsimp only at hSw); go_simp; (try with_reducible rfl); done))
  (try simp only [Act.put, List.setIfInBounds_toArray, List.set_cons_zero, List.set_cons_succ])
  refine' takeL (v := _) 9 rfl (by kernel_rfl) (by kernel_rfl) (by kernel_rfl) (fun _ _ _ h => h) (by rfl) ?_ (by assumption) ?_; rotate_left 1; (focus (intro w hSw; (try dsimp only at hSw); go_simp; (try with_reducible rfl); done))
  (try simp only [Act.put, List.setIfInBounds_toArray, List.set_cons_zero, List.set_cons_succ])
  refine stepL 10 rfl (by kernel_rfl) (fun K hK => ?_)
  have d4 : (w9.alloc (.map es ck)).cell? ⟨X, 4, none⟩ = some (.int .i64 which) := (bcell (below_new w9 (.map es ck)) (a := ⟨X, 4, none⟩) (v := .int .i64 which) (by rw [block_cell hX9]; rfl))
  have lX9 : X < w9.heap.size := heap_lt hX9
  have hX10 : (w9.alloc (.map es ck)).heap[X]? = some (.cells #[.pointer (some ⟨D, 0, none⟩), .map (some bn), .map (some bs), .int .i64 ((epoch : Int) + 1), .int .i64 which] 37 (0, 0)) := ((below_new w9 (.map es ck)).block X lX9).trans hX9
  have z4 := block_free hX10 4
  go_simp
  have hX11 := block_set hX10 4 (.int .i64 ot)
  have z11 := block_free hX11 2
  generalize hw11 : World.setCell _ _ _ = w11 at *
  have hk11 : ∀ k, k ≠ X → w11.heap[k]? = (w9.alloc (.map es ck)).heap[k]? := fun k hk => by rw [← hw11]; exact Below.heap_setCell _ _ _ _ (fun e => hk e)
  have ho11 : Kept (fun k => k ≠ X) (w9.alloc (.map es ck)) w11 := by rw [← hw11]; exact (Kept.refl _ _).setCell (by simp) _
  have p11 := (ho11.cell (p := ⟨w.heap.size, 0, none⟩) (by show w.heap.size ≠ X; omega)).trans (bcell (below_new w9 (.map es ck)) p9)
  have q11 := (ho11.cell (p := ⟨w1.heap.size, 0, none⟩) (by show w1.heap.size ≠ X; omega)).trans (bcell (below_new w9 (.map es ck)) q9)
  have c111 : w11.cell? ⟨X, 1, none⟩ = some (.map (some bn)) := by rw [block_cell hX11]; rfl
  have c112 : w11.cell? ⟨X, 2, none⟩ = some (.map (some bs)) := by rw [block_cell hX11]; rfl
  clear hw11
  refine hK.out _ _ (by exact ⟨p11, q11, c111⟩) (fun hHeld => ?_)
  clear hK K
  (try simp only [Act.put, List.setIfInBounds_toArray, List.set_cons_zero, List.set_cons_succ])
  refine' takeL (v := _) 11 rfl (by kernel_rfl) (by kernel_rfl) (by kernel_rfl) (fun _ _ _ h => h) (by rfl) ?_ (by assumption) ?_; rotate_left 1; (focus (intro w hSw; (try dsimp only at hSw); go_simp; (try with_reducible rfl); done))
  (try simp only [Act.put, List.setIfInBounds_toArray, List.set_cons_zero, List.set_cons_succ])
  refine' takeL (v := _) 12 rfl (by kernel_rfl) (by kernel_rfl) (by kernel_rfl) (fun _ _ _ h => h) (by rfl) ?_ (by assumption) ?_; rotate_left 1; (focus (intro w hSw; (try dsimp only at hSw); go_simp; (try with_reducible rfl); done))
  (try simp only [Act.put, List.setIfInBounds_toArray, List.set_cons_zero, List.set_cons_succ])
  refine stepL 13 rfl (by kernel_rfl) (fun K hK => ?_)
  go_simp
  have hX12 := block_set hX11 2 (.map (some w8.heap.size))
  generalize hw12 : World.setCell _ _ _ = w12 at *
  have hk12 : ∀ k, k ≠ X → w12.heap[k]? = w11.heap[k]? := fun k hk => by rw [← hw12]; exact Below.heap_setCell _ _ _ _ (fun e => hk e)
  have ho12 : Kept (fun k => k ≠ X) w11 w12 := by rw [← hw12]; exact (Kept.refl _ _).setCell (by simp) _
  have p12 := (ho12.cell (p := ⟨w.heap.size, 0, none⟩) (by show w.heap.size ≠ X; omega)).trans p11
  have q12 := (ho12.cell (p := ⟨w1.heap.size, 0, none⟩) (by show w1.heap.size ≠ X; omega)).trans q11
  have c121 : w12.cell? ⟨X, 1, none⟩ = some (.map (some bn)) := by rw [block_cell hX12]; rfl
  clear hw12
  refine hK.out _ _ (by exact ⟨p12, q12, c121⟩) (fun hHeld => ?_)
  clear hK K
  (try simp only [Act.put, List.setIfInBounds_toArray, List.set_cons_zero, List.set_cons_succ])
  refine wpAnyH_done (by kernel_rfl) ?_ _
  go_wp2_with fail
  go_ret
  have hfr := HX.out.free
  have hbss := HX.out.ne
  rw [hz9] at hcl
  have hs8 := hk8.size
  have hall : Kept (fun k => k ≠ X ∧ k < w8.heap.size) w8 w12.drew := ((ho9.less fun k hk => hk.1).trans ((kept_of_below (below_new w9 (.map es ck)) fun k hk => by show k < w9.heap.size; rw [hz9]; exact hk.2).trans ((ho11.less fun k hk => hk.1).trans (ho12.less fun k hk => hk.1)))).drew
  have hcl12 : FilesAt w12.drew w8.heap.size now := ⟨hcl.map.block ((hk12 _ (by omega)).trans (hk11 _ (by omega))), hcl.small, hcl.few⟩
  have hbn12 : FilesAt w12.drew bn now := ⟨hf9.map.block ((hk12 bn hbX).trans ((hk11 bn hbX).trans ((below_new w9 (.map es ck)).block bn hf9.map.lt))), hf9.small, hf9.few⟩
  have hX12' : w12.drew.heap[X]? = some (.cells #[.pointer (some ⟨D, 0, none⟩), .map (some bn), .map (some w8.heap.size), .int .i64 (epoch + 1 : Nat), .int .i64 (1 - which : Nat)] 37 (0, 0)) := by
    rw [← Hot.out]
    exact hX12
  have hd12 : DiskAt w12.drew (fun k => Kp k ∨ k = X ∨ k = bn ∨ k = w8.heap.size) D n (splice cur (256 * ot) (listS (epoch + 1) now)) (splice cur (256 * ot) (listS (epoch + 1) now)) false :=
    (hd8.more (fun k hk h2 => by
      rcases h2 with h2 | h2 | h2 | h2
      · exact .inl (.inl h2)
      · exact .inl (.inr (.inl h2))
      · exact .inl (.inr (.inr (.inl h2)))
      · omega)).only fun k hk h2 => hall.block k ⟨fun e => h2 (.inr (.inl e)), hk⟩
  refine ⟨rfl, ⟨bn, w8.heap.size, hX12', hbn12, hcl12, by rw [Hot.out] at hd12; exact hd12, ⟨hfr.1, hfr.2.1, fun h => ?_⟩, by omega⟩, ?_⟩
  · have := hKp _ h; omega
  · refine (kept_of_below hb05 hKp).trans ((hk8.less fun k hk => .inl (.inl hk)).trans (hall.less fun k hk => ⟨fun e => hfr.1 (e ▸ hk), ?_⟩))
    have := hKp _ hk; omega

end Go.Proofs.YtlhefifejcoecaaGreatDoor
