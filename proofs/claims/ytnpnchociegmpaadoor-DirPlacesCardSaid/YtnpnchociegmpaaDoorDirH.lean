/- The directory: a list is written on the disk; Format's function values. -/
import Derived.Test.YtnpnchociegmpaaDoorDirG
namespace Go.Proofs.YtnpnchociegmpaaDoor
open Go.RowKit Go.Proofs Go.Shelf
attribute [local go_sem ↓] Go.wp_at_zero Go.wp_at_succ

/-- A list's bytes: 256 of them. -/
def listS (epoch : Nat) (m : Files) : List UInt8 := frameS (bodyS epoch m (namesS m)) ++ List.replicate (256 - (frameS (bodyS epoch m (namesS m))).length) 0
/-- Does a list fit? -/
def Fits (epoch : Nat) (m : Files) : Prop := (frameS (bodyS epoch m (namesS m))).length ≤ 256 ∧ (bodyS epoch m (namesS m)).length ≤ 8192 ∧ m.length ≤ 100

theorem listS_len {epoch : Nat} {m : Files} (h : Fits epoch m) : (listS epoch m).length = 256 := by
  unfold listS
  rw [List.length_append, List.length_replicate]
  have := h.1
  omega

theorem Nib.kept {K : Nat → Prop} {w w' : World} (h : Nib w) (hk : Kept K w w') (h0 : K 0) : Nib w' := fun j hj => (hk.cell (p := ⟨0, j, none⟩) h0).trans (h j hj)

/-- New bytes may be written. -/
theorem put_any (w W : World) (K : Nat → Prop) (D n : Nat) (safe cur : List UInt8) (h : DiskAt w K D n safe cur false) (hb : Below w.heap.size w W) (hK : ∀ k, K k → k < w.heap.size) (a : Nat) (v : Value) (bs : List UInt8) (hv : OwnB W w.heap.size v bs) (hl : bs.length ≤ 9223372036854775807) (hin : a + bs.length ≤ 32 * n) :
    Calls Tryd.prog 31 #[.pointer (some ⟨D, 0, none⟩), .int .i64 a, v] W (fun e w' => e = .returned (.int .i64 0) ∧ DiskAt w' K D n safe (splice cur a bs) false ∧ Kept K W w') := by
  have hat := hv.at hl
  obtain ⟨q, cap, hq, -⟩ := hv.len
  have hqk : ∀ x, q = some x → w.heap.size ≤ x.block ∧ x.block < W.heap.size := fun x hx => by
    subst hx
    rcases hv.2 with ⟨h1, -⟩ | ⟨g, cap', cur', h1, h2, h3, -⟩
    · rw [h1] at hq; cases hq
    · rw [h1] at hq
      simp only [Value.slice.injEq, Option.some.injEq] at hq
      obtain ⟨rfl, -⟩ := hq
      exact ⟨h2, heap_lt h3⟩
  have h2 : DiskAt W (fun k => K k ∨ ∃ x, q = some x ∧ k = x.block) D n safe cur false := (h.more (K' := fun k => K k ∨ ∃ x, q = some x ∧ k = x.block) (fun k hk hk2 => by
    rcases hk2 with hk2 | ⟨x, hx, rfl⟩
    · exact hk2
    · have := (hqk x hx).1; omega)).below hb
  refine (write_any W _ D n safe cur h2 a v bs ⟨hat, fun q' n' c' e x hx => ?_⟩ hin (fun k hk => ?_)).mono ?_
  · rw [hq] at e
    simp only [Value.slice.injEq] at e
    obtain ⟨rfl, -⟩ := e
    exact .inr ⟨x, hx, rfl⟩
  · rcases hk with hk | ⟨x, hx, rfl⟩
    · have := hK k hk; have := hb.size; omega
    · exact (hqk x hx).2
  · rintro e w' ⟨rfl, hd, hk⟩
    exact ⟨rfl, hd.more (fun k _ hk => .inl hk), hk.less fun k hk => .inl hk⟩

set_option maxRecDepth 100000 in
/-- Format's list: a function value that writes a list. -/
theorem fmt1_any (w : World) (p : Nat) (hp : p < w.heap.size) (a b : Nat) : Calls Tryd.prog 29 #[.int .i64 a, .int .i64 b, .pointer (some ⟨p, 0, none⟩)] w
    (fun e w' => ∃ x y, e = .returned (.func (.func 30) #[] #[.pointer (some ⟨p, 0, none⟩), .pointer (some ⟨x, 0, none⟩), .pointer (some ⟨y, 0, none⟩)]) ∧ w.heap.size ≤ x ∧ w.heap.size ≤ y ∧
      w'.cell? ⟨x, 0, none⟩ = some (.int .i64 a) ∧ w'.cell? ⟨y, 0, none⟩ = some (.int .i64 b) ∧ Below w.heap.size w w') := by
  go_enter Tryd.func29, Tryd.ntmps29
  go_wp2_with fail
  go_ret
  exact ⟨_, _, rfl, by simp, by simp, by simp, by simp, (((Below.refl _ w).alloc (Nat.le_refl _) _)).alloc (by simp) _⟩

set_option maxRecDepth 100000 in
theorem fmt2_any (w : World) (K : Nat → Prop) (D n : Nat) (safe cur : List UInt8) (h : DiskAt w K D n safe cur false) (hK : ∀ k, K k → k < w.heap.size) (p x y a b : Nat) (cp : w.cell? ⟨p, 0, none⟩ = some (.pointer (some ⟨D, 0, none⟩)))
    (cx : w.cell? ⟨x, 0, none⟩ = some (.int .i64 a)) (cy : w.cell? ⟨y, 0, none⟩ = some (.int .i64 b)) (kp : K p) (kx : K x) (ky : K y) (hN : Nib w) (ha : a ≤ 1) (hn : 16 ≤ n) (hb : b ≤ 1000000) (hfit : Fits b []) :
    Calls Tryd.prog 30 #[.pointer (some ⟨p, 0, none⟩), .pointer (some ⟨x, 0, none⟩), .pointer (some ⟨y, 0, none⟩)] w (fun e w' => e = .returned (.int .i64 0) ∧ DiskAt w' K D n safe (splice cur (256 * a) (listS b [])) false ∧ Kept K w w') := by
  have hlist := bytesof_nil b w.drew (hN.below (Below.refl _ _).drew) (by omega) (by simpa [namesS] using hfit.1) (by simpa [namesS] using hfit.2.1)
  obtain ⟨pa, hpa⟩ : ∃ pa, pa = 256 * a := ⟨_, rfl⟩
  have hput := fun W v (hb : Below w.heap.size w W) (hv : OwnB W w.heap.size v (listS b [])) => put_any w W K D n safe cur h hb hK pa v (listS b []) hv (by rw [listS_len hfit]; omega) (by rw [listS_len hfit]; omega)
  have lp := World.block_lt_of_cell? _ _ cp
  have lx := World.block_lt_of_cell? _ _ cx
  have ly := World.block_lt_of_cell? _ _ cy
  have e1 : IntKind.i64.wrap ((a : Int) * 256) = (pa : Int) := by rw [IntWalk.i64_in _ (by omega)]; omega
  rw [← hpa]
  have Hpa := Lib.hid hpa
  clear h hpa
  go_enter Tryd.func30, Tryd.ntmps30
  go_upto_region 1 with fail
  refine wp_region_held_drew (S := (fun w' => w'.cell? ⟨p, 0, none⟩ = some (.pointer (some ⟨D, 0, none⟩)) ∧ w'.cell? ⟨x, 0, none⟩ = some (.int .i64 a) ∧ w'.cell? ⟨y, 0, none⟩ = some (.int .i64 b))) (by kernel_rfl) (by exact ⟨cp, cx, cy⟩) (fun hHeld => ?_)
  refine' takeL (v := _) 0 rfl (by kernel_rfl) (by kernel_rfl) (by kernel_rfl) (fun _ _ _ h => h) (by rfl) ?_ (by assumption) ?_; rotate_left 1; (focus (intro w hSw; (try dsimp only at hSw); go_simp; (try with_reducible rfl); done))
  (try simp only [Act.put, List.setIfInBounds_toArray, List.set_cons_zero, List.set_cons_succ])
  refine' takeL (v := _) 1 rfl (by kernel_rfl) (by kernel_rfl) (by kernel_rfl) (fun _ _ _ h => h) (by rfl) ?_ (by assumption) ?_; rotate_left 1; (focus (intro w hSw; (try dsimp only at hSw); go_simp; (try with_reducible rfl); done))
  (try simp only [Act.put, List.setIfInBounds_toArray, List.set_cons_zero, List.set_cons_succ])
  refine' takeL (v := _) 2 rfl (by kernel_rfl) (by kernel_rfl) (by kernel_rfl) (fun _ _ _ h => h) (by rfl) ?_ (by assumption) ?_; rotate_left 1; (focus (intro w hSw; (try dsimp only at hSw); go_simp; (try with_reducible rfl); done))
  (try simp only [Act.put, List.setIfInBounds_toArray, List.set_cons_zero, List.set_cons_succ])
  refine' takeL (v := _) 3 rfl (by kernel_rfl) (by kernel_rfl) (by kernel_rfl) (fun _ _ _ h => h) (by rfl) ?_ (by assumption) ?_; rotate_left 1; (focus (intro w hSw; (try dsimp only at hSw); go_simp; (try with_reducible rfl); done))
  (try simp only [Act.put, List.setIfInBounds_toArray, List.set_cons_zero, List.set_cons_succ])
  refine stepL 4 rfl (by kernel_rfl) (fun K hK => ?_)
  go_simp
  go_at_call 32
  refine hlist.mono ?_
  rintro e w1 ⟨v, rfl, hown, hb1'⟩
  have hb1 : Below w.heap.size w w1 := below_trans (Below.refl _ _).drew hb1'
  refine hK.out _ _ (by exact ⟨bcell hb1 cp, bcell hb1 cx, bcell hb1 cy⟩) (fun hHeld => ?_)
  clear hK K
  (try simp only [Act.put, List.setIfInBounds_toArray, List.set_cons_zero, List.set_cons_succ])
  refine stepL 5 rfl (by kernel_rfl) (fun K hK => ?_)
  go_simp
  go_at_call 31
  refine (hput w1 v hb1 hown).mono ?_
  rintro e w2 ⟨rfl, hd, hk⟩
  refine hK.out _ _ (by exact ⟨(hk.cell kp).trans (bcell hb1 cp), (hk.cell kx).trans (bcell hb1 cx), (hk.cell ky).trans (bcell hb1 cy)⟩) (fun hHeld => ?_)
  clear hK K
  (try simp only [Act.put, List.setIfInBounds_toArray, List.set_cons_zero, List.set_cons_succ])
  refine' takeL (v := _) 6 rfl (by kernel_rfl) (by kernel_rfl) (by kernel_rfl) (fun _ _ _ h => h) (by rfl) ?_ (by assumption) ?_; rotate_left 1; (focus (intro w hSw; (try dsimp only at hSw); go_simp; (try with_reducible rfl); done))
  (try simp only [Act.put, List.setIfInBounds_toArray, List.set_cons_zero, List.set_cons_succ])
  refine wpAnyH_done (by kernel_rfl) ?_ _
  go_wp2_with fail
  go_ret
  exact ⟨rfl, hd, (kept_of_below hb1 hK).trans hk⟩

end Go.Proofs.YtnpnchociegmpaaDoor
