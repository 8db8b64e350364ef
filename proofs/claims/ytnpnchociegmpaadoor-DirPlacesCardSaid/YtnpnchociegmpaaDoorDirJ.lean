/- The directory: a copy of its files; Save. -/
import Derived.Test.YtnpnchociegmpaaDoorDirI
import Derived.Shelf.SlMaps.Clone
namespace Go.Proofs.YtnpnchociegmpaaDoor
open Go.RowKit Go.Proofs Go.Shelf
attribute [local go_sem ↓] Go.wp_at_zero Go.wp_at_succ

set_option maxRecDepth 100000 in
set_option maxHeartbeats 2000000 in
/-- maps.Clone: a new block with the old entries. -/
theorem clone_any (b : Nat) (es : Array MapEntry) (clock : Nat) (w : World) (hb : w.heap[b]? = some (.map es clock)) :
    Calls Tryd.prog 40 #[.map (some b)] w fun e w' => e = .returned (.map (some w.heap.size)) ∧ w' = w.alloc (.map es clock) := by
  have hq := fun w => run_eql_map_nil_sl (P := Tryd.prog) w 53 _ _ (some b) Tryd.underlying53
  go_enter Tryd.func40, Tryd.ntmps40
  go_wp2
  rw [run_callFunc_extern Tryd.func53 (by kernel_rfl) (by kernel_rfl) (by kernel_rfl) (e := Extern.MapsClone.clone) (by kernel_rfl), run_maps_clone_sl w 53 hb]
  simp only [Result.andThen]
  rw [Oper.upon_value]
  go_wp2
  rw [run_typeAssert_map_sl _ 53 _ _ _ _ Tryd.underlying53]
  simp only [Result.andThen]
  rw [Oper.upon_value]
  go_wp2
  go_ret
  exact ⟨rfl, rfl⟩

theorem FilesAt.clone {w : World} {b : Nat} {m : Files} (h : FilesAt w b m) : ∃ es clock, w.heap[b]? = some (.map es clock) ∧ FilesAt (w.alloc (.map es clock)) w.heap.size m := by
  obtain ⟨⟨es, clock, hb, hr⟩, h2, h3⟩ := h
  exact ⟨es, clock, hb, ⟨es, clock, heap_alloc_new _ _, hr⟩, h2, h3⟩

set_option maxRecDepth 100000 in
/-- Save's list. -/
theorem save1_any (w : World) (K : Nat → Prop) (D n : Nat) (safe cur : List UInt8) (h : DiskAt w K D n safe cur false) (hK : ∀ k, K k → k < w.heap.size) (p q X bn o epoch : Nat) (now : Files) (cp : w.cell? ⟨p, 0, none⟩ = some (.pointer (some ⟨X, 0, none⟩)))
    (cq : w.cell? ⟨q, 0, none⟩ = some (.int .i64 o)) (c0 : w.cell? ⟨X, 0, none⟩ = some (.pointer (some ⟨D, 0, none⟩))) (c1 : w.cell? ⟨X, 1, none⟩ = some (.map (some bn))) (c3 : w.cell? ⟨X, 3, none⟩ = some (.int .i64 epoch)) (hf : FilesAt w bn now)
    (kp : K p) (kq : K q) (kX : K X) (hN : Nib w) (ho : o ≤ 1) (hn : 16 ≤ n) (he : epoch ≤ 1000000000000) (hfit : Fits (epoch + 1) now) :
    Calls Tryd.prog 39 #[.pointer (some ⟨p, 0, none⟩), .pointer (some ⟨q, 0, none⟩)] w (fun e w' => e = .returned (.int .i64 0) ∧ DiskAt w' K D n safe (splice cur (256 * o) (listS (epoch + 1) now)) false ∧ Kept K w w') := by
  obtain ⟨ep, hep⟩ : ∃ ep, ep = epoch + 1 := ⟨_, rfl⟩
  rw [← hep] at hfit ⊢
  have hlist := bytesof_any ep bn now w.drew (hf.below (Below.refl _ _).drew) (hN.below (Below.refl _ _).drew) (by omega) hfit.2.2 hfit.1 hfit.2.1
  obtain ⟨pa, hpa⟩ : ∃ pa, pa = 256 * o := ⟨_, rfl⟩
  have hput := fun W v (hb : Below w.heap.size w W) (hv : OwnB W w.heap.size v (listS ep now)) => put_any w W K D n safe cur h hb hK pa v (listS ep now) hv (by rw [listS_len hfit]; omega) (by rw [listS_len hfit]; omega)
  have lp := World.block_lt_of_cell? _ _ cp
  have lq := World.block_lt_of_cell? _ _ cq
  have lX := World.block_lt_of_cell? _ _ c0
  have e1 : IntKind.i64.wrap ((o : Int) * 256) = (pa : Int) := by rw [IntWalk.i64_in _ (by omega)]; omega
  have e2 : IntKind.i64.wrap ((epoch : Int) + 1) = (ep : Int) := by rw [IntWalk.i64_in _ (by omega)]; omega
  rw [← hpa]
  have Hpa := Lib.hid hpa
  have Hep := Lib.hid hep
  clear h hpa hep hf
  go_enter Tryd.func39, Tryd.ntmps39
  go_upto_region 1 with fail
  refine wp_region_held_drew (S := (fun w' => w'.cell? ⟨p, 0, none⟩ = some (.pointer (some ⟨X, 0, none⟩)) ∧ w'.cell? ⟨q, 0, none⟩ = some (.int .i64 o) ∧ w'.cell? ⟨X, 0, none⟩ = some (.pointer (some ⟨D, 0, none⟩)) ∧ w'.cell? ⟨X, 1, none⟩ = some (.map (some bn)) ∧ w'.cell? ⟨X, 3, none⟩ = some (.int .i64 epoch))) (by kernel_rfl) (by exact ⟨cp, cq, c0, c1, c3⟩) (fun hHeld => ?_)
  refine' takeL (v := _) 0 rfl (by kernel_rfl) (by kernel_rfl) (by kernel_rfl) (fun _ _ _ h => h) (by rfl) ?_ (by assumption) ?_; rotate_left 1; (focus (intro w hSw; (try dsimp only at hSw); go_simp; (try with_reducible rfl); done))
  (try simp only [Act.put, List.setIfInBounds_toArray, List.set_cons_zero, List.set_cons_succ])
  refine' takeL (v := _) 1 rfl (by kernel_rfl) (by kernel_rfl) (by kernel_rfl) (fun _ _ _ h => h) (by rfl) ?_ (by assumption) ?_; rotate_left 1; (focus (intro w hSw; (try dsimp only at hSw); go_simp; (try with_reducible rfl); done))
  (try simp only [Act.put, List.setIfInBounds_toArray, List.set_cons_zero, List.set_cons_succ])
  refine' takeL (v := _) 2 rfl (by kernel_rfl) (by kernel_rfl) (by kernel_rfl) (fun _ _ _ h => h) (by rfl) ?_ (by assumption) ?_; rotate_left 1; (focus (intro w hSw; (try dsimp only at hSw); go_simp; (try with_reducible rfl); done))
  (try simp only [Act.put, List.setIfInBounds_toArray, List.set_cons_zero, List.set_cons_succ])
  refine' takeL (v := _) 3 rfl (by kernel_rfl) (by kernel_rfl) (by kernel_rfl) (fun _ _ _ h => h) (by rfl) ?_ (by assumption) ?_; rotate_left 1; (focus (intro w hSw; (try dsimp only at hSw); go_simp; (try with_reducible rfl); done))
  (try simp only [Act.put, List.setIfInBounds_toArray, List.set_cons_zero, List.set_cons_succ])
  refine' takeL (v := _) 4 rfl (by kernel_rfl) (by kernel_rfl) (by kernel_rfl) (fun _ _ _ h => h) (by rfl) ?_ (by assumption) ?_; rotate_left 1; (focus (intro w hSw; (try dsimp only at hSw); go_simp; (try with_reducible rfl); done))
  (try simp only [Act.put, List.setIfInBounds_toArray, List.set_cons_zero, List.set_cons_succ])
  refine' takeL (v := _) 5 rfl (by kernel_rfl) (by kernel_rfl) (by kernel_rfl) (fun _ _ _ h => h) (by rfl) ?_ (by assumption) ?_; rotate_left 1; (focus (intro w hSw; (try dsimp only at hSw); go_simp; (try with_reducible rfl); done))
  (try simp only [Act.put, List.setIfInBounds_toArray, List.set_cons_zero, List.set_cons_succ])
  refine' takeL (v := _) 6 rfl (by kernel_rfl) (by kernel_rfl) (by kernel_rfl) (fun _ _ _ h => h) (by rfl) ?_ (by assumption) ?_; rotate_left 1; (focus (intro w hSw; (try dsimp only at hSw); go_simp; (try with_reducible rfl); done))
  (try simp only [Act.put, List.setIfInBounds_toArray, List.set_cons_zero, List.set_cons_succ])
  refine' takeL (v := _) 7 rfl (by kernel_rfl) (by kernel_rfl) (by kernel_rfl) (fun _ _ _ h => h) (by rfl) ?_ (by assumption) ?_; rotate_left 1; (focus (intro w hSw; (try dsimp only at hSw); go_simp; (try with_reducible rfl); done))
  (try simp only [Act.put, List.setIfInBounds_toArray, List.set_cons_zero, List.set_cons_succ])
  refine' takeL (v := _) 8 rfl (by kernel_rfl) (by kernel_rfl) (by kernel_rfl) (fun _ _ _ h => h) (by rfl) ?_ (by assumption) ?_; rotate_left 1; (focus (intro w hSw; (try dsimp only at hSw); go_simp; (try with_reducible rfl); done))
  (try simp only [Act.put, List.setIfInBounds_toArray, List.set_cons_zero, List.set_cons_succ])
  refine' takeL (v := _) 9 rfl (by kernel_rfl) (by kernel_rfl) (by kernel_rfl) (fun _ _ _ h => h) (by rfl) ?_ (by assumption) ?_; rotate_left 1; (focus (intro w hSw; (try dsimp only at hSw); go_simp; (try with_reducible rfl); done))
  (try simp only [Act.put, List.setIfInBounds_toArray, List.set_cons_zero, List.set_cons_succ])
  refine' takeL (v := _) 10 rfl (by kernel_rfl) (by kernel_rfl) (by kernel_rfl) (fun _ _ _ h => h) (by rfl) ?_ (by assumption) ?_; rotate_left 1; (focus (intro w hSw; (try dsimp only at hSw); go_simp; (try with_reducible rfl); done))
  (try simp only [Act.put, List.setIfInBounds_toArray, List.set_cons_zero, List.set_cons_succ])
  refine' takeL (v := _) 11 rfl (by kernel_rfl) (by kernel_rfl) (by kernel_rfl) (fun _ _ _ h => h) (by rfl) ?_ (by assumption) ?_; rotate_left 1; (focus (intro w hSw; (try dsimp only at hSw); go_simp; (try with_reducible rfl); done))
  (try simp only [Act.put, List.setIfInBounds_toArray, List.set_cons_zero, List.set_cons_succ])
  refine' takeL (v := _) 12 rfl (by kernel_rfl) (by kernel_rfl) (by kernel_rfl) (fun _ _ _ h => h) (by rfl) ?_ (by assumption) ?_; rotate_left 1; (focus (intro w hSw; (try dsimp only at hSw); go_simp; (try with_reducible rfl); done))
  (try simp only [Act.put, List.setIfInBounds_toArray, List.set_cons_zero, List.set_cons_succ])
  refine' takeL (v := _) 13 rfl (by kernel_rfl) (by kernel_rfl) (by kernel_rfl) (fun _ _ _ h => h) (by rfl) ?_ (by assumption) ?_; rotate_left 1; (focus (intro w hSw; (try dsimp only at hSw); go_simp; (try with_reducible rfl); done))
  (try simp only [Act.put, List.setIfInBounds_toArray, List.set_cons_zero, List.set_cons_succ])
  refine' takeL (v := _) 14 rfl (by kernel_rfl) (by kernel_rfl) (by kernel_rfl) (fun _ _ _ h => h) (by rfl) ?_ (by assumption) ?_; rotate_left 1; (focus (intro w hSw; (try dsimp only at hSw); go_simp; (try with_reducible rfl); done))
  (try simp only [Act.put, List.setIfInBounds_toArray, List.set_cons_zero, List.set_cons_succ])
  refine stepL 15 rfl (by kernel_rfl) (fun K hK => ?_)
  go_simp
  go_at_call 32
  refine hlist.mono ?_
  rintro e w1 ⟨v, rfl, hown, hb1'⟩
  have hb1 : Below w.heap.size w w1 := below_trans (Below.refl _ _).drew hb1'
  refine hK.out _ _ (by exact ⟨bcell hb1 cp, bcell hb1 cq, bcell hb1 c0, bcell hb1 c1, bcell hb1 c3⟩) (fun hHeld => ?_)
  clear hK K
  (try simp only [Act.put, List.setIfInBounds_toArray, List.set_cons_zero, List.set_cons_succ])
  refine stepL 16 rfl (by kernel_rfl) (fun K hK => ?_)
  go_simp
  go_at_call 31
  refine (hput w1 v hb1 hown).mono ?_
  rintro e w2 ⟨rfl, hd, hk⟩
  refine hK.out _ _ (by exact ⟨(hk.cell kp).trans (bcell hb1 cp), (hk.cell kq).trans (bcell hb1 cq), (hk.cell kX).trans (bcell hb1 c0), (hk.cell kX).trans (bcell hb1 c1), (hk.cell kX).trans (bcell hb1 c3)⟩) (fun hHeld => ?_)
  clear hK K
  (try simp only [Act.put, List.setIfInBounds_toArray, List.set_cons_zero, List.set_cons_succ])
  refine' takeL (v := _) 17 rfl (by kernel_rfl) (by kernel_rfl) (by kernel_rfl) (fun _ _ _ h => h) (by rfl) ?_ (by assumption) ?_; rotate_left 1; (focus (intro w hSw; (try dsimp only at hSw); go_simp; (try with_reducible rfl); done))
  (try simp only [Act.put, List.setIfInBounds_toArray, List.set_cons_zero, List.set_cons_succ])
  refine wpAnyH_done (by kernel_rfl) ?_ _
  go_wp2_with fail
  go_ret
  exact ⟨rfl, hd, (kept_of_below hb1 hK).trans hk⟩

end Go.Proofs.YtnpnchociegmpaaDoor
