/- The directory: Open. -/
/- The directory, plain: what stays true whatever is done. -/
import Derived.Test.YtlhefifejcoecaaGreatDoorDirU
namespace Go.Proofs.YtlhefifejcoecaaGreatDoor
open Go.RowKit Go.Proofs Go.Shelf
attribute [local go_sem ↓] Go.wp_at_zero Go.wp_at_succ

/-- Which list is the last one: its epoch, its files, its place. -/
def pick2 : Option (Nat × Files) → Option (Nat × Files) → Option (Nat × Files × Nat)
  | none, none => none
  | some a, none => some (a.1, a.2, 0)
  | none, some b => some (b.1, b.2, 1)
  | some a, some b => if a.1 = b.1 then none else if a.1 < b.1 then some (b.1, b.2, 1) else some (a.1, a.2, 0)

def openD (cur : List UInt8) (n : Nat) : Option (Nat × Files × Nat) := pick2 (parseS (cur.take 256) n) (parseS ((cur.drop 256).take 256) n)

def OpenDOut (K : Nat → Prop) (D n : Nat) (safe cur : List UInt8) (w : World) (e : Ending) (w' : World) : Prop := Below w.heap.size w w' ∧
  match openD cur n with
  | none => e = .returned (.tuple #[.pointer none, .int .i64 4])
  | some r => ∃ X, e = .returned (.tuple #[.pointer (some ⟨X, 0, none⟩), .int .i64 0]) ∧ w.heap.size ≤ X ∧ DirAt w' K X D n safe cur false r.2.1 r.2.1 r.1 r.2.2

theorem opened {w w1 w2 : World} {K : Nat → Prop} {D n : Nat} {safe cur : List UInt8} {f : Files} {mb ep wh : Nat} (hd : DiskAt w K D n safe cur false) (hK : ∀ k, K k → k < w.heap.size) (hb1 : Below w.heap.size w w1) (hf : FilesAt w1 mb f) (hmb : w.heap.size ≤ mb)
    {es : Array MapEntry} {ck : Nat} (hfc : FilesAt (w1.alloc (.map es ck)) w1.heap.size f)
    (hw2 : w2 = (w1.alloc (.map es ck)).alloc (.cells #[.pointer (some ⟨D, 0, none⟩), .map (some w1.heap.size), .map (some mb), .int .i64 ep, .int .i64 wh] 37)) :
    DirAt w2 K (w1.heap.size + 1) D n safe cur false f f ep wh ∧ Below w.heap.size w w2 := by
  have hb2 : Below w1.heap.size w1 w2 := by rw [hw2]; exact below_alloc (below_new _ _) _
  have hbw := below_trans hb1 hb2
  have hs := hb1.size
  have hX : w2.heap[w1.heap.size + 1]? = some (.cells #[.pointer (some ⟨D, 0, none⟩), .map (some w1.heap.size), .map (some mb), .int .i64 ep, .int .i64 wh] 37 (0, 0)) := by
    rw [hw2]
    have := heap_alloc_new (w1.alloc (.map es ck)) (.cells #[.pointer (some ⟨D, 0, none⟩), .map (some w1.heap.size), .map (some mb), .int .i64 ep, .int .i64 wh] 37)
    simpa [World.size_alloc] using this
  have hl := hf.map.lt
  refine ⟨⟨w1.heap.size, mb, hX, by rw [hw2]; exact hfc.below (below_new _ _), hf.below hb2, (hd.more (fun k hk h2 => ?_)).below hbw, ⟨fun h => ?_, fun h => ?_, fun h => ?_⟩, by omega⟩, hbw⟩
  · rcases h2 with h2 | h2 | h2 | h2
    · exact h2
    all_goals omega
  · have := hK _ h; omega
  · have := hK _ h; omega
  · have := hK _ h; omega

set_option maxRecDepth 100000 in
set_option maxHeartbeats 2000000 in
theorem opend_any (w : World) (K : Nat → Prop) (D n : Nat) (safe cur : List UInt8) (h : DiskAt w K D n safe cur false) (hK : ∀ k, K k → k < w.heap.size) (hN : Nib w) (hn : 16 ≤ n) : Calls Tryz.prog 21 #[.pointer (some ⟨D, 0, none⟩)] w (OpenDOut K D n safe cur w) := by
  obtain ⟨sz, hsz⟩ : ∃ sz, sz = 32 * n := ⟨_, rfl⟩
  have hsize := size_any w K D n safe cur false h
  have hsect := fun W (hb : Below w.heap.size w W) => sectors_any W K D n safe cur false (h.below hb)
  have hln := h.lens
  have hread := fun W (hb : Below w.heap.size w W) => read_any W K D n safe cur (h.below hb) 0 512 (by omega)
  rw [← hsz] at hsize
  have n1 : ¬ (sz : Int) = 0 := by omega
  have Hd := Lib.hid h
  have hA : ((cur.drop 0).take 512).take 256 = cur.take 256 := by rw [List.drop_zero, List.take_take]; rfl
  have hB : ((cur.drop 0).take 512).drop 256 = (cur.drop 256).take 256 := by rw [List.drop_zero, List.drop_take]
  have hL : ((cur.drop 0).take 512).length = 512 := by rw [List.drop_zero, List.length_take]; omega
  have hlA : (cur.take 256).length = 256 := by rw [List.length_take]; omega
  have hlB : ((cur.drop 256).take 256).length = 256 := by rw [List.length_take, List.length_drop]; omega
  have hpA := fun W v (hb : Below w.heap.size w W) (hv : SlP 1 ByteE W v (cur.take 256)) => parse_any v _ n W hv (hN.below hb) (by omega) (by omega)
  have hpB := fun W v (hb : Below w.heap.size w W) (hv : SlP 1 ByteE W v ((cur.drop 256).take 256)) => parse_any v _ n W hv (hN.below hb) (by omega) (by omega)
  have hO : openD cur n = pick2 (parseS (cur.take 256) n) (parseS ((cur.drop 256).take 256) n) := rfl
  unfold ParseOut at hpA hpB
  generalize parseS (cur.take 256) n = ra at *
  generalize parseS ((cur.drop 256).take 256) n = rb at *
  have HpA := Lib.hid hpA
  have HpB := Lib.hid hpB
  have HO := Lib.hid hO
  clear h hsz hpA hpB hO hlA hlB
  unfold ReadOut at hread
  generalize hAe : cur.take 256 = A at *
  generalize hBe : (cur.drop 256).take 256 = B at *
  generalize (cur.drop 0).take 512 = F at *
  clear hAe hBe
  have HA := Lib.hid hA
  have HB := Lib.hid hB
  have HL := Lib.hid hL
  clear hA hB hL
  cases ra with
  | none =>
    cases rb with
    | none =>
      have Hr : Hid (openD cur n = none) := Lib.hid (by rw [HO.out]; rfl)
      clear HO
      go_enter Tryz.func21, Tryz.ntmps21
      go_upto_region 9 with (first
        | (go_at_call 51; refine hsize.mono ?_; rintro e w1 ⟨rfl, hb1⟩)
        | (go_at_call 52; refine (hread w1 hb1).mono ?_; rintro e w3 ⟨v3, rfl, hown3, hb3⟩)
        | fail)
      obtain ⟨g, cap, rfl, hcells3⟩ := own_cells hown3 (by have := HL.out; omega)
      have hslp3 := hown3.at (by have := HL.out; omega)
      have hcap3 : 512 ≤ cap := by
        obtain ⟨q, c, e, hc, -⟩ := hown3.len
        cases e
        have := HL.out; omega
      rw [HL.out] at hslp3 ⊢
      have hb03 := below_trans hb1 hb3
      have hvA : SlP 1 ByteE w3 (.slice (some ⟨g, 0, none⟩) 256 cap) A := by
        have := slp_take hslp3 256 (by have := HL.out; omega)
        rw [HA.out] at this; exact this
      have hvB : SlP 1 ByteE w3 (.slice (some ⟨g, 256, none⟩) 256 (cap - 256)) B := by
        have := slp_part (k := 256) (m := 256) hslp3 (by have := HL.out; omega)
        rw [HB.out, List.take_of_length_le (by have := HL.out; have := congrArg List.length HB.out; rw [List.length_drop] at this; omega)] at this
        simpa using this
      have HvA := Lib.hid hvA
      have HvB := Lib.hid hvB
      have k1 : (256 : Int) ≤ (cap : Int) := by omega
      have k2 : (512 : Int) ≤ (cap : Int) := by omega
      have k3 : ¬ cap = 256 := by omega
      clear hcells3 hown3 hslp3 hvA hvB hread
      refine wp_region_held_drew (S := (fun _ => True)) (by kernel_rfl) (by trivial) (fun hHeld => ?_)
      refine' takeL (v := _) 0 rfl (by kernel_rfl) (by kernel_rfl) (by kernel_rfl) (fun _ _ _ h => h) (by rfl) ?_ (by assumption) ?_; rotate_left 1; (focus (intro w hSw; (try dsimp only at hSw); go_simp; (try with_reducible rfl); done))
      (try simp only [Act.put, List.setIfInBounds_toArray, List.set_cons_zero, List.set_cons_succ])
      refine' takeL (v := _) 1 rfl (by kernel_rfl) (by kernel_rfl) (by kernel_rfl) (fun _ _ _ h => h) (by rfl) ?_ (by assumption) ?_; rotate_left 1; (focus (intro w hSw; (try dsimp only at hSw); go_simp; (try with_reducible rfl); done))
      (try simp only [Act.put, List.setIfInBounds_toArray, List.set_cons_zero, List.set_cons_succ])
      refine' takeL (v := _) 2 rfl (by kernel_rfl) (by kernel_rfl) (by kernel_rfl) (fun _ _ _ h => h) (by rfl) ?_ (by assumption) ?_; rotate_left 1; (focus (intro w hSw; (try dsimp only at hSw); go_simp; (try with_reducible rfl); done))
      (try simp only [Act.put, List.setIfInBounds_toArray, List.set_cons_zero, List.set_cons_succ])
      refine stepL 3 rfl (by kernel_rfl) (fun K hK => ?_)
      go_simp
      go_at_call 54
      refine (hsect _ hb03.drew).mono ?_
      rintro e w4 ⟨rfl, hb4'⟩
      have hb4 : Below w3.heap.size w3 w4 := below_trans (Below.refl _ _).drew hb4'
      refine hK.out _ _ (by trivial) (fun hHeld => ?_)
      clear hK K
      (try simp only [Act.put, List.setIfInBounds_toArray, List.set_cons_zero, List.set_cons_succ])
      refine stepL 4 rfl (by kernel_rfl) (fun K hK => ?_)
      go_simp
      go_at_call 53
      refine (HpA.out w4 _ (below_trans hb03 hb4) (HvA.out.mono ByteE.mono hb4)).mono ?_
      rintro e w5 ⟨hb5, rfl⟩
      have hb05 := below_trans (below_trans hb03 hb4) hb5
      have hb35 := below_trans hb4 hb5
      refine hK.out _ _ (by trivial) (fun hHeld => ?_)
      clear hK K
      (try simp only [Act.put, List.setIfInBounds_toArray, List.set_cons_zero, List.set_cons_succ])
      refine' takeL (v := _) 5 rfl (by kernel_rfl) (by kernel_rfl) (by kernel_rfl) (fun _ _ _ h => h) (by rfl) ?_ (by assumption) ?_; rotate_left 1; (focus (intro w hSw; (try dsimp only at hSw); go_simp; (try with_reducible rfl); done))
      (try simp only [Act.put, List.setIfInBounds_toArray, List.set_cons_zero, List.set_cons_succ])
      refine' takeL (v := _) 6 rfl (by kernel_rfl) (by kernel_rfl) (by kernel_rfl) (fun _ _ _ h => h) (by rfl) ?_ (by assumption) ?_; rotate_left 1; (focus (intro w hSw; (try dsimp only at hSw); go_simp; (try with_reducible rfl); done))
      (try simp only [Act.put, List.setIfInBounds_toArray, List.set_cons_zero, List.set_cons_succ])
      refine' takeL (v := _) 7 rfl (by kernel_rfl) (by kernel_rfl) (by kernel_rfl) (fun _ _ _ h => h) (by rfl) ?_ (by assumption) ?_; rotate_left 1; (focus (intro w hSw; (try dsimp only at hSw); go_simp; (try with_reducible rfl); done))
      (try simp only [Act.put, List.setIfInBounds_toArray, List.set_cons_zero, List.set_cons_succ])
      refine' takeL (v := _) 8 rfl (by kernel_rfl) (by kernel_rfl) (by kernel_rfl) (fun _ _ _ h => h) (by rfl) ?_ (by assumption) ?_; rotate_left 1; (focus (intro w hSw; (try dsimp only at hSw); go_simp; (try with_reducible rfl); done))
      (try simp only [Act.put, List.setIfInBounds_toArray, List.set_cons_zero, List.set_cons_succ])
      refine' takeL (v := _) 9 rfl (by kernel_rfl) (by kernel_rfl) (by kernel_rfl) (fun _ _ _ h => h) (by rfl) ?_ (by assumption) ?_; rotate_left 1; (focus (intro w hSw; (try dsimp only at hSw); go_simp; (try with_reducible rfl); done))
      (try simp only [Act.put, List.setIfInBounds_toArray, List.set_cons_zero, List.set_cons_succ])
      refine' takeL (v := _) 10 rfl (by kernel_rfl) (by kernel_rfl) (by kernel_rfl) (fun _ _ _ h => h) (by rfl) ?_ (by assumption) ?_; rotate_left 1; (focus (intro w hSw; (try dsimp only at hSw); go_simp; (try with_reducible rfl); done))
      (try simp only [Act.put, List.setIfInBounds_toArray, List.set_cons_zero, List.set_cons_succ])
      refine' takeL (v := _) 11 rfl (by kernel_rfl) (by kernel_rfl) (by kernel_rfl) (fun _ _ _ h => h) (by rfl) ?_ (by assumption) ?_; rotate_left 1; (focus (intro w hSw; (try dsimp only at hSw); go_simp; (try with_reducible rfl); done))
      (try simp only [Act.put, List.setIfInBounds_toArray, List.set_cons_zero, List.set_cons_succ])
      refine wpAnyH_done (by kernel_rfl) ?_ _
      go_upto_region 10 with fail
      refine wp_region_held_drew (S := (fun _ => True)) (by kernel_rfl) (by trivial) (fun hHeld => ?_)
      refine' takeL (v := _) 0 rfl (by kernel_rfl) (by kernel_rfl) (by kernel_rfl) (fun _ _ _ h => h) (by rfl) ?_ (by assumption) ?_; rotate_left 1; (focus (intro w hSw; (try dsimp only at hSw); go_simp; (try with_reducible rfl); done))
      (try simp only [Act.put, List.setIfInBounds_toArray, List.set_cons_zero, List.set_cons_succ])
      refine' takeL (v := _) 1 rfl (by kernel_rfl) (by kernel_rfl) (by kernel_rfl) (fun _ _ _ h => h) (by rfl) ?_ (by assumption) ?_; rotate_left 1; (focus (intro w hSw; (try dsimp only at hSw); go_simp; (try with_reducible rfl); done))
      (try simp only [Act.put, List.setIfInBounds_toArray, List.set_cons_zero, List.set_cons_succ])
      refine' takeL (v := _) 2 rfl (by kernel_rfl) (by kernel_rfl) (by kernel_rfl) (fun _ _ _ h => h) (by rfl) ?_ (by assumption) ?_; rotate_left 1; (focus (intro w hSw; (try dsimp only at hSw); go_simp; (try with_reducible rfl); done))
      (try simp only [Act.put, List.setIfInBounds_toArray, List.set_cons_zero, List.set_cons_succ])
      refine stepL 3 rfl (by kernel_rfl) (fun K hK => ?_)
      go_simp
      go_at_call 54
      refine (hsect _ hb05.drew).mono ?_
      rintro e w6 ⟨rfl, hb6'⟩
      have hb6 : Below w5.heap.size w5 w6 := below_trans (Below.refl _ _).drew hb6'
      refine hK.out _ _ (by trivial) (fun hHeld => ?_)
      clear hK K
      (try simp only [Act.put, List.setIfInBounds_toArray, List.set_cons_zero, List.set_cons_succ])
      refine stepL 4 rfl (by kernel_rfl) (fun K hK => ?_)
      go_simp
      go_at_call 53
      refine (HpB.out w6 _ (below_trans hb05 hb6) (HvB.out.mono ByteE.mono (below_trans hb35 hb6))).mono ?_
      rintro e w7 ⟨hb7, rfl⟩
      have hb07 := below_trans (below_trans hb05 hb6) hb7
      have hb57 := below_trans hb6 hb7
      refine hK.out _ _ (by trivial) (fun hHeld => ?_)
      clear hK K
      (try simp only [Act.put, List.setIfInBounds_toArray, List.set_cons_zero, List.set_cons_succ])
      refine' takeL (v := _) 5 rfl (by kernel_rfl) (by kernel_rfl) (by kernel_rfl) (fun _ _ _ h => h) (by rfl) ?_ (by assumption) ?_; rotate_left 1; (focus (intro w hSw; (try dsimp only at hSw); go_simp; (try with_reducible rfl); done))
      (try simp only [Act.put, List.setIfInBounds_toArray, List.set_cons_zero, List.set_cons_succ])
      refine' takeL (v := _) 6 rfl (by kernel_rfl) (by kernel_rfl) (by kernel_rfl) (fun _ _ _ h => h) (by rfl) ?_ (by assumption) ?_; rotate_left 1; (focus (intro w hSw; (try dsimp only at hSw); go_simp; (try with_reducible rfl); done))
      (try simp only [Act.put, List.setIfInBounds_toArray, List.set_cons_zero, List.set_cons_succ])
      refine' takeL (v := _) 7 rfl (by kernel_rfl) (by kernel_rfl) (by kernel_rfl) (fun _ _ _ h => h) (by rfl) ?_ (by assumption) ?_; rotate_left 1; (focus (intro w hSw; (try dsimp only at hSw); go_simp; (try with_reducible rfl); done))
      (try simp only [Act.put, List.setIfInBounds_toArray, List.set_cons_zero, List.set_cons_succ])
      refine' takeL (v := _) 8 rfl (by kernel_rfl) (by kernel_rfl) (by kernel_rfl) (fun _ _ _ h => h) (by rfl) ?_ (by assumption) ?_; rotate_left 1; (focus (intro w hSw; (try dsimp only at hSw); go_simp; (try with_reducible rfl); done))
      (try simp only [Act.put, List.setIfInBounds_toArray, List.set_cons_zero, List.set_cons_succ])
      refine' takeL (v := _) 9 rfl (by kernel_rfl) (by kernel_rfl) (by kernel_rfl) (fun _ _ _ h => h) (by rfl) ?_ (by assumption) ?_; rotate_left 1; (focus (intro w hSw; (try dsimp only at hSw); go_simp; (try with_reducible rfl); done))
      (try simp only [Act.put, List.setIfInBounds_toArray, List.set_cons_zero, List.set_cons_succ])
      refine' takeL (v := _) 10 rfl (by kernel_rfl) (by kernel_rfl) (by kernel_rfl) (fun _ _ _ h => h) (by rfl) ?_ (by assumption) ?_; rotate_left 1; (focus (intro w hSw; (try dsimp only at hSw); go_simp; (try with_reducible rfl); done))
      (try simp only [Act.put, List.setIfInBounds_toArray, List.set_cons_zero, List.set_cons_succ])
      refine' takeL (v := _) 11 rfl (by kernel_rfl) (by kernel_rfl) (by kernel_rfl) (fun _ _ _ h => h) (by rfl) ?_ (by assumption) ?_; rotate_left 1; (focus (intro w hSw; (try dsimp only at hSw); go_simp; (try with_reducible rfl); done))
      (try simp only [Act.put, List.setIfInBounds_toArray, List.set_cons_zero, List.set_cons_succ])
      refine wpAnyH_done (by kernel_rfl) ?_ _
      go_wp2_with fail
      go_ret2
      exact ⟨hb07, by rw [Hr.out]; rfl⟩
    | some b =>
      obtain ⟨eb, fb⟩ := b
      have Hr : Hid (openD cur n = some (eb, fb, 1)) := Lib.hid (by rw [HO.out]; rfl)
      clear HO
      go_enter Tryz.func21, Tryz.ntmps21
      go_upto_region 9 with (first
        | (go_at_call 51; refine hsize.mono ?_; rintro e w1 ⟨rfl, hb1⟩)
        | (go_at_call 52; refine (hread w1 hb1).mono ?_; rintro e w3 ⟨v3, rfl, hown3, hb3⟩)
        | fail)
      obtain ⟨g, cap, rfl, hcells3⟩ := own_cells hown3 (by have := HL.out; omega)
      have hslp3 := hown3.at (by have := HL.out; omega)
      have hcap3 : 512 ≤ cap := by
        obtain ⟨q, c, e, hc, -⟩ := hown3.len
        cases e
        have := HL.out; omega
      rw [HL.out] at hslp3 ⊢
      have hb03 := below_trans hb1 hb3
      have hvA : SlP 1 ByteE w3 (.slice (some ⟨g, 0, none⟩) 256 cap) A := by
        have := slp_take hslp3 256 (by have := HL.out; omega)
        rw [HA.out] at this; exact this
      have hvB : SlP 1 ByteE w3 (.slice (some ⟨g, 256, none⟩) 256 (cap - 256)) B := by
        have := slp_part (k := 256) (m := 256) hslp3 (by have := HL.out; omega)
        rw [HB.out, List.take_of_length_le (by have := HL.out; have := congrArg List.length HB.out; rw [List.length_drop] at this; omega)] at this
        simpa using this
      have HvA := Lib.hid hvA
      have HvB := Lib.hid hvB
      have k1 : (256 : Int) ≤ (cap : Int) := by omega
      have k2 : (512 : Int) ≤ (cap : Int) := by omega
      have k3 : ¬ cap = 256 := by omega
      clear hcells3 hown3 hslp3 hvA hvB hread
      refine wp_region_held_drew (S := (fun _ => True)) (by kernel_rfl) (by trivial) (fun hHeld => ?_)
      refine' takeL (v := _) 0 rfl (by kernel_rfl) (by kernel_rfl) (by kernel_rfl) (fun _ _ _ h => h) (by rfl) ?_ (by assumption) ?_; rotate_left 1; (focus (intro w hSw; (try dsimp only at hSw); go_simp; (try with_reducible rfl); done))
      (try simp only [Act.put, List.setIfInBounds_toArray, List.set_cons_zero, List.set_cons_succ])
      refine' takeL (v := _) 1 rfl (by kernel_rfl) (by kernel_rfl) (by kernel_rfl) (fun _ _ _ h => h) (by rfl) ?_ (by assumption) ?_; rotate_left 1; (focus (intro w hSw; (try dsimp only at hSw); go_simp; (try with_reducible rfl); done))
      (try simp only [Act.put, List.setIfInBounds_toArray, List.set_cons_zero, List.set_cons_succ])
      refine' takeL (v := _) 2 rfl (by kernel_rfl) (by kernel_rfl) (by kernel_rfl) (fun _ _ _ h => h) (by rfl) ?_ (by assumption) ?_; rotate_left 1; (focus (intro w hSw; (try dsimp only at hSw); go_simp; (try with_reducible rfl); done))
      (try simp only [Act.put, List.setIfInBounds_toArray, List.set_cons_zero, List.set_cons_succ])
      refine stepL 3 rfl (by kernel_rfl) (fun K hK => ?_)
      go_simp
      go_at_call 54
      refine (hsect _ hb03.drew).mono ?_
      rintro e w4 ⟨rfl, hb4'⟩
      have hb4 : Below w3.heap.size w3 w4 := below_trans (Below.refl _ _).drew hb4'
      refine hK.out _ _ (by trivial) (fun hHeld => ?_)
      clear hK K
      (try simp only [Act.put, List.setIfInBounds_toArray, List.set_cons_zero, List.set_cons_succ])
      refine stepL 4 rfl (by kernel_rfl) (fun K hK => ?_)
      go_simp
      go_at_call 53
      refine (HpA.out w4 _ (below_trans hb03 hb4) (HvA.out.mono ByteE.mono hb4)).mono ?_
      rintro e w5 ⟨hb5, rfl⟩
      have hb05 := below_trans (below_trans hb03 hb4) hb5
      have hb35 := below_trans hb4 hb5
      refine hK.out _ _ (by trivial) (fun hHeld => ?_)
      clear hK K
      (try simp only [Act.put, List.setIfInBounds_toArray, List.set_cons_zero, List.set_cons_succ])
      refine' takeL (v := _) 5 rfl (by kernel_rfl) (by kernel_rfl) (by kernel_rfl) (fun _ _ _ h => h) (by rfl) ?_ (by assumption) ?_; rotate_left 1; (focus (intro w hSw; (try dsimp only at hSw); go_simp; (try with_reducible rfl); done))
      (try simp only [Act.put, List.setIfInBounds_toArray, List.set_cons_zero, List.set_cons_succ])
      refine' takeL (v := _) 6 rfl (by kernel_rfl) (by kernel_rfl) (by kernel_rfl) (fun _ _ _ h => h) (by rfl) ?_ (by assumption) ?_; rotate_left 1; (focus (intro w hSw; (try dsimp only at hSw); go_simp; (try with_reducible rfl); done))
      (try simp only [Act.put, List.setIfInBounds_toArray, List.set_cons_zero, List.set_cons_succ])
      refine' takeL (v := _) 7 rfl (by kernel_rfl) (by kernel_rfl) (by kernel_rfl) (fun _ _ _ h => h) (by rfl) ?_ (by assumption) ?_; rotate_left 1; (focus (intro w hSw; (try dsimp only at hSw); go_simp; (try with_reducible rfl); done))
      (try simp only [Act.put, List.setIfInBounds_toArray, List.set_cons_zero, List.set_cons_succ])
      refine' takeL (v := _) 8 rfl (by kernel_rfl) (by kernel_rfl) (by kernel_rfl) (fun _ _ _ h => h) (by rfl) ?_ (by assumption) ?_; rotate_left 1; (focus (intro w hSw; (try dsimp only at hSw); go_simp; (try with_reducible rfl); done))
      (try simp only [Act.put, List.setIfInBounds_toArray, List.set_cons_zero, List.set_cons_succ])
      refine' takeL (v := _) 9 rfl (by kernel_rfl) (by kernel_rfl) (by kernel_rfl) (fun _ _ _ h => h) (by rfl) ?_ (by assumption) ?_; rotate_left 1; (focus (intro w hSw; (try dsimp only at hSw); go_simp; (try with_reducible rfl); done))
      (try simp only [Act.put, List.setIfInBounds_toArray, List.set_cons_zero, List.set_cons_succ])
      refine' takeL (v := _) 10 rfl (by kernel_rfl) (by kernel_rfl) (by kernel_rfl) (fun _ _ _ h => h) (by rfl) ?_ (by assumption) ?_; rotate_left 1; (focus (intro w hSw; (try dsimp only at hSw); go_simp; (try with_reducible rfl); done))
      (try simp only [Act.put, List.setIfInBounds_toArray, List.set_cons_zero, List.set_cons_succ])
      refine' takeL (v := _) 11 rfl (by kernel_rfl) (by kernel_rfl) (by kernel_rfl) (fun _ _ _ h => h) (by rfl) ?_ (by assumption) ?_; rotate_left 1; (focus (intro w hSw; (try dsimp only at hSw); go_simp; (try with_reducible rfl); done))
      (try simp only [Act.put, List.setIfInBounds_toArray, List.set_cons_zero, List.set_cons_succ])
      refine wpAnyH_done (by kernel_rfl) ?_ _
      go_upto_region 10 with fail
      refine wp_region_held_drew (S := (fun _ => True)) (by kernel_rfl) (by trivial) (fun hHeld => ?_)
      refine' takeL (v := _) 0 rfl (by kernel_rfl) (by kernel_rfl) (by kernel_rfl) (fun _ _ _ h => h) (by rfl) ?_ (by assumption) ?_; rotate_left 1; (focus (intro w hSw; (try dsimp only at hSw); go_simp; (try with_reducible rfl); done))
      (try simp only [Act.put, List.setIfInBounds_toArray, List.set_cons_zero, List.set_cons_succ])
      refine' takeL (v := _) 1 rfl (by kernel_rfl) (by kernel_rfl) (by kernel_rfl) (fun _ _ _ h => h) (by rfl) ?_ (by assumption) ?_; rotate_left 1; (focus (intro w hSw; (try dsimp only at hSw); go_simp; (try with_reducible rfl); done))
      (try simp only [Act.put, List.setIfInBounds_toArray, List.set_cons_zero, List.set_cons_succ])
      refine' takeL (v := _) 2 rfl (by kernel_rfl) (by kernel_rfl) (by kernel_rfl) (fun _ _ _ h => h) (by rfl) ?_ (by assumption) ?_; rotate_left 1; (focus (intro w hSw; (try dsimp only at hSw); go_simp; (try with_reducible rfl); done))
      (try simp only [Act.put, List.setIfInBounds_toArray, List.set_cons_zero, List.set_cons_succ])
      refine stepL 3 rfl (by kernel_rfl) (fun K hK => ?_)
      go_simp
      go_at_call 54
      refine (hsect _ hb05.drew).mono ?_
      rintro e w6 ⟨rfl, hb6'⟩
      have hb6 : Below w5.heap.size w5 w6 := below_trans (Below.refl _ _).drew hb6'
      refine hK.out _ _ (by trivial) (fun hHeld => ?_)
      clear hK K
      (try simp only [Act.put, List.setIfInBounds_toArray, List.set_cons_zero, List.set_cons_succ])
      refine stepL 4 rfl (by kernel_rfl) (fun K hK => ?_)
      go_simp
      go_at_call 53
      refine (HpB.out w6 _ (below_trans hb05 hb6) (HvB.out.mono ByteE.mono (below_trans hb35 hb6))).mono ?_
      rintro e w7 ⟨hb7, mb, rfl, hfb, hlb⟩
      have hb07 := below_trans (below_trans hb05 hb6) hb7
      have hb57 := below_trans hb6 hb7
      refine hK.out _ _ (by trivial) (fun hHeld => ?_)
      clear hK K
      (try simp only [Act.put, List.setIfInBounds_toArray, List.set_cons_zero, List.set_cons_succ])
      refine' takeL (v := _) 5 rfl (by kernel_rfl) (by kernel_rfl) (by kernel_rfl) (fun _ _ _ h => h) (by rfl) ?_ (by assumption) ?_; rotate_left 1; (focus (intro w hSw; (try dsimp only at hSw); go_simp; (try with_reducible rfl); done))
      (try simp only [Act.put, List.setIfInBounds_toArray, List.set_cons_zero, List.set_cons_succ])
      refine' takeL (v := _) 6 rfl (by kernel_rfl) (by kernel_rfl) (by kernel_rfl) (fun _ _ _ h => h) (by rfl) ?_ (by assumption) ?_; rotate_left 1; (focus (intro w hSw; (try dsimp only at hSw); go_simp; (try with_reducible rfl); done))
      (try simp only [Act.put, List.setIfInBounds_toArray, List.set_cons_zero, List.set_cons_succ])
      refine' takeL (v := _) 7 rfl (by kernel_rfl) (by kernel_rfl) (by kernel_rfl) (fun _ _ _ h => h) (by rfl) ?_ (by assumption) ?_; rotate_left 1; (focus (intro w hSw; (try dsimp only at hSw); go_simp; (try with_reducible rfl); done))
      (try simp only [Act.put, List.setIfInBounds_toArray, List.set_cons_zero, List.set_cons_succ])
      refine' takeL (v := _) 8 rfl (by kernel_rfl) (by kernel_rfl) (by kernel_rfl) (fun _ _ _ h => h) (by rfl) ?_ (by assumption) ?_; rotate_left 1; (focus (intro w hSw; (try dsimp only at hSw); go_simp; (try with_reducible rfl); done))
      (try simp only [Act.put, List.setIfInBounds_toArray, List.set_cons_zero, List.set_cons_succ])
      refine' takeL (v := _) 9 rfl (by kernel_rfl) (by kernel_rfl) (by kernel_rfl) (fun _ _ _ h => h) (by rfl) ?_ (by assumption) ?_; rotate_left 1; (focus (intro w hSw; (try dsimp only at hSw); go_simp; (try with_reducible rfl); done))
      (try simp only [Act.put, List.setIfInBounds_toArray, List.set_cons_zero, List.set_cons_succ])
      refine' takeL (v := _) 10 rfl (by kernel_rfl) (by kernel_rfl) (by kernel_rfl) (fun _ _ _ h => h) (by rfl) ?_ (by assumption) ?_; rotate_left 1; (focus (intro w hSw; (try dsimp only at hSw); go_simp; (try with_reducible rfl); done))
      (try simp only [Act.put, List.setIfInBounds_toArray, List.set_cons_zero, List.set_cons_succ])
      refine' takeL (v := _) 11 rfl (by kernel_rfl) (by kernel_rfl) (by kernel_rfl) (fun _ _ _ h => h) (by rfl) ?_ (by assumption) ?_; rotate_left 1; (focus (intro w hSw; (try dsimp only at hSw); go_simp; (try with_reducible rfl); done))
      (try simp only [Act.put, List.setIfInBounds_toArray, List.set_cons_zero, List.set_cons_succ])
      refine wpAnyH_done (by kernel_rfl) ?_ _
      have hf7 : FilesAt w7 mb fb := hfb
      obtain ⟨es, ck, hmb, hcl⟩ := hf7.clone
      have hcln := clone_any mb es ck w7 hmb
      have hmbl : w.heap.size ≤ mb := (by have := (below_trans hb05 hb6).size; omega)
      go_wp2_with (first | (go_at_call 55; refine hcln.mono ?_; rintro e w8 ⟨rfl, rfl⟩) | fail)
      go_ret2
      have hop := opened (wh := 1) (ep := eb) Hd.out hK hb07 hf7 hmbl hcl rfl
      have hs7 := hb07.size
      refine ⟨hop.2, ?_⟩
      rw [Hr.out]
      exact ⟨w7.heap.size + 1, by simp, by omega, hop.1⟩
  | some a =>
    obtain ⟨ea, fa⟩ := a
    cases rb with
    | none =>
      have Hr : Hid (openD cur n = some (ea, fa, 0)) := Lib.hid (by rw [HO.out]; rfl)
      clear HO
      go_enter Tryz.func21, Tryz.ntmps21
      go_upto_region 9 with (first
        | (go_at_call 51; refine hsize.mono ?_; rintro e w1 ⟨rfl, hb1⟩)
        | (go_at_call 52; refine (hread w1 hb1).mono ?_; rintro e w3 ⟨v3, rfl, hown3, hb3⟩)
        | fail)
      obtain ⟨g, cap, rfl, hcells3⟩ := own_cells hown3 (by have := HL.out; omega)
      have hslp3 := hown3.at (by have := HL.out; omega)
      have hcap3 : 512 ≤ cap := by
        obtain ⟨q, c, e, hc, -⟩ := hown3.len
        cases e
        have := HL.out; omega
      rw [HL.out] at hslp3 ⊢
      have hb03 := below_trans hb1 hb3
      have hvA : SlP 1 ByteE w3 (.slice (some ⟨g, 0, none⟩) 256 cap) A := by
        have := slp_take hslp3 256 (by have := HL.out; omega)
        rw [HA.out] at this; exact this
      have hvB : SlP 1 ByteE w3 (.slice (some ⟨g, 256, none⟩) 256 (cap - 256)) B := by
        have := slp_part (k := 256) (m := 256) hslp3 (by have := HL.out; omega)
        rw [HB.out, List.take_of_length_le (by have := HL.out; have := congrArg List.length HB.out; rw [List.length_drop] at this; omega)] at this
        simpa using this
      have HvA := Lib.hid hvA
      have HvB := Lib.hid hvB
      have k1 : (256 : Int) ≤ (cap : Int) := by omega
      have k2 : (512 : Int) ≤ (cap : Int) := by omega
      have k3 : ¬ cap = 256 := by omega
      clear hcells3 hown3 hslp3 hvA hvB hread
      refine wp_region_held_drew (S := (fun _ => True)) (by kernel_rfl) (by trivial) (fun hHeld => ?_)
      refine' takeL (v := _) 0 rfl (by kernel_rfl) (by kernel_rfl) (by kernel_rfl) (fun _ _ _ h => h) (by rfl) ?_ (by assumption) ?_; rotate_left 1; (focus (intro w hSw; (try dsimp only at hSw); go_simp; (try with_reducible rfl); done))
      (try simp only [Act.put, List.setIfInBounds_toArray, List.set_cons_zero, List.set_cons_succ])
      refine' takeL (v := _) 1 rfl (by kernel_rfl) (by kernel_rfl) (by kernel_rfl) (fun _ _ _ h => h) (by rfl) ?_ (by assumption) ?_; rotate_left 1; (focus (intro w hSw; (try dsimp only at hSw); go_simp; (try with_reducible rfl); done))
      (try simp only [Act.put, List.setIfInBounds_toArray, List.set_cons_zero, List.set_cons_succ])
      refine' takeL (v := _) 2 rfl (by kernel_rfl) (by kernel_rfl) (by kernel_rfl) (fun _ _ _ h => h) (by rfl) ?_ (by assumption) ?_; rotate_left 1; (focus (intro w hSw; (try dsimp only at hSw); go_simp; (try with_reducible rfl); done))
      (try simp only [Act.put, List.setIfInBounds_toArray, List.set_cons_zero, List.set_cons_succ])
      refine stepL 3 rfl (by kernel_rfl) (fun K hK => ?_)
      go_simp
      go_at_call 54
      refine (hsect _ hb03.drew).mono ?_
      rintro e w4 ⟨rfl, hb4'⟩
      have hb4 : Below w3.heap.size w3 w4 := below_trans (Below.refl _ _).drew hb4'
      refine hK.out _ _ (by trivial) (fun hHeld => ?_)
      clear hK K
      (try simp only [Act.put, List.setIfInBounds_toArray, List.set_cons_zero, List.set_cons_succ])
      refine stepL 4 rfl (by kernel_rfl) (fun K hK => ?_)
      go_simp
      go_at_call 53
      refine (HpA.out w4 _ (below_trans hb03 hb4) (HvA.out.mono ByteE.mono hb4)).mono ?_
      rintro e w5 ⟨hb5, ma, rfl, hfa, hla⟩
      have hb05 := below_trans (below_trans hb03 hb4) hb5
      have hb35 := below_trans hb4 hb5
      refine hK.out _ _ (by trivial) (fun hHeld => ?_)
      clear hK K
      (try simp only [Act.put, List.setIfInBounds_toArray, List.set_cons_zero, List.set_cons_succ])
      refine' takeL (v := _) 5 rfl (by kernel_rfl) (by kernel_rfl) (by kernel_rfl) (fun _ _ _ h => h) (by rfl) ?_ (by assumption) ?_; rotate_left 1; (focus (intro w hSw; (try dsimp only at hSw); go_simp; (try with_reducible rfl); done))
      (try simp only [Act.put, List.setIfInBounds_toArray, List.set_cons_zero, List.set_cons_succ])
      refine' takeL (v := _) 6 rfl (by kernel_rfl) (by kernel_rfl) (by kernel_rfl) (fun _ _ _ h => h) (by rfl) ?_ (by assumption) ?_; rotate_left 1; (focus (intro w hSw; (try dsimp only at hSw); go_simp; (try with_reducible rfl); done))
      (try simp only [Act.put, List.setIfInBounds_toArray, List.set_cons_zero, List.set_cons_succ])
      refine' takeL (v := _) 7 rfl (by kernel_rfl) (by kernel_rfl) (by kernel_rfl) (fun _ _ _ h => h) (by rfl) ?_ (by assumption) ?_; rotate_left 1; (focus (intro w hSw; (try dsimp only at hSw); go_simp; (try with_reducible rfl); done))
      (try simp only [Act.put, List.setIfInBounds_toArray, List.set_cons_zero, List.set_cons_succ])
      refine' takeL (v := _) 8 rfl (by kernel_rfl) (by kernel_rfl) (by kernel_rfl) (fun _ _ _ h => h) (by rfl) ?_ (by assumption) ?_; rotate_left 1; (focus (intro w hSw; (try dsimp only at hSw); go_simp; (try with_reducible rfl); done))
      (try simp only [Act.put, List.setIfInBounds_toArray, List.set_cons_zero, List.set_cons_succ])
      refine' takeL (v := _) 9 rfl (by kernel_rfl) (by kernel_rfl) (by kernel_rfl) (fun _ _ _ h => h) (by rfl) ?_ (by assumption) ?_; rotate_left 1; (focus (intro w hSw; (try dsimp only at hSw); go_simp; (try with_reducible rfl); done))
      (try simp only [Act.put, List.setIfInBounds_toArray, List.set_cons_zero, List.set_cons_succ])
      refine' takeL (v := _) 10 rfl (by kernel_rfl) (by kernel_rfl) (by kernel_rfl) (fun _ _ _ h => h) (by rfl) ?_ (by assumption) ?_; rotate_left 1; (focus (intro w hSw; (try dsimp only at hSw); go_simp; (try with_reducible rfl); done))
      (try simp only [Act.put, List.setIfInBounds_toArray, List.set_cons_zero, List.set_cons_succ])
      refine' takeL (v := _) 11 rfl (by kernel_rfl) (by kernel_rfl) (by kernel_rfl) (fun _ _ _ h => h) (by rfl) ?_ (by assumption) ?_; rotate_left 1; (focus (intro w hSw; (try dsimp only at hSw); go_simp; (try with_reducible rfl); done))
      (try simp only [Act.put, List.setIfInBounds_toArray, List.set_cons_zero, List.set_cons_succ])
      refine wpAnyH_done (by kernel_rfl) ?_ _
      go_upto_region 10 with fail
      refine wp_region_held_drew (S := (fun _ => True)) (by kernel_rfl) (by trivial) (fun hHeld => ?_)
      refine' takeL (v := _) 0 rfl (by kernel_rfl) (by kernel_rfl) (by kernel_rfl) (fun _ _ _ h => h) (by rfl) ?_ (by assumption) ?_; rotate_left 1; (focus (intro w hSw; (try dsimp only at hSw); go_simp; (try with_reducible rfl); done))
      (try simp only [Act.put, List.setIfInBounds_toArray, List.set_cons_zero, List.set_cons_succ])
      refine' takeL (v := _) 1 rfl (by kernel_rfl) (by kernel_rfl) (by kernel_rfl) (fun _ _ _ h => h) (by rfl) ?_ (by assumption) ?_; rotate_left 1; (focus (intro w hSw; (try dsimp only at hSw); go_simp; (try with_reducible rfl); done))
      (try simp only [Act.put, List.setIfInBounds_toArray, List.set_cons_zero, List.set_cons_succ])
      refine' takeL (v := _) 2 rfl (by kernel_rfl) (by kernel_rfl) (by kernel_rfl) (fun _ _ _ h => h) (by rfl) ?_ (by assumption) ?_; rotate_left 1; (focus (intro w hSw; (try dsimp only at hSw); go_simp; (try with_reducible rfl); done))
      (try simp only [Act.put, List.setIfInBounds_toArray, List.set_cons_zero, List.set_cons_succ])
      refine stepL 3 rfl (by kernel_rfl) (fun K hK => ?_)
      go_simp
      go_at_call 54
      refine (hsect _ hb05.drew).mono ?_
      rintro e w6 ⟨rfl, hb6'⟩
      have hb6 : Below w5.heap.size w5 w6 := below_trans (Below.refl _ _).drew hb6'
      refine hK.out _ _ (by trivial) (fun hHeld => ?_)
      clear hK K
      (try simp only [Act.put, List.setIfInBounds_toArray, List.set_cons_zero, List.set_cons_succ])
      refine stepL 4 rfl (by kernel_rfl) (fun K hK => ?_)
      go_simp
      go_at_call 53
      refine (HpB.out w6 _ (below_trans hb05 hb6) (HvB.out.mono ByteE.mono (below_trans hb35 hb6))).mono ?_
      rintro e w7 ⟨hb7, rfl⟩
      have hb07 := below_trans (below_trans hb05 hb6) hb7
      have hb57 := below_trans hb6 hb7
      refine hK.out _ _ (by trivial) (fun hHeld => ?_)
      clear hK K
      (try simp only [Act.put, List.setIfInBounds_toArray, List.set_cons_zero, List.set_cons_succ])
      refine' takeL (v := _) 5 rfl (by kernel_rfl) (by kernel_rfl) (by kernel_rfl) (fun _ _ _ h => h) (by rfl) ?_ (by assumption) ?_; rotate_left 1; (focus (intro w hSw; (try dsimp only at hSw); go_simp; (try with_reducible rfl); done))
      (try simp only [Act.put, List.setIfInBounds_toArray, List.set_cons_zero, List.set_cons_succ])
      refine' takeL (v := _) 6 rfl (by kernel_rfl) (by kernel_rfl) (by kernel_rfl) (fun _ _ _ h => h) (by rfl) ?_ (by assumption) ?_; rotate_left 1; (focus (intro w hSw; (try dsimp only at hSw); go_simp; (try with_reducible rfl); done))
      (try simp only [Act.put, List.setIfInBounds_toArray, List.set_cons_zero, List.set_cons_succ])
      refine' takeL (v := _) 7 rfl (by kernel_rfl) (by kernel_rfl) (by kernel_rfl) (fun _ _ _ h => h) (by rfl) ?_ (by assumption) ?_; rotate_left 1; (focus (intro w hSw; (try dsimp only at hSw); go_simp; (try with_reducible rfl); done))
      (try simp only [Act.put, List.setIfInBounds_toArray, List.set_cons_zero, List.set_cons_succ])
      refine' takeL (v := _) 8 rfl (by kernel_rfl) (by kernel_rfl) (by kernel_rfl) (fun _ _ _ h => h) (by rfl) ?_ (by assumption) ?_; rotate_left 1; (focus (intro w hSw; (try dsimp only at hSw); go_simp; (try with_reducible rfl); done))
      (try simp only [Act.put, List.setIfInBounds_toArray, List.set_cons_zero, List.set_cons_succ])
      refine' takeL (v := _) 9 rfl (by kernel_rfl) (by kernel_rfl) (by kernel_rfl) (fun _ _ _ h => h) (by rfl) ?_ (by assumption) ?_; rotate_left 1; (focus (intro w hSw; (try dsimp only at hSw); go_simp; (try with_reducible rfl); done))
      (try simp only [Act.put, List.setIfInBounds_toArray, List.set_cons_zero, List.set_cons_succ])
      refine' takeL (v := _) 10 rfl (by kernel_rfl) (by kernel_rfl) (by kernel_rfl) (fun _ _ _ h => h) (by rfl) ?_ (by assumption) ?_; rotate_left 1; (focus (intro w hSw; (try dsimp only at hSw); go_simp; (try with_reducible rfl); done))
      (try simp only [Act.put, List.setIfInBounds_toArray, List.set_cons_zero, List.set_cons_succ])
      refine' takeL (v := _) 11 rfl (by kernel_rfl) (by kernel_rfl) (by kernel_rfl) (fun _ _ _ h => h) (by rfl) ?_ (by assumption) ?_; rotate_left 1; (focus (intro w hSw; (try dsimp only at hSw); go_simp; (try with_reducible rfl); done))
      (try simp only [Act.put, List.setIfInBounds_toArray, List.set_cons_zero, List.set_cons_succ])
      refine wpAnyH_done (by kernel_rfl) ?_ _
      have hf7 : FilesAt w7 ma fa := (hfa.below hb57)
      obtain ⟨es, ck, hmb, hcl⟩ := hf7.clone
      have hcln := clone_any ma es ck w7 hmb
      have hmbl : w.heap.size ≤ ma := (by have := (below_trans hb03 hb4).size; omega)
      go_wp2_with (first | (go_at_call 55; refine hcln.mono ?_; rintro e w8 ⟨rfl, rfl⟩) | fail)
      go_ret2
      have hop := opened (wh := 0) (ep := ea) Hd.out hK hb07 hf7 hmbl hcl rfl
      have hs7 := hb07.size
      refine ⟨hop.2, ?_⟩
      rw [Hr.out]
      exact ⟨w7.heap.size + 1, by simp, by omega, hop.1⟩
    | some b =>
      obtain ⟨eb, fb⟩ := b
      by_cases h1 : ea = eb
      · subst h1
        have Hr : Hid (openD cur n = none) := Lib.hid (by rw [HO.out]; exact if_pos rfl)
        clear HO
        go_enter Tryz.func21, Tryz.ntmps21
        go_upto_region 9 with (first
          | (go_at_call 51; refine hsize.mono ?_; rintro e w1 ⟨rfl, hb1⟩)
          | (go_at_call 52; refine (hread w1 hb1).mono ?_; rintro e w3 ⟨v3, rfl, hown3, hb3⟩)
          | fail)
        obtain ⟨g, cap, rfl, hcells3⟩ := own_cells hown3 (by have := HL.out; omega)
        have hslp3 := hown3.at (by have := HL.out; omega)
        have hcap3 : 512 ≤ cap := by
          obtain ⟨q, c, e, hc, -⟩ := hown3.len
          cases e
          have := HL.out; omega
        rw [HL.out] at hslp3 ⊢
        have hb03 := below_trans hb1 hb3
        have hvA : SlP 1 ByteE w3 (.slice (some ⟨g, 0, none⟩) 256 cap) A := by
          have := slp_take hslp3 256 (by have := HL.out; omega)
          rw [HA.out] at this; exact this
        have hvB : SlP 1 ByteE w3 (.slice (some ⟨g, 256, none⟩) 256 (cap - 256)) B := by
          have := slp_part (k := 256) (m := 256) hslp3 (by have := HL.out; omega)
          rw [HB.out, List.take_of_length_le (by have := HL.out; have := congrArg List.length HB.out; rw [List.length_drop] at this; omega)] at this
          simpa using this
        have HvA := Lib.hid hvA
        have HvB := Lib.hid hvB
        have k1 : (256 : Int) ≤ (cap : Int) := by omega
        have k2 : (512 : Int) ≤ (cap : Int) := by omega
        have k3 : ¬ cap = 256 := by omega
        clear hcells3 hown3 hslp3 hvA hvB hread
        refine wp_region_held_drew (S := (fun _ => True)) (by kernel_rfl) (by trivial) (fun hHeld => ?_)
        refine' takeL (v := _) 0 rfl (by kernel_rfl) (by kernel_rfl) (by kernel_rfl) (fun _ _ _ h => h) (by rfl) ?_ (by assumption) ?_; rotate_left 1; (focus (intro w hSw; (try dsimp only at hSw); go_simp; (try with_reducible rfl); done))
        (try simp only [Act.put, List.setIfInBounds_toArray, List.set_cons_zero, List.set_cons_succ])
        refine' takeL (v := _) 1 rfl (by kernel_rfl) (by kernel_rfl) (by kernel_rfl) (fun _ _ _ h => h) (by rfl) ?_ (by assumption) ?_; rotate_left 1; (focus (intro w hSw; (try dsimp only at hSw); go_simp; (try with_reducible rfl); done))
        (try simp only [Act.put, List.setIfInBounds_toArray, List.set_cons_zero, List.set_cons_succ])
        refine' takeL (v := _) 2 rfl (by kernel_rfl) (by kernel_rfl) (by kernel_rfl) (fun _ _ _ h => h) (by rfl) ?_ (by assumption) ?_; rotate_left 1; (focus (intro w hSw; (try dsimp only at hSw); go_simp; (try with_reducible rfl); done))
        (try simp only [Act.put, List.setIfInBounds_toArray, List.set_cons_zero, List.set_cons_succ])
        refine stepL 3 rfl (by kernel_rfl) (fun K hK => ?_)
        go_simp
        go_at_call 54
        refine (hsect _ hb03.drew).mono ?_
        rintro e w4 ⟨rfl, hb4'⟩
        have hb4 : Below w3.heap.size w3 w4 := below_trans (Below.refl _ _).drew hb4'
        refine hK.out _ _ (by trivial) (fun hHeld => ?_)
        clear hK K
        (try simp only [Act.put, List.setIfInBounds_toArray, List.set_cons_zero, List.set_cons_succ])
        refine stepL 4 rfl (by kernel_rfl) (fun K hK => ?_)
        go_simp
        go_at_call 53
        refine (HpA.out w4 _ (below_trans hb03 hb4) (HvA.out.mono ByteE.mono hb4)).mono ?_
        rintro e w5 ⟨hb5, ma, rfl, hfa, hla⟩
        have hb05 := below_trans (below_trans hb03 hb4) hb5
        have hb35 := below_trans hb4 hb5
        refine hK.out _ _ (by trivial) (fun hHeld => ?_)
        clear hK K
        (try simp only [Act.put, List.setIfInBounds_toArray, List.set_cons_zero, List.set_cons_succ])
        refine' takeL (v := _) 5 rfl (by kernel_rfl) (by kernel_rfl) (by kernel_rfl) (fun _ _ _ h => h) (by rfl) ?_ (by assumption) ?_; rotate_left 1; (focus (intro w hSw; (try dsimp only at hSw); go_simp; (try with_reducible rfl); done))
        (try simp only [Act.put, List.setIfInBounds_toArray, List.set_cons_zero, List.set_cons_succ])
        refine' takeL (v := _) 6 rfl (by kernel_rfl) (by kernel_rfl) (by kernel_rfl) (fun _ _ _ h => h) (by rfl) ?_ (by assumption) ?_; rotate_left 1; (focus (intro w hSw; (try dsimp only at hSw); go_simp; (try with_reducible rfl); done))
        (try simp only [Act.put, List.setIfInBounds_toArray, List.set_cons_zero, List.set_cons_succ])
        refine' takeL (v := _) 7 rfl (by kernel_rfl) (by kernel_rfl) (by kernel_rfl) (fun _ _ _ h => h) (by rfl) ?_ (by assumption) ?_; rotate_left 1; (focus (intro w hSw; (try dsimp only at hSw); go_simp; (try with_reducible rfl); done))
        (try simp only [Act.put, List.setIfInBounds_toArray, List.set_cons_zero, List.set_cons_succ])
        refine' takeL (v := _) 8 rfl (by kernel_rfl) (by kernel_rfl) (by kernel_rfl) (fun _ _ _ h => h) (by rfl) ?_ (by assumption) ?_; rotate_left 1; (focus (intro w hSw; (try dsimp only at hSw); go_simp; (try with_reducible rfl); done))
        (try simp only [Act.put, List.setIfInBounds_toArray, List.set_cons_zero, List.set_cons_succ])
        refine' takeL (v := _) 9 rfl (by kernel_rfl) (by kernel_rfl) (by kernel_rfl) (fun _ _ _ h => h) (by rfl) ?_ (by assumption) ?_; rotate_left 1; (focus (intro w hSw; (try dsimp only at hSw); go_simp; (try with_reducible rfl); done))
        (try simp only [Act.put, List.setIfInBounds_toArray, List.set_cons_zero, List.set_cons_succ])
        refine' takeL (v := _) 10 rfl (by kernel_rfl) (by kernel_rfl) (by kernel_rfl) (fun _ _ _ h => h) (by rfl) ?_ (by assumption) ?_; rotate_left 1; (focus (intro w hSw; (try dsimp only at hSw); go_simp; (try with_reducible rfl); done))
        (try simp only [Act.put, List.setIfInBounds_toArray, List.set_cons_zero, List.set_cons_succ])
        refine' takeL (v := _) 11 rfl (by kernel_rfl) (by kernel_rfl) (by kernel_rfl) (fun _ _ _ h => h) (by rfl) ?_ (by assumption) ?_; rotate_left 1; (focus (intro w hSw; (try dsimp only at hSw); go_simp; (try with_reducible rfl); done))
        (try simp only [Act.put, List.setIfInBounds_toArray, List.set_cons_zero, List.set_cons_succ])
        refine wpAnyH_done (by kernel_rfl) ?_ _
        go_upto_region 10 with fail
        refine wp_region_held_drew (S := (fun _ => True)) (by kernel_rfl) (by trivial) (fun hHeld => ?_)
        refine' takeL (v := _) 0 rfl (by kernel_rfl) (by kernel_rfl) (by kernel_rfl) (fun _ _ _ h => h) (by rfl) ?_ (by assumption) ?_; rotate_left 1; (focus (intro w hSw; (try dsimp only at hSw); go_simp; (try with_reducible rfl); done))
        (try simp only [Act.put, List.setIfInBounds_toArray, List.set_cons_zero, List.set_cons_succ])
        refine' takeL (v := _) 1 rfl (by kernel_rfl) (by kernel_rfl) (by kernel_rfl) (fun _ _ _ h => h) (by rfl) ?_ (by assumption) ?_; rotate_left 1; (focus (intro w hSw; (try dsimp only at hSw); go_simp; (try with_reducible rfl); done))
        (try simp only [Act.put, List.setIfInBounds_toArray, List.set_cons_zero, List.set_cons_succ])
        refine' takeL (v := _) 2 rfl (by kernel_rfl) (by kernel_rfl) (by kernel_rfl) (fun _ _ _ h => h) (by rfl) ?_ (by assumption) ?_; rotate_left 1; (focus (intro w hSw; (try dsimp only at hSw); go_simp; (try with_reducible rfl); done))
        (try simp only [Act.put, List.setIfInBounds_toArray, List.set_cons_zero, List.set_cons_succ])
        refine stepL 3 rfl (by kernel_rfl) (fun K hK => ?_)
        go_simp
        go_at_call 54
        refine (hsect _ hb05.drew).mono ?_
        rintro e w6 ⟨rfl, hb6'⟩
        have hb6 : Below w5.heap.size w5 w6 := below_trans (Below.refl _ _).drew hb6'
        refine hK.out _ _ (by trivial) (fun hHeld => ?_)
        clear hK K
        (try simp only [Act.put, List.setIfInBounds_toArray, List.set_cons_zero, List.set_cons_succ])
        refine stepL 4 rfl (by kernel_rfl) (fun K hK => ?_)
        go_simp
        go_at_call 53
        refine (HpB.out w6 _ (below_trans hb05 hb6) (HvB.out.mono ByteE.mono (below_trans hb35 hb6))).mono ?_
        rintro e w7 ⟨hb7, mb, rfl, hfb, hlb⟩
        have hb07 := below_trans (below_trans hb05 hb6) hb7
        have hb57 := below_trans hb6 hb7
        refine hK.out _ _ (by trivial) (fun hHeld => ?_)
        clear hK K
        (try simp only [Act.put, List.setIfInBounds_toArray, List.set_cons_zero, List.set_cons_succ])
        refine' takeL (v := _) 5 rfl (by kernel_rfl) (by kernel_rfl) (by kernel_rfl) (fun _ _ _ h => h) (by rfl) ?_ (by assumption) ?_; rotate_left 1; (focus (intro w hSw; (try dsimp only at hSw); go_simp; (try with_reducible rfl); done))
        (try simp only [Act.put, List.setIfInBounds_toArray, List.set_cons_zero, List.set_cons_succ])
        refine' takeL (v := _) 6 rfl (by kernel_rfl) (by kernel_rfl) (by kernel_rfl) (fun _ _ _ h => h) (by rfl) ?_ (by assumption) ?_; rotate_left 1; (focus (intro w hSw; (try dsimp only at hSw); go_simp; (try with_reducible rfl); done))
        (try simp only [Act.put, List.setIfInBounds_toArray, List.set_cons_zero, List.set_cons_succ])
        refine' takeL (v := _) 7 rfl (by kernel_rfl) (by kernel_rfl) (by kernel_rfl) (fun _ _ _ h => h) (by rfl) ?_ (by assumption) ?_; rotate_left 1; (focus (intro w hSw; (try dsimp only at hSw); go_simp; (try with_reducible rfl); done))
        (try simp only [Act.put, List.setIfInBounds_toArray, List.set_cons_zero, List.set_cons_succ])
        refine' takeL (v := _) 8 rfl (by kernel_rfl) (by kernel_rfl) (by kernel_rfl) (fun _ _ _ h => h) (by rfl) ?_ (by assumption) ?_; rotate_left 1; (focus (intro w hSw; (try dsimp only at hSw); go_simp; (try with_reducible rfl); done))
        (try simp only [Act.put, List.setIfInBounds_toArray, List.set_cons_zero, List.set_cons_succ])
        refine' takeL (v := _) 9 rfl (by kernel_rfl) (by kernel_rfl) (by kernel_rfl) (fun _ _ _ h => h) (by rfl) ?_ (by assumption) ?_; rotate_left 1; (focus (intro w hSw; (try dsimp only at hSw); go_simp; (try with_reducible rfl); done))
        (try simp only [Act.put, List.setIfInBounds_toArray, List.set_cons_zero, List.set_cons_succ])
        refine' takeL (v := _) 10 rfl (by kernel_rfl) (by kernel_rfl) (by kernel_rfl) (fun _ _ _ h => h) (by rfl) ?_ (by assumption) ?_; rotate_left 1; (focus (intro w hSw; (try dsimp only at hSw); go_simp; (try with_reducible rfl); done))
        (try simp only [Act.put, List.setIfInBounds_toArray, List.set_cons_zero, List.set_cons_succ])
        refine' takeL (v := _) 11 rfl (by kernel_rfl) (by kernel_rfl) (by kernel_rfl) (fun _ _ _ h => h) (by rfl) ?_ (by assumption) ?_; rotate_left 1; (focus (intro w hSw; (try dsimp only at hSw); go_simp; (try with_reducible rfl); done))
        (try simp only [Act.put, List.setIfInBounds_toArray, List.set_cons_zero, List.set_cons_succ])
        refine wpAnyH_done (by kernel_rfl) ?_ _
        go_wp2_with fail
        go_ret2
        exact ⟨hb07, by rw [Hr.out]; rfl⟩
      · have h1' : ¬ (ea : Int) = (eb : Int) := by omega
        by_cases h2 : (ea : Int) < (eb : Int)
        · have Hr : Hid (openD cur n = some (eb, fb, 1)) := Lib.hid (by rw [HO.out]; exact (if_neg h1).trans (if_pos (by dsimp only; omega)))
          clear HO
          go_enter Tryz.func21, Tryz.ntmps21
          go_upto_region 9 with (first
            | (go_at_call 51; refine hsize.mono ?_; rintro e w1 ⟨rfl, hb1⟩)
            | (go_at_call 52; refine (hread w1 hb1).mono ?_; rintro e w3 ⟨v3, rfl, hown3, hb3⟩)
            | fail)
          obtain ⟨g, cap, rfl, hcells3⟩ := own_cells hown3 (by have := HL.out; omega)
          have hslp3 := hown3.at (by have := HL.out; omega)
          have hcap3 : 512 ≤ cap := by
            obtain ⟨q, c, e, hc, -⟩ := hown3.len
            cases e
            have := HL.out; omega
          rw [HL.out] at hslp3 ⊢
          have hb03 := below_trans hb1 hb3
          have hvA : SlP 1 ByteE w3 (.slice (some ⟨g, 0, none⟩) 256 cap) A := by
            have := slp_take hslp3 256 (by have := HL.out; omega)
            rw [HA.out] at this; exact this
          have hvB : SlP 1 ByteE w3 (.slice (some ⟨g, 256, none⟩) 256 (cap - 256)) B := by
            have := slp_part (k := 256) (m := 256) hslp3 (by have := HL.out; omega)
            rw [HB.out, List.take_of_length_le (by have := HL.out; have := congrArg List.length HB.out; rw [List.length_drop] at this; omega)] at this
            simpa using this
          have HvA := Lib.hid hvA
          have HvB := Lib.hid hvB
          have k1 : (256 : Int) ≤ (cap : Int) := by omega
          have k2 : (512 : Int) ≤ (cap : Int) := by omega
          have k3 : ¬ cap = 256 := by omega
          clear hcells3 hown3 hslp3 hvA hvB hread
          refine wp_region_held_drew (S := (fun _ => True)) (by kernel_rfl) (by trivial) (fun hHeld => ?_)
          refine' takeL (v := _) 0 rfl (by kernel_rfl) (by kernel_rfl) (by kernel_rfl) (fun _ _ _ h => h) (by rfl) ?_ (by assumption) ?_; rotate_left 1; (focus (intro w hSw; (try dsimp only at hSw); go_simp; (try with_reducible rfl); done))
          (try simp only [Act.put, List.setIfInBounds_toArray, List.set_cons_zero, List.set_cons_succ])
          refine' takeL (v := _) 1 rfl (by kernel_rfl) (by kernel_rfl) (by kernel_rfl) (fun _ _ _ h => h) (by rfl) ?_ (by assumption) ?_; rotate_left 1; (focus (intro w hSw; (try dsimp only at hSw); go_simp; (try with_reducible rfl); done))
          (try simp only [Act.put, List.setIfInBounds_toArray, List.set_cons_zero, List.set_cons_succ])
          refine' takeL (v := _) 2 rfl (by kernel_rfl) (by kernel_rfl) (by kernel_rfl) (fun _ _ _ h => h) (by rfl) ?_ (by assumption) ?_; rotate_left 1; (focus (intro w hSw; (try dsimp only at hSw); go_simp; (try with_reducible rfl); done))
          (try simp only [Act.put, List.setIfInBounds_toArray, List.set_cons_zero, List.set_cons_succ])
          refine stepL 3 rfl (by kernel_rfl) (fun K hK => ?_)
          go_simp
          go_at_call 54
          refine (hsect _ hb03.drew).mono ?_
          rintro e w4 ⟨rfl, hb4'⟩
          have hb4 : Below w3.heap.size w3 w4 := below_trans (Below.refl _ _).drew hb4'
          refine hK.out _ _ (by trivial) (fun hHeld => ?_)
          clear hK K
          (try simp only [Act.put, List.setIfInBounds_toArray, List.set_cons_zero, List.set_cons_succ])
          refine stepL 4 rfl (by kernel_rfl) (fun K hK => ?_)
          go_simp
          go_at_call 53
          refine (HpA.out w4 _ (below_trans hb03 hb4) (HvA.out.mono ByteE.mono hb4)).mono ?_
          rintro e w5 ⟨hb5, ma, rfl, hfa, hla⟩
          have hb05 := below_trans (below_trans hb03 hb4) hb5
          have hb35 := below_trans hb4 hb5
          refine hK.out _ _ (by trivial) (fun hHeld => ?_)
          clear hK K
          (try simp only [Act.put, List.setIfInBounds_toArray, List.set_cons_zero, List.set_cons_succ])
          refine' takeL (v := _) 5 rfl (by kernel_rfl) (by kernel_rfl) (by kernel_rfl) (fun _ _ _ h => h) (by rfl) ?_ (by assumption) ?_; rotate_left 1; (focus (intro w hSw; (try dsimp only at hSw); go_simp; (try with_reducible rfl); done))
          (try simp only [Act.put, List.setIfInBounds_toArray, List.set_cons_zero, List.set_cons_succ])
          refine' takeL (v := _) 6 rfl (by kernel_rfl) (by kernel_rfl) (by kernel_rfl) (fun _ _ _ h => h) (by rfl) ?_ (by assumption) ?_; rotate_left 1; (focus (intro w hSw; (try dsimp only at hSw); go_simp; (try with_reducible rfl); done))
          (try simp only [Act.put, List.setIfInBounds_toArray, List.set_cons_zero, List.set_cons_succ])
          refine' takeL (v := _) 7 rfl (by kernel_rfl) (by kernel_rfl) (by kernel_rfl) (fun _ _ _ h => h) (by rfl) ?_ (by assumption) ?_; rotate_left 1; (focus (intro w hSw; (try dsimp only at hSw); go_simp; (try with_reducible rfl); done))
          (try simp only [Act.put, List.setIfInBounds_toArray, List.set_cons_zero, List.set_cons_succ])
          refine' takeL (v := _) 8 rfl (by kernel_rfl) (by kernel_rfl) (by kernel_rfl) (fun _ _ _ h => h) (by rfl) ?_ (by assumption) ?_; rotate_left 1; (focus (intro w hSw; (try dsimp only at hSw); go_simp; (try with_reducible rfl); done))
          (try simp only [Act.put, List.setIfInBounds_toArray, List.set_cons_zero, List.set_cons_succ])
          refine' takeL (v := _) 9 rfl (by kernel_rfl) (by kernel_rfl) (by kernel_rfl) (fun _ _ _ h => h) (by rfl) ?_ (by assumption) ?_; rotate_left 1; (focus (intro w hSw; (try dsimp only at hSw); go_simp; (try with_reducible rfl); done))
          (try simp only [Act.put, List.setIfInBounds_toArray, List.set_cons_zero, List.set_cons_succ])
          refine' takeL (v := _) 10 rfl (by kernel_rfl) (by kernel_rfl) (by kernel_rfl) (fun _ _ _ h => h) (by rfl) ?_ (by assumption) ?_; rotate_left 1; (focus (intro w hSw; (try dsimp only at hSw); go_simp; (try with_reducible rfl); done))
          (try simp only [Act.put, List.setIfInBounds_toArray, List.set_cons_zero, List.set_cons_succ])
          refine' takeL (v := _) 11 rfl (by kernel_rfl) (by kernel_rfl) (by kernel_rfl) (fun _ _ _ h => h) (by rfl) ?_ (by assumption) ?_; rotate_left 1; (focus (intro w hSw; (try dsimp only at hSw); go_simp; (try with_reducible rfl); done))
          (try simp only [Act.put, List.setIfInBounds_toArray, List.set_cons_zero, List.set_cons_succ])
          refine wpAnyH_done (by kernel_rfl) ?_ _
          go_upto_region 10 with fail
          refine wp_region_held_drew (S := (fun _ => True)) (by kernel_rfl) (by trivial) (fun hHeld => ?_)
          refine' takeL (v := _) 0 rfl (by kernel_rfl) (by kernel_rfl) (by kernel_rfl) (fun _ _ _ h => h) (by rfl) ?_ (by assumption) ?_; rotate_left 1; (focus (intro w hSw; (try dsimp only at hSw); go_simp; (try with_reducible rfl); done))
          (try simp only [Act.put, List.setIfInBounds_toArray, List.set_cons_zero, List.set_cons_succ])
          refine' takeL (v := _) 1 rfl (by kernel_rfl) (by kernel_rfl) (by kernel_rfl) (fun _ _ _ h => h) (by rfl) ?_ (by assumption) ?_; rotate_left 1; (focus (intro w hSw; (try dsimp only at hSw); go_simp; (try with_reducible rfl); done))
          (try simp only [Act.put, List.setIfInBounds_toArray, List.set_cons_zero, List.set_cons_succ])
          refine' takeL (v := _) 2 rfl (by kernel_rfl) (by kernel_rfl) (by kernel_rfl) (fun _ _ _ h => h) (by rfl) ?_ (by assumption) ?_; rotate_left 1; (focus (intro w hSw; (try dsimp only at hSw); go_simp; (try with_reducible rfl); done))
          (try simp only [Act.put, List.setIfInBounds_toArray, List.set_cons_zero, List.set_cons_succ])
          refine stepL 3 rfl (by kernel_rfl) (fun K hK => ?_)
          go_simp
          go_at_call 54
          refine (hsect _ hb05.drew).mono ?_
          rintro e w6 ⟨rfl, hb6'⟩
          have hb6 : Below w5.heap.size w5 w6 := below_trans (Below.refl _ _).drew hb6'
          refine hK.out _ _ (by trivial) (fun hHeld => ?_)
          clear hK K
          (try simp only [Act.put, List.setIfInBounds_toArray, List.set_cons_zero, List.set_cons_succ])
          refine stepL 4 rfl (by kernel_rfl) (fun K hK => ?_)
          go_simp
          go_at_call 53
          refine (HpB.out w6 _ (below_trans hb05 hb6) (HvB.out.mono ByteE.mono (below_trans hb35 hb6))).mono ?_
          rintro e w7 ⟨hb7, mb, rfl, hfb, hlb⟩
          have hb07 := below_trans (below_trans hb05 hb6) hb7
          have hb57 := below_trans hb6 hb7
          refine hK.out _ _ (by trivial) (fun hHeld => ?_)
          clear hK K
          (try simp only [Act.put, List.setIfInBounds_toArray, List.set_cons_zero, List.set_cons_succ])
          refine' takeL (v := _) 5 rfl (by kernel_rfl) (by kernel_rfl) (by kernel_rfl) (fun _ _ _ h => h) (by rfl) ?_ (by assumption) ?_; rotate_left 1; (focus (intro w hSw; (try dsimp only at hSw); go_simp; (try with_reducible rfl); done))
          (try simp only [Act.put, List.setIfInBounds_toArray, List.set_cons_zero, List.set_cons_succ])
          refine' takeL (v := _) 6 rfl (by kernel_rfl) (by kernel_rfl) (by kernel_rfl) (fun _ _ _ h => h) (by rfl) ?_ (by assumption) ?_; rotate_left 1; (focus (intro w hSw; (try dsimp only at hSw); go_simp; (try with_reducible rfl); done))
          (try simp only [Act.put, List.setIfInBounds_toArray, List.set_cons_zero, List.set_cons_succ])
          refine' takeL (v := _) 7 rfl (by kernel_rfl) (by kernel_rfl) (by kernel_rfl) (fun _ _ _ h => h) (by rfl) ?_ (by assumption) ?_; rotate_left 1; (focus (intro w hSw; (try dsimp only at hSw); go_simp; (try with_reducible rfl); done))
          (try simp only [Act.put, List.setIfInBounds_toArray, List.set_cons_zero, List.set_cons_succ])
          refine' takeL (v := _) 8 rfl (by kernel_rfl) (by kernel_rfl) (by kernel_rfl) (fun _ _ _ h => h) (by rfl) ?_ (by assumption) ?_; rotate_left 1; (focus (intro w hSw; (try dsimp only at hSw); go_simp; (try with_reducible rfl); done))
          (try simp only [Act.put, List.setIfInBounds_toArray, List.set_cons_zero, List.set_cons_succ])
          refine' takeL (v := _) 9 rfl (by kernel_rfl) (by kernel_rfl) (by kernel_rfl) (fun _ _ _ h => h) (by rfl) ?_ (by assumption) ?_; rotate_left 1; (focus (intro w hSw; (try dsimp only at hSw); go_simp; (try with_reducible rfl); done))
          (try simp only [Act.put, List.setIfInBounds_toArray, List.set_cons_zero, List.set_cons_succ])
          refine' takeL (v := _) 10 rfl (by kernel_rfl) (by kernel_rfl) (by kernel_rfl) (fun _ _ _ h => h) (by rfl) ?_ (by assumption) ?_; rotate_left 1; (focus (intro w hSw; (try dsimp only at hSw); go_simp; (try with_reducible rfl); done))
          (try simp only [Act.put, List.setIfInBounds_toArray, List.set_cons_zero, List.set_cons_succ])
          refine' takeL (v := _) 11 rfl (by kernel_rfl) (by kernel_rfl) (by kernel_rfl) (fun _ _ _ h => h) (by rfl) ?_ (by assumption) ?_; rotate_left 1; (focus (intro w hSw; (try dsimp only at hSw); go_simp; (try with_reducible rfl); done))
          (try simp only [Act.put, List.setIfInBounds_toArray, List.set_cons_zero, List.set_cons_succ])
          refine wpAnyH_done (by kernel_rfl) ?_ _
          have hf7 : FilesAt w7 mb fb := hfb
          obtain ⟨es, ck, hmb, hcl⟩ := hf7.clone
          have hcln := clone_any mb es ck w7 hmb
          have hmbl : w.heap.size ≤ mb := (by have := (below_trans hb05 hb6).size; omega)
          go_wp2_with (first | (go_at_call 55; refine hcln.mono ?_; rintro e w8 ⟨rfl, rfl⟩) | fail)
          go_ret2
          have hop := opened (wh := 1) (ep := eb) Hd.out hK hb07 hf7 hmbl hcl rfl
          have hs7 := hb07.size
          refine ⟨hop.2, ?_⟩
          rw [Hr.out]
          exact ⟨w7.heap.size + 1, by simp, by omega, hop.1⟩
        · have Hr : Hid (openD cur n = some (ea, fa, 0)) := Lib.hid (by rw [HO.out]; exact (if_neg h1).trans (if_neg (by dsimp only; omega)))
          clear HO
          go_enter Tryz.func21, Tryz.ntmps21
          go_upto_region 9 with (first
            | (go_at_call 51; refine hsize.mono ?_; rintro e w1 ⟨rfl, hb1⟩)
            | (go_at_call 52; refine (hread w1 hb1).mono ?_; rintro e w3 ⟨v3, rfl, hown3, hb3⟩)
            | fail)
          obtain ⟨g, cap, rfl, hcells3⟩ := own_cells hown3 (by have := HL.out; omega)
          have hslp3 := hown3.at (by have := HL.out; omega)
          have hcap3 : 512 ≤ cap := by
            obtain ⟨q, c, e, hc, -⟩ := hown3.len
            cases e
            have := HL.out; omega
          rw [HL.out] at hslp3 ⊢
          have hb03 := below_trans hb1 hb3
          have hvA : SlP 1 ByteE w3 (.slice (some ⟨g, 0, none⟩) 256 cap) A := by
            have := slp_take hslp3 256 (by have := HL.out; omega)
            rw [HA.out] at this; exact this
          have hvB : SlP 1 ByteE w3 (.slice (some ⟨g, 256, none⟩) 256 (cap - 256)) B := by
            have := slp_part (k := 256) (m := 256) hslp3 (by have := HL.out; omega)
            rw [HB.out, List.take_of_length_le (by have := HL.out; have := congrArg List.length HB.out; rw [List.length_drop] at this; omega)] at this
            simpa using this
          have HvA := Lib.hid hvA
          have HvB := Lib.hid hvB
          have k1 : (256 : Int) ≤ (cap : Int) := by omega
          have k2 : (512 : Int) ≤ (cap : Int) := by omega
          have k3 : ¬ cap = 256 := by omega
          clear hcells3 hown3 hslp3 hvA hvB hread
          refine wp_region_held_drew (S := (fun _ => True)) (by kernel_rfl) (by trivial) (fun hHeld => ?_)
          refine' takeL (v := _) 0 rfl (by kernel_rfl) (by kernel_rfl) (by kernel_rfl) (fun _ _ _ h => h) (by rfl) ?_ (by assumption) ?_; rotate_left 1; (focus (intro w hSw; (try dsimp only at hSw); go_simp; (try with_reducible rfl); done))
          (try simp only [Act.put, List.setIfInBounds_toArray, List.set_cons_zero, List.set_cons_succ])
          refine' takeL (v := _) 1 rfl (by kernel_rfl) (by kernel_rfl) (by kernel_rfl) (fun _ _ _ h => h) (by rfl) ?_ (by assumption) ?_; rotate_left 1; (focus (intro w hSw; (try dsimp only at hSw); go_simp; (try with_reducible rfl); done))
          (try simp only [Act.put, List.setIfInBounds_toArray, List.set_cons_zero, List.set_cons_succ])
          refine' takeL (v := _) 2 rfl (by kernel_rfl) (by kernel_rfl) (by kernel_rfl) (fun _ _ _ h => h) (by rfl) ?_ (by assumption) ?_; rotate_left 1; (focus (intro w hSw; (try dsimp only at hSw); go_simp; (try with_reducible rfl); done))
          (try simp only [Act.put, List.setIfInBounds_toArray, List.set_cons_zero, List.set_cons_succ])
          refine stepL 3 rfl (by kernel_rfl) (fun K hK => ?_)
          go_simp
          go_at_call 54
          refine (hsect _ hb03.drew).mono ?_
          rintro e w4 ⟨rfl, hb4'⟩
          have hb4 : Below w3.heap.size w3 w4 := below_trans (Below.refl _ _).drew hb4'
          refine hK.out _ _ (by trivial) (fun hHeld => ?_)
          clear hK K
          (try simp only [Act.put, List.setIfInBounds_toArray, List.set_cons_zero, List.set_cons_succ])
          refine stepL 4 rfl (by kernel_rfl) (fun K hK => ?_)
          go_simp
          go_at_call 53
          refine (HpA.out w4 _ (below_trans hb03 hb4) (HvA.out.mono ByteE.mono hb4)).mono ?_
          rintro e w5 ⟨hb5, ma, rfl, hfa, hla⟩
          have hb05 := below_trans (below_trans hb03 hb4) hb5
          have hb35 := below_trans hb4 hb5
          refine hK.out _ _ (by trivial) (fun hHeld => ?_)
          clear hK K
          (try simp only [Act.put, List.setIfInBounds_toArray, List.set_cons_zero, List.set_cons_succ])
          refine' takeL (v := _) 5 rfl (by kernel_rfl) (by kernel_rfl) (by kernel_rfl) (fun _ _ _ h => h) (by rfl) ?_ (by assumption) ?_; rotate_left 1; (focus (intro w hSw; (try dsimp only at hSw); go_simp; (try with_reducible rfl); done))
          (try simp only [Act.put, List.setIfInBounds_toArray, List.set_cons_zero, List.set_cons_succ])
          refine' takeL (v := _) 6 rfl (by kernel_rfl) (by kernel_rfl) (by kernel_rfl) (fun _ _ _ h => h) (by rfl) ?_ (by assumption) ?_; rotate_left 1; (focus (intro w hSw; (try dsimp only at hSw); go_simp; (try with_reducible rfl); done))
          (try simp only [Act.put, List.setIfInBounds_toArray, List.set_cons_zero, List.set_cons_succ])
          refine' takeL (v := _) 7 rfl (by kernel_rfl) (by kernel_rfl) (by kernel_rfl) (fun _ _ _ h => h) (by rfl) ?_ (by assumption) ?_; rotate_left 1; (focus (intro w hSw; (try dsimp only at hSw); go_simp; (try with_reducible rfl); done))
          (try simp only [Act.put, List.setIfInBounds_toArray, List.set_cons_zero, List.set_cons_succ])
          refine' takeL (v := _) 8 rfl (by kernel_rfl) (by kernel_rfl) (by kernel_rfl) (fun _ _ _ h => h) (by rfl) ?_ (by assumption) ?_; rotate_left 1; (focus (intro w hSw; (try dsimp only at hSw); go_simp; (try with_reducible rfl); done))
          (try simp only [Act.put, List.setIfInBounds_toArray, List.set_cons_zero, List.set_cons_succ])
          refine' takeL (v := _) 9 rfl (by kernel_rfl) (by kernel_rfl) (by kernel_rfl) (fun _ _ _ h => h) (by rfl) ?_ (by assumption) ?_; rotate_left 1; (focus (intro w hSw; (try dsimp only at hSw); go_simp; (try with_reducible rfl); done))
          (try simp only [Act.put, List.setIfInBounds_toArray, List.set_cons_zero, List.set_cons_succ])
          refine' takeL (v := _) 10 rfl (by kernel_rfl) (by kernel_rfl) (by kernel_rfl) (fun _ _ _ h => h) (by rfl) ?_ (by assumption) ?_; rotate_left 1; (focus (intro w hSw; (try dsimp only at hSw); go_simp; (try with_reducible rfl); done))
          (try simp only [Act.put, List.setIfInBounds_toArray, List.set_cons_zero, List.set_cons_succ])
          refine' takeL (v := _) 11 rfl (by kernel_rfl) (by kernel_rfl) (by kernel_rfl) (fun _ _ _ h => h) (by rfl) ?_ (by assumption) ?_; rotate_left 1; (focus (intro w hSw; (try dsimp only at hSw); go_simp; (try with_reducible rfl); done))
          (try simp only [Act.put, List.setIfInBounds_toArray, List.set_cons_zero, List.set_cons_succ])
          refine wpAnyH_done (by kernel_rfl) ?_ _
          go_upto_region 10 with fail
          refine wp_region_held_drew (S := (fun _ => True)) (by kernel_rfl) (by trivial) (fun hHeld => ?_)
          refine' takeL (v := _) 0 rfl (by kernel_rfl) (by kernel_rfl) (by kernel_rfl) (fun _ _ _ h => h) (by rfl) ?_ (by assumption) ?_; rotate_left 1; (focus (intro w hSw; (try dsimp only at hSw); go_simp; (try with_reducible rfl); done))
          (try simp only [Act.put, List.setIfInBounds_toArray, List.set_cons_zero, List.set_cons_succ])
          refine' takeL (v := _) 1 rfl (by kernel_rfl) (by kernel_rfl) (by kernel_rfl) (fun _ _ _ h => h) (by rfl) ?_ (by assumption) ?_; rotate_left 1; (focus (intro w hSw; (try dsimp only at hSw); go_simp; (try with_reducible rfl); done))
          (try simp only [Act.put, List.setIfInBounds_toArray, List.set_cons_zero, List.set_cons_succ])
          refine' takeL (v := _) 2 rfl (by kernel_rfl) (by kernel_rfl) (by kernel_rfl) (fun _ _ _ h => h) (by rfl) ?_ (by assumption) ?_; rotate_left 1; (focus (intro w hSw; (try dsimp only at hSw); go_simp; (try with_reducible rfl); done))
          (try simp only [Act.put, List.setIfInBounds_toArray, List.set_cons_zero, List.set_cons_succ])
          refine stepL 3 rfl (by kernel_rfl) (fun K hK => ?_)
          go_simp
          go_at_call 54
          refine (hsect _ hb05.drew).mono ?_
          rintro e w6 ⟨rfl, hb6'⟩
          have hb6 : Below w5.heap.size w5 w6 := below_trans (Below.refl _ _).drew hb6'
          refine hK.out _ _ (by trivial) (fun hHeld => ?_)
          clear hK K
          (try simp only [Act.put, List.setIfInBounds_toArray, List.set_cons_zero, List.set_cons_succ])
          refine stepL 4 rfl (by kernel_rfl) (fun K hK => ?_)
          go_simp
          go_at_call 53
          refine (HpB.out w6 _ (below_trans hb05 hb6) (HvB.out.mono ByteE.mono (below_trans hb35 hb6))).mono ?_
          rintro e w7 ⟨hb7, mb, rfl, hfb, hlb⟩
          have hb07 := below_trans (below_trans hb05 hb6) hb7
          have hb57 := below_trans hb6 hb7
          refine hK.out _ _ (by trivial) (fun hHeld => ?_)
          clear hK K
          (try simp only [Act.put, List.setIfInBounds_toArray, List.set_cons_zero, List.set_cons_succ])
          refine' takeL (v := _) 5 rfl (by kernel_rfl) (by kernel_rfl) (by kernel_rfl) (fun _ _ _ h => h) (by rfl) ?_ (by assumption) ?_; rotate_left 1; (focus (intro w hSw; (try dsimp only at hSw); go_simp; (try with_reducible rfl); done))
          (try simp only [Act.put, List.setIfInBounds_toArray, List.set_cons_zero, List.set_cons_succ])
          refine' takeL (v := _) 6 rfl (by kernel_rfl) (by kernel_rfl) (by kernel_rfl) (fun _ _ _ h => h) (by rfl) ?_ (by assumption) ?_; rotate_left 1; (focus (intro w hSw; (try dsimp only at hSw); go_simp; (try with_reducible rfl); done))
          (try simp only [Act.put, List.setIfInBounds_toArray, List.set_cons_zero, List.set_cons_succ])
          refine' takeL (v := _) 7 rfl (by kernel_rfl) (by kernel_rfl) (by kernel_rfl) (fun _ _ _ h => h) (by rfl) ?_ (by assumption) ?_; rotate_left 1; (focus (intro w hSw; (try dsimp only at hSw); go_simp; (try with_reducible rfl); done))
          (try simp only [Act.put, List.setIfInBounds_toArray, List.set_cons_zero, List.set_cons_succ])
          refine' takeL (v := _) 8 rfl (by kernel_rfl) (by kernel_rfl) (by kernel_rfl) (fun _ _ _ h => h) (by rfl) ?_ (by assumption) ?_; rotate_left 1; (focus (intro w hSw; (try dsimp only at hSw); go_simp; (try with_reducible rfl); done))
          (try simp only [Act.put, List.setIfInBounds_toArray, List.set_cons_zero, List.set_cons_succ])
          refine' takeL (v := _) 9 rfl (by kernel_rfl) (by kernel_rfl) (by kernel_rfl) (fun _ _ _ h => h) (by rfl) ?_ (by assumption) ?_; rotate_left 1; (focus (intro w hSw; (try dsimp only at hSw); go_simp; (try with_reducible rfl); done))
          (try simp only [Act.put, List.setIfInBounds_toArray, List.set_cons_zero, List.set_cons_succ])
          refine' takeL (v := _) 10 rfl (by kernel_rfl) (by kernel_rfl) (by kernel_rfl) (fun _ _ _ h => h) (by rfl) ?_ (by assumption) ?_; rotate_left 1; (focus (intro w hSw; (try dsimp only at hSw); go_simp; (try with_reducible rfl); done))
          (try simp only [Act.put, List.setIfInBounds_toArray, List.set_cons_zero, List.set_cons_succ])
          refine' takeL (v := _) 11 rfl (by kernel_rfl) (by kernel_rfl) (by kernel_rfl) (fun _ _ _ h => h) (by rfl) ?_ (by assumption) ?_; rotate_left 1; (focus (intro w hSw; (try dsimp only at hSw); go_simp; (try with_reducible rfl); done))
          (try simp only [Act.put, List.setIfInBounds_toArray, List.set_cons_zero, List.set_cons_succ])
          refine wpAnyH_done (by kernel_rfl) ?_ _
          have hf7 : FilesAt w7 ma fa := (hfa.below hb57)
          obtain ⟨es, ck, hmb, hcl⟩ := hf7.clone
          have hcln := clone_any ma es ck w7 hmb
          have hmbl : w.heap.size ≤ ma := (by have := (below_trans hb03 hb4).size; omega)
          go_wp2_with (first | (go_at_call 55; refine hcln.mono ?_; rintro e w8 ⟨rfl, rfl⟩) | fail)
          go_ret2
          have hop := opened (wh := 0) (ep := ea) Hd.out hK hb07 hf7 hmbl hcl rfl
          have hs7 := hb07.size
          refine ⟨hop.2, ?_⟩
          rw [Hr.out]
          exact ⟨w7.heap.size + 1, by simp, by omega, hop.1⟩

end Go.Proofs.YtlhefifejcoecaaGreatDoor

namespace Go.Proofs.YtlhefifejcoecaaGreatDoor
open Go.RowKit Go.Proofs Go.Shelf

theorem splice_take {b x : List UInt8} {a m : Nat} (h1 : m ≤ a) (h2 : a ≤ b.length) : (splice b a x).take m = b.take m := by
  unfold splice
  rw [List.append_assoc, List.take_append_of_le_length (by rw [List.length_take]; omega), List.take_take, Nat.min_eq_left h1]

def pairS (which : Nat) (a b : List UInt8) : List UInt8 := if which = 0 then a ++ b else b ++ a

structure DOK (n : Nat) (safe cur : List UInt8) (now saved : Files) (epoch which : Nat) : Prop where
  gnow : GoodF now n
  gsaved : GoodF saved n
  lens : safe.length = 32 * n ∧ cur.length = 32 * n
  sz : 24 ≤ n ∧ n ≤ 4096
  wh : which ≤ 1
  ep : 1 ≤ epoch
  lists : ∃ old, GoodF old n ∧ cur.take 512 = pairS which (listS epoch saved) (listS (epoch - 1) old)
  same : safe.take 512 = cur.take 512

theorem GoodF.nil (n : Nat) : GoodF [] n := ⟨by simp, by simp, (fun x h => by cases h), by simp⟩

theorem GoodF.sub {m m' : Files} {n : Nat} (h : GoodF m n) (hs : m'.Sublist m) : GoodF m' n :=
  ⟨Nat.le_trans hs.length_le h.few, h.nodup.sublist (hs.map _), fun x hx => h.each x (hs.mem hx), h.apart.sublist (hs.map _)⟩

theorem fdel_sub (m : Files) (k : ByteArray) : (fdel m k).Sublist m := by
  unfold fdel
  cases fidx m k with
  | none => exact List.Sublist.refl _
  | some j => exact List.eraseIdx_sublist _ _

theorem meets_iff (a b : Nat × Nat) : meetsS a b = true ↔ a.1 < b.1 + b.2 ∧ b.1 < a.1 + a.2 := by
  unfold meetsS; simp

theorem free_apart {x : Nat × Nat} {b c : Nat} (hx : 1 ≤ x.2) (hc : 1 ≤ c) (h : ∀ i, b ≤ i → i < b + c → meetsS (i, 1) x = false) : meetsS x (b, c) = false := by
  cases hm : meetsS x (b, c) with
  | false => rfl
  | true =>
    rw [meets_iff] at hm
    dsimp only at hm
    rcases Nat.le_total b x.1 with h1 | h1
    · have h2 := h x.1 h1 (by omega)
      have h3 : meetsS (x.1, 1) x = true := by rw [meets_iff]; dsimp only; omega
      rw [h2] at h3; cases h3
    · have h2 := h b (Nat.le_refl _) (by omega)
      have h3 : meetsS (b, 1) x = true := by rw [meets_iff]; dsimp only; omega
      rw [h2] at h3; cases h3

/-- Room that was found is nobody's. -/
theorem place_free {now saved : Files} {n : Nat} {c : Int} {b cn : Nat} (h : PlaceS now saved n c (some b)) (hc : c = (cn : Int)) (h1 : 1 ≤ cn) : (∀ x ∈ now, 1 ≤ x.2.2 → meetsS x.2 (b, cn) = false) ∧ ∀ x ∈ saved, 1 ≤ x.2.2 → meetsS x.2 (b, cn) = false := by
  obtain ⟨-, -, h2, -⟩ := h
  have hi : ∀ i, b ≤ i → i < b + cn → anyMeets (i, 1) now = false ∧ anyMeets (i, 1) saved = false := fun i h3 h4 => by
    have := h2 i h3 (by omega)
    unfold tk takenS at this
    simpa using this
  refine ⟨fun x hx h5 => free_apart h5 h1 fun i h3 h4 => ?_, fun x hx h5 => free_apart h5 h1 fun i h3 h4 => ?_⟩
  · have := (hi i h3 h4).1
    unfold anyMeets at this
    rw [List.any_eq_false] at this
    simpa using this x hx
  · have := (hi i h3 h4).2
    unfold anyMeets at this
    rw [List.any_eq_false] at this
    simpa using this x hx

theorem GoodF.make {now saved : Files} {n : Nat} {s : ByteArray} {c : Int} {e : Nat × Nat} (h : GoodF now n) (hm : MakeS now saved n s c (some e)) : GoodF (now ++ [(s, e)]) n := by
  obtain ⟨h1, h2, h3, h4, h5, h6⟩ := hm
  have hfree := (place_free (cn := e.2) h6 h4 h5).1
  obtain ⟨h7, h8, -, -⟩ := h6
  refine ⟨by simp; omega, ?_, fun x hx => ?_, ?_⟩
  · rw [List.map_append, List.nodup_append]
    refine ⟨h.nodup, by simp, fun a ha b hb => ?_⟩
    simp only [List.map_cons, List.map_nil, List.mem_cons, List.not_mem_nil, or_false] at hb
    subst hb
    obtain ⟨x, hx, rfl⟩ := List.mem_map.1 ha
    exact fget_none h2 x hx
  · rcases List.mem_append.1 hx with hx | hx
    · exact h.each x hx
    · simp only [List.mem_cons, List.not_mem_nil, or_false] at hx
      subst hx
      exact ⟨h1, h7, h5, by dsimp only; omega⟩
  · rw [List.map_append, List.pairwise_append]
    refine ⟨h.apart, by simp, fun a ha b hb => ?_⟩
    simp only [List.map_cons, List.map_nil, List.mem_cons, List.not_mem_nil, or_false] at hb
    subst hb
    obtain ⟨x, hx, rfl⟩ := List.mem_map.1 ha
    exact hfree x hx (h.each x hx).2.2.1

theorem GoodF.in_ {m : Files} {n : Nat} (h : GoodF m n) : ∀ x ∈ m, x.2.1 + x.2.2 ≤ n := fun x hx => (h.each x hx).2.2.2

section
variable {n : Nat} {safe cur : List UInt8} {now saved : Files} {epoch which : Nat}

theorem DOK.make (h : DOK n safe cur now saved epoch which) {s : ByteArray} {c : Int} {r : Option (Nat × Nat)} (hm : MakeS now saved n s c r) : DOK n safe (makeCur cur r) (makeNow now s r) saved epoch which := by
  cases r with
  | none => exact h
  | some e =>
    have hg := h.gnow.make hm
    obtain ⟨-, -, -, h4, h5, h6, h7, -, -⟩ := hm
    obtain ⟨l1, l2⟩ := h.lens
    have hl : 32 * e.1 + (zerosB (32 * e.2)).length ≤ cur.length := by simp [zerosB]; omega
    have ht : (makeCur cur (some e)).take 512 = cur.take 512 := splice_take (by omega) (by omega)
    exact ⟨hg, h.gsaved, ⟨l1, by show (splice _ _ _).length = _; rw [splice_len hl]; exact l2⟩, h.sz, h.wh, h.ep, by rw [ht]; exact h.lists, by rw [ht]; exact h.same⟩

theorem DOK.remove (h : DOK n safe cur now saved epoch which) (s : ByteArray) : DOK n safe cur (if (fget now s).isSome = true then fdel now s else now) saved epoch which := by
  split
  · exact ⟨h.gnow.sub (fdel_sub _ _), h.gsaved, h.lens, h.sz, h.wh, h.ep, h.lists, h.same⟩
  · exact h

theorem wrS_ge {m : Files} (hg : GoodF m n) {s : ByteArray} {a c : Int} {q : Nat} (h : wrS m s a c = some q) : 512 ≤ q := by
  unfold wrS at h
  cases hf : fget m s with
  | none => rw [hf] at h; cases h
  | some e =>
    rw [hf] at h
    dsimp only at h
    obtain ⟨x, hx, -, rfl⟩ := fget_some hf
    have := (hg.each x hx).2.1
    split at h
    · simp only [Option.some.injEq] at h; omega
    · cases h

theorem DOK.write (h : DOK n safe cur now saved epoch which) (s : ByteArray) (a : Int) (bs : List UInt8) : DOK n safe (wrCur cur (wrS now s a bs.length) bs) now saved epoch which := by
  cases hw : wrS now s a bs.length with
  | none => exact h
  | some q =>
    obtain ⟨l1, l2⟩ := h.lens
    have h1 := wrS_ge h.gnow hw
    have h2 := (wrS_in h.gnow.in_ hw).1
    have ht : (wrCur cur (some q) bs).take 512 = cur.take 512 := splice_take h1 (by omega)
    exact ⟨h.gnow, h.gsaved, ⟨l1, by show (splice _ _ _).length = _; rw [splice_len (by omega)]; exact l2⟩, h.sz, h.wh, h.ep, by rw [ht]; exact h.lists, by rw [ht]; exact h.same⟩

theorem DOK.sync (h : DOK n safe cur now saved epoch which) : DOK n cur cur now saved epoch which := ⟨h.gnow, h.gsaved, ⟨h.lens.2, h.lens.2⟩, h.sz, h.wh, h.ep, h.lists, rfl⟩
theorem DOK.lost (h : DOK n safe cur now saved epoch which) : DOK n safe safe now saved epoch which := ⟨h.gnow, h.gsaved, ⟨h.lens.1, h.lens.1⟩, h.sz, h.wh, h.ep, by rw [h.same]; exact h.lists, rfl⟩

theorem DOK.fits (h : DOK n safe cur now saved epoch which) (he : epoch ≤ 1000000000000) : Fits (epoch + 1) now := h.gnow.fits (by have := h.sz; omega) (by omega)

theorem take_parts {l a b : List UInt8} (h : l.take 512 = a ++ b) (ha : a.length = 256) (_hb : b.length = 256) : l.take 256 = a ∧ (l.drop 256).take 256 = b := by
  refine ⟨?_, ?_⟩
  · have := congrArg (List.take 256) h
    rw [List.take_take, List.take_left' ha] at this
    exact this
  · have := congrArg (List.drop 256) h
    rw [List.drop_take, List.drop_left' ha] at this
    exact this

theorem DOK.save (h : DOK n safe cur now saved epoch which) (he : epoch ≤ 1000000000000) : DOK n (saveS cur which epoch now) (saveS cur which epoch now) now now (epoch + 1) (1 - which) := by
  obtain ⟨l1, l2⟩ := h.lens
  have hf := listS_len (h.fits he)
  obtain ⟨old, hold, hl⟩ := h.lists
  have hsz := h.sz
  have hwh := h.wh
  have f1 := listS_len (h.gsaved.fits (epoch := epoch) (by omega) (by omega))
  have f2 := listS_len (hold.fits (epoch := epoch - 1) (by omega) (by omega))
  have hlen : (saveS cur which epoch now).length = 32 * n := by
    unfold saveS
    rw [splice_len (by rw [hf]; omega)]; exact l2
  refine ⟨h.gnow, h.gnow, ⟨hlen, hlen⟩, h.sz, by omega, by omega, ⟨saved, h.gsaved, ?_⟩, rfl⟩
  rw [Nat.add_sub_cancel]
  unfold saveS pairS
  rcases (by omega : which = 0 ∨ which = 1) with rfl | rfl
  · have hl' : cur.take 512 = listS epoch saved ++ listS (epoch - 1) old := hl
    have h1 := (take_parts hl' f1 f2).1
    rw [if_neg (by decide)]
    unfold splice
    rw [show 256 * (1 - 0) = 256 from rfl, h1, List.take_left' (by rw [List.length_append, f1, hf])]
  · have hl' : cur.take 512 = listS (epoch - 1) old ++ listS epoch saved := hl
    have h1 := (take_parts hl' f2 f1).2
    rw [if_pos rfl]
    unfold splice
    rw [show 256 * (1 - 1) = 0 from rfl, List.take_zero, List.nil_append, hf, List.take_append, hf, List.take_of_length_le (by rw [hf]; omega), show 0 + 256 = 256 from rfl, show 512 - 256 = 256 from rfl, h1]

theorem DOK.opens (h : DOK n safe cur now saved epoch which) (he : epoch ≤ 1000000000000) : openD cur n = some (epoch, sortF saved, which) := by
  obtain ⟨old, hold, hl⟩ := h.lists
  have hsz := h.sz
  have hwh := h.wh
  have hep := h.ep
  have f1 := listS_len (h.gsaved.fits (epoch := epoch) (by omega) (by omega))
  have f2 := listS_len (hold.fits (epoch := epoch - 1) (by omega) (by omega))
  have p1 := parse_list h.gsaved (epoch := epoch) (by omega) (by omega)
  have p2 := parse_list hold (epoch := epoch - 1) (by omega) (by omega)
  unfold openD
  rcases (by omega : which = 0 ∨ which = 1) with rfl | rfl
  · have hl' : cur.take 512 = listS epoch saved ++ listS (epoch - 1) old := hl
    obtain ⟨h1, h2⟩ := take_parts hl' f1 f2
    rw [h1, h2, p1, p2]
    unfold pick2
    dsimp only
    rw [if_neg (by omega), if_neg (by omega)]
  · have hl' : cur.take 512 = listS (epoch - 1) old ++ listS epoch saved := hl
    obtain ⟨h1, h2⟩ := take_parts hl' f2 f1
    rw [h1, h2, p1, p2]
    unfold pick2
    dsimp only
    rw [if_neg (by omega), if_pos (by omega)]

theorem DOK.format (hn : 24 ≤ n) (hn2 : n ≤ 4096) (c : List UInt8) (hc : c.length = 32 * n) : DOK n (formS c) (formS c) [] [] 1 0 := by
  have f1 := listS_len ((GoodF.nil n).fits (epoch := 1) (by omega) (by omega))
  have f0 := listS_len ((GoodF.nil n).fits (epoch := 0) (by omega) (by omega))
  have l1 : (splice c 0 (listS 1 [])).length = 32 * n := by rw [splice_len (by rw [f1]; omega)]; exact hc
  have l2 : (formS c).length = 32 * n := by unfold formS; rw [splice_len (by rw [f0, l1]; omega)]; exact l1
  refine ⟨GoodF.nil n, GoodF.nil n, ⟨l2, l2⟩, ⟨hn, hn2⟩, by omega, by omega, ⟨[], GoodF.nil n, ?_⟩, rfl⟩
  show (formS c).take 512 = listS 1 [] ++ listS 0 []
  have h1 : (splice c 0 (listS 1 [])).take 256 = listS 1 [] := by
    unfold splice
    rw [List.take_zero, List.nil_append, List.take_left' f1]
  unfold formS
  rw [show splice (splice c 0 (listS 1 [])) 256 (listS 0 []) = (splice c 0 (listS 1 [])).take 256 ++ listS 0 [] ++ (splice c 0 (listS 1 [])).drop (256 + (listS 0 []).length) from rfl, h1, List.take_left' (by rw [List.length_append, f1, f0])]

end
end Go.Proofs.YtlhefifejcoecaaGreatDoor
