/- The directory: Open. -/
import Derived.Test.YtnpnchociegmpaaDoorDirU
namespace Go.Proofs.YtnpnchociegmpaaDoor
open Go.RowKit Go.Proofs Go.Shelf
attribute [local go_sem ↓] Go.wp_at_zero Go.wp_at_succ

/-- Which list is the last one: its epoch, its files, its place. -/
def pick2 : Option (Nat × Files) → Option (Nat × Files) → Option (Nat × Files × Nat)
  | none, none => none
  | some a, none => some (a.1, a.2, 0)
  | none, some b => some (b.1, b.2, 1)
  | some a, some b => if a.1 = b.1 then none else if a.1 < b.1 then some (b.1, b.2, 1) else some (a.1, a.2, 0)

def openD (cur : List UInt8) (n : Nat) : Option (Nat × Files × Nat) := pick2 (parseS (cur.take 256) n) (parseS ((cur.drop 256).take 256) n)

def OpenDOut (K : Nat → Prop) (D n : Nat) (safe cur : List UInt8) (w : World) (e : Ending) (w' : World) : Prop := Below w.heap.size w w' ∧
  match openD cur n with
  | none => e = .returned (.tuple #[.pointer none, .int .i64 4])
  | some r => ∃ X, e = .returned (.tuple #[.pointer (some ⟨X, 0, none⟩), .int .i64 0]) ∧ w.heap.size ≤ X ∧ DirAt w' K X D n safe cur false r.2.1 r.2.1 r.1 r.2.2

theorem opened {w w1 w2 : World} {K : Nat → Prop} {D n : Nat} {safe cur : List UInt8} {f : Files} {mb ep wh : Nat} (hd : DiskAt w K D n safe cur false) (hK : ∀ k, K k → k < w.heap.size) (hb1 : Below w.heap.size w w1) (hf : FilesAt w1 mb f) (hmb : w.heap.size ≤ mb)
    {es : Array MapEntry} {ck : Nat} (hfc : FilesAt (w1.alloc (.map es ck)) w1.heap.size f)
    (hw2 : w2 = (w1.alloc (.map es ck)).alloc (.cells #[.pointer (some ⟨D, 0, none⟩), .map (some w1.heap.size), .map (some mb), .int .i64 ep, .int .i64 wh] 55)) :
    DirAt w2 K (w1.heap.size + 1) D n safe cur false f f ep wh ∧ Below w.heap.size w w2 := by
  have hb2 : Below w1.heap.size w1 w2 := by rw [hw2]; exact below_alloc (below_new _ _) _
  have hbw := below_trans hb1 hb2
  have hs := hb1.size
  have hX : w2.heap[w1.heap.size + 1]? = some (.cells #[.pointer (some ⟨D, 0, none⟩), .map (some w1.heap.size), .map (some mb), .int .i64 ep, .int .i64 wh] 55 (0, 0)) := by
    rw [hw2]
    have := heap_alloc_new (w1.alloc (.map es ck)) (.cells #[.pointer (some ⟨D, 0, none⟩), .map (some w1.heap.size), .map (some mb), .int .i64 ep, .int .i64 wh] 55)
    simpa [World.size_alloc] using this
  have hl := hf.map.lt
  refine ⟨⟨w1.heap.size, mb, hX, by rw [hw2]; exact hfc.below (below_new _ _), hf.below hb2, (hd.more (fun k hk h2 => ?_)).below hbw, ⟨fun h => ?_, fun h => ?_, fun h => ?_⟩, by omega⟩, hbw⟩
  · rcases h2 with h2 | h2 | h2 | h2
    · exact h2
    all_goals omega
  · have := hK _ h; omega
  · have := hK _ h; omega
  · have := hK _ h; omega

set_option maxRecDepth 100000 in
set_option maxHeartbeats 2000000 in
theorem opend_any (w : World) (K : Nat → Prop) (D n : Nat) (safe cur : List UInt8) (h : DiskAt w K D n safe cur false) (hK : ∀ k, K k → k < w.heap.size) (hN : Nib w) (hn : 16 ≤ n) : Calls Tryd.prog 18 #[.pointer (some ⟨D, 0, none⟩)] w (OpenDOut K D n safe cur w) := by
  obtain ⟨sz, hsz⟩ : ∃ sz, sz = 32 * n := ⟨_, rfl⟩
  have hsize := size_any w K D n safe cur false h
  have hsect := fun W (hb : Below w.heap.size w W) => sectors_any W K D n safe cur false (h.below hb)
  have hln := h.lens
  have hread := fun W (hb : Below w.heap.size w W) => read_any W K D n safe cur (h.below hb) 0 512 (by omega)
  rw [← hsz] at hsize
  have n1 : ¬ (sz : Int) = 0 := by omega
  have Hd := Lib.hid h
  have hA : ((cur.drop 0).take 512).take 256 = cur.take 256 := by rw [List.drop_zero, List.take_take]; rfl
  have hB : ((cur.drop 0).take 512).drop 256 = (cur.drop 256).take 256 := by rw [List.drop_zero, List.drop_take]
  have hL : ((cur.drop 0).take 512).length = 512 := by rw [List.drop_zero, List.length_take]; omega
  have hlA : (cur.take 256).length = 256 := by rw [List.length_take]; omega
  have hlB : ((cur.drop 256).take 256).length = 256 := by rw [List.length_take, List.length_drop]; omega
  have hpA := fun W v (hb : Below w.heap.size w W) (hv : SlP 1 ByteE W v (cur.take 256)) => parse_any v _ n W hv (hN.below hb) (by omega) (by omega)
  have hpB := fun W v (hb : Below w.heap.size w W) (hv : SlP 1 ByteE W v ((cur.drop 256).take 256)) => parse_any v _ n W hv (hN.below hb) (by omega) (by omega)
  have hO : openD cur n = pick2 (parseS (cur.take 256) n) (parseS ((cur.drop 256).take 256) n) := rfl
  unfold ParseOut at hpA hpB
  generalize parseS (cur.take 256) n = ra at *
  generalize parseS ((cur.drop 256).take 256) n = rb at *
  have HpA := Lib.hid hpA
  have HpB := Lib.hid hpB
  have HO := Lib.hid hO
  clear h hsz hpA hpB hO hlA hlB
  unfold ReadOut at hread
  generalize hAe : cur.take 256 = A at *
  generalize hBe : (cur.drop 256).take 256 = B at *
  generalize (cur.drop 0).take 512 = F at *
  clear hAe hBe
  have HA := Lib.hid hA
  have HB := Lib.hid hB
  have HL := Lib.hid hL
  clear hA hB hL
  cases ra with
  | none =>
    cases rb with
    | none =>
      have Hr : Hid (openD cur n = none) := Lib.hid (by rw [HO.out]; rfl)
      clear HO
      go_enter Tryd.func18, Tryd.ntmps18
      go_upto_region 9 with (first
        | (go_at_call 27; refine hsize.mono ?_; rintro e w1 ⟨rfl, hb1⟩)
        | (go_at_call 45; refine (hread w1 hb1).mono ?_; rintro e w3 ⟨v3, rfl, hown3, hb3⟩)
        | fail)
      obtain ⟨g, cap, rfl, hcells3⟩ := own_cells hown3 (by have := HL.out; omega)
      have hslp3 := hown3.at (by have := HL.out; omega)
      have hcap3 : 512 ≤ cap := by
        obtain ⟨q, c, e, hc, -⟩ := hown3.len
        cases e
        have := HL.out; omega
      rw [HL.out] at hslp3 ⊢
      have hb03 := below_trans hb1 hb3
      have hvA : SlP 1 ByteE w3 (.slice (some ⟨g, 0, none⟩) 256 cap) A := by
        have := slp_take hslp3 256 (by have := HL.out; omega)
        rw [HA.out] at this; exact this
      have hvB : SlP 1 ByteE w3 (.slice (some ⟨g, 256, none⟩) 256 (cap - 256)) B := by
        have := slp_part (k := 256) (m := 256) hslp3 (by have := HL.out; omega)
        rw [HB.out, List.take_of_length_le (by have := HL.out; have := congrArg List.length HB.out; rw [List.length_drop] at this; omega)] at this
        simpa using this
      have HvA := Lib.hid hvA
      have HvB := Lib.hid hvB
      have k1 : (256 : Int) ≤ (cap : Int) := by omega
      have k2 : (512 : Int) ≤ (cap : Int) := by omega
      have k3 : ¬ cap = 256 := by omega
      clear hcells3 hown3 hslp3 hvA hvB hread
      refine wp_region_held_drew (S := (fun _ => True)) (by kernel_rfl) (by trivial) (fun hHeld => ?_)
      refine' takeL (v := _) 0 rfl (by kernel_rfl) (by kernel_rfl) (by kernel_rfl) (fun _ _ _ h => h) (by rfl) ?_ (by assumption) ?_; rotate_left 1; (focus (intro w hSw; (try dsimp only at hSw); go_simp; (try with_reducible rfl); done))
      (try simp only [Act.put, List.setIfInBounds_toArray, List.set_cons_zero, List.set_cons_succ])
      refine' takeL (v := _) 1 rfl (by kernel_rfl) (by kernel_rfl) (by kernel_rfl) (fun _ _ _ h => h) (by rfl) ?_ (by assumption) ?_; rotate_left 1; (focus (intro w hSw; (try dsimp only at hSw); go_simp; (try with_reducible rfl); done))
      (try simp only [Act.put, List.setIfInBounds_toArray, List.set_cons_zero, List.set_cons_succ])
      refine' takeL (v := _) 2 rfl (by kernel_rfl) (by kernel_rfl) (by kernel_rfl) (fun _ _ _ h => h) (by rfl) ?_ (by assumption) ?_; rotate_left 1; (focus (intro w hSw; (try dsimp only at hSw); go_simp; (try with_reducible rfl); done))
      (try simp only [Act.put, List.setIfInBounds_toArray, List.set_cons_zero, List.set_cons_succ])
      refine stepL 3 rfl (by kernel_rfl) (fun K hK => ?_)
      go_simp
      go_at_call 28
      refine (hsect _ hb03.drew).mono ?_
      rintro e w4 ⟨rfl, hb4'⟩
      have hb4 : Below w3.heap.size w3 w4 := below_trans (Below.refl _ _).drew hb4'
      refine hK.out _ _ (by trivial) (fun hHeld => ?_)
      clear hK K
      (try simp only [Act.put, List.setIfInBounds_toArray, List.set_cons_zero, List.set_cons_succ])
      refine stepL 4 rfl (by kernel_rfl) (fun K hK => ?_)
      go_simp
      go_at_call 46
      refine (HpA.out w4 _ (below_trans hb03 hb4) (HvA.out.mono ByteE.mono hb4)).mono ?_
      rintro e w5 ⟨hb5, rfl⟩
      have hb05 := below_trans (below_trans hb03 hb4) hb5
      have hb35 := below_trans hb4 hb5
      refine hK.out _ _ (by trivial) (fun hHeld => ?_)
      clear hK K
      (try simp only [Act.put, List.setIfInBounds_toArray, List.set_cons_zero, List.set_cons_succ])
      refine' takeL (v := _) 5 rfl (by kernel_rfl) (by kernel_rfl) (by kernel_rfl) (fun _ _ _ h => h) (by rfl) ?_ (by assumption) ?_; rotate_left 1; (focus (intro w hSw; (try dsimp only at hSw); go_simp; (try with_reducible rfl); done))
      (try simp only [Act.put, List.setIfInBounds_toArray, List.set_cons_zero, List.set_cons_succ])
      refine' takeL (v := _) 6 rfl (by kernel_rfl) (by kernel_rfl) (by kernel_rfl) (fun _ _ _ h => h) (by rfl) ?_ (by assumption) ?_; rotate_left 1; (focus (intro w hSw; (try dsimp only at hSw); go_simp; (try with_reducible rfl); done))
      (try simp only [Act.put, List.setIfInBounds_toArray, List.set_cons_zero, List.set_cons_succ])
      refine' takeL (v := _) 7 rfl (by kernel_rfl) (by kernel_rfl) (by kernel_rfl) (fun _ _ _ h => h) (by rfl) ?_ (by assumption) ?_; rotate_left 1; (focus (intro w hSw; (try dsimp only at hSw); go_simp; (try with_reducible rfl); done))
      (try simp only [Act.put, List.setIfInBounds_toArray, List.set_cons_zero, List.set_cons_succ])
      refine' takeL (v := _) 8 rfl (by kernel_rfl) (by kernel_rfl) (by kernel_rfl) (fun _ _ _ h => h) (by rfl) ?_ (by assumption) ?_; rotate_left 1; (focus (intro w hSw; (try dsimp only at hSw); go_simp; (try with_reducible rfl); done))
      (try simp only [Act.put, List.setIfInBounds_toArray, List.set_cons_zero, List.set_cons_succ])
      refine' takeL (v := _) 9 rfl (by kernel_rfl) (by kernel_rfl) (by kernel_rfl) (fun _ _ _ h => h) (by rfl) ?_ (by assumption) ?_; rotate_left 1; (focus (intro w hSw; (try dsimp only at hSw); go_simp; (try with_reducible rfl); done))
      (try simp only [Act.put, List.setIfInBounds_toArray, List.set_cons_zero, List.set_cons_succ])
      refine' takeL (v := _) 10 rfl (by kernel_rfl) (by kernel_rfl) (by kernel_rfl) (fun _ _ _ h => h) (by rfl) ?_ (by assumption) ?_; rotate_left 1; (focus (intro w hSw; (try dsimp only at hSw); go_simp; (try with_reducible rfl); done))
      (try simp only [Act.put, List.setIfInBounds_toArray, List.set_cons_zero, List.set_cons_succ])
      refine' takeL (v := _) 11 rfl (by kernel_rfl) (by kernel_rfl) (by kernel_rfl) (fun _ _ _ h => h) (by rfl) ?_ (by assumption) ?_; rotate_left 1; (focus (intro w hSw; (try dsimp only at hSw); go_simp; (try with_reducible rfl); done))
      (try simp only [Act.put, List.setIfInBounds_toArray, List.set_cons_zero, List.set_cons_succ])
      refine wpAnyH_done (by kernel_rfl) ?_ _
      go_upto_region 10 with fail
      refine wp_region_held_drew (S := (fun _ => True)) (by kernel_rfl) (by trivial) (fun hHeld => ?_)
      refine' takeL (v := _) 0 rfl (by kernel_rfl) (by kernel_rfl) (by kernel_rfl) (fun _ _ _ h => h) (by rfl) ?_ (by assumption) ?_; rotate_left 1; (focus (intro w hSw; (try dsimp only at hSw); go_simp; (try with_reducible rfl); done))
      (try simp only [Act.put, List.setIfInBounds_toArray, List.set_cons_zero, List.set_cons_succ])
      refine' takeL (v := _) 1 rfl (by kernel_rfl) (by kernel_rfl) (by kernel_rfl) (fun _ _ _ h => h) (by rfl) ?_ (by assumption) ?_; rotate_left 1; (focus (intro w hSw; (try dsimp only at hSw); go_simp; (try with_reducible rfl); done))
      (try simp only [Act.put, List.setIfInBounds_toArray, List.set_cons_zero, List.set_cons_succ])
      refine' takeL (v := _) 2 rfl (by kernel_rfl) (by kernel_rfl) (by kernel_rfl) (fun _ _ _ h => h) (by rfl) ?_ (by assumption) ?_; rotate_left 1; (focus (intro w hSw; (try dsimp only at hSw); go_simp; (try with_reducible rfl); done))
      (try simp only [Act.put, List.setIfInBounds_toArray, List.set_cons_zero, List.set_cons_succ])
      refine stepL 3 rfl (by kernel_rfl) (fun K hK => ?_)
      go_simp
      go_at_call 28
      refine (hsect _ hb05.drew).mono ?_
      rintro e w6 ⟨rfl, hb6'⟩
      have hb6 : Below w5.heap.size w5 w6 := below_trans (Below.refl _ _).drew hb6'
      refine hK.out _ _ (by trivial) (fun hHeld => ?_)
      clear hK K
      (try simp only [Act.put, List.setIfInBounds_toArray, List.set_cons_zero, List.set_cons_succ])
      refine stepL 4 rfl (by kernel_rfl) (fun K hK => ?_)
      go_simp
      go_at_call 46
      refine (HpB.out w6 _ (below_trans hb05 hb6) (HvB.out.mono ByteE.mono (below_trans hb35 hb6))).mono ?_
      rintro e w7 ⟨hb7, rfl⟩
      have hb07 := below_trans (below_trans hb05 hb6) hb7
      have hb57 := below_trans hb6 hb7
      refine hK.out _ _ (by trivial) (fun hHeld => ?_)
      clear hK K
      (try simp only [Act.put, List.setIfInBounds_toArray, List.set_cons_zero, List.set_cons_succ])
      refine' takeL (v := _) 5 rfl (by kernel_rfl) (by kernel_rfl) (by kernel_rfl) (fun _ _ _ h => h) (by rfl) ?_ (by assumption) ?_; rotate_left 1; (focus (intro w hSw; (try dsimp only at hSw); go_simp; (try with_reducible rfl); done))
      (try simp only [Act.put, List.setIfInBounds_toArray, List.set_cons_zero, List.set_cons_succ])
      refine' takeL (v := _) 6 rfl (by kernel_rfl) (by kernel_rfl) (by kernel_rfl) (fun _ _ _ h => h) (by rfl) ?_ (by assumption) ?_; rotate_left 1; (focus (intro w hSw; (try dsimp only at hSw); go_simp; (try with_reducible rfl); done))
      (try simp only [Act.put, List.setIfInBounds_toArray, List.set_cons_zero, List.set_cons_succ])
      refine' takeL (v := _) 7 rfl (by kernel_rfl) (by kernel_rfl) (by kernel_rfl) (fun _ _ _ h => h) (by rfl) ?_ (by assumption) ?_; rotate_left 1; (focus (intro w hSw; (try dsimp only at hSw); go_simp; (try with_reducible rfl); done))
      (try simp only [Act.put, List.setIfInBounds_toArray, List.set_cons_zero, List.set_cons_succ])
      refine' takeL (v := _) 8 rfl (by kernel_rfl) (by kernel_rfl) (by kernel_rfl) (fun _ _ _ h => h) (by rfl) ?_ (by assumption) ?_; rotate_left 1; (focus (intro w hSw; (try dsimp only at hSw); go_simp; (try with_reducible rfl); done))
      (try simp only [Act.put, List.setIfInBounds_toArray, List.set_cons_zero, List.set_cons_succ])
      refine' takeL (v := _) 9 rfl (by kernel_rfl) (by kernel_rfl) (by kernel_rfl) (fun _ _ _ h => h) (by rfl) ?_ (by assumption) ?_; rotate_left 1; (focus (intro w hSw; (try dsimp only at hSw); go_simp; (try with_reducible rfl); done))
      (try simp only [Act.put, List.setIfInBounds_toArray, List.set_cons_zero, List.set_cons_succ])
      refine' takeL (v := _) 10 rfl (by kernel_rfl) (by kernel_rfl) (by kernel_rfl) (fun _ _ _ h => h) (by rfl) ?_ (by assumption) ?_; rotate_left 1; (focus (intro w hSw; (try dsimp only at hSw); go_simp; (try with_reducible rfl); done))
      (try simp only [Act.put, List.setIfInBounds_toArray, List.set_cons_zero, List.set_cons_succ])
      refine' takeL (v := _) 11 rfl (by kernel_rfl) (by kernel_rfl) (by kernel_rfl) (fun _ _ _ h => h) (by rfl) ?_ (by assumption) ?_; rotate_left 1; (focus (intro w hSw; (try dsimp only at hSw); go_simp; (try with_reducible rfl); done))
      (try simp only [Act.put, List.setIfInBounds_toArray, List.set_cons_zero, List.set_cons_succ])
      refine wpAnyH_done (by kernel_rfl) ?_ _
      go_wp2_with fail
      go_ret2
      exact ⟨hb07, by rw [Hr.out]; rfl⟩
    | some b =>
      obtain ⟨eb, fb⟩ := b
      have Hr : Hid (openD cur n = some (eb, fb, 1)) := Lib.hid (by rw [HO.out]; rfl)
      clear HO
      go_enter Tryd.func18, Tryd.ntmps18
      go_upto_region 9 with (first
        | (go_at_call 27; refine hsize.mono ?_; rintro e w1 ⟨rfl, hb1⟩)
        | (go_at_call 45; refine (hread w1 hb1).mono ?_; rintro e w3 ⟨v3, rfl, hown3, hb3⟩)
        | fail)
      obtain ⟨g, cap, rfl, hcells3⟩ := own_cells hown3 (by have := HL.out; omega)
      have hslp3 := hown3.at (by have := HL.out; omega)
      have hcap3 : 512 ≤ cap := by
        obtain ⟨q, c, e, hc, -⟩ := hown3.len
        cases e
        have := HL.out; omega
      rw [HL.out] at hslp3 ⊢
      have hb03 := below_trans hb1 hb3
      have hvA : SlP 1 ByteE w3 (.slice (some ⟨g, 0, none⟩) 256 cap) A := by
        have := slp_take hslp3 256 (by have := HL.out; omega)
        rw [HA.out] at this; exact this
      have hvB : SlP 1 ByteE w3 (.slice (some ⟨g, 256, none⟩) 256 (cap - 256)) B := by
        have := slp_part (k := 256) (m := 256) hslp3 (by have := HL.out; omega)
        rw [HB.out, List.take_of_length_le (by have := HL.out; have := congrArg List.length HB.out; rw [List.length_drop] at this; omega)] at this
        simpa using this
      have HvA := Lib.hid hvA
      have HvB := Lib.hid hvB
      have k1 : (256 : Int) ≤ (cap : Int) := by omega
      have k2 : (512 : Int) ≤ (cap : Int) := by omega
      have k3 : ¬ cap = 256 := by omega
      clear hcells3 hown3 hslp3 hvA hvB hread
      refine wp_region_held_drew (S := (fun _ => True)) (by kernel_rfl) (by trivial) (fun hHeld => ?_)
      refine' takeL (v := _) 0 rfl (by kernel_rfl) (by kernel_rfl) (by kernel_rfl) (fun _ _ _ h => h) (by rfl) ?_ (by assumption) ?_; rotate_left 1; (focus (intro w hSw; (try dsimp only at hSw); go_simp; (try with_reducible rfl); done))
      (try simp only [Act.put, List.setIfInBounds_toArray, List.set_cons_zero, List.set_cons_succ])
      refine' takeL (v := _) 1 rfl (by kernel_rfl) (by kernel_rfl) (by kernel_rfl) (fun _ _ _ h => h) (by rfl) ?_ (by assumption) ?_; rotate_left 1; (focus (intro w hSw; (try dsimp only at hSw); go_simp; (try with_reducible rfl); done))
      (try simp only [Act.put, List.setIfInBounds_toArray, List.set_cons_zero, List.set_cons_succ])
      refine' takeL (v := _) 2 rfl (by kernel_rfl) (by kernel_rfl) (by kernel_rfl) (fun _ _ _ h => h) (by rfl) ?_ (by assumption) ?_; rotate_left 1; (focus (intro w hSw; (try dsimp only at hSw); go_simp; (try with_reducible rfl); done))
      (try simp only [Act.put, List.setIfInBounds_toArray, List.set_cons_zero, List.set_cons_succ])
      refine stepL 3 rfl (by kernel_rfl) (fun K hK => ?_)
      go_simp
      go_at_call 28
      refine (hsect _ hb03.drew).mono ?_
      rintro e w4 ⟨rfl, hb4'⟩
      have hb4 : Below w3.heap.size w3 w4 := below_trans (Below.refl _ _).drew hb4'
      refine hK.out _ _ (by trivial) (fun hHeld => ?_)
      clear hK K
      (try simp only [Act.put, List.setIfInBounds_toArray, List.set_cons_zero, List.set_cons_succ])
      refine stepL 4 rfl (by kernel_rfl) (fun K hK => ?_)
      go_simp
      go_at_call 46
      refine (HpA.out w4 _ (below_trans hb03 hb4) (HvA.out.mono ByteE.mono hb4)).mono ?_
      rintro e w5 ⟨hb5, rfl⟩
      have hb05 := below_trans (below_trans hb03 hb4) hb5
      have hb35 := below_trans hb4 hb5
      refine hK.out _ _ (by trivial) (fun hHeld => ?_)
      clear hK K
      (try simp only [Act.put, List.setIfInBounds_toArray, List.set_cons_zero, List.set_cons_succ])
      refine' takeL (v := _) 5 rfl (by kernel_rfl) (by kernel_rfl) (by kernel_rfl) (fun _ _ _ h => h) (by rfl) ?_ (by assumption) ?_; rotate_left 1; (focus (intro w hSw; (try dsimp only at hSw); go_simp; (try with_reducible rfl); done))
      (try simp only [Act.put, List.setIfInBounds_toArray, List.set_cons_zero, List.set_cons_succ])
      refine' takeL (v := _) 6 rfl (by kernel_rfl) (by kernel_rfl) (by kernel_rfl) (fun _ _ _ h => h) (by rfl) ?_ (by assumption) ?_; rotate_left 1; (focus (intro w hSw; (try dsimp only at hSw); go_simp; (try with_reducible rfl); done))
      (try simp only [Act.put, List.setIfInBounds_toArray, List.set_cons_zero, List.set_cons_succ])
      refine' takeL (v := _) 7 rfl (by kernel_rfl) (by kernel_rfl) (by kernel_rfl) (fun _ _ _ h => h) (by rfl) ?_ (by assumption) ?_; rotate_left 1; (focus (intro w hSw; (try dsimp only at hSw); go_simp; (try with_reducible rfl); done))
      (try simp only [Act.put, List.setIfInBounds_toArray, List.set_cons_zero, List.set_cons_succ])
      refine' takeL (v := _) 8 rfl (by kernel_rfl) (by kernel_rfl) (by kernel_rfl) (fun _ _ _ h => h) (by rfl) ?_ (by assumption) ?_; rotate_left 1; (focus (intro w hSw; (try dsimp only at hSw); go_simp; (try with_reducible rfl); done))
      (try simp only [Act.put, List.setIfInBounds_toArray, List.set_cons_zero, List.set_cons_succ])
      refine' takeL (v := _) 9 rfl (by kernel_rfl) (by kernel_rfl) (by kernel_rfl) (fun _ _ _ h => h) (by rfl) ?_ (by assumption) ?_; rotate_left 1; (focus (intro w hSw; (try dsimp only at hSw); go_simp; (try with_reducible rfl); done))
      (try simp only [Act.put, List.setIfInBounds_toArray, List.set_cons_zero, List.set_cons_succ])
      refine' takeL (v := _) 10 rfl (by kernel_rfl) (by kernel_rfl) (by kernel_rfl) (fun _ _ _ h => h) (by rfl) ?_ (by assumption) ?_; rotate_left 1; (focus (intro w hSw; (try dsimp only at hSw); go_simp; (try with_reducible rfl); done))
      (try simp only [Act.put, List.setIfInBounds_toArray, List.set_cons_zero, List.set_cons_succ])
      refine' takeL (v := _) 11 rfl (by kernel_rfl) (by kernel_rfl) (by kernel_rfl) (fun _ _ _ h => h) (by rfl) ?_ (by assumption) ?_; rotate_left 1; (focus (intro w hSw; (try dsimp only at hSw); go_simp; (try with_reducible rfl); done))
      (try simp only [Act.put, List.setIfInBounds_toArray, List.set_cons_zero, List.set_cons_succ])
      refine wpAnyH_done (by kernel_rfl) ?_ _
      go_upto_region 10 with fail
      refine wp_region_held_drew (S := (fun _ => True)) (by kernel_rfl) (by trivial) (fun hHeld => ?_)
      refine' takeL (v := _) 0 rfl (by kernel_rfl) (by kernel_rfl) (by kernel_rfl) (fun _ _ _ h => h) (by rfl) ?_ (by assumption) ?_; rotate_left 1; (focus (intro w hSw; (try dsimp only at hSw); go_simp; (try with_reducible rfl); done))
      (try simp only [Act.put, List.setIfInBounds_toArray, List.set_cons_zero, List.set_cons_succ])
      refine' takeL (v := _) 1 rfl (by kernel_rfl) (by kernel_rfl) (by kernel_rfl) (fun _ _ _ h => h) (by rfl) ?_ (by assumption) ?_; rotate_left 1; (focus (intro w hSw; (try dsimp only at hSw); go_simp; (try with_reducible rfl); done))
      (try simp only [Act.put, List.setIfInBounds_toArray, List.set_cons_zero, List.set_cons_succ])
      refine' takeL (v := _) 2 rfl (by kernel_rfl) (by kernel_rfl) (by kernel_rfl) (fun _ _ _ h => h) (by rfl) ?_ (by assumption) ?_; rotate_left 1; (focus (intro w hSw; (try dsimp only at hSw); go_simp; (try with_reducible rfl); done))
      (try simp only [Act.put, List.setIfInBounds_toArray, List.set_cons_zero, List.set_cons_succ])
      refine stepL 3 rfl (by kernel_rfl) (fun K hK => ?_)
      go_simp
      go_at_call 28
      refine (hsect _ hb05.drew).mono ?_
      rintro e w6 ⟨rfl, hb6'⟩
      have hb6 : Below w5.heap.size w5 w6 := below_trans (Below.refl _ _).drew hb6'
      refine hK.out _ _ (by trivial) (fun hHeld => ?_)
      clear hK K
      (try simp only [Act.put, List.setIfInBounds_toArray, List.set_cons_zero, List.set_cons_succ])
      refine stepL 4 rfl (by kernel_rfl) (fun K hK => ?_)
      go_simp
      go_at_call 46
      refine (HpB.out w6 _ (below_trans hb05 hb6) (HvB.out.mono ByteE.mono (below_trans hb35 hb6))).mono ?_
      rintro e w7 ⟨hb7, mb, rfl, hfb, hlb⟩
      have hb07 := below_trans (below_trans hb05 hb6) hb7
      have hb57 := below_trans hb6 hb7
      refine hK.out _ _ (by trivial) (fun hHeld => ?_)
      clear hK K
      (try simp only [Act.put, List.setIfInBounds_toArray, List.set_cons_zero, List.set_cons_succ])
      refine' takeL (v := _) 5 rfl (by kernel_rfl) (by kernel_rfl) (by kernel_rfl) (fun _ _ _ h => h) (by rfl) ?_ (by assumption) ?_; rotate_left 1; (focus (intro w hSw; (try dsimp only at hSw); go_simp; (try with_reducible rfl); done))
      (try simp only [Act.put, List.setIfInBounds_toArray, List.set_cons_zero, List.set_cons_succ])
      refine' takeL (v := _) 6 rfl (by kernel_rfl) (by kernel_rfl) (by kernel_rfl) (fun _ _ _ h => h) (by rfl) ?_ (by assumption) ?_; rotate_left 1; (focus (intro w hSw; (try dsimp only at hSw); go_simp; (try with_reducible rfl); done))
      (try simp only [Act.put, List.setIfInBounds_toArray, List.set_cons_zero, List.set_cons_succ])
      refine' takeL (v := _) 7 rfl (by kernel_rfl) (by kernel_rfl) (by kernel_rfl) (fun _ _ _ h => h) (by rfl) ?_ (by assumption) ?_; rotate_left 1; (focus (intro w hSw; (try dsimp only at hSw); go_simp; (try with_reducible rfl); done))
      (try simp only [Act.put, List.setIfInBounds_toArray, List.set_cons_zero, List.set_cons_succ])
      refine' takeL (v := _) 8 rfl (by kernel_rfl) (by kernel_rfl) (by kernel_rfl) (fun _ _ _ h => h) (by rfl) ?_ (by assumption) ?_; rotate_left 1; (focus (intro w hSw; (try dsimp only at hSw); go_simp; (try with_reducible rfl); done))
      (try simp only [Act.put, List.setIfInBounds_toArray, List.set_cons_zero, List.set_cons_succ])
      refine' takeL (v := _) 9 rfl (by kernel_rfl) (by kernel_rfl) (by kernel_rfl) (fun _ _ _ h => h) (by rfl) ?_ (by assumption) ?_; rotate_left 1; (focus (intro w hSw; (try dsimp only at hSw); go_simp; (try with_reducible rfl); done))
      (try simp only [Act.put, List.setIfInBounds_toArray, List.set_cons_zero, List.set_cons_succ])
      refine' takeL (v := _) 10 rfl (by kernel_rfl) (by kernel_rfl) (by kernel_rfl) (fun _ _ _ h => h) (by rfl) ?_ (by assumption) ?_; rotate_left 1; (focus (intro w hSw; (try dsimp only at hSw); go_simp; (try with_reducible rfl); done))
      (try simp only [Act.put, List.setIfInBounds_toArray, List.set_cons_zero, List.set_cons_succ])
      refine' takeL (v := _) 11 rfl (by kernel_rfl) (by kernel_rfl) (by kernel_rfl) (fun _ _ _ h => h) (by rfl) ?_ (by assumption) ?_; rotate_left 1; (focus (intro w hSw; (try dsimp only at hSw); go_simp; (try with_reducible rfl); done))
      (try simp only [Act.put, List.setIfInBounds_toArray, List.set_cons_zero, List.set_cons_succ])
      refine wpAnyH_done (by kernel_rfl) ?_ _
      have hf7 : FilesAt w7 mb fb := hfb
      obtain ⟨es, ck, hmb, hcl⟩ := hf7.clone
      have hcln := clone_any mb es ck w7 hmb
      have hmbl : w.heap.size ≤ mb := (by have := (below_trans hb05 hb6).size; omega)
      go_wp2_with (first | (go_at_call 40; refine hcln.mono ?_; rintro e w8 ⟨rfl, rfl⟩) | fail)
      go_ret2
      have hop := opened (wh := 1) (ep := eb) Hd.out hK hb07 hf7 hmbl hcl rfl
      have hs7 := hb07.size
      refine ⟨hop.2, ?_⟩
      rw [Hr.out]
      exact ⟨w7.heap.size + 1, by simp, by omega, hop.1⟩
  | some a =>
    obtain ⟨ea, fa⟩ := a
    cases rb with
    | none =>
      have Hr : Hid (openD cur n = some (ea, fa, 0)) := Lib.hid (by rw [HO.out]; rfl)
      clear HO
      go_enter Tryd.func18, Tryd.ntmps18
      go_upto_region 9 with (first
        | (go_at_call 27; refine hsize.mono ?_; rintro e w1 ⟨rfl, hb1⟩)
        | (go_at_call 45; refine (hread w1 hb1).mono ?_; rintro e w3 ⟨v3, rfl, hown3, hb3⟩)
        | fail)
      obtain ⟨g, cap, rfl, hcells3⟩ := own_cells hown3 (by have := HL.out; omega)
      have hslp3 := hown3.at (by have := HL.out; omega)
      have hcap3 : 512 ≤ cap := by
        obtain ⟨q, c, e, hc, -⟩ := hown3.len
        cases e
        have := HL.out; omega
      rw [HL.out] at hslp3 ⊢
      have hb03 := below_trans hb1 hb3
      have hvA : SlP 1 ByteE w3 (.slice (some ⟨g, 0, none⟩) 256 cap) A := by
        have := slp_take hslp3 256 (by have := HL.out; omega)
        rw [HA.out] at this; exact this
      have hvB : SlP 1 ByteE w3 (.slice (some ⟨g, 256, none⟩) 256 (cap - 256)) B := by
        have := slp_part (k := 256) (m := 256) hslp3 (by have := HL.out; omega)
        rw [HB.out, List.take_of_length_le (by have := HL.out; have := congrArg List.length HB.out; rw [List.length_drop] at this; omega)] at this
        simpa using this
      have HvA := Lib.hid hvA
      have HvB := Lib.hid hvB
      have k1 : (256 : Int) ≤ (cap : Int) := by omega
      have k2 : (512 : Int) ≤ (cap : Int) := by omega
      have k3 : ¬ cap = 256 := by omega
      clear hcells3 hown3 hslp3 hvA hvB hread
      refine wp_region_held_drew (S := (fun _ => True)) (by kernel_rfl) (by trivial) (fun hHeld => ?_)
      refine' takeL (v := _) 0 rfl (by kernel_rfl) (by kernel_rfl) (by kernel_rfl) (fun _ _ _ h => h) (by rfl) ?_ (by assumption) ?_; rotate_left 1; (focus (intro w hSw; (try dsimp only at hSw); go_simp; (try with_reducible rfl); done))
      (try simp only [Act.put, List.setIfInBounds_toArray, List.set_cons_zero, List.set_cons_succ])
      refine' takeL (v := _) 1 rfl (by kernel_rfl) (by kernel_rfl) (by kernel_rfl) (fun _ _ _ h => h) (by rfl) ?_ (by assumption) ?_; rotate_left 1; (focus (intro w hSw; (try dsimp only at hSw); go_simp; (try with_reducible rfl); done))
      (try simp only [Act.put, List.setIfInBounds_toArray, List.set_cons_zero, List.set_cons_succ])
      refine' takeL (v := _) 2 rfl (by kernel_rfl) (by kernel_rfl) (by kernel_rfl) (fun _ _ _ h => h) (by rfl) ?_ (by assumption) ?_; rotate_left 1; (focus (intro w hSw; (try dsimp only at hSw); go_simp; (try with_reducible rfl); done))
      (try simp only [Act.put, List.setIfInBounds_toArray, List.set_cons_zero, List.set_cons_succ])
      refine stepL 3 rfl (by kernel_rfl) (fun K hK => ?_)
      go_simp
      go_at_call 28
      refine (hsect _ hb03.drew).mono ?_
      rintro e w4 ⟨rfl, hb4'⟩
      have hb4 : Below w3.heap.size w3 w4 := below_trans (Below.refl _ _).drew hb4'
      refine hK.out _ _ (by trivial) (fun hHeld => ?_)
      clear hK K
      (try simp only [Act.put, List.setIfInBounds_toArray, List.set_cons_zero, List.set_cons_succ])
      refine stepL 4 rfl (by kernel_rfl) (fun K hK => ?_)
      go_simp
      go_at_call 46
      refine (HpA.out w4 _ (below_trans hb03 hb4) (HvA.out.mono ByteE.mono hb4)).mono ?_
      rintro e w5 ⟨hb5, ma, rfl, hfa, hla⟩
      have hb05 := below_trans (below_trans hb03 hb4) hb5
      have hb35 := below_trans hb4 hb5
      refine hK.out _ _ (by trivial) (fun hHeld => ?_)
      clear hK K
      (try simp only [Act.put, List.setIfInBounds_toArray, List.set_cons_zero, List.set_cons_succ])
      refine' takeL (v := _) 5 rfl (by kernel_rfl) (by kernel_rfl) (by kernel_rfl) (fun _ _ _ h => h) (by rfl) ?_ (by assumption) ?_; rotate_left 1; (focus (intro w hSw; (try dsimp only at hSw); go_simp; (try with_reducible rfl); done))
      (try simp only [Act.put, List.setIfInBounds_toArray, List.set_cons_zero, List.set_cons_succ])
      refine' takeL (v := _) 6 rfl (by kernel_rfl) (by kernel_rfl) (by kernel_rfl) (fun _ _ _ h => h) (by rfl) ?_ (by assumption) ?_; rotate_left 1; (focus (intro w hSw; (try dsimp only at hSw); go_simp; (try with_reducible rfl); done))
      (try simp only [Act.put, List.setIfInBounds_toArray, List.set_cons_zero, List.set_cons_succ])
      refine' takeL (v := _) 7 rfl (by kernel_rfl) (by kernel_rfl) (by kernel_rfl) (fun _ _ _ h => h) (by rfl) ?_ (by assumption) ?_; rotate_left 1; (focus (intro w hSw; (try dsimp only at hSw); go_simp; (try with_reducible rfl); done))
      (try simp only [Act.put, List.setIfInBounds_toArray, List.set_cons_zero, List.set_cons_succ])
      refine' takeL (v := _) 8 rfl (by kernel_rfl) (by kernel_rfl) (by kernel_rfl) (fun _ _ _ h => h) (by rfl) ?_ (by assumption) ?_; rotate_left 1; (focus (intro w hSw; (try dsimp only at hSw); go_simp; (try with_reducible rfl); done))
      (try simp only [Act.put, List.setIfInBounds_toArray, List.set_cons_zero, List.set_cons_succ])
      refine' takeL (v := _) 9 rfl (by kernel_rfl) (by kernel_rfl) (by kernel_rfl) (fun _ _ _ h => h) (by rfl) ?_ (by assumption) ?_; rotate_left 1; (focus (intro w hSw; (try dsimp only at hSw); go_simp; (try with_reducible rfl); done))
      (try simp only [Act.put, List.setIfInBounds_toArray, List.set_cons_zero, List.set_cons_succ])
      refine' takeL (v := _) 10 rfl (by kernel_rfl) (by kernel_rfl) (by kernel_rfl) (fun _ _ _ h => h) (by rfl) ?_ (by assumption) ?_; rotate_left 1; (focus (intro w hSw; (try dsimp only at hSw); go_simp; (try with_reducible rfl); done))
      (try simp only [Act.put, List.setIfInBounds_toArray, List.set_cons_zero, List.set_cons_succ])
      refine' takeL (v := _) 11 rfl (by kernel_rfl) (by kernel_rfl) (by kernel_rfl) (fun _ _ _ h => h) (by rfl) ?_ (by assumption) ?_; rotate_left 1; (focus (intro w hSw; (try dsimp only at hSw); go_simp; (try with_reducible rfl); done))
      (try simp only [Act.put, List.setIfInBounds_toArray, List.set_cons_zero, List.set_cons_succ])
      refine wpAnyH_done (by kernel_rfl) ?_ _
      go_upto_region 10 with fail
      refine wp_region_held_drew (S := (fun _ => True)) (by kernel_rfl) (by trivial) (fun hHeld => ?_)
      refine' takeL (v := _) 0 rfl (by kernel_rfl) (by kernel_rfl) (by kernel_rfl) (fun _ _ _ h => h) (by rfl) ?_ (by assumption) ?_; rotate_left 1; (focus (intro w hSw; (try dsimp only at hSw); go_simp; (try with_reducible rfl); done))
      (try simp only [Act.put, List.setIfInBounds_toArray, List.set_cons_zero, List.set_cons_succ])
      refine' takeL (v := _) 1 rfl (by kernel_rfl) (by kernel_rfl) (by kernel_rfl) (fun _ _ _ h => h) (by rfl) ?_ (by assumption) ?_; rotate_left 1; (focus (intro w hSw; (try dsimp only at hSw); go_simp; (try with_reducible rfl); done))
      (try simp only [Act.put, List.setIfInBounds_toArray, List.set_cons_zero, List.set_cons_succ])
      refine' takeL (v := _) 2 rfl (by kernel_rfl) (by kernel_rfl) (by kernel_rfl) (fun _ _ _ h => h) (by rfl) ?_ (by assumption) ?_; rotate_left 1; (focus (intro w hSw; (try dsimp only at hSw); go_simp; (try with_reducible rfl); done))
      (try simp only [Act.put, List.setIfInBounds_toArray, List.set_cons_zero, List.set_cons_succ])
      refine stepL 3 rfl (by kernel_rfl) (fun K hK => ?_)
      go_simp
      go_at_call 28
      refine (hsect _ hb05.drew).mono ?_
      rintro e w6 ⟨rfl, hb6'⟩
      have hb6 : Below w5.heap.size w5 w6 := below_trans (Below.refl _ _).drew hb6'
      refine hK.out _ _ (by trivial) (fun hHeld => ?_)
      clear hK K
      (try simp only [Act.put, List.setIfInBounds_toArray, List.set_cons_zero, List.set_cons_succ])
      refine stepL 4 rfl (by kernel_rfl) (fun K hK => ?_)
      go_simp
      go_at_call 46
      refine (HpB.out w6 _ (below_trans hb05 hb6) (HvB.out.mono ByteE.mono (below_trans hb35 hb6))).mono ?_
      rintro e w7 ⟨hb7, rfl⟩
      have hb07 := below_trans (below_trans hb05 hb6) hb7
      have hb57 := below_trans hb6 hb7
      refine hK.out _ _ (by trivial) (fun hHeld => ?_)
      clear hK K
      (try simp only [Act.put, List.setIfInBounds_toArray, List.set_cons_zero, List.set_cons_succ])
      refine' takeL (v := _) 5 rfl (by kernel_rfl) (by kernel_rfl) (by kernel_rfl) (fun _ _ _ h => h) (by rfl) ?_ (by assumption) ?_; rotate_left 1; (focus (intro w hSw; (try dsimp only at hSw); go_simp; (try with_reducible rfl); done))
      (try simp only [Act.put, List.setIfInBounds_toArray, List.set_cons_zero, List.set_cons_succ])
      refine' takeL (v := _) 6 rfl (by kernel_rfl) (by kernel_rfl) (by kernel_rfl) (fun _ _ _ h => h) (by rfl) ?_ (by assumption) ?_; rotate_left 1; (focus (intro w hSw; (try dsimp only at hSw); go_simp; (try with_reducible rfl); done))
      (try simp only [Act.put, List.setIfInBounds_toArray, List.set_cons_zero, List.set_cons_succ])
      refine' takeL (v := _) 7 rfl (by kernel_rfl) (by kernel_rfl) (by kernel_rfl) (fun _ _ _ h => h) (by rfl) ?_ (by assumption) ?_; rotate_left 1; (focus (intro w hSw; (try dsimp only at hSw); go_simp; (try with_reducible rfl); done))
      (try simp only [Act.put, List.setIfInBounds_toArray, List.set_cons_zero, List.set_cons_succ])
      refine' takeL (v := _) 8 rfl (by kernel_rfl) (by kernel_rfl) (by kernel_rfl) (fun _ _ _ h => h) (by rfl) ?_ (by assumption) ?_; rotate_left 1; (focus (intro w hSw; (try dsimp only at hSw); go_simp; (try with_reducible rfl); done))
      (try simp only [Act.put, List.setIfInBounds_toArray, List.set_cons_zero, List.set_cons_succ])
      refine' takeL (v := _) 9 rfl (by kernel_rfl) (by kernel_rfl) (by kernel_rfl) (fun _ _ _ h => h) (by rfl) ?_ (by assumption) ?_; rotate_left 1; (focus (intro w hSw; (try dsimp only at hSw); go_simp; (try with_reducible rfl); done))
      (try simp only [Act.put, List.setIfInBounds_toArray, List.set_cons_zero, List.set_cons_succ])
      refine' takeL (v := _) 10 rfl (by kernel_rfl) (by kernel_rfl) (by kernel_rfl) (fun _ _ _ h => h) (by rfl) ?_ (by assumption) ?_; rotate_left 1; (focus (intro w hSw; (try dsimp only at hSw); go_simp; (try with_reducible rfl); done))
      (try simp only [Act.put, List.setIfInBounds_toArray, List.set_cons_zero, List.set_cons_succ])
      refine' takeL (v := _) 11 rfl (by kernel_rfl) (by kernel_rfl) (by kernel_rfl) (fun _ _ _ h => h) (by rfl) ?_ (by assumption) ?_; rotate_left 1; (focus (intro w hSw; (try dsimp only at hSw); go_simp; (try with_reducible rfl); done))
      (try simp only [Act.put, List.setIfInBounds_toArray, List.set_cons_zero, List.set_cons_succ])
      refine wpAnyH_done (by kernel_rfl) ?_ _
      have hf7 : FilesAt w7 ma fa := (hfa.below hb57)
      obtain ⟨es, ck, hmb, hcl⟩ := hf7.clone
      have hcln := clone_any ma es ck w7 hmb
      have hmbl : w.heap.size ≤ ma := (by have := (below_trans hb03 hb4).size; omega)
      go_wp2_with (first | (go_at_call 40; refine hcln.mono ?_; rintro e w8 ⟨rfl, rfl⟩) | fail)
      go_ret2
      have hop := opened (wh := 0) (ep := ea) Hd.out hK hb07 hf7 hmbl hcl rfl
      have hs7 := hb07.size
      refine ⟨hop.2, ?_⟩
      rw [Hr.out]
      exact ⟨w7.heap.size + 1, by simp, by omega, hop.1⟩
    | some b =>
      obtain ⟨eb, fb⟩ := b
      by_cases h1 : ea = eb
      · subst h1
        have Hr : Hid (openD cur n = none) := Lib.hid (by rw [HO.out]; exact if_pos rfl)
        clear HO
        go_enter Tryd.func18, Tryd.ntmps18
        go_upto_region 9 with (first
          | (go_at_call 27; refine hsize.mono ?_; rintro e w1 ⟨rfl, hb1⟩)
          | (go_at_call 45; refine (hread w1 hb1).mono ?_; rintro e w3 ⟨v3, rfl, hown3, hb3⟩)
          | fail)
        obtain ⟨g, cap, rfl, hcells3⟩ := own_cells hown3 (by have := HL.out; omega)
        have hslp3 := hown3.at (by have := HL.out; omega)
        have hcap3 : 512 ≤ cap := by
          obtain ⟨q, c, e, hc, -⟩ := hown3.len
          cases e
          have := HL.out; omega
        rw [HL.out] at hslp3 ⊢
        have hb03 := below_trans hb1 hb3
        have hvA : SlP 1 ByteE w3 (.slice (some ⟨g, 0, none⟩) 256 cap) A := by
          have := slp_take hslp3 256 (by have := HL.out; omega)
          rw [HA.out] at this; exact this
        have hvB : SlP 1 ByteE w3 (.slice (some ⟨g, 256, none⟩) 256 (cap - 256)) B := by
          have := slp_part (k := 256) (m := 256) hslp3 (by have := HL.out; omega)
          rw [HB.out, List.take_of_length_le (by have := HL.out; have := congrArg List.length HB.out; rw [List.length_drop] at this; omega)] at this
          simpa using this
        have HvA := Lib.hid hvA
        have HvB := Lib.hid hvB
        have k1 : (256 : Int) ≤ (cap : Int) := by omega
        have k2 : (512 : Int) ≤ (cap : Int) := by omega
        have k3 : ¬ cap = 256 := by omega
        clear hcells3 hown3 hslp3 hvA hvB hread
        refine wp_region_held_drew (S := (fun _ => True)) (by kernel_rfl) (by trivial) (fun hHeld => ?_)
        refine' takeL (v := _) 0 rfl (by kernel_rfl) (by kernel_rfl) (by kernel_rfl) (fun _ _ _ h => h) (by rfl) ?_ (by assumption) ?_; rotate_left 1; (focus (intro w hSw; (try dsimp only at hSw); go_simp; (try with_reducible rfl); done))
        (try simp only [Act.put, List.setIfInBounds_toArray, List.set_cons_zero, List.set_cons_succ])
        refine' takeL (v := _) 1 rfl (by kernel_rfl) (by kernel_rfl) (by kernel_rfl) (fun _ _ _ h => h) (by rfl) ?_ (by assumption) ?_; rotate_left 1; (focus (intro w hSw; (try dsimp only at hSw); go_simp; (try with_reducible rfl); done))
        (try simp only [Act.put, List.setIfInBounds_toArray, List.set_cons_zero, List.set_cons_succ])
        refine' takeL (v := _) 2 rfl (by kernel_rfl) (by kernel_rfl) (by kernel_rfl) (fun _ _ _ h => h) (by rfl) ?_ (by assumption) ?_; rotate_left 1; (focus (intro w hSw; (try dsimp only at hSw); go_simp; (try with_reducible rfl); done))
        (try simp only [Act.put, List.setIfInBounds_toArray, List.set_cons_zero, List.set_cons_succ])
        refine stepL 3 rfl (by kernel_rfl) (fun K hK => ?_)
        go_simp
        go_at_call 28
        refine (hsect _ hb03.drew).mono ?_
        rintro e w4 ⟨rfl, hb4'⟩
        have hb4 : Below w3.heap.size w3 w4 := below_trans (Below.refl _ _).drew hb4'
        refine hK.out _ _ (by trivial) (fun hHeld => ?_)
        clear hK K
        (try simp only [Act.put, List.setIfInBounds_toArray, List.set_cons_zero, List.set_cons_succ])
        refine stepL 4 rfl (by kernel_rfl) (fun K hK => ?_)
        go_simp
        go_at_call 46
        refine (HpA.out w4 _ (below_trans hb03 hb4) (HvA.out.mono ByteE.mono hb4)).mono ?_
        rintro e w5 ⟨hb5, ma, rfl, hfa, hla⟩
        have hb05 := below_trans (below_trans hb03 hb4) hb5
        have hb35 := below_trans hb4 hb5
        refine hK.out _ _ (by trivial) (fun hHeld => ?_)
        clear hK K
        (try simp only [Act.put, List.setIfInBounds_toArray, List.set_cons_zero, List.set_cons_succ])
        refine' takeL (v := _) 5 rfl (by kernel_rfl) (by kernel_rfl) (by kernel_rfl) (fun _ _ _ h => h) (by rfl) ?_ (by assumption) ?_; rotate_left 1; (focus (intro w hSw; (try dsimp only at hSw); go_simp; (try with_reducible rfl); done))
        (try simp only [Act.put, List.setIfInBounds_toArray, List.set_cons_zero, List.set_cons_succ])
        refine' takeL (v := _) 6 rfl (by kernel_rfl) (by kernel_rfl) (by kernel_rfl) (fun _ _ _ h => h) (by rfl) ?_ (by assumption) ?_; rotate_left 1; (focus (intro w hSw; (try dsimp only at hSw); go_simp; (try with_reducible rfl); done))
        (try simp only [Act.put, List.setIfInBounds_toArray, List.set_cons_zero, List.set_cons_succ])
        refine' takeL (v := _) 7 rfl (by kernel_rfl) (by kernel_rfl) (by kernel_rfl) (fun _ _ _ h => h) (by rfl) ?_ (by assumption) ?_; rotate_left 1; (focus (intro w hSw; (try dsimp only at hSw); go_simp; (try with_reducible rfl); done))
        (try simp only [Act.put, List.setIfInBounds_toArray, List.set_cons_zero, List.set_cons_succ])
        refine' takeL (v := _) 8 rfl (by kernel_rfl) (by kernel_rfl) (by kernel_rfl) (fun _ _ _ h => h) (by rfl) ?_ (by assumption) ?_; rotate_left 1; (focus (intro w hSw; (try dsimp only at hSw); go_simp; (try with_reducible rfl); done))
        (try simp only [Act.put, List.setIfInBounds_toArray, List.set_cons_zero, List.set_cons_succ])
        refine' takeL (v := _) 9 rfl (by kernel_rfl) (by kernel_rfl) (by kernel_rfl) (fun _ _ _ h => h) (by rfl) ?_ (by assumption) ?_; rotate_left 1; (focus (intro w hSw; (try dsimp only at hSw); go_simp; (try with_reducible rfl); done))
        (try simp only [Act.put, List.setIfInBounds_toArray, List.set_cons_zero, List.set_cons_succ])
        refine' takeL (v := _) 10 rfl (by kernel_rfl) (by kernel_rfl) (by kernel_rfl) (fun _ _ _ h => h) (by rfl) ?_ (by assumption) ?_; rotate_left 1; (focus (intro w hSw; (try dsimp only at hSw); go_simp; (try with_reducible rfl); done))
        (try simp only [Act.put, List.setIfInBounds_toArray, List.set_cons_zero, List.set_cons_succ])
        refine' takeL (v := _) 11 rfl (by kernel_rfl) (by kernel_rfl) (by kernel_rfl) (fun _ _ _ h => h) (by rfl) ?_ (by assumption) ?_; rotate_left 1; (focus (intro w hSw; (try dsimp only at hSw); go_simp; (try with_reducible rfl); done))
        (try simp only [Act.put, List.setIfInBounds_toArray, List.set_cons_zero, List.set_cons_succ])
        refine wpAnyH_done (by kernel_rfl) ?_ _
        go_upto_region 10 with fail
        refine wp_region_held_drew (S := (fun _ => True)) (by kernel_rfl) (by trivial) (fun hHeld => ?_)
        refine' takeL (v := _) 0 rfl (by kernel_rfl) (by kernel_rfl) (by kernel_rfl) (fun _ _ _ h => h) (by rfl) ?_ (by assumption) ?_; rotate_left 1; (focus (intro w hSw; (try dsimp only at hSw); go_simp; (try with_reducible rfl); done))
        (try simp only [Act.put, List.setIfInBounds_toArray, List.set_cons_zero, List.set_cons_succ])
        refine' takeL (v := _) 1 rfl (by kernel_rfl) (by kernel_rfl) (by kernel_rfl) (fun _ _ _ h => h) (by rfl) ?_ (by assumption) ?_; rotate_left 1; (focus (intro w hSw; (try dsimp only at hSw); go_simp; (try with_reducible rfl); done))
        (try simp only [Act.put, List.setIfInBounds_toArray, List.set_cons_zero, List.set_cons_succ])
        refine' takeL (v := _) 2 rfl (by kernel_rfl) (by kernel_rfl) (by kernel_rfl) (fun _ _ _ h => h) (by rfl) ?_ (by assumption) ?_; rotate_left 1; (focus (intro w hSw; (try dsimp only at hSw); go_simp; (try with_reducible rfl); done))
        (try simp only [Act.put, List.setIfInBounds_toArray, List.set_cons_zero, List.set_cons_succ])
        refine stepL 3 rfl (by kernel_rfl) (fun K hK => ?_)
        go_simp
        go_at_call 28
        refine (hsect _ hb05.drew).mono ?_
        rintro e w6 ⟨rfl, hb6'⟩
        have hb6 : Below w5.heap.size w5 w6 := below_trans (Below.refl _ _).drew hb6'
        refine hK.out _ _ (by trivial) (fun hHeld => ?_)
        clear hK K
        (try simp only [Act.put, List.setIfInBounds_toArray, List.set_cons_zero, List.set_cons_succ])
        refine stepL 4 rfl (by kernel_rfl) (fun K hK => ?_)
        go_simp
        go_at_call 46
        refine (HpB.out w6 _ (below_trans hb05 hb6) (HvB.out.mono ByteE.mono (below_trans hb35 hb6))).mono ?_
        rintro e w7 ⟨hb7, mb, rfl, hfb, hlb⟩
        have hb07 := below_trans (below_trans hb05 hb6) hb7
        have hb57 := below_trans hb6 hb7
        refine hK.out _ _ (by trivial) (fun hHeld => ?_)
        clear hK K
        (try simp only [Act.put, List.setIfInBounds_toArray, List.set_cons_zero, List.set_cons_succ])
        refine' takeL (v := _) 5 rfl (by kernel_rfl) (by kernel_rfl) (by kernel_rfl) (fun _ _ _ h => h) (by rfl) ?_ (by assumption) ?_; rotate_left 1; (focus (intro w hSw; (try dsimp only at hSw); go_simp; (try with_reducible rfl); done))
        (try simp only [Act.put, List.setIfInBounds_toArray, List.set_cons_zero, List.set_cons_succ])
        refine' takeL (v := _) 6 rfl (by kernel_rfl) (by kernel_rfl) (by kernel_rfl) (fun _ _ _ h => h) (by rfl) ?_ (by assumption) ?_; rotate_left 1; (focus (intro w hSw; (try dsimp only at hSw); go_simp; (try with_reducible rfl); done))
        (try simp only [Act.put, List.setIfInBounds_toArray, List.set_cons_zero, List.set_cons_succ])
        refine' takeL (v := _) 7 rfl (by kernel_rfl) (by kernel_rfl) (by kernel_rfl) (fun _ _ _ h => h) (by rfl) ?_ (by assumption) ?_; rotate_left 1; (focus (intro w hSw; (try dsimp only at hSw); go_simp; (try with_reducible rfl); done))
        (try simp only [Act.put, List.setIfInBounds_toArray, List.set_cons_zero, List.set_cons_succ])
        refine' takeL (v := _) 8 rfl (by kernel_rfl) (by kernel_rfl) (by kernel_rfl) (fun _ _ _ h => h) (by rfl) ?_ (by assumption) ?_; rotate_left 1; (focus (intro w hSw; (try dsimp only at hSw); go_simp; (try with_reducible rfl); done))
        (try simp only [Act.put, List.setIfInBounds_toArray, List.set_cons_zero, List.set_cons_succ])
        refine' takeL (v := _) 9 rfl (by kernel_rfl) (by kernel_rfl) (by kernel_rfl) (fun _ _ _ h => h) (by rfl) ?_ (by assumption) ?_; rotate_left 1; (focus (intro w hSw; (try dsimp only at hSw); go_simp; (try with_reducible rfl); done))
        (try simp only [Act.put, List.setIfInBounds_toArray, List.set_cons_zero, List.set_cons_succ])
        refine' takeL (v := _) 10 rfl (by kernel_rfl) (by kernel_rfl) (by kernel_rfl) (fun _ _ _ h => h) (by rfl) ?_ (by assumption) ?_; rotate_left 1; (focus (intro w hSw; (try dsimp only at hSw); go_simp; (try with_reducible rfl); done))
        (try simp only [Act.put, List.setIfInBounds_toArray, List.set_cons_zero, List.set_cons_succ])
        refine' takeL (v := _) 11 rfl (by kernel_rfl) (by kernel_rfl) (by kernel_rfl) (fun _ _ _ h => h) (by rfl) ?_ (by assumption) ?_; rotate_left 1; (focus (intro w hSw; (try dsimp only at hSw); go_simp; (try with_reducible rfl); done))
        (try simp only [Act.put, List.setIfInBounds_toArray, List.set_cons_zero, List.set_cons_succ])
        refine wpAnyH_done (by kernel_rfl) ?_ _
        go_wp2_with fail
        go_ret2
        exact ⟨hb07, by rw [Hr.out]; rfl⟩
      · have h1' : ¬ (ea : Int) = (eb : Int) := by omega
        by_cases h2 : (ea : Int) < (eb : Int)
        · have Hr : Hid (openD cur n = some (eb, fb, 1)) := Lib.hid (by rw [HO.out]; exact (if_neg h1).trans (if_pos (by dsimp only; omega)))
          clear HO
          go_enter Tryd.func18, Tryd.ntmps18
          go_upto_region 9 with (first
            | (go_at_call 27; refine hsize.mono ?_; rintro e w1 ⟨rfl, hb1⟩)
            | (go_at_call 45; refine (hread w1 hb1).mono ?_; rintro e w3 ⟨v3, rfl, hown3, hb3⟩)
            | fail)
          obtain ⟨g, cap, rfl, hcells3⟩ := own_cells hown3 (by have := HL.out; omega)
          have hslp3 := hown3.at (by have := HL.out; omega)
          have hcap3 : 512 ≤ cap := by
            obtain ⟨q, c, e, hc, -⟩ := hown3.len
            cases e
            have := HL.out; omega
          rw [HL.out] at hslp3 ⊢
          have hb03 := below_trans hb1 hb3
          have hvA : SlP 1 ByteE w3 (.slice (some ⟨g, 0, none⟩) 256 cap) A := by
            have := slp_take hslp3 256 (by have := HL.out; omega)
            rw [HA.out] at this; exact this
          have hvB : SlP 1 ByteE w3 (.slice (some ⟨g, 256, none⟩) 256 (cap - 256)) B := by
            have := slp_part (k := 256) (m := 256) hslp3 (by have := HL.out; omega)
            rw [HB.out, List.take_of_length_le (by have := HL.out; have := congrArg List.length HB.out; rw [List.length_drop] at this; omega)] at this
            simpa using this
          have HvA := Lib.hid hvA
          have HvB := Lib.hid hvB
          have k1 : (256 : Int) ≤ (cap : Int) := by omega
          have k2 : (512 : Int) ≤ (cap : Int) := by omega
          have k3 : ¬ cap = 256 := by omega
          clear hcells3 hown3 hslp3 hvA hvB hread
          refine wp_region_held_drew (S := (fun _ => True)) (by kernel_rfl) (by trivial) (fun hHeld => ?_)
          refine' takeL (v := _) 0 rfl (by kernel_rfl) (by kernel_rfl) (by kernel_rfl) (fun _ _ _ h => h) (by rfl) ?_ (by assumption) ?_; rotate_left 1; (focus (intro w hSw; (try dsimp only at hSw); go_simp; (try with_reducible rfl); done))
          (try simp only [Act.put, List.setIfInBounds_toArray, List.set_cons_zero, List.set_cons_succ])
          refine' takeL (v := _) 1 rfl (by kernel_rfl) (by kernel_rfl) (by kernel_rfl) (fun _ _ _ h => h) (by rfl) ?_ (by assumption) ?_; rotate_left 1; (focus (intro w hSw; (try dsimp only at hSw); go_simp; (try with_reducible rfl); done))
          (try simp only [Act.put, List.setIfInBounds_toArray, List.set_cons_zero, List.set_cons_succ])
          refine' takeL (v := _) 2 rfl (by kernel_rfl) (by kernel_rfl) (by kernel_rfl) (fun _ _ _ h => h) (by rfl) ?_ (by assumption) ?_; rotate_left 1; (focus (intro w hSw; (try dsimp only at hSw); go_simp; (try with_reducible rfl); done))
          (try simp only [Act.put, List.setIfInBounds_toArray, List.set_cons_zero, List.set_cons_succ])
          refine stepL 3 rfl (by kernel_rfl) (fun K hK => ?_)
          go_simp
          go_at_call 28
          refine (hsect _ hb03.drew).mono ?_
          rintro e w4 ⟨rfl, hb4'⟩
          have hb4 : Below w3.heap.size w3 w4 := below_trans (Below.refl _ _).drew hb4'
          refine hK.out _ _ (by trivial) (fun hHeld => ?_)
          clear hK K
          (try simp only [Act.put, List.setIfInBounds_toArray, List.set_cons_zero, List.set_cons_succ])
          refine stepL 4 rfl (by kernel_rfl) (fun K hK => ?_)
          go_simp
          go_at_call 46
          refine (HpA.out w4 _ (below_trans hb03 hb4) (HvA.out.mono ByteE.mono hb4)).mono ?_
          rintro e w5 ⟨hb5, ma, rfl, hfa, hla⟩
          have hb05 := below_trans (below_trans hb03 hb4) hb5
          have hb35 := below_trans hb4 hb5
          refine hK.out _ _ (by trivial) (fun hHeld => ?_)
          clear hK K
          (try simp only [Act.put, List.setIfInBounds_toArray, List.set_cons_zero, List.set_cons_succ])
          refine' takeL (v := _) 5 rfl (by kernel_rfl) (by kernel_rfl) (by kernel_rfl) (fun _ _ _ h => h) (by rfl) ?_ (by assumption) ?_; rotate_left 1; (focus (intro w hSw; (try dsimp only at hSw); go_simp; (try with_reducible rfl); done))
          (try simp only [Act.put, List.setIfInBounds_toArray, List.set_cons_zero, List.set_cons_succ])
          refine' takeL (v := _) 6 rfl (by kernel_rfl) (by kernel_rfl) (by kernel_rfl) (fun _ _ _ h => h) (by rfl) ?_ (by assumption) ?_; rotate_left 1; (focus (intro w hSw; (try dsimp only at hSw); go_simp; (try with_reducible rfl); done))
          (try simp only [Act.put, List.setIfInBounds_toArray, List.set_cons_zero, List.set_cons_succ])
          refine' takeL (v := _) 7 rfl (by kernel_rfl) (by kernel_rfl) (by kernel_rfl) (fun _ _ _ h => h) (by rfl) ?_ (by assumption) ?_; rotate_left 1; (focus (intro w hSw; (try dsimp only at hSw); go_simp; (try with_reducible rfl); done))
          (try simp only [Act.put, List.setIfInBounds_toArray, List.set_cons_zero, List.set_cons_succ])
          refine' takeL (v := _) 8 rfl (by kernel_rfl) (by kernel_rfl) (by kernel_rfl) (fun _ _ _ h => h) (by rfl) ?_ (by assumption) ?_; rotate_left 1; (focus (intro w hSw; (try dsimp only at hSw); go_simp; (try with_reducible rfl); done))
          (try simp only [Act.put, List.setIfInBounds_toArray, List.set_cons_zero, List.set_cons_succ])
          refine' takeL (v := _) 9 rfl (by kernel_rfl) (by kernel_rfl) (by kernel_rfl) (fun _ _ _ h => h) (by rfl) ?_ (by assumption) ?_; rotate_left 1; (focus (intro w hSw; (try dsimp only at hSw); go_simp; (try with_reducible rfl); done))
          (try simp only [Act.put, List.setIfInBounds_toArray, List.set_cons_zero, List.set_cons_succ])
          refine' takeL (v := _) 10 rfl (by kernel_rfl) (by kernel_rfl) (by kernel_rfl) (fun _ _ _ h => h) (by rfl) ?_ (by assumption) ?_; rotate_left 1; (focus (intro w hSw; (try dsimp only at hSw); go_simp; (try with_reducible rfl); done))
          (try simp only [Act.put, List.setIfInBounds_toArray, List.set_cons_zero, List.set_cons_succ])
          refine' takeL (v := _) 11 rfl (by kernel_rfl) (by kernel_rfl) (by kernel_rfl) (fun _ _ _ h => h) (by rfl) ?_ (by assumption) ?_; rotate_left 1; (focus (intro w hSw; (try dsimp only at hSw); go_simp; (try with_reducible rfl); done))
          (try simp only [Act.put, List.setIfInBounds_toArray, List.set_cons_zero, List.set_cons_succ])
          refine wpAnyH_done (by kernel_rfl) ?_ _
          go_upto_region 10 with fail
          refine wp_region_held_drew (S := (fun _ => True)) (by kernel_rfl) (by trivial) (fun hHeld => ?_)
          refine' takeL (v := _) 0 rfl (by kernel_rfl) (by kernel_rfl) (by kernel_rfl) (fun _ _ _ h => h) (by rfl) ?_ (by assumption) ?_; rotate_left 1; (focus (intro w hSw; (try dsimp only at hSw); go_simp; (try with_reducible rfl); done))
          (try simp only [Act.put, List.setIfInBounds_toArray, List.set_cons_zero, List.set_cons_succ])
          refine' takeL (v := _) 1 rfl (by kernel_rfl) (by kernel_rfl) (by kernel_rfl) (fun _ _ _ h => h) (by rfl) ?_ (by assumption) ?_; rotate_left 1; (focus (intro w hSw; (try dsimp only at hSw); go_simp; (try with_reducible rfl); done))
          (try simp only [Act.put, List.setIfInBounds_toArray, List.set_cons_zero, List.set_cons_succ])
          refine' takeL (v := _) 2 rfl (by kernel_rfl) (by kernel_rfl) (by kernel_rfl) (fun _ _ _ h => h) (by rfl) ?_ (by assumption) ?_; rotate_left 1; (focus (intro w hSw; (try dsimp only at hSw); go_simp; (try with_reducible rfl); done))
          (try simp only [Act.put, List.setIfInBounds_toArray, List.set_cons_zero, List.set_cons_succ])
          refine stepL 3 rfl (by kernel_rfl) (fun K hK => ?_)
          go_simp
          go_at_call 28
          refine (hsect _ hb05.drew).mono ?_
          rintro e w6 ⟨rfl, hb6'⟩
          have hb6 : Below w5.heap.size w5 w6 := below_trans (Below.refl _ _).drew hb6'
          refine hK.out _ _ (by trivial) (fun hHeld => ?_)
          clear hK K
          (try simp only [Act.put, List.setIfInBounds_toArray, List.set_cons_zero, List.set_cons_succ])
          refine stepL 4 rfl (by kernel_rfl) (fun K hK => ?_)
          go_simp
          go_at_call 46
          refine (HpB.out w6 _ (below_trans hb05 hb6) (HvB.out.mono ByteE.mono (below_trans hb35 hb6))).mono ?_
          rintro e w7 ⟨hb7, mb, rfl, hfb, hlb⟩
          have hb07 := below_trans (below_trans hb05 hb6) hb7
          have hb57 := below_trans hb6 hb7
          refine hK.out _ _ (by trivial) (fun hHeld => ?_)
          clear hK K
          (try simp only [Act.put, List.setIfInBounds_toArray, List.set_cons_zero, List.set_cons_succ])
          refine' takeL (v := _) 5 rfl (by kernel_rfl) (by kernel_rfl) (by kernel_rfl) (fun _ _ _ h => h) (by rfl) ?_ (by assumption) ?_; rotate_left 1; (focus (intro w hSw; (try dsimp only at hSw); go_simp; (try with_reducible rfl); done))
          (try simp only [Act.put, List.setIfInBounds_toArray, List.set_cons_zero, List.set_cons_succ])
          refine' takeL (v := _) 6 rfl (by kernel_rfl) (by kernel_rfl) (by kernel_rfl) (fun _ _ _ h => h) (by rfl) ?_ (by assumption) ?_; rotate_left 1; (focus (intro w hSw; (try dsimp only at hSw); go_simp; (try with_reducible rfl); done))
          (try simp only [Act.put, List.setIfInBounds_toArray, List.set_cons_zero, List.set_cons_succ])
          refine' takeL (v := _) 7 rfl (by kernel_rfl) (by kernel_rfl) (by kernel_rfl) (fun _ _ _ h => h) (by rfl) ?_ (by assumption) ?_; rotate_left 1; (focus (intro w hSw; (try dsimp only at hSw); go_simp; (try with_reducible rfl); done))
          (try simp only [Act.put, List.setIfInBounds_toArray, List.set_cons_zero, List.set_cons_succ])
          refine' takeL (v := _) 8 rfl (by kernel_rfl) (by kernel_rfl) (by kernel_rfl) (fun _ _ _ h => h) (by rfl) ?_ (by assumption) ?_; rotate_left 1; (focus (intro w hSw; (try dsimp only at hSw); go_simp; (try with_reducible rfl); done))
          (try simp only [Act.put, List.setIfInBounds_toArray, List.set_cons_zero, List.set_cons_succ])
          refine' takeL (v := _) 9 rfl (by kernel_rfl) (by kernel_rfl) (by kernel_rfl) (fun _ _ _ h => h) (by rfl) ?_ (by assumption) ?_; rotate_left 1; (focus (intro w hSw; (try dsimp only at hSw); go_simp; (try with_reducible rfl); done))
          (try simp only [Act.put, List.setIfInBounds_toArray, List.set_cons_zero, List.set_cons_succ])
          refine' takeL (v := _) 10 rfl (by kernel_rfl) (by kernel_rfl) (by kernel_rfl) (fun _ _ _ h => h) (by rfl) ?_ (by assumption) ?_; rotate_left 1; (focus (intro w hSw; (try dsimp only at hSw); go_simp; (try with_reducible rfl); done))
          (try simp only [Act.put, List.setIfInBounds_toArray, List.set_cons_zero, List.set_cons_succ])
          refine' takeL (v := _) 11 rfl (by kernel_rfl) (by kernel_rfl) (by kernel_rfl) (fun _ _ _ h => h) (by rfl) ?_ (by assumption) ?_; rotate_left 1; (focus (intro w hSw; (try dsimp only at hSw); go_simp; (try with_reducible rfl); done))
          (try simp only [Act.put, List.setIfInBounds_toArray, List.set_cons_zero, List.set_cons_succ])
          refine wpAnyH_done (by kernel_rfl) ?_ _
          have hf7 : FilesAt w7 mb fb := hfb
          obtain ⟨es, ck, hmb, hcl⟩ := hf7.clone
          have hcln := clone_any mb es ck w7 hmb
          have hmbl : w.heap.size ≤ mb := (by have := (below_trans hb05 hb6).size; omega)
          go_wp2_with (first | (go_at_call 40; refine hcln.mono ?_; rintro e w8 ⟨rfl, rfl⟩) | fail)
          go_ret2
          have hop := opened (wh := 1) (ep := eb) Hd.out hK hb07 hf7 hmbl hcl rfl
          have hs7 := hb07.size
          refine ⟨hop.2, ?_⟩
          rw [Hr.out]
          exact ⟨w7.heap.size + 1, by simp, by omega, hop.1⟩
        · have Hr : Hid (openD cur n = some (ea, fa, 0)) := Lib.hid (by rw [HO.out]; exact (if_neg h1).trans (if_neg (by dsimp only; omega)))
          clear HO
          go_enter Tryd.func18, Tryd.ntmps18
          go_upto_region 9 with (first
            | (go_at_call 27; refine hsize.mono ?_; rintro e w1 ⟨rfl, hb1⟩)
            | (go_at_call 45; refine (hread w1 hb1).mono ?_; rintro e w3 ⟨v3, rfl, hown3, hb3⟩)
            | fail)
          obtain ⟨g, cap, rfl, hcells3⟩ := own_cells hown3 (by have := HL.out; omega)
          have hslp3 := hown3.at (by have := HL.out; omega)
          have hcap3 : 512 ≤ cap := by
            obtain ⟨q, c, e, hc, -⟩ := hown3.len
            cases e
            have := HL.out; omega
          rw [HL.out] at hslp3 ⊢
          have hb03 := below_trans hb1 hb3
          have hvA : SlP 1 ByteE w3 (.slice (some ⟨g, 0, none⟩) 256 cap) A := by
            have := slp_take hslp3 256 (by have := HL.out; omega)
            rw [HA.out] at this; exact this
          have hvB : SlP 1 ByteE w3 (.slice (some ⟨g, 256, none⟩) 256 (cap - 256)) B := by
            have := slp_part (k := 256) (m := 256) hslp3 (by have := HL.out; omega)
            rw [HB.out, List.take_of_length_le (by have := HL.out; have := congrArg List.length HB.out; rw [List.length_drop] at this; omega)] at this
            simpa using this
          have HvA := Lib.hid hvA
          have HvB := Lib.hid hvB
          have k1 : (256 : Int) ≤ (cap : Int) := by omega
          have k2 : (512 : Int) ≤ (cap : Int) := by omega
          have k3 : ¬ cap = 256 := by omega
          clear hcells3 hown3 hslp3 hvA hvB hread
          refine wp_region_held_drew (S := (fun _ => True)) (by kernel_rfl) (by trivial) (fun hHeld => ?_)
          refine' takeL (v := _) 0 rfl (by kernel_rfl) (by kernel_rfl) (by kernel_rfl) (fun _ _ _ h => h) (by rfl) ?_ (by assumption) ?_; rotate_left 1; (focus (intro w hSw; (try dsimp only at hSw); go_simp; (try with_reducible rfl); done))
          (try simp only [Act.put, List.setIfInBounds_toArray, List.set_cons_zero, List.set_cons_succ])
          refine' takeL (v := _) 1 rfl (by kernel_rfl) (by kernel_rfl) (by kernel_rfl) (fun _ _ _ h => h) (by rfl) ?_ (by assumption) ?_; rotate_left 1; (focus (intro w hSw; (try dsimp only at hSw); go_simp; (try with_reducible rfl); done))
          (try simp only [Act.put, List.setIfInBounds_toArray, List.set_cons_zero, List.set_cons_succ])
          refine' takeL (v := _) 2 rfl (by kernel_rfl) (by kernel_rfl) (by kernel_rfl) (fun _ _ _ h => h) (by rfl) ?_ (by assumption) ?_; rotate_left 1; (focus (intro w hSw; (try dsimp only at hSw); go_simp; (try with_reducible rfl); done))
          (try simp only [Act.put, List.setIfInBounds_toArray, List.set_cons_zero, List.set_cons_succ])
          refine stepL 3 rfl (by kernel_rfl) (fun K hK => ?_)
          go_simp
          go_at_call 28
          refine (hsect _ hb03.drew).mono ?_
          rintro e w4 ⟨rfl, hb4'⟩
          have hb4 : Below w3.heap.size w3 w4 := below_trans (Below.refl _ _).drew hb4'
          refine hK.out _ _ (by trivial) (fun hHeld => ?_)
          clear hK K
          (try simp only [Act.put, List.setIfInBounds_toArray, List.set_cons_zero, List.set_cons_succ])
          refine stepL 4 rfl (by kernel_rfl) (fun K hK => ?_)
          go_simp
          go_at_call 46
          refine (HpA.out w4 _ (below_trans hb03 hb4) (HvA.out.mono ByteE.mono hb4)).mono ?_
          rintro e w5 ⟨hb5, ma, rfl, hfa, hla⟩
          have hb05 := below_trans (below_trans hb03 hb4) hb5
          have hb35 := below_trans hb4 hb5
          refine hK.out _ _ (by trivial) (fun hHeld => ?_)
          clear hK K
          (try simp only [Act.put, List.setIfInBounds_toArray, List.set_cons_zero, List.set_cons_succ])
          refine' takeL (v := _) 5 rfl (by kernel_rfl) (by kernel_rfl) (by kernel_rfl) (fun _ _ _ h => h) (by rfl) ?_ (by assumption) ?_; rotate_left 1; (focus (intro w hSw; (try dsimp only at hSw); go_simp; (try with_reducible rfl); done))
          (try simp only [Act.put, List.setIfInBounds_toArray, List.set_cons_zero, List.set_cons_succ])
          refine' takeL (v := _) 6 rfl (by kernel_rfl) (by kernel_rfl) (by kernel_rfl) (fun _ _ _ h => h) (by rfl) ?_ (by assumption) ?_; rotate_left 1; (focus (intro w hSw; (try dsimp only at hSw); go_simp; (try with_reducible rfl); done))
          (try simp only [Act.put, List.setIfInBounds_toArray, List.set_cons_zero, List.set_cons_succ])
          refine' takeL (v := _) 7 rfl (by kernel_rfl) (by kernel_rfl) (by kernel_rfl) (fun _ _ _ h => h) (by rfl) ?_ (by assumption) ?_; rotate_left 1; (focus (intro w hSw; (try dsimp only at hSw); go_simp; (try with_reducible rfl); done))
          (try simp only [Act.put, List.setIfInBounds_toArray, List.set_cons_zero, List.set_cons_succ])
          refine' takeL (v := _) 8 rfl (by kernel_rfl) (by kernel_rfl) (by kernel_rfl) (fun _ _ _ h => h) (by rfl) ?_ (by assumption) ?_; rotate_left 1; (focus (intro w hSw; (try dsimp only at hSw); go_simp; (try with_reducible rfl); done))
          (try simp only [Act.put, List.setIfInBounds_toArray, List.set_cons_zero, List.set_cons_succ])
          refine' takeL (v := _) 9 rfl (by kernel_rfl) (by kernel_rfl) (by kernel_rfl) (fun _ _ _ h => h) (by rfl) ?_ (by assumption) ?_; rotate_left 1; (focus (intro w hSw; (try dsimp only at hSw); go_simp; (try with_reducible rfl); done))
          (try simp only [Act.put, List.setIfInBounds_toArray, List.set_cons_zero, List.set_cons_succ])
          refine' takeL (v := _) 10 rfl (by kernel_rfl) (by kernel_rfl) (by kernel_rfl) (fun _ _ _ h => h) (by rfl) ?_ (by assumption) ?_; rotate_left 1; (focus (intro w hSw; (try dsimp only at hSw); go_simp; (try with_reducible rfl); done))
          (try simp only [Act.put, List.setIfInBounds_toArray, List.set_cons_zero, List.set_cons_succ])
          refine' takeL (v := _) 11 rfl (by kernel_rfl) (by kernel_rfl) (by kernel_rfl) (fun _ _ _ h => h) (by rfl) ?_ (by assumption) ?_; rotate_left 1; (focus (intro w hSw; (try dsimp only at hSw); go_simp; (try with_reducible rfl); done))
          (try simp only [Act.put, List.setIfInBounds_toArray, List.set_cons_zero, List.set_cons_succ])
          refine wpAnyH_done (by kernel_rfl) ?_ _
          go_upto_region 10 with fail
          refine wp_region_held_drew (S := (fun _ => True)) (by kernel_rfl) (by trivial) (fun hHeld => ?_)
          refine' takeL (v := _) 0 rfl (by kernel_rfl) (by kernel_rfl) (by kernel_rfl) (fun _ _ _ h => h) (by rfl) ?_ (by assumption) ?_; rotate_left 1; (focus (intro w hSw; (try dsimp only at hSw); go_simp; (try with_reducible rfl); done))
          (try simp only [Act.put, List.setIfInBounds_toArray, List.set_cons_zero, List.set_cons_succ])
          refine' takeL (v := _) 1 rfl (by kernel_rfl) (by kernel_rfl) (by kernel_rfl) (fun _ _ _ h => h) (by rfl) ?_ (by assumption) ?_; rotate_left 1; (focus (intro w hSw; (try dsimp only at hSw); go_simp; (try with_reducible rfl); done))
          (try simp only [Act.put, List.setIfInBounds_toArray, List.set_cons_zero, List.set_cons_succ])
          refine' takeL (v := _) 2 rfl (by kernel_rfl) (by kernel_rfl) (by kernel_rfl) (fun _ _ _ h => h) (by rfl) ?_ (by assumption) ?_; rotate_left 1; (focus (intro w hSw; (try dsimp only at hSw); go_simp; (try with_reducible rfl); done))
          (try simp only [Act.put, List.setIfInBounds_toArray, List.set_cons_zero, List.set_cons_succ])
          refine stepL 3 rfl (by kernel_rfl) (fun K hK => ?_)
          go_simp
          go_at_call 28
          refine (hsect _ hb05.drew).mono ?_
          rintro e w6 ⟨rfl, hb6'⟩
          have hb6 : Below w5.heap.size w5 w6 := below_trans (Below.refl _ _).drew hb6'
          refine hK.out _ _ (by trivial) (fun hHeld => ?_)
          clear hK K
          (try simp only [Act.put, List.setIfInBounds_toArray, List.set_cons_zero, List.set_cons_succ])
          refine stepL 4 rfl (by kernel_rfl) (fun K hK => ?_)
          go_simp
          go_at_call 46
          refine (HpB.out w6 _ (below_trans hb05 hb6) (HvB.out.mono ByteE.mono (below_trans hb35 hb6))).mono ?_
          rintro e w7 ⟨hb7, mb, rfl, hfb, hlb⟩
          have hb07 := below_trans (below_trans hb05 hb6) hb7
          have hb57 := below_trans hb6 hb7
          refine hK.out _ _ (by trivial) (fun hHeld => ?_)
          clear hK K
          (try simp only [Act.put, List.setIfInBounds_toArray, List.set_cons_zero, List.set_cons_succ])
          refine' takeL (v := _) 5 rfl (by kernel_rfl) (by kernel_rfl) (by kernel_rfl) (fun _ _ _ h => h) (by rfl) ?_ (by assumption) ?_; rotate_left 1; (focus (intro w hSw; (try dsimp only at hSw); go_simp; (try with_reducible rfl); done))
          (try simp only [Act.put, List.setIfInBounds_toArray, List.set_cons_zero, List.set_cons_succ])
          refine' takeL (v := _) 6 rfl (by kernel_rfl) (by kernel_rfl) (by kernel_rfl) (fun _ _ _ h => h) (by rfl) ?_ (by assumption) ?_; rotate_left 1; (focus (intro w hSw; (try dsimp only at hSw); go_simp; (try with_reducible rfl); done))
          (try simp only [Act.put, List.setIfInBounds_toArray, List.set_cons_zero, List.set_cons_succ])
          refine' takeL (v := _) 7 rfl (by kernel_rfl) (by kernel_rfl) (by kernel_rfl) (fun _ _ _ h => h) (by rfl) ?_ (by assumption) ?_; rotate_left 1; (focus (intro w hSw; (try dsimp only at hSw); go_simp; (try with_reducible rfl); done))
          (try simp only [Act.put, List.setIfInBounds_toArray, List.set_cons_zero, List.set_cons_succ])
          refine' takeL (v := _) 8 rfl (by kernel_rfl) (by kernel_rfl) (by kernel_rfl) (fun _ _ _ h => h) (by rfl) ?_ (by assumption) ?_; rotate_left 1; (focus (intro w hSw; (try dsimp only at hSw); go_simp; (try with_reducible rfl); done))
          (try simp only [Act.put, List.setIfInBounds_toArray, List.set_cons_zero, List.set_cons_succ])
          refine' takeL (v := _) 9 rfl (by kernel_rfl) (by kernel_rfl) (by kernel_rfl) (fun _ _ _ h => h) (by rfl) ?_ (by assumption) ?_; rotate_left 1; (focus (intro w hSw; (try dsimp only at hSw); go_simp; (try with_reducible rfl); done))
          (try simp only [Act.put, List.setIfInBounds_toArray, List.set_cons_zero, List.set_cons_succ])
          refine' takeL (v := _) 10 rfl (by kernel_rfl) (by kernel_rfl) (by kernel_rfl) (fun _ _ _ h => h) (by rfl) ?_ (by assumption) ?_; rotate_left 1; (focus (intro w hSw; (try dsimp only at hSw); go_simp; (try with_reducible rfl); done))
          (try simp only [Act.put, List.setIfInBounds_toArray, List.set_cons_zero, List.set_cons_succ])
          refine' takeL (v := _) 11 rfl (by kernel_rfl) (by kernel_rfl) (by kernel_rfl) (fun _ _ _ h => h) (by rfl) ?_ (by assumption) ?_; rotate_left 1; (focus (intro w hSw; (try dsimp only at hSw); go_simp; (try with_reducible rfl); done))
          (try simp only [Act.put, List.setIfInBounds_toArray, List.set_cons_zero, List.set_cons_succ])
          refine wpAnyH_done (by kernel_rfl) ?_ _
          have hf7 : FilesAt w7 ma fa := (hfa.below hb57)
          obtain ⟨es, ck, hmb, hcl⟩ := hf7.clone
          have hcln := clone_any ma es ck w7 hmb
          have hmbl : w.heap.size ≤ ma := (by have := (below_trans hb03 hb4).size; omega)
          go_wp2_with (first | (go_at_call 40; refine hcln.mono ?_; rintro e w8 ⟨rfl, rfl⟩) | fail)
          go_ret2
          have hop := opened (wh := 0) (ep := ea) Hd.out hK hb07 hf7 hmbl hcl rfl
          have hs7 := hb07.size
          refine ⟨hop.2, ?_⟩
          rw [Hr.out]
          exact ⟨w7.heap.size + 1, by simp, by omega, hop.1⟩

end Go.Proofs.YtnpnchociegmpaaDoor
