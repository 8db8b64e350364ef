/- The directory's laws: texts; the document's example. -/
import Derived.Test.YtnpnchociegmpaaDoorDirW
namespace Go.Proofs.YtnpnchociegmpaaDoor
open Go.RowKit Go.Proofs Go.Shelf
attribute [local go_sem ↓] Go.wp_at_zero Go.wp_at_succ

/-- A slice of texts. -/
def StrsAt (w : World) (v : Value) (l : List (List UInt8)) : Prop := ∃ q cap, v = .slice q l.length cap ∧ l.length ≤ 1000000 ∧ ∀ j, (hj : j < l.length) → ∃ g o, q = some ⟨g, o, none⟩ ∧ w.cell? ⟨g, o + j, none⟩ = some (.string ⟨l[j].toArray⟩)

theorem StrsAt.below {w w' : World} {v : Value} {l : List (List UInt8)} (h : StrsAt w v l) (hb : Below w.heap.size w w') : StrsAt w' v l := by
  obtain ⟨q, cap, h1, h2, h3⟩ := h
  refine ⟨q, cap, h1, h2, fun j hj => ?_⟩
  obtain ⟨g, o, h4, h5⟩ := h3 j hj
  exact ⟨g, o, h4, bcell hb h5⟩

theorem StrsAt.of_row {w : World} {base : Nat} {v : Value} {l : List (List UInt8)} (h : w.ownsRow base 9 1 v l.length (l.map encStr)) (hl : l.length ≤ 1000000) : StrsAt w v l := by
  obtain ⟨q, cap, rfl⟩ := own_slice h
  refine ⟨q, cap, rfl, hl, fun j hj => ?_⟩
  rcases h.2 with ⟨h1, hn⟩ | ⟨g, cap', cur, h1, hrest⟩
  · omega
  · simp only [Value.slice.injEq] at h1
    obtain ⟨rfl, -, rfl⟩ := h1
    refine ⟨g, 0, rfl, ?_⟩
    have := h.cells (g := g) rfl j (.string ⟨l[j].toArray⟩) (by simp [hj])
    rw [Addr.add_lit] at this
    exact this

set_option maxRecDepth 100000 in
set_option maxHeartbeats 1000000 in
theorem texts_any (u v : Value) (l : List (List UInt8)) (w : World) (hu : StrsAt w u l) (hv : StrsAt w v l) : Calls Tryd.prog 19 #[u, v] w (Gives w (.bool true)) := by
  obtain ⟨q1, c1, rfl, hl, h1⟩ := hu
  obtain ⟨q2, c2, rfl, -, h2⟩ := hv
  have H1 := Lib.hid h1
  have H2 := Lib.hid h2
  clear h1 h2
  go_enter Tryd.func19, Tryd.ntmps19
  go_wp2_with fail
  go_loopw [13, 5] (fun i _ wr => ∃ k : Nat, k ≤ l.length ∧ i = .int .i64 k ∧ Below w.heap.size w wr) (fun i _ _ => l.length - (intOf i).toNat)
  case atStart => exact ⟨0, Nat.zero_le _, rfl, Below.refl _ _⟩
  case round =>
    obtain ⟨k, hk, rfl, hb⟩ := hrel
    by_cases hlt : k < l.length
    · obtain ⟨g1, o1, rfl, d1⟩ := H1.out k hlt
      obtain ⟨g2, o2, rfl, d2⟩ := H2.out k hlt
      replace d1 := bcell hb d1
      replace d2 := bcell hb d2
      have n0 : (0 : Int) ≤ (k : Int) := by omega
      have n1 : (k : Int) < (l.length : Int) := by omega
      generalize (⟨l[k].toArray⟩ : ByteArray) = s at *
      go_upto_region 6 with fail
      refine wp_region_held_drew (S := (fun w' => w'.cell? ⟨g1, o1 + k, none⟩ = some (.string s) ∧ w'.cell? ⟨g2, o2 + k, none⟩ = some (.string s))) (by kernel_rfl) (by exact ⟨d1, d2⟩) (fun hHeld => ?_)
      refine' takeL (v := _) 0 rfl (by kernel_rfl) (by kernel_rfl) (by kernel_rfl) (fun _ _ _ h => h) (by rfl) ?_ (by assumption) ?_; rotate_left 1; (focus (intro w hSw; (try dsimp only at hSw); go_simp; (try with_reducible rfl); done))
      (try simp only [Act.put, List.setIfInBounds_toArray, List.set_cons_zero, List.set_cons_succ])
      refine' takeL (v := _) 1 rfl (by kernel_rfl) (by kernel_rfl) (by kernel_rfl) (fun _ _ _ h => h) (by rfl) ?_ (by assumption) ?_; rotate_left 1; (focus (intro w hSw; (try dsimp only at hSw); go_simp; (try with_reducible rfl); done))
      (try simp only [Act.put, List.setIfInBounds_toArray, List.set_cons_zero, List.set_cons_succ])
      refine' takeL (v := _) 2 rfl (by kernel_rfl) (by kernel_rfl) (by kernel_rfl) (fun _ _ _ h => h) (by rfl) ?_ (by assumption) ?_; rotate_left 1; (focus (intro w hSw; (try dsimp only at hSw); go_simp; (try with_reducible rfl); done))
      (try simp only [Act.put, List.setIfInBounds_toArray, List.set_cons_zero, List.set_cons_succ])
      refine' takeL (v := _) 3 rfl (by kernel_rfl) (by kernel_rfl) (by kernel_rfl) (fun _ _ _ h => h) (by rfl) ?_ (by assumption) ?_; rotate_left 1; (focus (intro w hSw; (try dsimp only at hSw); go_simp; (try with_reducible rfl); done))
      (try simp only [Act.put, List.setIfInBounds_toArray, List.set_cons_zero, List.set_cons_succ])
      refine' takeL (v := _) 4 rfl (by kernel_rfl) (by kernel_rfl) (by kernel_rfl) (fun _ _ _ h => h) (by rfl) ?_ (by assumption) ?_; rotate_left 1; (focus (intro w hSw; (try dsimp only at hSw); go_simp; (try with_reducible rfl); done))
      (try simp only [Act.put, List.setIfInBounds_toArray, List.set_cons_zero, List.set_cons_succ])
      refine' takeL (v := _) 5 rfl (by kernel_rfl) (by kernel_rfl) (by kernel_rfl) (fun _ _ _ h => h) (by rfl) ?_ (by assumption) ?_; rotate_left 1; (focus (intro w hSw; (try dsimp only at hSw); go_simp; (try with_reducible rfl); done))
      (try simp only [Act.put, List.setIfInBounds_toArray, List.set_cons_zero, List.set_cons_succ])
      refine' takeL (v := _) 6 rfl (by kernel_rfl) (by kernel_rfl) (by kernel_rfl) (fun _ _ _ h => h) (by rfl) ?_ (by assumption) ?_; rotate_left 1; (focus (intro w hSw; (try dsimp only at hSw); go_simp; (try with_reducible rfl); done))
      (try simp only [Act.put, List.setIfInBounds_toArray, List.set_cons_zero, List.set_cons_succ])
      refine' takeL (v := _) 7 rfl (by kernel_rfl) (by kernel_rfl) (by kernel_rfl) (fun _ _ _ h => h) (by rfl) ?_ (by assumption) ?_; rotate_left 1; (focus (intro w hSw; (try dsimp only at hSw); go_simp; (try with_reducible rfl); done))
      (try simp only [Act.put, List.setIfInBounds_toArray, List.set_cons_zero, List.set_cons_succ])
      refine' takeL (v := _) 8 rfl (by kernel_rfl) (by kernel_rfl) (by kernel_rfl) (fun _ _ _ h => h) (by rfl) ?_ (by assumption) ?_; rotate_left 1; (focus (intro w hSw; (try dsimp only at hSw); go_simp; (try with_reducible rfl); done))
      (try simp only [Act.put, List.setIfInBounds_toArray, List.set_cons_zero, List.set_cons_succ])
      refine wpAnyH_done (by kernel_rfl) ?_ _
      go_wp2_with fail
      go_roundw
      case rel => exact ⟨k + 1, hlt, by go_num, hb.drew⟩
      case measure => simp [intOf]; omega
    · have hke : k = l.length := by omega
      subst hke
      go_wp2_with fail
      go_ret
      exact ⟨rfl, hb⟩

theorem nib_pos {w : World} (h : Nib w) : 0 < w.heap.size := World.block_lt_of_cell? _ _ (h 0 (by decide))

theorem good_a : goodNameS ⟨#[97]⟩ = true := by
  unfold goodNameS
  rw [ByteArray.toList_eq]
  decide

theorem make_first {n c : Nat} {s : ByteArray} (hs : goodNameS s = true) (hc : 1 ≤ c) (hn : 16 + c ≤ n) {r : Option (Nat × Nat)} (h : MakeS [] [] n s c r) : r.isSome = true := by
  cases r with
  | some e => rfl
  | none =>
    rcases h with h | h
    · exact absurd ⟨hs, by omega, rfl, by simp⟩ h
    · obtain ⟨i, -, -, hi⟩ := h 16 (Nat.le_refl _) (by omega)
      exact absurd hi (by simp [tk, takenS, anyMeets])

theorem names_one (s : ByteArray) (e : Nat × Nat) : namesS (sortF [(s, e)]) = [s.data.toList] := by
  rw [names_sort]
  simp [namesS]

theorem names_len {m : Files} : (namesS m).length = m.length := by rw [(names_perm m).length_eq, List.length_map]

set_option maxRecDepth 100000 in
set_option maxHeartbeats 2000000 in
theorem lives_any (w : World) (hN : Nib w) : Calls Tryd.prog 10 #[] w (Gives w (.bool true)) := by
  have h0 := nib_pos hN
  have hf0 := (GoodF.nil 30).fits (epoch := 0) (by omega) (by omega)
  have hf1 := (GoodF.nil 30).fits (epoch := 1) (by omega) (by omega)
  have hnew := new_any w 30 (by omega) (by omega)
  have hz : (zeros (32 * 30)).length = 32 * 30 := by simp [zeros]
  have hform := fun w1 D (hd : DiskAt w1 (fun k => k < w.heap.size) D 30 (zeros (32 * 30)) (zeros (32 * 30)) false) (hb : Below w.heap.size w w1) => format_any w1 _ D 30 _ _ hd (fun k hk => Nat.lt_of_lt_of_le hk hb.size) h0 (hN.below hb) (by omega) hf0 hf1
  have hok := DOK.format (n := 30) (by omega) (by omega) (zeros (32 * 30)) hz
  generalize zeros (32 * 30) = Z at *
  generalize formS Z = F at *
  have hmake := fun w2 X D (hd : DirAt w2 (fun k => k < w.heap.size) X D 30 F F false [] [] 1 0) (hs : w.heap.size ≤ w2.heap.size) => make_any w2 _ X D 30 F F [] [] 1 0 hd (fun k hk => Nat.lt_of_lt_of_le hk hs) (by omega) ⟨#[97]⟩ (by decide) 2 (by omega)
  have hsave := fun w3 X D cur now (hok : DOK 30 F cur now [] 1 0) (hd : DirAt w3 (fun k => k < w.heap.size) X D 30 F cur false now [] 1 0) (hk : Kept (fun k => k < w.heap.size) w w3) => save_any w3 _ X D 30 F cur now [] 1 0 hd (fun k hk2 => Nat.lt_of_lt_of_le hk2 hk.size) h0 (hN.kept hk h0) (by omega) (by omega) (by omega) (hok.fits (by omega))
  have hopen := fun w4 K D cur (hd : DiskAt w4 K D 30 cur cur false) (hK : ∀ k, K k → k < w4.heap.size) (hN4 : Nib w4) => opend_any w4 K D 30 cur cur hd hK hN4 (by omega)
  have Hf := Lib.hid hform
  have Hm := Lib.hid hmake
  have Hs := Lib.hid hsave
  have Ho := Lib.hid hopen
  have Hok := Lib.hid hok
  clear hform hmake hsave hopen hz hf0 hf1 hok
  go_enter Tryd.func10, Tryd.ntmps10
  go_upto_region 3 with (first
    | (go_at_call 7; refine hnew.mono ?_; rintro e w1 ⟨D, rfl, hd1, hb1⟩)
    | (go_at_call 8; refine (Hf.out w1 D hd1 hb1).mono ?_; rintro e w2 ⟨X, rfl, hx2, hk2⟩)
    | fail)
  have hk02 : Kept (fun k => k < w.heap.size) w w2 := (kept_of_below hb1 fun k hk => hk).trans hk2
  have hmk := Hm.out w2 X D hx2 hk02.size
  clear hnew
  go_upto_region 4 with (first
    | (go_at_call 11; refine hmk.mono ?_; rintro e w3 ⟨x, r, rfl, hx, hms, hx3, hk3⟩; have hrs := make_first (c := 2) good_a (by omega) (by omega) hms; have hx0 := hx.2 hrs; have hok3 := Hok.out.make hms; have hsv := Hs.out w3 X D _ _ hok3 hx3 (hk02.trans hk3); subst hx0)
    | (go_at_call 14; refine hsv.mono ?_; rintro e w4 ⟨rfl, hx4, hk4⟩)
    | fail)
  obtain ⟨e1, rfl⟩ := Option.isSome_iff_exists.1 hrs
  have hok4 := hok3.save (by omega)
  have hk04 := (hk02.trans hk3).trans hk4
  have hop4 := hok4.opens (by omega)
  have hn4 : makeNow [] (⟨#[97]⟩ : ByteArray) (some e1) = [(⟨#[97]⟩, e1)] := rfl
  rw [hn4] at hop4 hx4 hok4
  obtain ⟨C, hC⟩ : ∃ C, C = saveS (makeCur F (some e1)) 0 1 [((⟨#[97]⟩ : ByteArray), e1)] := ⟨_, rfl⟩
  rw [← hC] at hop4 hx4 hok4
  clear hC
  obtain ⟨bn, bs, hX4⟩ := id hx4
  have hlt4 := hX4.lt fun k hk => Nat.lt_of_lt_of_le hk hk04.size
  have hopn := Ho.out w4 _ D C hX4.disk hlt4 (hN.kept hk04 h0)
  unfold OpenDOut at hopn
  rw [hop4] at hopn
  have Hx4 := Lib.hid hx4
  have Hk04 := Lib.hid hk04
  clear hx4 hX4 hsv hmk hok3 hok4 hop4 hx hms
  go_upto_region 5 with (first
    | (go_at_call 18; refine hopn.mono ?_; rintro e w5 ⟨hb5, Y, rfl, hY, hy5⟩)
    | fail)
  have hep := fun W (hb : Below w4.heap.size w4 W) => epoch_any W _ X D 30 C C false _ _ 2 1 (Hx4.out.below hb)
  have hnm := fun W (hb : Below w5.heap.size w5 W) => dnames_any W _ Y D 30 C C false _ _ 2 1 (hy5.below hb)
  rw [names_one] at hnm
  have htx := fun W u v (h1 : StrsAt W u [[97]]) (h2 : StrsAt W v [[97]]) => texts_any u v [[97]] W h1 h2
  have hlit := fun W : World => (⟨some ⟨W.heap.size, 0, none⟩, 1, rfl, by simp, fun j hj => ⟨W.heap.size, 0, rfl, by
    obtain rfl : j = 0 := by simpa using hj
    simp⟩⟩ : StrsAt (W.alloc (.cells #[.string ⟨#[97]⟩] 9)) (.slice (some ⟨W.heap.size, 0, none⟩) 1 1) [[97]])
  have Hnm := Lib.hid hnm
  have Htx := Lib.hid htx
  have Hlit := Lib.hid hlit
  clear hnm htx hlit hopn hlt4
  go_wp2_with (first
    | (go_at_call 20; refine (hep w5 hb5).mono ?_; rintro e w6 ⟨rfl, hb6⟩)
    | (go_at_call 15; refine (Hnm.out w6 hb6).mono ?_; rintro e w7 ⟨v7, rfl, hrow7, hb7⟩; have hst7 := StrsAt.of_row hrow7 (by simp))
    | (go_at_call 19; refine (Htx.out _ _ _ (hst7.below (below_new w7 _)) (Hlit.out w7)).mono ?_; rintro e w8 ⟨rfl, hb8⟩)
    | fail)
  go_ret
  have hb48 := below_trans hb5 (below_trans hb6 (below_trans hb7 (below_trans (below_new w7 _) hb8)))
  exact ⟨rfl, (Hk04.out.trans (kept_of_below hb48 fun k hk => Nat.lt_of_lt_of_le hk Hk04.out.size)).below⟩

end Go.Proofs.YtnpnchociegmpaaDoor
