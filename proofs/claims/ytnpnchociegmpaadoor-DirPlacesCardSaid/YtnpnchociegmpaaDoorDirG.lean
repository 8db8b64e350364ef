/- The directory: the bytes of a list without files. -/
import Derived.Test.YtnpnchociegmpaaDoorDirF
import Derived.Shelf.SlIter.Nil
namespace Go.Proofs.YtnpnchociegmpaaDoor
open Go.RowKit Go.Proofs Go.Shelf
attribute [local go_sem ↓] Go.wp_at_zero Go.wp_at_succ

set_option maxHeartbeats 1000000 in
theorem names_nil (w : World) : Calls Tryd.prog 41 #[.map none] w (Gives w (.slice none 0 0)) := by
  refine (callsIn_wide (n := 6)).1 ?_
  have hseq : SeqGives Fence.wide 2 Tryd.prog 69 #[.pointer (some ⟨w.heap.size, 0, none⟩)] encStr (fun ss : List (List UInt8) => ss = []) 0 (w.alloc (.cells #[.map none] 53)) :=
    AnyZ.keys_gives_nil (ρ := Tryd.keysA_ren) { Tryd.keysA with } Fence.wide _ trivial rfl w.heap.size _ (by simp) (by simp)
  have cK : ∀ mb W, CallsIn Fence.wide 5 Tryd.prog 55 #[.map mb] W fun e w' => e = .returned (.func (.func 69) #[] #[.pointer (some ⟨W.heap.size, 0, none⟩)]) ∧ w' = W.alloc (.cells #[.map mb] 53) := fun mb W => AnyZ.keys_in Tryd.keysA Fence.wide 5 trivial rfl mb W
  have cS := AnyZ.sorted_in Tryd.sortedA Fence.wide 5 trivial trivial trivial trivial rfl (by omega) (dirSorts _) (enters_of Tryd.func68 (by kernel_rfl) rfl) 69 #[.pointer (some ⟨w.heap.size, 0, none⟩)] trivial (enters_of Tryd.func69 (by kernel_rfl) rfl) _ 0 (Nat.zero_le _) (by omega) _ hseq
  change CallsIn _ _ Tryd.prog 54 _ _ _ at cS
  have hfK : Fence.wide.fn 55 := trivial
  have hfS : Fence.wide.fn 54 := trivial
  refine callsIn_of_wp Tryd.func41 rfl trivial ?_ rfl
  simp only [Tryd.ntmps41, List.size_toArray, List.length_cons, List.length_nil, Nat.reduceAdd, Nat.reduceSub, Array.replicate_succ, Array.replicate_zero, List.push_toArray, List.append_toArray, List.nil_append, List.cons_append]
  gi_wp2_with (first
    | (gi_at_call 55; refine (cK _ _).mono ?_; rintro e w' ⟨rfl, rfl⟩)
    | (gi_at_call 54; refine cS.mono ?_; rintro e w' ⟨v, ss, rfl, rfl, hrow, hnil, hb⟩; obtain rfl : v = .slice none 0 0 := hnil.2 rfl))
  go_ret
  exact ⟨rfl, ((Below.refl _ w).alloc (Nat.le_refl _) _).trans (hb.mono (by simp))⟩

theorem maplen_nil (w : World) : (Builtin.len_ #[53] 3 #[.map none]).run Tryd.prog w = .ok (goInt 0) w := by
  simp [Builtin.len_, run_underlying Tryd.underlying53]

set_option maxRecDepth 100000 in
set_option maxHeartbeats 4000000 in
theorem bytesof_nil (epoch : Nat) (w : World) (hN : Nib w) (he : epoch ≤ 1000000000000000) (hfit : (frameS (bodyS epoch [] [])).length ≤ 256) (hbody : (bodyS epoch [] []).length ≤ 8192) :
    Calls Tryd.prog 32 #[.int .i64 epoch, .map none] w (ListOut epoch [] w) := by
  have hnum1 := num_any (.slice none 0 0) [] epoch w (slp_nil w) (by simp) (by unfold U64; omega)
  have hnum2 := fun W v bs (hv : SlP 1 ByteE W v bs) (hl : bs.length ≤ 1000000000) => num_any v bs 0 W hv hl (by unfold U64; omega)
  have e1 : (epoch : Int) % 18446744073709551616 = (epoch : Int) := by omega
  simp only [List.nil_append] at hnum1
  have hnl := numS_length epoch
  have hln0 := fun W => maplen_nil W
  go_enter Tryd.func32, Tryd.ntmps32
  go_upto_region 2 with (first
    | (go_at_call 50; refine hnum1.mono ?_; clear hnum1; rintro e w1 ⟨v1, rfl, hown1, hb1⟩; have hln1 := hln0 w1; have hs1 := hown1.at (by omega))
    | (go_at_call 50; refine (hnum2 _ v1 _ hs1 (by omega)).mono ?_; rintro e w2 ⟨v2, rfl, hown2, hb2⟩)
    | fail)
  have hb12 := below_trans hb1 hb2
  have hown2' := OwnB.base hown2 hb1.size
  have hnm := names_nil w2
  clear hnum2 hs1 hln1 hln0
  go_wp2_with (first
    | (go_at_call 41; refine hnm.mono ?_; rintro e w3 ⟨rfl, hb3⟩)
    | fail)
  have hb03 := below_trans hb12 hb3
  have hov3 := OwnB.mono hb3 hown2'
  have hbs : Hid (bodyS epoch [] [] = numS epoch ++ numS 0) := Lib.hid (by simp [bodyS])
  clear hnm hown1 hown2 hown2'
  go_loopw [5, 19] (fun bv j wr => j = .int .i64 0 ∧ OwnB wr w.heap.size bv (numS epoch ++ numS 0) ∧ Below w3.heap.size w3 wr) (fun _ j _ => 0)
  case atStart => exact ⟨rfl, hov3, Below.refl _ _⟩
  case round =>
    obtain ⟨rfl, hown, hb⟩ := hrel
    rw [← hbs.out] at hown
    have hbw := below_trans hb03 hb
    have hfrm := fun W v (hW : Below w.heap.size w W) (hv : SlP 1 ByteE W v (bodyS epoch [] [])) => frame_any v (bodyS epoch [] []) W hv (hN.below hW) hbody
    have Hfl : Hid (0 < (frameS (bodyS epoch [] [])).length) := Lib.hid (by unfold frameS sumB; simp only [List.length_append, List.length_cons, List.length_nil]; omega)
    generalize hFe : frameS (bodyS epoch [] []) = F at *
    have HFe := Lib.hid hFe
    clear hFe
    have hsB := hown.at (by omega)
    obtain ⟨i0, z, hi, hz, hz1, hz2, -⟩ := byteElt.has
    have hz0 : i0.zero = some (.int .u8 0) := by
      have h : (Tryd.prog.info? 5).map (·.zero) = some (some (.int .u8 0)) := by kernel_rfl
      rw [hi] at h
      simpa using h
    go_wp2_with (first
      | (at_make; refine wpList_make_full _ rfl _ _ 32 rfl w.heap.size 5 i0 (.int .u8 0) 1 Tryd.underlying32 hi hz0 hz1 .i64 .i64 _ _ 256 rfl rfl rfl rfl (by rw [hz2]; omega) (by unfold maxLen; omega) hbw.size ?_; intro w8 hown8 hg8; have hb8 : Below wr.heap.size wr w8 := grown_below (Below.refl _ _) hg8 (Nat.le_refl _) (by simp); have hs8 := hsB.mono ByteE.mono hb8)
      | (go_at_call 52; refine (hfrm _ _ (below_trans hbw hb8) hs8).mono ?_; rintro e w9 ⟨v9, rfl, hown9, hb9⟩; obtain ⟨cur9, hc1, hc2, hc3⟩ := made_block hown8; obtain ⟨g9, cap9, hv9, hsrc9⟩ := own_cells hown9 Hfl.out; subst hv9; have hblk9 := (hb9.block _ (heap_lt hc1)).trans hc1)
      | (refine wpList_copy_own rfl _ _ 32 32 rfl 5 Tryd.underlying32 u8_size wr.heap.size 0 256 256 ⟨g9, 0, none⟩ F.length cap9 rfl rfl cur9 5 hblk9 (F.map YtnpnchociegmpaaDoor.u8) (by rw [List.length_map]; have : Nat.min F.length 256 = min F.length 256 := rfl; omega) hsrc9 (by rw [List.length_map, ← Array.length_toList, hc2, List.length_replicate]; omega) (fun v hv => by obtain ⟨x, -, rfl⟩ := List.mem_map.1 hv; rfl) ?_; have hcop := copied (base := w.heap.size) hblk9 hc2 hc3 hfit; have hbc : Below w.heap.size w9 (w9.setRow wr.heap.size (cur9.toList.take 0 ++ (F.map YtnpnchociegmpaaDoor.u8 ++ cur9.toList.drop (0 + (F.map YtnpnchociegmpaaDoor.u8).length))).toArray) := ⟨rfl, rfl, rfl, by simp [World.setRow], fun k hk => setRow_other _ _ _ _ (by omega)⟩; generalize World.setRow _ _ _ = w10 at *)
      | fail)
    go_ret
    unfold ListOut
    have hns : namesS [] = [] := by simp [namesS]
    rw [hns, HFe.out]
    exact ⟨_, rfl, hcop, (below_trans (below_trans hbw hb8) hb9).trans hbc⟩

end Go.Proofs.YtnpnchociegmpaaDoor
