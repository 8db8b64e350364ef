/- The directory: steps, one behind the other. -/
/- The directory, as it lies in memory; made, Epoch. -/
/- The directory: the bytes of a list without files. -/
/- The directory: a list is written on the disk; Format's function values. -/
import Derived.Test.YtlhefifejcoecaaGreatDoorDirD
import Derived.Test.YtlhefifejcoecaaGreatDoorRound
import Derived.Shelf.SlIter.Nil
namespace Go.Proofs.YtlhefifejcoecaaGreatDoor
open Go.RowKit Go.Proofs Go.Shelf
attribute [local go_sem ↓] Go.wp_at_zero Go.wp_at_succ

set_option maxRecDepth 100000 in
theorem steps_any (b o cap : Nat) (R : Nat → World → Prop) (g : Nat → FuncId) (ba lb : Nat → Array Value) (hcell : ∀ j, j < 3 → ∀ W, R j W → W.cell? ⟨b, o + j, none⟩ = some (.func (.func (g j)) (ba j) (lb j)))
    (eg : ∀ j args w, (callFunc (g j) args).run Tryz.prog w = .ok (.enter (g j) args) w) (hc : ∀ j, j < 3 → ∀ W, R j W → Calls Tryz.prog (g j) (ba j ++ lb j) W (fun e w' => e = .returned (.int .i64 0) ∧ R (j + 1) w')) (w : World) (h0 : R 0 w) :
    Calls Tryz.prog 84 #[.slice (some ⟨b, o, none⟩) 3 cap] w (fun e w' => e = .returned (.int .i64 0) ∧ R 3 w') := by
  have Hcell := Lib.hid hcell
  have Hc := Lib.hid hc
  have H0 := Lib.hid h0
  clear hcell hc h0
  go_enter Tryz.func84, Tryz.ntmps84
  go_wp2_with fail
  go_loopw [8] (fun x wr => ∃ k : Nat, k ≤ 3 ∧ x = .int .i64 k ∧ Hid (R k wr)) (fun x _ => 3 - (intOf x).toNat)
  case atStart => exact ⟨0, by omega, rfl, H0⟩
  case round =>
    obtain ⟨k, hk, rfl, hr⟩ := hrel
    by_cases hlt : k < 3
    · have n0 : (0 : Int) ≤ (k : Int) := by omega
      have n1 : (k : Int) < 3 := by omega
      have c0 := Hcell.out k hlt wr hr.out
      have hcall := Hc.out k hlt wr hr.out
      have egk := eg k
      clear eg
      generalize g k = gk at *
      generalize lb k = lk at *
      generalize ba k = bk at *
      go_wp2_with (refine hcall.mono ?_; rintro e w2 ⟨rfl, hr2⟩)
      go_roundw
      case rel => exact ⟨k + 1, hlt, by go_num, Lib.hid hr2⟩
      case measure => simp [intOf]; omega
    · have hke : k = 3 := by omega
      subst hke
      clear eg
      go_wp2_with fail
      go_ret
      exact ⟨rfl, hr.out⟩

end Go.Proofs.YtlhefifejcoecaaGreatDoor

namespace Go.Proofs.YtlhefifejcoecaaGreatDoor
open Go.RowKit Go.Proofs Go.Shelf
attribute [local go_sem ↓] Go.wp_at_zero Go.wp_at_succ

/-- A directory X on the disk D: its files bn, those that were last saved bs; none of its blocks is one of K. -/
structure DirX (w : World) (K : Nat → Prop) (X D n : Nat) (safe cur : List UInt8) (off : Bool) (bn bs : Nat) (now saved : Files) (epoch which : Nat) : Prop where
  blk : w.heap[X]? = some (.cells #[.pointer (some ⟨D, 0, none⟩), .map (some bn), .map (some bs), .int .i64 epoch, .int .i64 which] 37 (0, 0))
  now : FilesAt w bn now
  saved : FilesAt w bs saved
  disk : DiskAt w (fun k => K k ∨ k = X ∨ k = bn ∨ k = bs) D n safe cur off
  free : ¬ K X ∧ ¬ K bn ∧ ¬ K bs
  ne : bn ≠ bs

def DirAt (w : World) (K : Nat → Prop) (X D n : Nat) (safe cur : List UInt8) (off : Bool) (now saved : Files) (epoch which : Nat) : Prop := ∃ bn bs, DirX w K X D n safe cur off bn bs now saved epoch which

theorem DirX.below {w w' : World} {K : Nat → Prop} {X D n : Nat} {safe cur : List UInt8} {off : Bool} {bn bs : Nat} {now saved : Files} {epoch which : Nat} (h : DirX w K X D n safe cur off bn bs now saved epoch which) (hb : Below w.heap.size w w') :
    DirX w' K X D n safe cur off bn bs now saved epoch which :=
  ⟨(hb.block _ (heap_lt h.blk)).trans h.blk, h.now.below hb, h.saved.below hb, h.disk.below hb, h.free, h.ne⟩

theorem DirAt.below {w w' : World} {K : Nat → Prop} {X D n : Nat} {safe cur : List UInt8} {off : Bool} {now saved : Files} {epoch which : Nat} (h : DirAt w K X D n safe cur off now saved epoch which) (hb : Below w.heap.size w w') : DirAt w' K X D n safe cur off now saved epoch which := by
  obtain ⟨bn, bs, h⟩ := h
  exact ⟨bn, bs, h.below hb⟩

theorem DirX.cells {w : World} {K : Nat → Prop} {X D n : Nat} {safe cur : List UInt8} {off : Bool} {bn bs : Nat} {now saved : Files} {epoch which : Nat} (h : DirX w K X D n safe cur off bn bs now saved epoch which) :
    w.cell? ⟨X, 0, none⟩ = some (.pointer (some ⟨D, 0, none⟩)) ∧ w.cell? ⟨X, 1, none⟩ = some (.map (some bn)) ∧ w.cell? ⟨X, 2, none⟩ = some (.map (some bs)) ∧ w.cell? ⟨X, 3, none⟩ = some (.int .i64 epoch) ∧ w.cell? ⟨X, 4, none⟩ = some (.int .i64 which) ∧ X < w.heap.size :=
  ⟨by rw [block_cell h.blk]; rfl, by rw [block_cell h.blk]; rfl, by rw [block_cell h.blk]; rfl, by rw [block_cell h.blk]; rfl, by rw [block_cell h.blk]; rfl, heap_lt h.blk⟩

/-- Blocks that the disk's own doings keep: the directory stands. -/
theorem DirX.kept {w w' : World} {K : Nat → Prop} {X D n : Nat} {safe cur safe' cur' : List UInt8} {off off' : Bool} {bn bs : Nat} {now saved : Files} {epoch which : Nat} (h : DirX w K X D n safe cur off bn bs now saved epoch which)
    (hk : Kept (fun k => K k ∨ k = X ∨ k = bn ∨ k = bs) w w') (hd : DiskAt w' (fun k => K k ∨ k = X ∨ k = bn ∨ k = bs) D n safe' cur' off') : DirX w' K X D n safe' cur' off' bn bs now saved epoch which :=
  ⟨(hk.block X (.inr (.inl rfl))).trans h.blk, ⟨h.now.map.block (hk.block bn (.inr (.inr (.inl rfl)))), h.now.small, h.now.few⟩, ⟨h.saved.map.block (hk.block bs (.inr (.inr (.inr rfl)))), h.saved.small, h.saved.few⟩, hd, h.free, h.ne⟩

set_option maxRecDepth 100000 in
theorem dmade_any (w : World) (K : Nat → Prop) (X D n : Nat) (safe cur : List UInt8) (off : Bool) (now saved : Files) (epoch which : Nat) (h : DirAt w K X D n safe cur off now saved epoch which) :
    Calls Tryz.prog 58 #[.pointer (some ⟨X, 0, none⟩)] w (Gives w (.bool true)) := by
  obtain ⟨bn, bs, h⟩ := h
  obtain ⟨c0, -, -, -, -, hX⟩ := h.cells
  clear h
  go_enter Tryz.func58, Tryz.ntmps58
  go_wp2_with fail
  go_ret
  exact ⟨rfl, Below.refl _ _⟩

set_option maxRecDepth 100000 in
theorem dmade_nil (w : World) : Calls Tryz.prog 58 #[.pointer none] w (Gives w (.bool false)) := by
  go_enter Tryz.func58, Tryz.ntmps58
  go_wp2_with fail
  go_ret
  exact ⟨rfl, Below.refl _ _⟩

set_option maxRecDepth 100000 in
theorem epoch_any (w : World) (K : Nat → Prop) (X D n : Nat) (safe cur : List UInt8) (off : Bool) (now saved : Files) (epoch which : Nat) (h : DirAt w K X D n safe cur off now saved epoch which) :
    Calls Tryz.prog 24 #[.pointer (some ⟨X, 0, none⟩)] w (Gives w (.int .i64 epoch)) := by
  have hmade := dmade_any w K X D n safe cur off now saved epoch which h
  obtain ⟨bn, bs, h⟩ := h
  obtain ⟨-, -, -, c3, -, hX⟩ := h.cells
  clear h
  go_enter Tryz.func24, Tryz.ntmps24
  go_wp2_with (first | (go_at_call 58; refine hmade.mono ?_; rintro e w1 ⟨rfl, hb1⟩; have d3 := bcell hb1 c3) | fail)
  go_ret
  exact ⟨rfl, hb1⟩

end Go.Proofs.YtlhefifejcoecaaGreatDoor

namespace Go.Proofs.YtlhefifejcoecaaGreatDoor
open Go.RowKit Go.Proofs Go.Shelf
attribute [local go_sem ↓] Go.wp_at_zero Go.wp_at_succ

set_option maxHeartbeats 1000000 in
theorem names_nil (w : World) : Calls Tryz.prog 76 #[.map none] w (Gives w (.slice none 0 0)) := by
  refine (callsIn_wide (n := 6)).1 ?_
  have hseq : SeqGives Fence.wide 2 Tryz.prog 131 #[.pointer (some ⟨w.heap.size, 0, none⟩)] encStr (fun ss : List (List UInt8) => ss = []) 0 (w.alloc (.cells #[.map none] 35)) :=
    AnyZ.keys_gives_nil (ρ := Tryz.keysA_ren) { Tryz.keysA with } Fence.wide _ trivial rfl w.heap.size _ (by simp) (by simp)
  have cK : ∀ mb W, CallsIn Fence.wide 5 Tryz.prog 111 #[.map mb] W fun e w' => e = .returned (.func (.func 131) #[] #[.pointer (some ⟨W.heap.size, 0, none⟩)]) ∧ w' = W.alloc (.cells #[.map mb] 35) := fun mb W => AnyZ.keys_in Tryz.keysA Fence.wide 5 trivial rfl mb W
  have cS := AnyZ.sorted_in Tryz.sortedA Fence.wide 5 trivial trivial trivial trivial rfl (by omega) (dirSorts _) (enters_of Tryz.func130 (by kernel_rfl) rfl) 131 #[.pointer (some ⟨w.heap.size, 0, none⟩)] trivial (enters_of Tryz.func131 (by kernel_rfl) rfl) _ 0 (Nat.zero_le _) (by omega) _ hseq
  change CallsIn _ _ Tryz.prog 110 _ _ _ at cS
  have hfK : Fence.wide.fn 111 := trivial
  have hfS : Fence.wide.fn 110 := trivial
  refine callsIn_of_wp Tryz.func76 rfl trivial ?_ rfl
  simp only [Tryz.ntmps76, List.size_toArray, List.length_cons, List.length_nil, Nat.reduceAdd, Nat.reduceSub, Array.replicate_succ, Array.replicate_zero, List.push_toArray, List.append_toArray, List.nil_append, List.cons_append]
  gi_wp2_with (first
    | (gi_at_call 111; refine (cK _ _).mono ?_; rintro e w' ⟨rfl, rfl⟩)
    | (gi_at_call 110; refine cS.mono ?_; rintro e w' ⟨v, ss, rfl, rfl, hrow, hnil, hb⟩; obtain rfl : v = .slice none 0 0 := hnil.2 rfl))
  go_ret
  exact ⟨rfl, ((Below.refl _ w).alloc (Nat.le_refl _) _).trans (hb.mono (by simp))⟩

theorem maplen_nil (w : World) : (Builtin.len_ #[35] 3 #[.map none]).run Tryz.prog w = .ok (goInt 0) w := by
  simp [Builtin.len_, run_underlying Tryz.underlying35]

set_option maxRecDepth 100000 in
set_option maxHeartbeats 4000000 in
theorem bytesof_nil (epoch : Nat) (w : World) (hN : Nib w) (he : epoch ≤ 1000000000000000) (hfit : (frameS (bodyS epoch [] [])).length ≤ 256) (hbody : (bodyS epoch [] []).length ≤ 8192) :
    Calls Tryz.prog 83 #[.int .i64 epoch, .map none] w (ListOut epoch [] w) := by
  have hnum1 := num_any (.slice none 0 0) [] epoch w (slp_nil w) (by simp) (by unfold U64; omega)
  have hnum2 := fun W v bs (hv : SlP 1 ByteE W v bs) (hl : bs.length ≤ 1000000000) => num_any v bs 0 W hv hl (by unfold U64; omega)
  have e1 : (epoch : Int) % 18446744073709551616 = (epoch : Int) := by omega
  simp only [List.nil_append] at hnum1
  have hnl := numS_length epoch
  have hln0 := fun W => maplen_nil W
  go_enter Tryz.func83, Tryz.ntmps83
  go_upto_region 2 with (first
    | (go_at_call 71; refine hnum1.mono ?_; clear hnum1; rintro e w1 ⟨v1, rfl, hown1, hb1⟩; have hln1 := hln0 w1; have hs1 := hown1.at (by omega))
    | (go_at_call 71; refine (hnum2 _ v1 _ hs1 (by omega)).mono ?_; rintro e w2 ⟨v2, rfl, hown2, hb2⟩)
    | fail)
  have hb12 := below_trans hb1 hb2
  have hown2' := OwnB.base hown2 hb1.size
  have hnm := names_nil w2
  clear hnum2 hs1 hln1 hln0
  go_wp2_with (first
    | (go_at_call 76; refine hnm.mono ?_; rintro e w3 ⟨rfl, hb3⟩)
    | fail)
  have hb03 := below_trans hb12 hb3
  have hov3 := OwnB.mono hb3 hown2'
  have hbs : Hid (bodyS epoch [] [] = numS epoch ++ numS 0) := Lib.hid (by simp [bodyS])
  clear hnm hown1 hown2 hown2'
  go_loopw [5, 19] (fun bv j wr => j = .int .i64 0 ∧ OwnB wr w.heap.size bv (numS epoch ++ numS 0) ∧ Below w3.heap.size w3 wr) (fun _ j _ => 0)
  case atStart => exact ⟨rfl, hov3, Below.refl _ _⟩
  case round =>
    obtain ⟨rfl, hown, hb⟩ := hrel
    rw [← hbs.out] at hown
    have hbw := below_trans hb03 hb
    have hfrm := fun W v (hW : Below w.heap.size w W) (hv : SlP 1 ByteE W v (bodyS epoch [] [])) => frame_any v (bodyS epoch [] []) W hv (hN.below hW) hbody
    have Hfl : Hid (0 < (frameS (bodyS epoch [] [])).length) := Lib.hid (by unfold frameS sumB; simp only [List.length_append, List.length_cons, List.length_nil]; omega)
    generalize hFe : frameS (bodyS epoch [] []) = F at *
    have HFe := Lib.hid hFe
    clear hFe
    have hsB := hown.at (by omega)
    obtain ⟨i0, z, hi, hz, hz1, hz2, -⟩ := byteElt.has
    have hz0 : i0.zero = some (.int .u8 0) := by
      have h : (Tryz.prog.info? 5).map (·.zero) = some (some (.int .u8 0)) := by kernel_rfl
      rw [hi] at h
      simpa using h
    go_wp2_with (first
      | (at_make; refine wpList_make_full _ rfl _ _ 25 rfl w.heap.size 5 i0 (.int .u8 0) 1 Tryz.underlying25 hi hz0 hz1 .i64 .i64 _ _ 256 rfl rfl rfl rfl (by rw [hz2]; omega) (by unfold maxLen; omega) hbw.size ?_; intro w8 hown8 hg8; have hb8 : Below wr.heap.size wr w8 := grown_below (Below.refl _ _) hg8 (Nat.le_refl _) (by simp); have hs8 := hsB.mono ByteE.mono hb8)
      | (go_at_call 68; refine (hfrm _ _ (below_trans hbw hb8) hs8).mono ?_; rintro e w9 ⟨v9, rfl, hown9, hb9⟩; obtain ⟨cur9, hc1, hc2, hc3⟩ := made_block hown8; obtain ⟨g9, cap9, hv9, hsrc9⟩ := own_cells hown9 Hfl.out; subst hv9; have hblk9 := (hb9.block _ (heap_lt hc1)).trans hc1)
      | (refine wpList_copy_own rfl _ _ 25 25 rfl 5 Tryz.underlying25 u8_size wr.heap.size 0 256 256 ⟨g9, 0, none⟩ F.length cap9 rfl rfl cur9 5 hblk9 (F.map YtlhefifejcoecaaGreatDoor.u8) (by rw [List.length_map]; have : Nat.min F.length 256 = min F.length 256 := rfl; omega) hsrc9 (by rw [List.length_map, ← Array.length_toList, hc2, List.length_replicate]; omega) (fun v hv => by obtain ⟨x, -, rfl⟩ := List.mem_map.1 hv; rfl) ?_; have hcop := copied (base := w.heap.size) hblk9 hc2 hc3 hfit; have hbc : Below w.heap.size w9 (w9.setRow wr.heap.size (cur9.toList.take 0 ++ (F.map YtlhefifejcoecaaGreatDoor.u8 ++ cur9.toList.drop (0 + (F.map YtlhefifejcoecaaGreatDoor.u8).length))).toArray) := ⟨rfl, rfl, rfl, by simp [World.setRow], fun k hk => setRow_other _ _ _ _ (by omega)⟩; generalize World.setRow _ _ _ = w10 at *)
      | fail)
    go_ret
    unfold ListOut
    have hns : namesS [] = [] := by simp [namesS]
    rw [hns, HFe.out]
    exact ⟨_, rfl, hcop, (below_trans (below_trans hbw hb8) hb9).trans hbc⟩

end Go.Proofs.YtlhefifejcoecaaGreatDoor

namespace Go.Proofs.YtlhefifejcoecaaGreatDoor
open Go.RowKit Go.Proofs Go.Shelf
attribute [local go_sem ↓] Go.wp_at_zero Go.wp_at_succ

/-- A list's bytes: 256 of them. -/
def listS (epoch : Nat) (m : Files) : List UInt8 := frameS (bodyS epoch m (namesS m)) ++ List.replicate (256 - (frameS (bodyS epoch m (namesS m))).length) 0
/-- Does a list fit? -/
def Fits (epoch : Nat) (m : Files) : Prop := (frameS (bodyS epoch m (namesS m))).length ≤ 256 ∧ (bodyS epoch m (namesS m)).length ≤ 8192 ∧ m.length ≤ 100

theorem listS_len {epoch : Nat} {m : Files} (h : Fits epoch m) : (listS epoch m).length = 256 := by
  unfold listS
  rw [List.length_append, List.length_replicate]
  have := h.1
  omega

theorem Nib.kept {K : Nat → Prop} {w w' : World} (h : Nib w) (hk : Kept K w w') (h0 : K 2) : Nib w' := fun j hj => (hk.cell (p := ⟨2, j, none⟩) h0).trans (h j hj)

/-- New bytes may be written. -/
theorem put_any (w W : World) (K : Nat → Prop) (D n : Nat) (safe cur : List UInt8) (h : DiskAt w K D n safe cur false) (hb : Below w.heap.size w W) (hK : ∀ k, K k → k < w.heap.size) (a : Nat) (v : Value) (bs : List UInt8) (hv : OwnB W w.heap.size v bs) (hl : bs.length ≤ 9223372036854775807) (hin : a + bs.length ≤ 32 * n) :
    Calls Tryz.prog 73 #[.pointer (some ⟨D, 0, none⟩), .int .i64 a, v] W (fun e w' => e = .returned (.int .i64 0) ∧ DiskAt w' K D n safe (splice cur a bs) false ∧ Kept K W w') := by
  have hat := hv.at hl
  obtain ⟨q, cap, hq, -⟩ := hv.len
  have hqk : ∀ x, q = some x → w.heap.size ≤ x.block ∧ x.block < W.heap.size := fun x hx => by
    subst hx
    rcases hv.2 with ⟨h1, -⟩ | ⟨g, cap', cur', h1, h2, h3, -⟩
    · rw [h1] at hq; cases hq
    · rw [h1] at hq
      simp only [Value.slice.injEq, Option.some.injEq] at hq
      obtain ⟨rfl, -⟩ := hq
      exact ⟨h2, heap_lt h3⟩
  have h2 : DiskAt W (fun k => K k ∨ ∃ x, q = some x ∧ k = x.block) D n safe cur false := (h.more (K' := fun k => K k ∨ ∃ x, q = some x ∧ k = x.block) (fun k hk hk2 => by
    rcases hk2 with hk2 | ⟨x, hx, rfl⟩
    · exact hk2
    · have := (hqk x hx).1; omega)).below hb
  refine (write_any W _ D n safe cur h2 a v bs ⟨hat, fun q' n' c' e x hx => ?_⟩ hin (fun k hk => ?_)).mono ?_
  · rw [hq] at e
    simp only [Value.slice.injEq] at e
    obtain ⟨rfl, -⟩ := e
    exact .inr ⟨x, hx, rfl⟩
  · rcases hk with hk | ⟨x, hx, rfl⟩
    · have := hK k hk; have := hb.size; omega
    · exact (hqk x hx).2
  · rintro e w' ⟨rfl, hd, hk⟩
    exact ⟨rfl, hd.more (fun k _ hk => .inl hk), hk.less fun k hk => .inl hk⟩

set_option maxRecDepth 100000 in
/-- Format's list: a function value that writes a list. -/
theorem fmt1_any (w : World) (p : Nat) (hp : p < w.heap.size) (a b : Nat) : Calls Tryz.prog 88 #[.int .i64 a, .int .i64 b, .pointer (some ⟨p, 0, none⟩)] w
    (fun e w' => ∃ x y, e = .returned (.func (.func 89) #[] #[.pointer (some ⟨p, 0, none⟩), .pointer (some ⟨x, 0, none⟩), .pointer (some ⟨y, 0, none⟩)]) ∧ w.heap.size ≤ x ∧ w.heap.size ≤ y ∧
      w'.cell? ⟨x, 0, none⟩ = some (.int .i64 a) ∧ w'.cell? ⟨y, 0, none⟩ = some (.int .i64 b) ∧ Below w.heap.size w w') := by
  go_enter Tryz.func88, Tryz.ntmps88
  go_wp2_with fail
  go_ret
  exact ⟨_, _, rfl, by simp, by simp, by simp, by simp, (((Below.refl _ w).alloc (Nat.le_refl _) _)).alloc (by simp) _⟩

set_option maxRecDepth 100000 in
theorem fmt2_any (w : World) (K : Nat → Prop) (D n : Nat) (safe cur : List UInt8) (h : DiskAt w K D n safe cur false) (hK : ∀ k, K k → k < w.heap.size) (p x y a b : Nat) (cp : w.cell? ⟨p, 0, none⟩ = some (.pointer (some ⟨D, 0, none⟩)))
    (cx : w.cell? ⟨x, 0, none⟩ = some (.int .i64 a)) (cy : w.cell? ⟨y, 0, none⟩ = some (.int .i64 b)) (kp : K p) (kx : K x) (ky : K y) (hN : Nib w) (ha : a ≤ 1) (hn : 16 ≤ n) (hb : b ≤ 1000000) (hfit : Fits b []) :
    Calls Tryz.prog 89 #[.pointer (some ⟨p, 0, none⟩), .pointer (some ⟨x, 0, none⟩), .pointer (some ⟨y, 0, none⟩)] w (fun e w' => e = .returned (.int .i64 0) ∧ DiskAt w' K D n safe (splice cur (256 * a) (listS b [])) false ∧ Kept K w w') := by
  have hlist := bytesof_nil b w.drew (hN.below (Below.refl _ _).drew) (by omega) (by simpa [namesS] using hfit.1) (by simpa [namesS] using hfit.2.1)
  obtain ⟨pa, hpa⟩ : ∃ pa, pa = 256 * a := ⟨_, rfl⟩
  have hput := fun W v (hb : Below w.heap.size w W) (hv : OwnB W w.heap.size v (listS b [])) => put_any w W K D n safe cur h hb hK pa v (listS b []) hv (by rw [listS_len hfit]; omega) (by rw [listS_len hfit]; omega)
  have lp := World.block_lt_of_cell? _ _ cp
  have lx := World.block_lt_of_cell? _ _ cx
  have ly := World.block_lt_of_cell? _ _ cy
  have e1 : IntKind.i64.wrap ((a : Int) * 256) = (pa : Int) := by rw [IntWalk.i64_in _ (by omega)]; omega
  rw [← hpa]
  have Hpa := Lib.hid hpa
  clear h hpa
  go_enter Tryz.func89, Tryz.ntmps89
  go_upto_region 1 with fail
  refine wp_region_held_drew (S := (fun w' => w'.cell? ⟨p, 0, none⟩ = some (.pointer (some ⟨D, 0, none⟩)) ∧ w'.cell? ⟨x, 0, none⟩ = some (.int .i64 a) ∧ w'.cell? ⟨y, 0, none⟩ = some (.int .i64 b))) (by kernel_rfl) (by exact ⟨cp, cx, cy⟩) (fun hHeld => ?_)
  refine' takeL (v := _) 0 rfl (by kernel_rfl) (by kernel_rfl) (by kernel_rfl) (fun _ _ _ h => h) (by rfl) ?_ (by assumption) ?_; rotate_left 1; (focus (intro w hSw; (try dsimp only at hSw); go_simp; (try with_reducible rfl); done))
  (try simp only [Act.put, List.setIfInBounds_toArray, List.set_cons_zero, List.set_cons_succ])
  refine' takeL (v := _) 1 rfl (by kernel_rfl) (by kernel_rfl) (by kernel_rfl) (fun _ _ _ h => h) (by rfl) ?_ (by assumption) ?_; rotate_left 1; (focus (intro w hSw; (try dsimp only at hSw); go_simp; (try with_reducible rfl); done))
  (try simp only [Act.put, List.setIfInBounds_toArray, List.set_cons_zero, List.set_cons_succ])
  refine' takeL (v := _) 2 rfl (by kernel_rfl) (by kernel_rfl) (by kernel_rfl) (fun _ _ _ h => h) (by rfl) ?_ (by assumption) ?_; rotate_left 1; (focus (intro w hSw; (try dsimp only at hSw); go_simp; (try with_reducible rfl); done))
  (try simp only [Act.put, List.setIfInBounds_toArray, List.set_cons_zero, List.set_cons_succ])
  refine' takeL (v := _) 3 rfl (by kernel_rfl) (by kernel_rfl) (by kernel_rfl) (fun _ _ _ h => h) (by rfl) ?_ (by assumption) ?_; rotate_left 1; (focus (intro w hSw; (try dsimp only at hSw); go_simp; (try with_reducible rfl); done))
  (try simp only [Act.put, List.setIfInBounds_toArray, List.set_cons_zero, List.set_cons_succ])
  refine stepL 4 rfl (by kernel_rfl) (fun K hK => ?_)
  go_simp
  go_at_call 83
  refine hlist.mono ?_
  rintro e w1 ⟨v, rfl, hown, hb1'⟩
  have hb1 : Below w.heap.size w w1 := below_trans (Below.refl _ _).drew hb1'
  refine hK.out _ _ (by exact ⟨bcell hb1 cp, bcell hb1 cx, bcell hb1 cy⟩) (fun hHeld => ?_)
  clear hK K
  (try simp only [Act.put, List.setIfInBounds_toArray, List.set_cons_zero, List.set_cons_succ])
  refine stepL 5 rfl (by kernel_rfl) (fun K hK => ?_)
  go_simp
  go_at_call 73
  refine (hput w1 v hb1 hown).mono ?_
  rintro e w2 ⟨rfl, hd, hk⟩
  refine hK.out _ _ (by exact ⟨(hk.cell kp).trans (bcell hb1 cp), (hk.cell kx).trans (bcell hb1 cx), (hk.cell ky).trans (bcell hb1 cy)⟩) (fun hHeld => ?_)
  clear hK K
  (try simp only [Act.put, List.setIfInBounds_toArray, List.set_cons_zero, List.set_cons_succ])
  refine' takeL (v := _) 6 rfl (by kernel_rfl) (by kernel_rfl) (by kernel_rfl) (fun _ _ _ h => h) (by rfl) ?_ (by assumption) ?_; rotate_left 1; (focus (intro w hSw; (try dsimp only at hSw); go_simp; (try with_reducible rfl); done))
  (try simp only [Act.put, List.setIfInBounds_toArray, List.set_cons_zero, List.set_cons_succ])
  refine wpAnyH_done (by kernel_rfl) ?_ _
  go_wp2_with fail
  go_ret
  exact ⟨rfl, hd, (kept_of_below hb1 hK).trans hk⟩

end Go.Proofs.YtlhefifejcoecaaGreatDoor
