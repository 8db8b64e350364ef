/- Package sum: Of, Frame. -/
import Derived.Test.YtnpnchociegmpaaDoorSum
namespace Go.Proofs.YtnpnchociegmpaaDoor
open Go.RowKit Go.Proofs Go.Shelf
attribute [local go_sem ↓] Go.wp_at_zero Go.wp_at_succ

theorem of_any (v : Value) (bs : List UInt8) (w : World) (hv : SlP 1 ByteE w v bs) (hN : Nib w) : Calls Tryd.prog 66 #[v] w (Gives w (.int .u32 (crcS 0 bs : Nat))) := by
  have hadd := add_any v bs 0 w hv hN (by decide)
  go_enter Tryd.func66, Tryd.ntmps66
  go_wp2_with (first | (go_at_call 72; refine hadd.mono ?_; rintro e w1 ⟨rfl, hb1⟩) | fail)
  go_ret
  exact ⟨rfl, hb1⟩

/-- A sum's bytes, the last t of four. -/
def sumB (c : Nat) : List UInt8 := [UInt8.ofNat (c / 16777216 % 256), UInt8.ofNat (c / 65536 % 256), UInt8.ofNat (c / 256 % 256), UInt8.ofNat (c % 256)]
def frameS (b : List UInt8) : List UInt8 := (numS b.length ++ b) ++ sumB (crcS 0 (numS b.length ++ b))

theorem src_byte (w1 : World) {d : Nat} (h : d < 256) : Src Tryd.prog 1 32 (.slice (some ⟨w1.heap.size, 0, none⟩) 1 1) 1 [u8 (UInt8.ofNat d)] (w1.alloc (.cells #[.int .u8 (d : Int)] 5)) := by
  have := src_one w1 (UInt8.ofNat d)
  rwa [u8_ofNat h] at this ⊢

theorem slp_nil (w : World) : SlP 1 ByteE w (.slice none 0 0) [] := ⟨none, 0, rfl, by simp, by simp, fun _ => rfl, fun j hj => by simp at hj⟩

set_option maxRecDepth 100000 in
set_option maxHeartbeats 4000000 in
theorem frame_any (v : Value) (bs : List UInt8) (w : World) (hv : SlP 1 ByteE w v bs) (hN : Nib w) (hl : bs.length ≤ 8192) : Calls Tryd.prog 52 #[v] w (OutB w (frameS bs)) := by
  have hnum := num_any (.slice none 0 0) [] bs.length w (slp_nil w) (by simp) (by unfold U64; omega)
  have hof := fun W v' (hb : Below w.heap.size w W) (h : SlP 1 ByteE W v' (numS bs.length ++ bs)) => of_any v' (numS bs.length ++ bs) W h (hN.below hb)
  have hnl := numS_length bs.length
  have Hv := Lib.hid hv
  obtain ⟨q, cap, rfl, hlc, -, -⟩ := hv.bytesAt
  have n1 : ¬ (8192 : Int) < (bs.length : Int) := by omega
  have hw : (bs.length : Int) % 18446744073709551616 = (bs.length : Int) := by omega
  have Hc := Lib.hid (crcS_lt 0 (numS bs.length ++ bs))
  have Hfr : Hid (frameS bs = (numS bs.length ++ bs) ++ sumB (crcS 0 (numS bs.length ++ bs))) := Lib.hid rfl
  simp only [List.nil_append] at hnum
  generalize numS bs.length = nb at *
  go_enter Tryd.func52, Tryd.ntmps52
  go_wp2_with (first
    | (go_at_call 50; refine hnum.mono ?_; rintro e w1 ⟨v1, rfl, hown1, hb1⟩; have hlt1 := World.ownsRow.lt hown1; have hs1 := src_bytes (P := Tryd.prog) (tx := 32) Tryd.underlying32 (Hv.out.mono ByteE.mono hb1))
    | (at_builtin; refine wpList_app (v := v1) rfl _ _ 32 32 rfl w.heap.size 5 1 1 byteElt Tryd.underlying32 nb.length _ rfl hown1 rfl bs.length _ hs1 (by unfold maxLen; omega) (by omega) hb1.size ?_; intro v2 w2 hown2 hg2 _; have hb2 : Below w.heap.size w w2 := grown_below hb1 hg2 hb1.size (fun k hk => (hlt1 k hk).1); have ho2 : OwnB w2 w.heap.size v2 (nb ++ bs) := (by unfold OwnB; rw [List.length_append, List.map_append]; exact hown2); have hsl2 := ho2.at (by rw [List.length_append]; omega))
    | (go_at_call 66; refine (hof _ v2 hb2 hsl2).mono ?_; rintro e w3 ⟨rfl, hb3⟩)
    | fail)
  have hXl : (nb ++ bs).length ≤ 9000 := by rw [List.length_append]; omega
  have ho3 := OwnB.mono hb3 ho2
  have hb3' := below_trans hb2 hb3
  clear hnum hof hs1 hown1 hown2 hsl2 ho2 hlt1
  generalize crcS 0 (nb ++ bs) = c at *
  generalize nb ++ bs = X at *
  have hc := Hc.out
  go_loopw [3, 5] (fun x sh wr => ∃ t : Nat, t ≤ 4 ∧ sh = .int .i64 (24 - 8 * (t : Int)) ∧ OwnB wr w.heap.size x (X ++ (sumB c).take t) ∧ Below w.heap.size w wr) (fun _ sh _ => (intOf sh + 8).toNat)
  case atStart => exact ⟨0, by omega, rfl, by rw [List.take_zero, List.append_nil]; exact ho3, hb3'⟩
  case round =>
    obtain ⟨t, ht, rfl, hown, hb⟩ := hrel
    have hlt := World.ownsRow.lt hown
    have hsz := hb.size
    have hcases : t = 0 ∨ t = 1 ∨ t = 2 ∨ t = 3 ∨ t = 4 := by omega
    rcases hcases with rfl | rfl | rfl | rfl | rfl
    · skip
      have hd : c / 16777216 % 256 < 256 := Nat.mod_lt _ (by decide)
      have he : (c : Int) / 16777216 = ((c / 16777216 % 256 : Nat) : Int) := by omega
      have Htk : Hid ((sumB c).take 1 = (sumB c).take 0 ++ [UInt8.ofNat (c / 16777216 % 256)]) := Lib.hid rfl
      have hln : (X ++ (sumB c).take 0).length ≤ 9010 := by rw [List.length_append, List.length_take]; omega
      generalize c / 16777216 % 256 = d at hd he Htk
      have hs := src_byte wr hd
      generalize hY : X ++ (sumB c).take 0 = Y at *
      have HY := Lib.hid hY
      clear hY
      obtain ⟨q2, cap2, rfl, -⟩ := hown.len
      have Hof : Hid (YtnpnchociegmpaaDoor.u8 (UInt8.ofNat d) = .int .u8 (d : Int)) := Lib.hid (u8_ofNat hd)
      go_wp2_with (first
        | (at_builtin; refine wpList_app (v := .slice q2 Y.length cap2) rfl _ _ 32 32 rfl w.heap.size 5 1 1 byteElt Tryd.underlying32 Y.length _ rfl (hown.alloc _) rfl 1 _ hs (by unfold maxLen; omega) (by omega) (by simp; omega) ?_; intro v5 w5 hown5 hg5 _)
        | fail)
      have hb5 : Below w.heap.size w w5 := grown_below (below_alloc hb _) hg5 (by simp; omega) (fun k hk => (hlt k hk).1)
      have ho5 : OwnB w5 w.heap.size v5 (Y ++ [UInt8.ofNat d]) := by unfold OwnB; rw [List.length_append, List.map_append]; exact hown5
      refine ⟨⟨1, by omega, by simp, ?_, hb5⟩, by simp [intOf]⟩
      rw [Htk.out, ← List.append_assoc, HY.out]
      exact ho5
    · skip
      have hd : c / 65536 % 256 < 256 := Nat.mod_lt _ (by decide)
      have he : (c : Int) / 65536 % 256 = ((c / 65536 % 256 : Nat) : Int) := by omega
      have Htk : Hid ((sumB c).take 2 = (sumB c).take 1 ++ [UInt8.ofNat (c / 65536 % 256)]) := Lib.hid rfl
      have hln : (X ++ (sumB c).take 1).length ≤ 9010 := by rw [List.length_append, List.length_take]; omega
      generalize c / 65536 % 256 = d at hd he Htk
      have hs := src_byte wr hd
      generalize hY : X ++ (sumB c).take 1 = Y at *
      have HY := Lib.hid hY
      clear hY
      obtain ⟨q2, cap2, rfl, -⟩ := hown.len
      have Hof : Hid (YtnpnchociegmpaaDoor.u8 (UInt8.ofNat d) = .int .u8 (d : Int)) := Lib.hid (u8_ofNat hd)
      go_wp2_with (first
        | (at_builtin; refine wpList_app (v := .slice q2 Y.length cap2) rfl _ _ 32 32 rfl w.heap.size 5 1 1 byteElt Tryd.underlying32 Y.length _ rfl (hown.alloc _) rfl 1 _ hs (by unfold maxLen; omega) (by omega) (by simp; omega) ?_; intro v5 w5 hown5 hg5 _)
        | fail)
      have hb5 : Below w.heap.size w w5 := grown_below (below_alloc hb _) hg5 (by simp; omega) (fun k hk => (hlt k hk).1)
      have ho5 : OwnB w5 w.heap.size v5 (Y ++ [UInt8.ofNat d]) := by unfold OwnB; rw [List.length_append, List.map_append]; exact hown5
      refine ⟨⟨2, by omega, by simp, ?_, hb5⟩, by simp [intOf]⟩
      rw [Htk.out, ← List.append_assoc, HY.out]
      exact ho5
    · skip
      have hd : c / 256 % 256 < 256 := Nat.mod_lt _ (by decide)
      have he : (c : Int) / 256 % 256 = ((c / 256 % 256 : Nat) : Int) := by omega
      have Htk : Hid ((sumB c).take 3 = (sumB c).take 2 ++ [UInt8.ofNat (c / 256 % 256)]) := Lib.hid rfl
      have hln : (X ++ (sumB c).take 2).length ≤ 9010 := by rw [List.length_append, List.length_take]; omega
      generalize c / 256 % 256 = d at hd he Htk
      have hs := src_byte wr hd
      generalize hY : X ++ (sumB c).take 2 = Y at *
      have HY := Lib.hid hY
      clear hY
      obtain ⟨q2, cap2, rfl, -⟩ := hown.len
      have Hof : Hid (YtnpnchociegmpaaDoor.u8 (UInt8.ofNat d) = .int .u8 (d : Int)) := Lib.hid (u8_ofNat hd)
      go_wp2_with (first
        | (at_builtin; refine wpList_app (v := .slice q2 Y.length cap2) rfl _ _ 32 32 rfl w.heap.size 5 1 1 byteElt Tryd.underlying32 Y.length _ rfl (hown.alloc _) rfl 1 _ hs (by unfold maxLen; omega) (by omega) (by simp; omega) ?_; intro v5 w5 hown5 hg5 _)
        | fail)
      have hb5 : Below w.heap.size w w5 := grown_below (below_alloc hb _) hg5 (by simp; omega) (fun k hk => (hlt k hk).1)
      have ho5 : OwnB w5 w.heap.size v5 (Y ++ [UInt8.ofNat d]) := by unfold OwnB; rw [List.length_append, List.map_append]; exact hown5
      refine ⟨⟨3, by omega, by simp, ?_, hb5⟩, by simp [intOf]⟩
      rw [Htk.out, ← List.append_assoc, HY.out]
      exact ho5
    · skip
      have hd : c % 256 < 256 := Nat.mod_lt _ (by decide)
      have he : (c : Int) % 256 = ((c % 256 : Nat) : Int) := by omega
      have Htk : Hid ((sumB c).take 4 = (sumB c).take 3 ++ [UInt8.ofNat (c % 256)]) := Lib.hid rfl
      have hln : (X ++ (sumB c).take 3).length ≤ 9010 := by rw [List.length_append, List.length_take]; omega
      generalize c % 256 = d at hd he Htk
      have hs := src_byte wr hd
      generalize hY : X ++ (sumB c).take 3 = Y at *
      have HY := Lib.hid hY
      clear hY
      obtain ⟨q2, cap2, rfl, -⟩ := hown.len
      have Hof : Hid (YtnpnchociegmpaaDoor.u8 (UInt8.ofNat d) = .int .u8 (d : Int)) := Lib.hid (u8_ofNat hd)
      go_wp2_with (first
        | (at_builtin; refine wpList_app (v := .slice q2 Y.length cap2) rfl _ _ 32 32 rfl w.heap.size 5 1 1 byteElt Tryd.underlying32 Y.length _ rfl (hown.alloc _) rfl 1 _ hs (by unfold maxLen; omega) (by omega) (by simp; omega) ?_; intro v5 w5 hown5 hg5 _)
        | fail)
      have hb5 : Below w.heap.size w w5 := grown_below (below_alloc hb _) hg5 (by simp; omega) (fun k hk => (hlt k hk).1)
      have ho5 : OwnB w5 w.heap.size v5 (Y ++ [UInt8.ofNat d]) := by unfold OwnB; rw [List.length_append, List.map_append]; exact hown5
      refine ⟨⟨4, by omega, by simp, ?_, hb5⟩, by simp [intOf]⟩
      rw [Htk.out, ← List.append_assoc, HY.out]
      exact ho5
    · have Hown := Lib.hid hown
      obtain ⟨q2, cap2, rfl, -⟩ := hown.len
      clear hown
      go_wp2_with fail
      go_ret
      exact ⟨_, rfl, by rw [Hfr.out]; exact Hown.out, hb⟩

end Go.Proofs.YtnpnchociegmpaaDoor
