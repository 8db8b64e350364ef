/- Package sum: the sum of bytes, and frames. -/
/- Package sum: Of, Frame. -/
import Derived.Test.YtlhefifejcoecaaGreatDoorPack2
import Derived.Deep.DeepCutAuto
import Derived.Deep.LoopGhost
import Derived.Deep.CutBlock
import Derived.Outline
import Derived.Laws.BitsLemmas
import Derived.Laws.Closers25b
namespace Go.Proofs.YtlhefifejcoecaaGreatDoor
open Go.RowKit Go.Proofs Go.Shelf
attribute [local go_sem ↓] Go.wp_at_zero Go.wp_at_succ

def nibs : List Nat := [0, 274646895, 549293790, 820201905, 1098587580, 1361435347, 1640403810, 1905808397, 2197175160, 2460548119, 2722870694, 2987750089, 3280807620, 3553878443, 3811616794, 4084100981]
def Nib (w : World) : Prop := ∀ j, j < 16 → w.cell? ⟨2, j, none⟩ = some (.int .u32 ((nibs.getD j 0 : Nat) : Int))

theorem Nib.below {w w' : World} (h : Nib w) (hb : Below w.heap.size w w') : Nib w' := fun j hj => bcell hb (h j hj)

theorem SlP.bytesAt {w : World} {v : Value} {l : List UInt8} (h : SlP 1 ByteE w v l) : ∃ q cap, v = .slice q l.length cap ∧ l.length ≤ cap ∧ l.length ≤ 9223372036854775807 ∧ ∀ j, (hj : j < l.length) → ∃ b o, q = some ⟨b, o, none⟩ ∧ w.cell? ⟨b, o + j, none⟩ = some (u8 l[j]) := by
  obtain ⟨q, cap, rfl, h1, h2, h0, h3⟩ := h
  refine ⟨q, cap, rfl, h1, h2, fun j hj => ?_⟩
  obtain ⟨b, o, cs, rfl, -, hcs, hc⟩ := h3 j hj
  subst hcs
  exact ⟨b, o, rfl, by simpa using hc 0 (by simp)⟩

def xor32 (a b : Nat) : Nat := (bits .xor .u32 (a : Int) (b : Int)).toNat
theorem xor32_eq (a b : Nat) : bits .xor .u32 (a : Int) (b : Int) = ((xor32 a b : Nat) : Int) := by
  have := bits_lo_u32 .xor (a : Int) (b : Int)
  unfold xor32; omega
theorem xor32_lt (a b : Nat) : xor32 a b < 4294967296 := by
  have h1 := bits_lo_u32 .xor (a : Int) (b : Int)
  have h2 := bits_hi_u32 .xor (a : Int) (b : Int)
  unfold xor32; omega

theorem and15 (a : Nat) (h : a < 4294967296) : bits .and .u32 (a : Int) 15 = ((a % 16 : Nat) : Int) := by
  have h1 := bits_mask .u32 32 (by decide) (fun n h0 h1 => IntWalk.u32_in n (by omega)) 4 (by decide) (a : Int) (by omega) (by omega)
  have e : ((2 : Int) ^ 4 - 1) = 15 := by decide
  rw [e] at h1
  rw [h1]
  omega

def crcN (y : Nat) : Nat := xor32 (y / 16) (nibs.getD (y % 16) 0)
def crcStep (c : Nat) (x : UInt8) : Nat := crcN (crcN (xor32 c x.toNat))
def crcS (s : Nat) (bs : List UInt8) : Nat := xor32 4294967295 (bs.foldl crcStep (xor32 4294967295 s))

theorem crcStep_lt (c : Nat) (x : UInt8) : crcStep c x < 4294967296 := xor32_lt _ _
theorem crcS_lt (s : Nat) (bs : List UInt8) : crcS s bs < 4294967296 := xor32_lt _ _

set_option maxRecDepth 100000 in
set_option maxHeartbeats 2000000 in
theorem add_any (v : Value) (bs : List UInt8) (s : Nat) (w : World) (hv : SlP 1 ByteE w v bs) (hN : Nib w) (hs : s < 4294967296) :
    Calls Tryz.prog 127 #[.int .u32 s, v] w (Gives w (.int .u32 (crcS s bs : Nat))) := by
  obtain ⟨q, cap, rfl, hlc, hll, hcell⟩ := hv.bytesAt
  go_enter Tryz.func127, Tryz.ntmps127
  go_wp2_with fail
  go_loopw [0, 11] (fun c x wr => ∃ k : Nat, k ≤ bs.length ∧ c = .int .u32 ((bs.take k).foldl crcStep (xor32 4294967295 s) : Nat) ∧ x = .int .i64 k ∧ Below w.heap.size w wr) (fun _ x _ => bs.length - (intOf x).toNat)
  case atStart => exact ⟨0, Nat.zero_le _, by rw [List.take_zero, List.foldl_nil, ← xor32_eq]; rfl, rfl, Below.refl _ _⟩
  case round =>
    obtain ⟨k, hk, rfl, rfl, hb⟩ := hrel
    have ht : (bs.take k).foldl crcStep (xor32 4294967295 s) < 4294967296 := by
      cases k with
      | zero => simpa using xor32_lt _ _
      | succ k =>
        by_cases hk2 : k < bs.length
        · rw [List.take_succ_eq_append_getElem hk2, List.foldl_append]
          exact crcStep_lt _ _
        · omega
    by_cases hlt : k < bs.length
    · obtain ⟨b, o, rfl, c0⟩ := hcell k hlt
      replace c0 := bcell hb c0
      have n0 : (0 : Int) ≤ (k : Int) := by omega
      have n1 : (k : Int) < (bs.length : Int) := by omega
      have Hst : Hid ((bs.take (k + 1)).foldl crcStep (xor32 4294967295 s) = crcStep ((bs.take k).foldl crcStep (xor32 4294967295 s)) bs[k]) := Lib.hid (by rw [List.take_succ_eq_append_getElem hlt, List.foldl_append]; rfl)
      generalize (bs.take k).foldl crcStep (xor32 4294967295 s) = t at *
      generalize bs[k] = x at *
      unfold YtlhefifejcoecaaGreatDoor.u8 at c0
      clear hcell
      have hx : (x.toNat : Int) % 4294967296 = (x.toNat : Int) := by have := UInt8.toNat_lt x; omega
      have e1 := xor32_eq t x.toNat
      have y1lt := xor32_lt t x.toNat
      have Hcs : Hid (crcStep t x = crcN (crcN (xor32 t x.toNat))) := Lib.hid rfl
      generalize xor32 t x.toNat = y1 at *
      have e2 := and15 y1 y1lt
      have i1 : y1 % 16 < 16 := Nat.mod_lt _ (by decide)
      have b1 := bcell hb (hN _ i1)
      have e3 : (y1 : Int) / 16 = ((y1 / 16 : Nat) : Int) := by omega
      have e4 := xor32_eq (y1 / 16) (nibs.getD (y1 % 16) 0)
      have y2lt := xor32_lt (y1 / 16) (nibs.getD (y1 % 16) 0)
      have Hc2 : Hid (crcN y1 = xor32 (y1 / 16) (nibs.getD (y1 % 16) 0)) := Lib.hid rfl
      generalize nibs.getD (y1 % 16) 0 = nb1 at *
      generalize y1 % 16 = j1 at *
      generalize y1 / 16 = z1 at *
      generalize xor32 z1 nb1 = y2 at *
      have e5 := and15 y2 y2lt
      have i2 : y2 % 16 < 16 := Nat.mod_lt _ (by decide)
      have b2 := bcell hb (hN _ i2)
      have e6 : (y2 : Int) / 16 = ((y2 / 16 : Nat) : Int) := by omega
      have e7 := xor32_eq (y2 / 16) (nibs.getD (y2 % 16) 0)
      have Hc3 : Hid (crcN y2 = xor32 (y2 / 16) (nibs.getD (y2 % 16) 0)) := Lib.hid rfl
      generalize nibs.getD (y2 % 16) 0 = nb2 at *
      generalize y2 % 16 = j2 at *
      generalize y2 / 16 = z2 at *
      generalize xor32 z2 nb2 = y3 at *
      have m1 : (0 : Int) ≤ (j1 : Int) := by omega
      have m2 : (j1 : Int) < 16 := by omega
      have m3 : (0 : Int) ≤ (j2 : Int) := by omega
      have m4 : (j2 : Int) < 16 := by omega
      go_wp2_with fail
      go_roundw
      case rel => exact ⟨k + 1, hlt, by rw [Hst.out, Hcs.out, Hc2.out, Hc3.out], by go_num, hb⟩
      case measure => simp [intOf]; omega
    · have hke : k = bs.length := by omega
      subst hke
      rw [List.take_length] at *
      have e1 := xor32_eq 4294967295 (bs.foldl crcStep (xor32 4294967295 s))
      have Hq : Hid (crcS s bs = xor32 4294967295 (bs.foldl crcStep (xor32 4294967295 s))) := Lib.hid rfl
      generalize bs.foldl crcStep (xor32 4294967295 s) = t at *
      generalize xor32 4294967295 t = y at *
      clear hcell
      go_wp2_with fail
      go_ret
      refine ⟨?_, hb⟩
      rw [Hq.out]
      rw [← e1]
      rfl

end Go.Proofs.YtlhefifejcoecaaGreatDoor

namespace Go.Proofs.YtlhefifejcoecaaGreatDoor
open Go.RowKit Go.Proofs Go.Shelf
attribute [local go_sem ↓] Go.wp_at_zero Go.wp_at_succ

theorem of_any (v : Value) (bs : List UInt8) (w : World) (hv : SlP 1 ByteE w v bs) (hN : Nib w) : Calls Tryz.prog 106 #[v] w (Gives w (.int .u32 (crcS 0 bs : Nat))) := by
  have hadd := add_any v bs 0 w hv hN (by decide)
  go_enter Tryz.func106, Tryz.ntmps106
  go_wp2_with (first | (go_at_call 127; refine hadd.mono ?_; rintro e w1 ⟨rfl, hb1⟩) | fail)
  go_ret
  exact ⟨rfl, hb1⟩

/-- A sum's bytes, the last t of four. -/
def sumB (c : Nat) : List UInt8 := [UInt8.ofNat (c / 16777216 % 256), UInt8.ofNat (c / 65536 % 256), UInt8.ofNat (c / 256 % 256), UInt8.ofNat (c % 256)]
def frameS (b : List UInt8) : List UInt8 := (numS b.length ++ b) ++ sumB (crcS 0 (numS b.length ++ b))

theorem src_byte (w1 : World) {d : Nat} (h : d < 256) : Src Tryz.prog 1 25 (.slice (some ⟨w1.heap.size, 0, none⟩) 1 1) 1 [u8 (UInt8.ofNat d)] (w1.alloc (.cells #[.int .u8 (d : Int)] 5)) := by
  have := src_one w1 (UInt8.ofNat d)
  rwa [u8_ofNat h] at this ⊢

theorem slp_nil (w : World) : SlP 1 ByteE w (.slice none 0 0) [] := ⟨none, 0, rfl, by simp, by simp, fun _ => rfl, fun j hj => by simp at hj⟩

set_option maxRecDepth 100000 in
set_option maxHeartbeats 4000000 in
theorem frame_any (v : Value) (bs : List UInt8) (w : World) (hv : SlP 1 ByteE w v bs) (hN : Nib w) (hl : bs.length ≤ 8192) : Calls Tryz.prog 68 #[v] w (OutB w (frameS bs)) := by
  have hnum := num_any (.slice none 0 0) [] bs.length w (slp_nil w) (by simp) (by unfold U64; omega)
  have hof := fun W v' (hb : Below w.heap.size w W) (h : SlP 1 ByteE W v' (numS bs.length ++ bs)) => of_any v' (numS bs.length ++ bs) W h (hN.below hb)
  have hnl := numS_length bs.length
  have Hv := Lib.hid hv
  obtain ⟨q, cap, rfl, hlc, -, -⟩ := hv.bytesAt
  have n1 : ¬ (8192 : Int) < (bs.length : Int) := by omega
  have hw : (bs.length : Int) % 18446744073709551616 = (bs.length : Int) := by omega
  have Hc := Lib.hid (crcS_lt 0 (numS bs.length ++ bs))
  have Hfr : Hid (frameS bs = (numS bs.length ++ bs) ++ sumB (crcS 0 (numS bs.length ++ bs))) := Lib.hid rfl
  simp only [List.nil_append] at hnum
  generalize numS bs.length = nb at *
  go_enter Tryz.func68, Tryz.ntmps68
  go_wp2_with (first
    | (go_at_call 71; refine hnum.mono ?_; rintro e w1 ⟨v1, rfl, hown1, hb1⟩; have hlt1 := World.ownsRow.lt hown1; have hs1 := src_bytes (P := Tryz.prog) (tx := 25) Tryz.underlying25 (Hv.out.mono ByteE.mono hb1))
    | (at_builtin; refine wpList_app (v := v1) rfl _ _ 25 25 rfl w.heap.size 5 1 1 byteElt Tryz.underlying25 nb.length _ rfl hown1 rfl bs.length _ hs1 (by unfold maxLen; omega) (by omega) hb1.size ?_; intro v2 w2 hown2 hg2 _; have hb2 : Below w.heap.size w w2 := grown_below hb1 hg2 hb1.size (fun k hk => (hlt1 k hk).1); have ho2 : OwnB w2 w.heap.size v2 (nb ++ bs) := (by unfold OwnB; rw [List.length_append, List.map_append]; exact hown2); have hsl2 := ho2.at (by rw [List.length_append]; omega))
    | (go_at_call 106; refine (hof _ v2 hb2 hsl2).mono ?_; rintro e w3 ⟨rfl, hb3⟩)
    | fail)
  have hXl : (nb ++ bs).length ≤ 9000 := by rw [List.length_append]; omega
  have ho3 := OwnB.mono hb3 ho2
  have hb3' := below_trans hb2 hb3
  clear hnum hof hs1 hown1 hown2 hsl2 ho2 hlt1
  generalize crcS 0 (nb ++ bs) = c at *
  generalize nb ++ bs = X at *
  have hc := Hc.out
  go_loopw [3, 5] (fun x sh wr => ∃ t : Nat, t ≤ 4 ∧ sh = .int .i64 (24 - 8 * (t : Int)) ∧ OwnB wr w.heap.size x (X ++ (sumB c).take t) ∧ Below w.heap.size w wr) (fun _ sh _ => (intOf sh + 8).toNat)
  case atStart => exact ⟨0, by omega, rfl, by rw [List.take_zero, List.append_nil]; exact ho3, hb3'⟩
  case round =>
    obtain ⟨t, ht, rfl, hown, hb⟩ := hrel
    have hlt := World.ownsRow.lt hown
    have hsz := hb.size
    have hcases : t = 0 ∨ t = 1 ∨ t = 2 ∨ t = 3 ∨ t = 4 := by omega
    rcases hcases with rfl | rfl | rfl | rfl | rfl
    · skip
      have hd : c / 16777216 % 256 < 256 := Nat.mod_lt _ (by decide)
      have he : (c : Int) / 16777216 = ((c / 16777216 % 256 : Nat) : Int) := by omega
      have Htk : Hid ((sumB c).take 1 = (sumB c).take 0 ++ [UInt8.ofNat (c / 16777216 % 256)]) := Lib.hid rfl
      have hln : (X ++ (sumB c).take 0).length ≤ 9010 := by rw [List.length_append, List.length_take]; omega
      generalize c / 16777216 % 256 = d at hd he Htk
      have hs := src_byte wr hd
      generalize hY : X ++ (sumB c).take 0 = Y at *
      have HY := Lib.hid hY
      clear hY
      obtain ⟨q2, cap2, rfl, -⟩ := hown.len
      have Hof : Hid (YtlhefifejcoecaaGreatDoor.u8 (UInt8.ofNat d) = .int .u8 (d : Int)) := Lib.hid (u8_ofNat hd)
      go_wp2_with (first
        | (at_builtin; refine wpList_app (v := .slice q2 Y.length cap2) rfl _ _ 25 25 rfl w.heap.size 5 1 1 byteElt Tryz.underlying25 Y.length _ rfl (hown.alloc _) rfl 1 _ hs (by unfold maxLen; omega) (by omega) (by simp; omega) ?_; intro v5 w5 hown5 hg5 _)
        | fail)
      have hb5 : Below w.heap.size w w5 := grown_below (below_alloc hb _) hg5 (by simp; omega) (fun k hk => (hlt k hk).1)
      have ho5 : OwnB w5 w.heap.size v5 (Y ++ [UInt8.ofNat d]) := by unfold OwnB; rw [List.length_append, List.map_append]; exact hown5
      refine ⟨⟨1, by omega, by simp, ?_, hb5⟩, by simp [intOf]⟩
      rw [Htk.out, ← List.append_assoc, HY.out]
      exact ho5
    · skip
      have hd : c / 65536 % 256 < 256 := Nat.mod_lt _ (by decide)
      have he : (c : Int) / 65536 % 256 = ((c / 65536 % 256 : Nat) : Int) := by omega
      have Htk : Hid ((sumB c).take 2 = (sumB c).take 1 ++ [UInt8.ofNat (c / 65536 % 256)]) := Lib.hid rfl
      have hln : (X ++ (sumB c).take 1).length ≤ 9010 := by rw [List.length_append, List.length_take]; omega
      generalize c / 65536 % 256 = d at hd he Htk
      have hs := src_byte wr hd
      generalize hY : X ++ (sumB c).take 1 = Y at *
      have HY := Lib.hid hY
      clear hY
      obtain ⟨q2, cap2, rfl, -⟩ := hown.len
      have Hof : Hid (YtlhefifejcoecaaGreatDoor.u8 (UInt8.ofNat d) = .int .u8 (d : Int)) := Lib.hid (u8_ofNat hd)
      go_wp2_with (first
        | (at_builtin; refine wpList_app (v := .slice q2 Y.length cap2) rfl _ _ 25 25 rfl w.heap.size 5 1 1 byteElt Tryz.underlying25 Y.length _ rfl (hown.alloc _) rfl 1 _ hs (by unfold maxLen; omega) (by omega) (by simp; omega) ?_; intro v5 w5 hown5 hg5 _)
        | fail)
      have hb5 : Below w.heap.size w w5 := grown_below (below_alloc hb _) hg5 (by simp; omega) (fun k hk => (hlt k hk).1)
      have ho5 : OwnB w5 w.heap.size v5 (Y ++ [UInt8.ofNat d]) := by unfold OwnB; rw [List.length_append, List.map_append]; exact hown5
      refine ⟨⟨2, by omega, by simp, ?_, hb5⟩, by simp [intOf]⟩
      rw [Htk.out, ← List.append_assoc, HY.out]
      exact ho5
    · skip
      have hd : c / 256 % 256 < 256 := Nat.mod_lt _ (by decide)
      have he : (c : Int) / 256 % 256 = ((c / 256 % 256 : Nat) : Int) := by omega
      have Htk : Hid ((sumB c).take 3 = (sumB c).take 2 ++ [UInt8.ofNat (c / 256 % 256)]) := Lib.hid rfl
      have hln : (X ++ (sumB c).take 2).length ≤ 9010 := by rw [List.length_append, List.length_take]; omega
      generalize c / 256 % 256 = d at hd he Htk
      have hs := src_byte wr hd
      generalize hY : X ++ (sumB c).take 2 = Y at *
      have HY := Lib.hid hY
      clear hY
      obtain ⟨q2, cap2, rfl, -⟩ := hown.len
      have Hof : Hid (YtlhefifejcoecaaGreatDoor.u8 (UInt8.ofNat d) = .int .u8 (d : Int)) := Lib.hid (u8_ofNat hd)
      go_wp2_with (first
        | (at_builtin; refine wpList_app (v := .slice q2 Y.length cap2) rfl _ _ 25 25 rfl w.heap.size 5 1 1 byteElt Tryz.underlying25 Y.length _ rfl (hown.alloc _) rfl 1 _ hs (by unfold maxLen; omega) (by omega) (by simp; omega) ?_; intro v5 w5 hown5 hg5 _)
        | fail)
      have hb5 : Below w.heap.size w w5 := grown_below (below_alloc hb _) hg5 (by simp; omega) (fun k hk => (hlt k hk).1)
      have ho5 : OwnB w5 w.heap.size v5 (Y ++ [UInt8.ofNat d]) := by unfold OwnB; rw [List.length_append, List.map_append]; exact hown5
      refine ⟨⟨3, by omega, by simp, ?_, hb5⟩, by simp [intOf]⟩
      rw [Htk.out, ← List.append_assoc, HY.out]
      exact ho5
    · skip
      have hd : c % 256 < 256 := Nat.mod_lt _ (by decide)
      have he : (c : Int) % 256 = ((c % 256 : Nat) : Int) := by omega
      have Htk : Hid ((sumB c).take 4 = (sumB c).take 3 ++ [UInt8.ofNat (c % 256)]) := Lib.hid rfl
      have hln : (X ++ (sumB c).take 3).length ≤ 9010 := by rw [List.length_append, List.length_take]; omega
      generalize c % 256 = d at hd he Htk
      have hs := src_byte wr hd
      generalize hY : X ++ (sumB c).take 3 = Y at *
      have HY := Lib.hid hY
      clear hY
      obtain ⟨q2, cap2, rfl, -⟩ := hown.len
      have Hof : Hid (YtlhefifejcoecaaGreatDoor.u8 (UInt8.ofNat d) = .int .u8 (d : Int)) := Lib.hid (u8_ofNat hd)
      go_wp2_with (first
        | (at_builtin; refine wpList_app (v := .slice q2 Y.length cap2) rfl _ _ 25 25 rfl w.heap.size 5 1 1 byteElt Tryz.underlying25 Y.length _ rfl (hown.alloc _) rfl 1 _ hs (by unfold maxLen; omega) (by omega) (by simp; omega) ?_; intro v5 w5 hown5 hg5 _)
        | fail)
      have hb5 : Below w.heap.size w w5 := grown_below (below_alloc hb _) hg5 (by simp; omega) (fun k hk => (hlt k hk).1)
      have ho5 : OwnB w5 w.heap.size v5 (Y ++ [UInt8.ofNat d]) := by unfold OwnB; rw [List.length_append, List.map_append]; exact hown5
      refine ⟨⟨4, by omega, by simp, ?_, hb5⟩, by simp [intOf]⟩
      rw [Htk.out, ← List.append_assoc, HY.out]
      exact ho5
    · have Hown := Lib.hid hown
      obtain ⟨q2, cap2, rfl, -⟩ := hown.len
      clear hown
      go_wp2_with fail
      go_ret
      exact ⟨_, rfl, by rw [Hfr.out]; exact Hown.out, hb⟩

end Go.Proofs.YtlhefifejcoecaaGreatDoor
