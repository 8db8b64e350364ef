/- Package sum: the sum of bytes, and frames. -/
import Derived.Test.YtnpnchociegmpaaDoorPack2
import Derived.Deep.DeepCutAuto
import Derived.Deep.LoopGhost
import Derived.Deep.CutBlock
import Derived.Outline
import Derived.Laws.BitsLemmas
import Derived.Laws.Closers25b
namespace Go.Proofs.YtnpnchociegmpaaDoor
open Go.RowKit Go.Proofs Go.Shelf
attribute [local go_sem ↓] Go.wp_at_zero Go.wp_at_succ

def nibs : List Nat := [0, 274646895, 549293790, 820201905, 1098587580, 1361435347, 1640403810, 1905808397, 2197175160, 2460548119, 2722870694, 2987750089, 3280807620, 3553878443, 3811616794, 4084100981]
def Nib (w : World) : Prop := ∀ j, j < 16 → w.cell? ⟨0, j, none⟩ = some (.int .u32 ((nibs.getD j 0 : Nat) : Int))

theorem Nib.below {w w' : World} (h : Nib w) (hb : Below w.heap.size w w') : Nib w' := fun j hj => bcell hb (h j hj)

theorem SlP.bytesAt {w : World} {v : Value} {l : List UInt8} (h : SlP 1 ByteE w v l) : ∃ q cap, v = .slice q l.length cap ∧ l.length ≤ cap ∧ l.length ≤ 9223372036854775807 ∧ ∀ j, (hj : j < l.length) → ∃ b o, q = some ⟨b, o, none⟩ ∧ w.cell? ⟨b, o + j, none⟩ = some (u8 l[j]) := by
  obtain ⟨q, cap, rfl, h1, h2, h0, h3⟩ := h
  refine ⟨q, cap, rfl, h1, h2, fun j hj => ?_⟩
  obtain ⟨b, o, cs, rfl, -, hcs, hc⟩ := h3 j hj
  subst hcs
  exact ⟨b, o, rfl, by simpa using hc 0 (by simp)⟩

def xor32 (a b : Nat) : Nat := (bits .xor .u32 (a : Int) (b : Int)).toNat
theorem xor32_eq (a b : Nat) : bits .xor .u32 (a : Int) (b : Int) = ((xor32 a b : Nat) : Int) := by
  have := bits_lo_u32 .xor (a : Int) (b : Int)
  unfold xor32; omega
theorem xor32_lt (a b : Nat) : xor32 a b < 4294967296 := by
  have h1 := bits_lo_u32 .xor (a : Int) (b : Int)
  have h2 := bits_hi_u32 .xor (a : Int) (b : Int)
  unfold xor32; omega

theorem and15 (a : Nat) (h : a < 4294967296) : bits .and .u32 (a : Int) 15 = ((a % 16 : Nat) : Int) := by
  have h1 := bits_mask .u32 32 (by decide) (fun n h0 h1 => IntWalk.u32_in n (by omega)) 4 (by decide) (a : Int) (by omega) (by omega)
  have e : ((2 : Int) ^ 4 - 1) = 15 := by decide
  rw [e] at h1
  rw [h1]
  omega

def crcN (y : Nat) : Nat := xor32 (y / 16) (nibs.getD (y % 16) 0)
def crcStep (c : Nat) (x : UInt8) : Nat := crcN (crcN (xor32 c x.toNat))
def crcS (s : Nat) (bs : List UInt8) : Nat := xor32 4294967295 (bs.foldl crcStep (xor32 4294967295 s))

theorem crcStep_lt (c : Nat) (x : UInt8) : crcStep c x < 4294967296 := xor32_lt _ _
theorem crcS_lt (s : Nat) (bs : List UInt8) : crcS s bs < 4294967296 := xor32_lt _ _

set_option maxRecDepth 100000 in
set_option maxHeartbeats 2000000 in
theorem add_any (v : Value) (bs : List UInt8) (s : Nat) (w : World) (hv : SlP 1 ByteE w v bs) (hN : Nib w) (hs : s < 4294967296) :
    Calls Tryd.prog 72 #[.int .u32 s, v] w (Gives w (.int .u32 (crcS s bs : Nat))) := by
  obtain ⟨q, cap, rfl, hlc, hll, hcell⟩ := hv.bytesAt
  go_enter Tryd.func72, Tryd.ntmps72
  go_wp2_with fail
  go_loopw [0, 11] (fun c x wr => ∃ k : Nat, k ≤ bs.length ∧ c = .int .u32 ((bs.take k).foldl crcStep (xor32 4294967295 s) : Nat) ∧ x = .int .i64 k ∧ Below w.heap.size w wr) (fun _ x _ => bs.length - (intOf x).toNat)
  case atStart => exact ⟨0, Nat.zero_le _, by rw [List.take_zero, List.foldl_nil, ← xor32_eq]; rfl, rfl, Below.refl _ _⟩
  case round =>
    obtain ⟨k, hk, rfl, rfl, hb⟩ := hrel
    have ht : (bs.take k).foldl crcStep (xor32 4294967295 s) < 4294967296 := by
      cases k with
      | zero => simpa using xor32_lt _ _
      | succ k =>
        by_cases hk2 : k < bs.length
        · rw [List.take_succ_eq_append_getElem hk2, List.foldl_append]
          exact crcStep_lt _ _
        · omega
    by_cases hlt : k < bs.length
    · obtain ⟨b, o, rfl, c0⟩ := hcell k hlt
      replace c0 := bcell hb c0
      have n0 : (0 : Int) ≤ (k : Int) := by omega
      have n1 : (k : Int) < (bs.length : Int) := by omega
      have Hst : Hid ((bs.take (k + 1)).foldl crcStep (xor32 4294967295 s) = crcStep ((bs.take k).foldl crcStep (xor32 4294967295 s)) bs[k]) := Lib.hid (by rw [List.take_succ_eq_append_getElem hlt, List.foldl_append]; rfl)
      generalize (bs.take k).foldl crcStep (xor32 4294967295 s) = t at *
      generalize bs[k] = x at *
      unfold YtnpnchociegmpaaDoor.u8 at c0
      clear hcell
      have hx : (x.toNat : Int) % 4294967296 = (x.toNat : Int) := by have := UInt8.toNat_lt x; omega
      have e1 := xor32_eq t x.toNat
      have y1lt := xor32_lt t x.toNat
      have Hcs : Hid (crcStep t x = crcN (crcN (xor32 t x.toNat))) := Lib.hid rfl
      generalize xor32 t x.toNat = y1 at *
      have e2 := and15 y1 y1lt
      have i1 : y1 % 16 < 16 := Nat.mod_lt _ (by decide)
      have b1 := bcell hb (hN _ i1)
      have e3 : (y1 : Int) / 16 = ((y1 / 16 : Nat) : Int) := by omega
      have e4 := xor32_eq (y1 / 16) (nibs.getD (y1 % 16) 0)
      have y2lt := xor32_lt (y1 / 16) (nibs.getD (y1 % 16) 0)
      have Hc2 : Hid (crcN y1 = xor32 (y1 / 16) (nibs.getD (y1 % 16) 0)) := Lib.hid rfl
      generalize nibs.getD (y1 % 16) 0 = nb1 at *
      generalize y1 % 16 = j1 at *
      generalize y1 / 16 = z1 at *
      generalize xor32 z1 nb1 = y2 at *
      have e5 := and15 y2 y2lt
      have i2 : y2 % 16 < 16 := Nat.mod_lt _ (by decide)
      have b2 := bcell hb (hN _ i2)
      have e6 : (y2 : Int) / 16 = ((y2 / 16 : Nat) : Int) := by omega
      have e7 := xor32_eq (y2 / 16) (nibs.getD (y2 % 16) 0)
      have Hc3 : Hid (crcN y2 = xor32 (y2 / 16) (nibs.getD (y2 % 16) 0)) := Lib.hid rfl
      generalize nibs.getD (y2 % 16) 0 = nb2 at *
      generalize y2 % 16 = j2 at *
      generalize y2 / 16 = z2 at *
      generalize xor32 z2 nb2 = y3 at *
      have m1 : (0 : Int) ≤ (j1 : Int) := by omega
      have m2 : (j1 : Int) < 16 := by omega
      have m3 : (0 : Int) ≤ (j2 : Int) := by omega
      have m4 : (j2 : Int) < 16 := by omega
      go_wp2_with fail
      go_roundw
      case rel => exact ⟨k + 1, hlt, by rw [Hst.out, Hcs.out, Hc2.out, Hc3.out], by go_num, hb⟩
      case measure => simp [intOf]; omega
    · have hke : k = bs.length := by omega
      subst hke
      rw [List.take_length] at *
      have e1 := xor32_eq 4294967295 (bs.foldl crcStep (xor32 4294967295 s))
      have Hq : Hid (crcS s bs = xor32 4294967295 (bs.foldl crcStep (xor32 4294967295 s))) := Lib.hid rfl
      generalize bs.foldl crcStep (xor32 4294967295 s) = t at *
      generalize xor32 4294967295 t = y at *
      clear hcell
      go_wp2_with fail
      go_ret
      refine ⟨?_, hb⟩
      rw [Hq.out]
      rw [← e1]
      rfl

end Go.Proofs.YtnpnchociegmpaaDoor
