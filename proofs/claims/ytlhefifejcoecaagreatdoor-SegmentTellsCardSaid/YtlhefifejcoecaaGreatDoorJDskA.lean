/- The disk: made, Size, may, strikes, Start; New. -/
/- The disk: now, Read. -/
import Derived.Test.YtlhefifejcoecaaGreatDoorDsk
import Derived.Deep.MidRow
import Derived.Outline
namespace Go.Proofs.YtlhefifejcoecaaGreatDoor
open Go.RowKit Go.Proofs Go.Shelf
attribute [local go_sem ↓] Go.wp_at_zero Go.wp_at_succ

theorem DiskAt.cells {w : World} {K : Nat → Prop} {D n : Nat} {safe cur : List UInt8} {off : Bool} (h : DiskAt w K D n safe cur off) : ∃ s m ov, w.cell? ⟨D, 0, none⟩ = some (.slice (some ⟨s, 0, none⟩) n n) ∧ w.cell? ⟨D, 1, none⟩ = some (.map (some m)) ∧ w.cell? ⟨D, 2, none⟩ = some ov ∧
      w.cell? ⟨D, 3, none⟩ = some (.bool off) ∧ w.cell? ⟨D, 4, none⟩ = some (.int .i64 0) ∧ w.cell? ⟨D, 5, none⟩ = some (.slice none 0 0) ∧ w.cell? ⟨D, 6, none⟩ = some (.int .i64 0) ∧ D < w.heap.size := by
  obtain ⟨s, m, ov, es, L, bl, h⟩ := h
  exact ⟨s, m, ov, h.cells⟩

set_option maxRecDepth 100000 in
theorem made_any (w : World) (K : Nat → Prop) (D n : Nat) (safe cur : List UInt8) (off : Bool) (h : DiskAt w K D n safe cur off) : Calls Tryz.prog 56 #[.pointer (some ⟨D, 0, none⟩)] w (Gives w (.bool true)) := by
  obtain ⟨s, m, ov, c0, -, -, -, -, -, -, hD⟩ := h.cells
  go_enter Tryz.func56, Tryz.ntmps56
  go_wp2_with fail
  go_ret
  exact ⟨rfl, Below.refl _ _⟩

set_option maxRecDepth 100000 in
theorem size_any (w : World) (K : Nat → Prop) (D n : Nat) (safe cur : List UInt8) (off : Bool) (h : DiskAt w K D n safe cur off) : Calls Tryz.prog 51 #[.pointer (some ⟨D, 0, none⟩)] w (Gives w (.int .i64 (32 * n : Nat))) := by
  have hmade := made_any w K D n safe cur off h
  obtain ⟨-, -, hn1, hn2⟩ := h.lens
  obtain ⟨s, m, ov, c0, -, -, -, -, -, -, hD⟩ := h.cells
  have hw : IntKind.i64.wrap ((n : Int) * 32) = ((32 * n : Nat) : Int) := by rw [IntWalk.i64_in _ (by omega)]; omega
  clear h
  go_enter Tryz.func51, Tryz.ntmps51
  go_wp2_with (first | (go_at_call 56; refine hmade.mono ?_; rintro e w1 ⟨rfl, hb1⟩; have d0 := bcell hb1 c0) | fail)
  go_ret
  exact ⟨rfl, hb1⟩

set_option maxRecDepth 100000 in
theorem may_any (w : World) (K : Nat → Prop) (D n : Nat) (safe cur : List UInt8) (off : Bool) (h : DiskAt w K D n safe cur off) : Calls Tryz.prog 90 #[.pointer (some ⟨D, 0, none⟩)] w (Gives w (.int .i64 (if off then 7 else 0))) := by
  have hmade := made_any w K D n safe cur off h
  obtain ⟨s, m, ov, -, -, -, c3, -, -, -, hD⟩ := h.cells
  clear h
  cases off <;>
  · go_enter Tryz.func90, Tryz.ntmps90
    go_wp2_with (first | (go_at_call 56; refine hmade.mono ?_; rintro e w1 ⟨rfl, hb1⟩; have d3 := bcell hb1 c3) | fail)
    go_ret
    exact ⟨rfl, hb1⟩

set_option maxRecDepth 100000 in
theorem strikes_any (w : World) (K : Nat → Prop) (D n : Nat) (safe cur : List UInt8) (off : Bool) (h : DiskAt w K D n safe cur off) : Calls Tryz.prog 109 #[.pointer (some ⟨D, 0, none⟩)] w (Gives w (.bool false)) := by
  obtain ⟨s, m, ov, -, -, -, -, c4, -, -, hD⟩ := h.cells
  clear h
  go_enter Tryz.func109, Tryz.ntmps109
  go_wp2_with fail
  go_ret
  exact ⟨rfl, Below.refl _ _⟩

end Go.Proofs.YtlhefifejcoecaaGreatDoor

namespace Go.Proofs.YtlhefifejcoecaaGreatDoor
open Go.RowKit Go.Proofs Go.Shelf
attribute [local go_sem ↓] Go.wp_at_zero Go.wp_at_succ

theorem secKey : KeyK Tryz.prog 3 (Value.int .i64) := KeyK.int Tryz.underlying3
theorem secZero : ∀ w, (zeroValue 99).run Tryz.prog w = .ok (.pointer none) w := fun _ => by kernel_rfl

section
variable {w : World} {K : Nat → Prop} {D n : Nat} {safe cur : List UInt8} {off : Bool} {s m : Nat} {ov : Value} {es : List (Int × Value)} {O L : List Nat} {bl : Nat → Nat}

/-- What the map of dirty sectors has. -/
theorem DiskX.look (h : DiskX w K D n safe cur off s m ov es O L bl) (i : Nat) : (Instr.lookup 93 (.map (some m)) (.int .i64 (i : Int)) false).run Tryz.prog w = .ok (if i ∈ L then .pointer (some ⟨bl i, 0, none⟩) else .pointer none) w := by
  have := h.map.lookup (P := Tryz.prog) (T := 93) secKey Tryz.underlying93 secZero (i : Int)
  rw [h.get i] at this
  rw [this]
  by_cases hi : i ∈ L <;> simp [hi]

theorem DiskX.at_ (h : DiskX w K D n safe cur off s m ov es O L bl) {i : Nat} (hi : i < n) : w.rangeAt (if i ∈ L then bl i else s) (if i ∈ L then 0 else i * 32) ((sec cur i).map u8) := by
  intro j v hv
  have hl := sec_len h.len.2 hi
  have hj : j < 32 := by
    rcases Nat.lt_or_ge j 32 with h1 | h1
    · exact h1
    · rw [List.getElem?_eq_none (by rw [List.length_map]; omega)] at hv; cases hv
  by_cases hm : i ∈ L
  · rw [if_pos hm, if_pos hm, Nat.zero_add, block_cell (h.each i hm).2.1]
    simpa using hv
  · rw [if_neg hm, if_neg hm, block_cell h.sblk]
    rw [h.clean i hi hm, List.getElem?_map, sec_get h.len.1 hi hj] at hv
    simpa [Nat.mul_comm] using hv
end

def NowOut (cur : List UInt8) (i : Nat) (w : World) (e : Ending) (w' : World) : Prop := ∃ b o, e = .returned (.pointer (some ⟨b, o, none⟩)) ∧ w'.rangeAt b o ((sec cur i).map u8) ∧ Below w.heap.size w w'

set_option maxRecDepth 100000 in
theorem now_any (w : World) (K : Nat → Prop) (D n : Nat) (safe cur : List UInt8) (off : Bool) (h : DiskAt w K D n safe cur off) (i : Nat) (hi : i < n) : Calls Tryz.prog 91 #[.pointer (some ⟨D, 0, none⟩), .int .i64 i] w (NowOut cur i w) := by
  obtain ⟨-, -, hn1, hn2⟩ := h.lens
  obtain ⟨s, m, ov, es, L, bl, h⟩ := h
  obtain ⟨c0, c1, -, -, -, -, -, hD⟩ := h.cells
  have hlook := h.look i
  have hat := h.at_ hi
  have n0 : (0 : Int) ≤ (i : Int) := by omega
  have n1 : (i : Int) < (n : Int) := by omega
  clear h
  by_cases hm : i ∈ L
  · rw [if_pos hm] at hlook
    rw [if_pos hm, if_pos hm] at hat
    clear hm
    generalize bl i = b at *
    have Hat := Lib.hid hat
    clear hat
    go_enter Tryz.func91, Tryz.ntmps91
    go_wp2_with fail
    go_ret
    exact ⟨_, _, rfl, Hat.out, Below.refl _ _⟩
  · rw [if_neg hm] at hlook
    rw [if_neg hm, if_neg hm] at hat
    clear hm
    have Hat := Lib.hid hat
    clear hat
    go_enter Tryz.func91, Tryz.ntmps91
    go_wp2_with fail
    go_ret
    exact ⟨_, _, rfl, Hat.out, Below.refl _ _⟩

theorem src_piece {w : World} {b o r k cap : Nat} {xs : List UInt8} (hat : w.rangeAt b o (xs.map u8)) (hk : r + k ≤ xs.length) : Src Tryz.prog 1 25 (.slice (some ⟨b, o + r, none⟩) k cap) k (((xs.drop r).take k).map u8) w := by
  refine Src.ofSlice w Tryz.underlying25 _ _ _ _ (by simp; omega) (fun j u hu => ?_) (fun u hu => ?_)
  · rw [Addr.add_lit, Nat.add_assoc]
    refine hat (r + j) u ?_
    rw [List.getElem?_map] at hu ⊢
    rw [List.getElem?_take] at hu
    by_cases hj : j < k
    · rw [if_pos hj, List.getElem?_drop] at hu; exact hu
    · rw [if_neg hj] at hu; cases hu
  · obtain ⟨x, -, rfl⟩ := List.mem_map.1 hu
    rfl

theorem take_more {cur : List UInt8} {a j k : Nat} : (cur.drop a).take (j + k) = (cur.drop a).take j ++ (cur.drop (a + j)).take k := by
  rw [List.take_add, List.drop_drop]

/-- What Read hands back. -/
def ReadOut (bs : List UInt8) (w : World) (e : Ending) (w' : World) : Prop := ∃ v, e = .returned (.tuple #[v, .int .i64 0]) ∧ OwnB w' w.heap.size v bs ∧ Below w.heap.size w w'

theorem piece {cur : List UInt8} {n a k : Nat} (hc : cur.length = 32 * n) (ha : a < 32 * n) (hk : a % 32 + k ≤ 32) : ((sec cur (a / 32)).drop (a % 32)).take k = (cur.drop a).take k := by
  have hi : a / 32 < n := by omega
  apply List.ext_getElem?
  intro j
  rw [List.getElem?_take, List.getElem?_take]
  by_cases hj : j < k
  · rw [if_pos hj, if_pos hj, List.getElem?_drop, List.getElem?_drop, sec_get hc hi (by omega)]
    congr 1; omega
  · rw [if_neg hj, if_neg hj]

set_option maxRecDepth 100000 in
set_option maxHeartbeats 4000000 in
theorem read_any (w : World) (K : Nat → Prop) (D n : Nat) (safe cur : List UInt8) (h : DiskAt w K D n safe cur false) (a cnt : Nat) (hin : a + cnt ≤ 32 * n) :
    Calls Tryz.prog 52 #[.pointer (some ⟨D, 0, none⟩), .int .i64 a, .int .i64 cnt] w (ReadOut ((cur.drop a).take cnt) w) := by
  have hmay := fun W hb => may_any W K D n safe cur false (h.below (w' := W) hb)
  have hsize := fun W hb => size_any W K D n safe cur false (h.below (w' := W) hb)
  have hnow := fun W hb i hi => now_any W K D n safe cur false (h.below (w' := W) hb) i hi
  obtain ⟨-, hcl, hn1, hn2⟩ := h.lens
  obtain ⟨s, m, ov, c0, c1, -, c3, -, -, -, hD⟩ := h.cells
  simp only [Bool.false_eq_true, if_false] at hmay
  clear h
  have n0 : (0 : Int) ≤ (a : Int) := by omega
  have n2 : (0 : Int) ≤ (cnt : Int) := by omega
  have n1 : ¬ ((32 * n : Nat) : Int) < (a : Int) := by omega
  have n3 : IntKind.i64.wrap (((32 * n : Nat) : Int) - (a : Int)) = ((32 * n - a : Nat) : Int) := by rw [IntWalk.i64_in _ (by omega)]; omega
  have n4 : ¬ ((32 * n - a : Nat) : Int) < (cnt : Int) := by omega
  generalize hN : 32 * n = N at *
  have HN := Lib.hid hN
  obtain ⟨i0, z, hi, hz, hz1, hz2, -⟩ := byteElt.has
  go_enter Tryz.func52, Tryz.ntmps52
  go_wp2_with (first
    | (go_at_call 90; refine (hmay _ (Below.refl _ _)).mono ?_; rintro e w1 ⟨rfl, hb1⟩)
    | (go_at_call 51; refine (hsize _ (by assumption)).mono ?_; rintro e w2 ⟨rfl, hb2⟩; have hb1 := below_trans hb1 hb2)
    | (at_make; refine wpList_make_own _ rfl _ _ 25 rfl w.heap.size 5 i0 z 1 Tryz.underlying25 hi hz hz1 .i64 .i64 _ cnt rfl rfl (by omega) (by rw [hz2]; omega) (by unfold maxLen; omega) hb1.size ?_; intro w3 hown3 hgrow3)
    | fail)
  have hb3 : Below w.heap.size w w3 := grown_below hb1 hgrow3 hb1.size (by simp)
  have hcl' : cur.length = N := by omega
  go_loopw [1, 9] (fun p out wr => ∃ j : Nat, j ≤ cnt ∧ p = .int .i64 ((a + j : Nat) : Int) ∧ OwnB wr w.heap.size out ((cur.drop a).take j) ∧ Below w.heap.size w wr) (fun p _ _ => a + cnt - (intOf p).toNat)
  case atStart => exact ⟨0, Nat.zero_le _, rfl, by simpa [OwnB] using hown3, hb3⟩
  case round =>
    obtain ⟨j, hj, rfl, hown, hb⟩ := hrel
    have hlen : ((cur.drop a).take j).length = j := by rw [List.length_take, List.length_drop]; omega
    obtain ⟨q, cap, rfl, hqc, -⟩ := hown.len
    rw [hlen] at hown hqc ⊢
    have Hlen := Lib.hid hlen
    clear hlen
    by_cases hlt : j < cnt
    · have m0 : (j : Int) < (cnt : Int) := by omega
      obtain ⟨p, hp⟩ : ∃ p, p = a + j := ⟨_, rfl⟩
      rw [← hp]
      obtain ⟨i, hi'⟩ : ∃ i, i = p / 32 := ⟨_, rfl⟩
      obtain ⟨r, hr'⟩ : ∃ r, r = p % 32 := ⟨_, rfl⟩
      have e1 : (p : Int) / 32 = (i : Int) := by omega
      have e2 : (p : Int) % 32 = (r : Int) := by omega
      have hin' : i < n := by have := HN.out; omega
      have hr32 : r < 32 := by omega
      have hcl2 : cur.length = 32 * n := by have := HN.out; omega
      have hsl : (sec cur i).length = 32 := sec_len hcl2 hin'
      have Hpc := Lib.hid (fun k (hk : r + k ≤ 32) => by have := piece (cur := cur) (n := n) (a := p) (k := k) hcl2 (by omega) (by omega); rw [← hi', ← hr'] at this; exact this)
      have Hp := Lib.hid hp
      obtain ⟨c, hc⟩ : ∃ c, c = cnt - j := ⟨_, rfl⟩
      have hsum : IntKind.i64.wrap ((cnt : Int) - (j : Int)) = (c : Int) := by rw [IntWalk.i64_in _ (by omega)]; omega
      have k1 : (0 : Int) ≤ (r : Int) := by omega
      have k2 : (r : Int) ≤ 32 := by omega
      have Hc := Lib.hid hc
      have hpS : p + cnt ≤ 300000 := by have := HN.out; omega
      have hszb := hb.size
      have hlt5 := World.ownsRow.lt hown
      clear hp hi' hr' hc
      by_cases hle : 32 - r ≤ c
      · have k3 : (32 : Int) - (r : Int) ≤ (c : Int) := by omega
        have k4 : (c : Int) ≤ (c : Int) := Int.le_refl _
        have k5 : IntKind.i64.wrap ((p : Int) + (((32 - r) : Nat) : Int)) = ((p + (32 - r) : Nat) : Int) := by have := Hc.out; rw [IntWalk.i64_in _ (by omega)]; omega
        go_wp2_with (first
          | (go_at_call 91; refine (hnow _ hb _ hin').mono ?_; rintro e w4 ⟨b, o, rfl, hat, hb4⟩; have hown4 := OwnB.mono hb4 hown; unfold OwnB at hown4; rw [Hlen.out] at hown4; have hs4 := src_piece (cap := 32 - r) (r := r) (k := (32 - r)) hat (by have := Hc.out; omega); clear hat)
          | (at_builtin; refine wpList_app (v := .slice q j cap) rfl _ _ 25 25 rfl w.heap.size 5 1 1 byteElt Tryz.underlying25 j _ rfl hown4 rfl (32 - r) _ hs4 (by have := Hc.out; unfold maxLen; omega) (by have := Hc.out; omega) (by have := hb4.size; omega) ?_; intro v5 w5 hown5 hg5 _)
          | fail)
        have hb5 : Below w.heap.size w w5 := grown_below (below_trans hb hb4) hg5 (by have := hb4.size; omega) (fun k hk => (hlt5 k hk).1)
        have hown6 : OwnB w5 w.heap.size v5 ((cur.drop a).take (j + (32 - r))) := by
          rw [take_more, ← Hp.out, ← Hpc.out _ (by have := Hc.out; omega)]
          unfold OwnB
          have el : (((sec cur i).drop r).take (32 - r)).length = (32 - r) := by have := Hc.out; simp [hsl]; try omega
          rw [List.length_append, List.map_append, Hlen.out, el]
          exact hown5
        obtain ⟨q5, cap5, rfl, -⟩ := hown6.len
        go_wp2_with fail
        have hp2 := Hp.out
        have hc2 := Hc.out
        refine ⟨⟨j + (32 - r), by omega, by congr 1; omega, hown6, hb5⟩, ?_⟩
        simp only [intOf]
        omega
      · have k3 : (c : Int) < (32 : Int) - (r : Int) := by omega
        have k4 : (c : Int) ≤ (c : Int) := Int.le_refl _
        have k5 : IntKind.i64.wrap ((p : Int) + ((c : Nat) : Int)) = ((p + c : Nat) : Int) := by have := Hc.out; rw [IntWalk.i64_in _ (by omega)]; omega
        go_wp2_with (first
          | (go_at_call 91; refine (hnow _ hb _ hin').mono ?_; rintro e w4 ⟨b, o, rfl, hat, hb4⟩; have hown4 := OwnB.mono hb4 hown; unfold OwnB at hown4; rw [Hlen.out] at hown4; have hs4 := src_piece (cap := 32 - r) (r := r) (k := c) hat (by have := Hc.out; omega); clear hat)
          | (at_builtin; refine wpList_app (v := .slice q j cap) rfl _ _ 25 25 rfl w.heap.size 5 1 1 byteElt Tryz.underlying25 j _ rfl hown4 rfl c _ hs4 (by have := Hc.out; unfold maxLen; omega) (by have := Hc.out; omega) (by have := hb4.size; omega) ?_; intro v5 w5 hown5 hg5 _)
          | fail)
        have hb5 : Below w.heap.size w w5 := grown_below (below_trans hb hb4) hg5 (by have := hb4.size; omega) (fun k hk => (hlt5 k hk).1)
        have hown6 : OwnB w5 w.heap.size v5 ((cur.drop a).take (j + c)) := by
          rw [take_more, ← Hp.out, ← Hpc.out _ (by have := Hc.out; omega)]
          unfold OwnB
          have el : (((sec cur i).drop r).take c).length = c := by have := Hc.out; simp [hsl]; try omega
          rw [List.length_append, List.map_append, Hlen.out, el]
          exact hown5
        obtain ⟨q5, cap5, rfl, -⟩ := hown6.len
        go_wp2_with fail
        have hp2 := Hp.out
        have hc2 := Hc.out
        refine ⟨⟨j + c, by omega, by congr 1; omega, hown6, hb5⟩, ?_⟩
        simp only [intOf]
        omega
    · have hje : j = cnt := by omega
      subst hje
      have m0 : ¬ (j : Int) < (j : Int) := by omega
      have Hown := Lib.hid hown
      clear hown hnow hmay hsize
      go_wp2_with fail
      go_ret2
      exact ⟨_, rfl, Hown.out, hb⟩

end Go.Proofs.YtlhefifejcoecaaGreatDoor
