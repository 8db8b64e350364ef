/- Package sum: what is framed at the begin of bytes. -/
import Derived.Test.YtlhefifejcoecaaGreatDoorGetB
import Derived.Test.YtlhefifejcoecaaGreatDoorJSum
namespace Go.Proofs.YtlhefifejcoecaaGreatDoor
open Go.RowKit Go.Proofs Go.Shelf
attribute [local go_sem ↓] Go.wp_at_zero Go.wp_at_succ

def openS (b : List UInt8) : List UInt8 × Nat × Bool :=
  if (getNumS b).2.2 = false ∨ 8192 < (getNumS b).1 ∨ b.length - (getNumS b).2.1 < (getNumS b).1 + 4 then ([], 0, false)
  else if valB ((b.drop ((getNumS b).2.1 + (getNumS b).1)).take 4) = crcS 0 (b.take ((getNumS b).2.1 + (getNumS b).1)) then ((b.drop (getNumS b).2.1).take (getNumS b).1, (getNumS b).2.1 + (getNumS b).1 + 4, true)
  else ([], 0, false)

def OpenOut (b : List UInt8) (w : World) (e : Ending) (w' : World) : Prop := ∃ v, e = .returned (.tuple #[v, .int .i64 ((openS b).2.1 : Nat), .bool (openS b).2.2]) ∧ SlP 1 ByteE w' v (openS b).1 ∧ Below w.heap.size w w'

def OpenOwn (b : List UInt8) (w : World) (e : Ending) (w' : World) : Prop := ∃ v, e = .returned (.tuple #[v, .int .i64 ((openS b).2.1 : Nat), .bool (openS b).2.2]) ∧ OwnB w' w.heap.size v (openS b).1 ∧ Below w.heap.size w w'

theorem own_nil (w : World) (base : Nat) : OwnB w base (.slice none 0 0) [] := World.ownsRow_nil _ _ _ _

theorem openS_le (b : List UInt8) : (openS b).1.length ≤ b.length := by
  unfold openS
  split
  · simp
  · split
    · dsimp only
      rw [List.length_take, List.length_drop]; omega
    · simp

theorem or_byte32 (m z : Nat) (hm : m < 16777216) (hz : z < 256) : bits .or .u32 ((m : Int) * 256) (z : Int) = ((m * 256 + z : Nat) : Int) := by
  have h := (bits_nat .u32 32 (by decide) (fun n h0 h1 => IntWalk.u32_in n (by omega)) (m * 256) z (by simp; omega) (by simp; omega)).2
  rw [show ((m * 256 : Nat) : Int) = (m : Int) * 256 by omega] at h
  rw [h]
  have e := Nat.shiftLeft_add_eq_or_of_lt (b := z) (i := 8) (by simpa using hz) m
  rw [Nat.shiftLeft_eq] at e
  simp only [show (2 : Nat) ^ 8 = 256 from rfl] at e
  rw [e]

theorem slp_take {w : World} {q : Option Addr} {n cap : Nat} {l : List UInt8} (h : SlP 1 ByteE w (.slice q n cap) l) (i : Nat) (hi : i ≤ l.length) : SlP 1 ByteE w (.slice q i cap) (l.take i) := by
  obtain ⟨q', cap', hv, h1, h2, h0, h3⟩ := h
  cases hv
  have hl : (l.take i).length = i := by rw [List.length_take]; omega
  refine ⟨q, cap, by rw [hl], by omega, by omega, h0, fun j hj => ?_⟩
  obtain ⟨b, off, cs, hp, hk, he, hc⟩ := h3 j (by omega)
  exact ⟨b, off, cs, hp, hk, by rw [List.getElem_take]; exact he, hc⟩

theorem slp_part {w : World} {g o n cap k m : Nat} {l : List UInt8} (h : SlP 1 ByteE w (.slice (some ⟨g, o, none⟩) n cap) l) (hk : k + m ≤ l.length) : SlP 1 ByteE w (.slice (some ⟨g, o + k, none⟩) m (cap - k)) ((l.drop k).take m) := by
  obtain ⟨q', cap', hv, h1, h2, h0, h3⟩ := h
  cases hv
  have hl : ((l.drop k).take m).length = m := by rw [List.length_take, List.length_drop]; omega
  refine ⟨_, cap - k, by rw [hl], by omega, by omega, fun h => by simp at h, fun j hj => ?_⟩
  obtain ⟨b, off, cs, hp, hk2, he, hc⟩ := h3 (k + j) (by omega)
  simp only [Option.some.injEq, Addr.mk.injEq] at hp
  obtain ⟨rfl, rfl, -⟩ := hp
  refine ⟨_, _, cs, rfl, hk2, by rw [List.getElem_take, List.getElem_drop]; exact he, fun i hi => ?_⟩
  rw [← hc i hi]
  congr 2; omega

set_option maxRecDepth 100000 in
set_option maxHeartbeats 4000000 in
theorem open_own (v : Value) (b : List UInt8) (w : World) (hv : SlP 1 ByteE w v b) (hN : Nib w) (hb : b.length ≤ 1000000) : Calls Tryz.prog 92 #[v] w (OpenOwn b w) := by
  unfold OpenOwn
  have hnum := getnum_any v b w hv
  unfold NumOut at hnum
  obtain ⟨q, cap, rfl, hlc, hll, hcell⟩ := hv.bytesAt
  obtain ⟨g1, g2, g3⟩ := getNumS_ok b
  have Hs : Hid (openS b = if (getNumS b).2.2 = false ∨ 8192 < (getNumS b).1 ∨ b.length - (getNumS b).2.1 < (getNumS b).1 + 4 then ([], 0, false)
      else if valB ((b.drop ((getNumS b).2.1 + (getNumS b).1)).take 4) = crcS 0 (b.take ((getNumS b).2.1 + (getNumS b).1)) then ((b.drop (getNumS b).2.1).take (getNumS b).1, (getNumS b).2.1 + (getNumS b).1 + 4, true)
      else ([], 0, false)) := Lib.hid rfl
  generalize getNumS b = R at *
  obtain ⟨n, k, ok⟩ := R
  dsimp only at *
  cases ok with
  | false =>
    have hq : openS b = ([], 0, false) := by rw [Hs.out, if_pos (.inl rfl)]
    rw [hq]
    clear hcell hv g2 hq Hs
    go_enter Tryz.func92, Tryz.ntmps92
    go_wp2_with (first | (go_at_call 94; refine hnum.mono ?_; rintro e w1 ⟨rfl, hb1⟩) | fail)
    go_ret3
    exact ⟨_, rfl, own_nil _ _, hb1⟩
  | true =>
    obtain ⟨k1, k2⟩ := g2 rfl
    by_cases h1 : 8192 < n
    · have hq : openS b = ([], 0, false) := by rw [Hs.out, if_pos (.inr (.inl h1))]
      rw [hq]
      have m1 : (8192 : Int) < (n : Int) := by omega
      clear hcell hv g2 hq Hs h1
      go_enter Tryz.func92, Tryz.ntmps92
      go_wp2_with (first | (go_at_call 94; refine hnum.mono ?_; rintro e w1 ⟨rfl, hb1⟩) | fail)
      go_ret3
      exact ⟨_, rfl, own_nil _ _, hb1⟩
    · have m1 : ¬ (8192 : Int) < (n : Int) := by omega
      have hsub : IntKind.i64.wrap ((b.length : Int) - (k : Int)) = ((b.length - k : Nat) : Int) := by rw [IntWalk.i64_in _ (by omega)]; omega
      have hs64 : ((b.length - k : Nat) : Int) % 18446744073709551616 = ((b.length - k : Nat) : Int) := by omega
      obtain ⟨n4, hn4⟩ : ∃ n4, n4 = n + 4 := ⟨_, rfl⟩
      have hn64 : ((n : Int) + 4) % 18446744073709551616 = (n4 : Int) := by omega
      have hn64' : (n : Int) + 4 = (n4 : Int) := by omega
      by_cases h2 : b.length - k < n + 4
      · have hq : openS b = ([], 0, false) := by rw [Hs.out, if_pos (.inr (.inr h2))]
        rw [hq]
        have m2 : ((b.length - k : Nat) : Int) < (n4 : Int) := by omega
        clear hcell hv g2 hq Hs h1 h2 hn4
        go_enter Tryz.func92, Tryz.ntmps92
        go_wp2_with (first | (go_at_call 94; refine hnum.mono ?_; rintro e w1 ⟨rfl, hb1⟩) | fail)
        go_ret3
        exact ⟨_, rfl, own_nil _ _, hb1⟩
      · have m2 : ¬ ((b.length - k : Nat) : Int) < (n4 : Int) := by omega
        obtain ⟨e1, he1⟩ : ∃ e1, e1 = k + n := ⟨_, rfl⟩
        obtain ⟨e2, he2⟩ : ∃ e2, e2 = e1 + 4 := ⟨_, rfl⟩
        rw [← he1, ← he2] at Hs
        have hq := Hs.out
        rw [if_neg (by rintro (h | h | h); cases h; exact h1 h; exact h2 h)] at hq
        obtain ⟨g, o, rfl, -⟩ := hcell 0 (by omega)
        have Hq := Lib.hid hq
        have Hcell := Lib.hid hcell
        have Hv := Lib.hid hv
        have w1' : IntKind.i64.wrap ((k : Int) + (n : Int)) = (e1 : Int) := by rw [IntWalk.i64_in _ (by omega)]; omega
        have w2' : IntKind.i64.wrap ((e1 : Int) + 4) = (e2 : Int) := by rw [IntWalk.i64_in _ (by omega)]; omega
        have p1 : (0 : Int) ≤ (k : Int) := by omega
        have p2 : (k : Int) ≤ (e1 : Int) := by omega
        have p3 : (e1 : Int) ≤ (cap : Int) := by omega
        have p4 : (e1 : Int) ≤ (e2 : Int) := by omega
        have p5 : (e2 : Int) ≤ (cap : Int) := by omega
        have p6 : ¬ cap = e1 := by omega
        have p7 : ¬ cap = k := by omega
        have p8 : (0 : Int) ≤ (e1 : Int) := by omega
        have p9 : e2 - e1 = 4 := by omega
        have p10 : e1 - k = n := by omega
        have hbe : e1 + 4 ≤ b.length := by omega
        have He1 := Lib.hid he1
        have He2 := Lib.hid he2
        clear hcell hv g2 hq Hs h1 h2 he1 he2 hn4
        go_enter Tryz.func92, Tryz.ntmps92
        go_wp2_with (first | (go_at_call 94; refine hnum.mono ?_; rintro e w1 ⟨rfl, hb1⟩) | fail)
        obtain ⟨wB, hwB⟩ : ∃ wB : World, wB = w1 := ⟨_, rfl⟩
        subst hwB
        go_loopw [9, 44] (fun s j wr => ∃ t : Nat, t ≤ 4 ∧ j = .int .i64 t ∧ s = .int .u32 (valB ((b.drop e1).take t) : Nat) ∧ Below w.heap.size w wr) (fun _ j _ => 4 - (intOf j).toNat)
        case atStart => exact ⟨0, by omega, rfl, by simp [valB], hb1⟩
        case round =>
          obtain ⟨t, ht, rfl, rfl, hb'⟩ := hrel
          by_cases hlt : t < 4
          · have n0 : (0 : Int) ≤ (t : Int) := by omega
            have q1 : (t : Int) < 4 := by omega
            obtain ⟨g', o', e, c0⟩ := Hcell.out (e1 + t) (by omega)
            simp only [Option.some.injEq, Addr.mk.injEq] at e
            obtain ⟨rfl, rfl, -⟩ := e
            replace c0 := bcell hb' c0
            rw [← Nat.add_assoc] at c0
            unfold YtlhefifejcoecaaGreatDoor.u8 at c0
            have htA : t < (b.drop e1).length := by rw [List.length_drop]; omega
            have hsn := valB_snoc ((b.drop e1).take t) (b.drop e1)[t]
            rw [← List.take_succ_eq_append_getElem htA, List.getElem_drop] at hsn
            have hvl := valB_lt ((b.drop e1).take t)
            have hl3 : ((b.drop e1).take t).length = t := by rw [List.length_take]; omega
            rw [hl3] at hvl
            have hvl7 : valB ((b.drop e1).take t) < 16777216 := Nat.lt_of_lt_of_le hvl (Nat.le_trans (Nat.pow_le_pow_right (by decide) (show t ≤ 3 by omega)) (by decide))
            have Hsn := Lib.hid hsn
            have hxt := UInt8.toNat_lt b[e1 + t]
            clear hsn hvl
            generalize valB ((b.drop e1).take t) = m at *
            generalize b[e1 + t] = z at *
            have hor := or_byte32 m z.toNat hvl7 hxt
            go_wp2_with fail
            exact ⟨⟨t + 1, hlt, by go_num, by rw [Hsn.out]; congr 1, hb'⟩, by simp [intOf]; omega⟩
          · have hte : t = 4 := by omega
            subst hte
            have hof := of_any _ (b.take e1) wr (slp_take (Hv.out.mono ByteE.mono hb') e1 (by omega)) (hN.below hb')
            have hq2 := Hq.out
            generalize valB ((b.drop e1).take 4) = m at *
            generalize crcS 0 (b.take e1) = c at *
            by_cases hmc : m = c
            · subst hmc
              rw [if_pos rfl] at hq2
              have Hq2 := Lib.hid hq2
              have hcl := fun W (hW : Below w.heap.size w W) => clone_bytes _ ((b.drop k).take n) W (slp_part (k := k) (m := n) (Hv.out.mono ByteE.mono hW) (by have := He1.out; omega)) (by rw [List.length_take]; omega)
              clear hq2 Hq
              go_wp2_with (first
                | (go_at_call 106; refine hof.mono ?_; rintro e w5 ⟨rfl, hb5⟩; have hb6 := below_trans hb' hb5)
                | (go_at_call 34; refine (hcl _ hb6).mono ?_; rintro e w7 ⟨v7, rfl, hown7, hb7⟩)
                | fail)
              go_ret3
              rw [Hq2.out]
              exact ⟨_, rfl, OwnB.base hown7 hb6.size, below_trans hb6 hb7⟩
            · rw [if_neg hmc] at hq2
              have Hq2 := Lib.hid hq2
              have hmc' : ¬ (m : Int) = (c : Int) := by omega
              clear hq2 Hq
              go_wp2_with (first
                | (go_at_call 106; refine hof.mono ?_; rintro e w5 ⟨rfl, hb5⟩; have hb6 := below_trans hb' hb5)
                | fail)
              go_ret3
              rw [Hq2.out]
              exact ⟨_, rfl, own_nil _ _, hb6⟩

theorem open_any (v : Value) (b : List UInt8) (w : World) (hv : SlP 1 ByteE w v b) (hN : Nib w) (hb : b.length ≤ 1000000) : Calls Tryz.prog 92 #[v] w (OpenOut b w) := by
  refine (open_own v b w hv hN hb).mono ?_
  rintro e w' ⟨v', he, ho, hb'⟩
  exact ⟨v', he, ho.at (by have := openS_le b; omega), hb'⟩

end Go.Proofs.YtlhefifejcoecaaGreatDoor
