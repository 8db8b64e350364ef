/- Package pack: the text at the begin of bytes. -/
import Derived.Test.YtlhefifejcoecaaGreatDoorGet
import Derived.Laws.IdiomStrings
import Derived.Shelf.Bytes.SlSmallAll
namespace Go.Proofs.YtlhefifejcoecaaGreatDoor
open Go.RowKit Go.Proofs Go.Shelf
attribute [local go_sem ↓] Go.wp_at_zero Go.wp_at_succ

theorem getNumS_ok (b : List UInt8) : (getNumS b).1 < 18446744073709551616 ∧ ((getNumS b).2.2 = true → 1 ≤ (getNumS b).2.1 ∧ (getNumS b).2.1 ≤ b.length) ∧ (getNumS b).2.1 ≤ 9 := by
  cases b with
  | nil => simp [getNumS]
  | cons x r =>
    have hx := UInt8.toNat_lt x
    rw [getNumS_cons]
    by_cases h1 : x.toNat < 248
    · rw [if_pos h1]; simp only [List.length_cons]; exact ⟨by omega, fun _ => by omega, by omega⟩
    · rw [if_neg h1]
      by_cases h2 : r.length < x.toNat - 247 ∨ r.head? = some 0
      · rw [if_pos h2]; simp
      · rw [if_neg h2]
        by_cases h3 : valB (r.take (x.toNat - 247)) < 248
        · rw [if_pos h3]; simp
        · rw [if_neg h3]
          have h4 := valB_lt (r.take (x.toNat - 247))
          have h5 : (r.take (x.toNat - 247)).length ≤ 8 := by rw [List.length_take]; omega
          have h6 : ¬ r.length < x.toNat - 247 := fun h => h2 (.inl h)
          simp only [List.length_cons]
          exact ⟨Nat.lt_of_lt_of_le h4 (Nat.le_trans (Nat.pow_le_pow_right (by decide) h5) (by decide)), fun _ => by omega, by omega⟩

def getStrS (b : List UInt8) (mo : Nat) : ByteArray × Nat × Bool :=
  if (getNumS b).2.2 = false ∨ mo < (getNumS b).1 ∨ b.length - (getNumS b).2.1 < (getNumS b).1 then (⟨#[]⟩, 0, false)
  else (⟨((b.drop (getNumS b).2.1).take (getNumS b).1).toArray⟩, (getNumS b).2.1 + (getNumS b).1, true)

def StrOut (b : List UInt8) (mo : Nat) (w : World) (e : Ending) (w' : World) : Prop := e = .returned (.tuple #[.string (getStrS b mo).1, .int .i64 ((getStrS b mo).2.1 : Nat), .bool (getStrS b mo).2.2]) ∧ Below w.heap.size w w'

set_option maxRecDepth 100000 in
set_option maxHeartbeats 4000000 in
theorem getstr_any (v : Value) (b : List UInt8) (mo : Nat) (w : World) (hv : SlP 1 ByteE w v b) (hb : b.length ≤ 1000000) (hmo : mo ≤ 1000000) : Calls Tryz.prog 95 #[v, .int .i64 mo] w (StrOut b mo w) := by
  unfold StrOut
  have hnum := getnum_any v b w hv
  unfold NumOut at hnum
  obtain ⟨q, cap, rfl, hlc, hll, hcell⟩ := hv.bytesAt
  obtain ⟨g1, g2, g3⟩ := getNumS_ok b
  have Hs : Hid (getStrS b mo = if (getNumS b).2.2 = false ∨ mo < (getNumS b).1 ∨ b.length - (getNumS b).2.1 < (getNumS b).1 then (⟨#[]⟩, 0, false)
      else (⟨((b.drop (getNumS b).2.1).take (getNumS b).1).toArray⟩, (getNumS b).2.1 + (getNumS b).1, true)) := Lib.hid rfl
  generalize getNumS b = R at *
  obtain ⟨n, k, ok⟩ := R
  dsimp only at *
  have hmx : max (mo : Int) 0 = (mo : Int) := by omega
  have hm64 : (mo : Int) % 18446744073709551616 = (mo : Int) := by omega
  cases ok with
  | false =>
    have hq : getStrS b mo = (⟨#[]⟩, 0, false) := by rw [Hs.out, if_pos (.inl rfl)]
    rw [hq]
    clear hcell hv g2 hq Hs
    go_enter Tryz.func95, Tryz.ntmps95
    go_wp2_with (first | (go_at_call 94; refine hnum.mono ?_; rintro e w1 ⟨rfl, hb1⟩) | fail)
    go_ret3
    exact ⟨rfl, hb1⟩
  | true =>
    obtain ⟨k1, k2⟩ := g2 rfl
    by_cases h1 : mo < n
    · have hq : getStrS b mo = (⟨#[]⟩, 0, false) := by rw [Hs.out, if_pos (.inr (.inl h1))]
      rw [hq]
      have m1 : (mo : Int) < (n : Int) := by omega
      clear hcell hv g2 hq Hs h1
      go_enter Tryz.func95, Tryz.ntmps95
      go_wp2_with (first | (go_at_call 94; refine hnum.mono ?_; rintro e w1 ⟨rfl, hb1⟩) | fail)
      go_ret3
      exact ⟨rfl, hb1⟩
    · have m1 : ¬ (mo : Int) < (n : Int) := by omega
      have hsub : IntKind.i64.wrap ((b.length : Int) - (k : Int)) = ((b.length - k : Nat) : Int) := by rw [IntWalk.i64_in _ (by omega)]; omega
      have hs64 : ((b.length - k : Nat) : Int) % 18446744073709551616 = ((b.length - k : Nat) : Int) := by omega
      by_cases h2 : b.length - k < n
      · have hq : getStrS b mo = (⟨#[]⟩, 0, false) := by rw [Hs.out, if_pos (.inr (.inr h2))]
        rw [hq]
        have m2 : ((b.length - k : Nat) : Int) < (n : Int) := by omega
        clear hcell hv g2 hq Hs h1 h2
        go_enter Tryz.func95, Tryz.ntmps95
        go_wp2_with (first | (go_at_call 94; refine hnum.mono ?_; rintro e w1 ⟨rfl, hb1⟩) | fail)
        go_ret3
        exact ⟨rfl, hb1⟩
      · have hq : getStrS b mo = (⟨((b.drop k).take n).toArray⟩, k + n, true) := by rw [Hs.out, if_neg (by rintro (h | h | h); cases h; exact h1 h; exact h2 h)]
        rw [hq]
        have m2 : ¬ ((b.length - k : Nat) : Int) < (n : Int) := by omega
        have Hcell := Lib.hid hcell
        have Hv := Lib.hid hv
        have hkn : k + n ≤ b.length := by omega
        obtain ⟨e1, he1⟩ : ∃ e1, e1 = k + n := ⟨_, rfl⟩
        have w1' : IntKind.i64.wrap ((k : Int) + (n : Int)) = (e1 : Int) := by rw [IntWalk.i64_in _ (by omega)]; omega
        have p1 : (0 : Int) ≤ (k : Int) := by omega
        have p2 : (k : Int) ≤ (e1 : Int) := by omega
        have p3 : (e1 : Int) ≤ (cap : Int) := by omega
        have He1 := Lib.hid he1
        rw [← he1]
        obtain ⟨g, o, rfl, -⟩ := hcell 0 (by omega)
        have hel : e1 - k = n := by omega
        have hln : ((b.drop k).take n).length = n := by rw [List.length_take, List.length_drop]; omega
        clear hcell hv g2 hq Hs h1 h2 he1
        by_cases hck : cap = k
        · have hn0 : n = 0 := by omega
          have hcv := fun W => run_convert_bytes_zero (P := Tryz.prog) W 25 5 Tryz.underlying25 Tryz.underlying5 (some ⟨g, o, none⟩) 0 9 Tryz.underlying9
          have hres : (⟨((b.drop k).take n).toArray⟩ : ByteArray) = ByteArray.empty := by rw [hn0, List.take_zero]; rfl
          rw [hres]
          have hz : e1 - k = 0 := by omega
          subst hck
          clear hn0 hres hel hln
          go_enter Tryz.func95, Tryz.ntmps95
          go_wp2_with (first | (go_at_call 94; refine hnum.mono ?_; rintro e w1 ⟨rfl, hb1⟩; have cv1 := hcv w1) | fail)
          go_ret3
          exact ⟨rfl, hb1⟩
        · have hcv : ∀ W, Below w.heap.size w W → (convert 25 9 (.slice (some ⟨g, o + k, none⟩) (e1 - k) (cap - k))).run Tryz.prog W = .ok (.string ⟨((b.drop k).take n).toArray⟩) W := fun W hW => by
            have h9 := run_convert_bytes_back (P := Tryz.prog) W 25 9 5 ⟨g, o + k, none⟩ (cap - k) ((b.drop k).take n) Tryz.underlying25 Tryz.underlying5 Tryz.underlying9 (fun j hj => by
              rw [hln] at hj
              obtain ⟨g', o', e, hc⟩ := Hcell.out (k + j) (by omega)
              simp only [Option.some.injEq, Addr.mk.injEq] at e
              obtain ⟨rfl, rfl, -⟩ := e
              rw [Addr.add_lit, Nat.add_assoc, List.getElem_take, List.getElem_drop]
              exact bcell hW hc)
            rw [hln] at h9
            rw [hel]; exact h9
          have Hres := Lib.hid (rfl : (⟨((b.drop k).take n).toArray⟩ : ByteArray) = _)
          generalize (⟨((b.drop k).take n).toArray⟩ : ByteArray) = sres at *
          clear hel hln Hres
          go_enter Tryz.func95, Tryz.ntmps95
          go_wp2_with (first | (go_at_call 94; refine hnum.mono ?_; rintro e w1 ⟨rfl, hb1⟩; have cv1 := hcv w1 hb1) | fail)
          go_ret3
          exact ⟨rfl, hb1⟩

end Go.Proofs.YtlhefifejcoecaaGreatDoor
