/- Package pack: Num, Str. -/
import Derived.Test.YtlhefifejcoecaaGreatDoorPack
import Derived.Deep.RegionHeld3
namespace Go.Proofs.YtlhefifejcoecaaGreatDoor
open Go.RowKit Go.Proofs Go.Shelf

theorem src_one (w1 : World) (x : UInt8) : Src Tryz.prog 1 25 (.slice (some ⟨w1.heap.size, 0, none⟩) 1 1) 1 [u8 x] (w1.alloc (.cells #[u8 x] 5)) :=
  Src.ofSlice _ Tryz.underlying25 _ _ _ _ rfl (cell_one_new _ _ _) (by simp [u8, Value.oneCell'])

/-- The array of digits, from place i on. -/
def arrOf (n i : Nat) : Array Value := (Array.range 8).map fun j => .int .u8 (if i ≤ j then (digit n (7 - j) : Int) else 0)

theorem arrOf_size (n i : Nat) : (arrOf n i).size = 8 := by simp [arrOf]

theorem arrOf_at (n i j : Nat) (hj : j < 8) : (arrOf n i)[j]? = some (.int .u8 (if i ≤ j then (digit n (7 - j) : Int) else 0)) := by
  simp [arrOf, hj]

theorem arrOf_set (n t : Nat) (ht : t < 8) : (arrOf n (t + 1)).setIfInBounds t (.int .u8 (digit n (7 - t) : Int)) = arrOf n t := by
  apply Array.ext
  · simp [arrOf]
  · intro j h1 h2
    have hj : j < 8 := by simpa [arrOf] using h2
    have e1 := arrOf_at n (t + 1) j hj
    have e2 := arrOf_at n t j hj
    rw [Array.getElem?_eq_getElem (by rw [arrOf_size]; exact hj), Option.some.injEq] at e1 e2
    rw [Array.getElem_setIfInBounds (by rw [arrOf_size]; exact hj), e1, e2]
    by_cases h : t = j
    · subst h; simp
    · rw [if_neg h]
      by_cases h3 : t ≤ j
      · rw [if_pos (by omega), if_pos h3]
      · rw [if_neg (by omega), if_neg h3]

theorem arrOf_start (n : Nat) : arrOf n 8 = #[.int .u8 0, .int .u8 0, .int .u8 0, .int .u8 0, .int .u8 0, .int .u8 0, .int .u8 0, .int .u8 0] := by
  apply Array.ext
  · simp [arrOf]
  · intro j h1 h2
    have hj : j < 8 := by simpa [arrOf] using h1
    have e1 := arrOf_at n 8 j hj
    rw [Array.getElem?_eq_getElem h1, Option.some.injEq, if_neg (by omega)] at e1
    rw [e1]
    match j, hj with
    | 0, _ => rfl
    | 1, _ => rfl
    | 2, _ => rfl
    | 3, _ => rfl
    | 4, _ => rfl
    | 5, _ => rfl
    | 6, _ => rfl
    | 7, _ => rfl

theorem div_step (n t : Nat) (ht : t < 8) : n / 256 ^ (8 - (t + 1)) / 256 = n / 256 ^ (8 - t) := by
  rw [Nat.div_div_eq_div_mul, show 8 - t = (8 - (t + 1)) + 1 by omega, Nat.pow_succ]

theorem block_cell {w : World} {b : Nat} {cs : Array Value} {t : TypeId} {fr : Nat × Nat} (h : w.heap[b]? = some (.cells cs t fr)) (i : Nat) : w.cell? ⟨b, i, none⟩ = cs[i]? := cell_of_row w b i cs t fr h
theorem block_free {w : World} {b : Nat} {cs : Array Value} {t : TypeId} (h : w.heap[b]? = some (.cells cs t (0, 0))) (i : Nat) : w.frozen? ⟨b, i, none⟩ = false := by simp [World.frozen?, h]
theorem block_set {w : World} {b : Nat} {cs : Array Value} {t : TypeId} {fr : Nat × Nat} (h : w.heap[b]? = some (.cells cs t fr)) (i : Nat) (u : Value) : (w.setCell ⟨b, i, none⟩ u).heap[b]? = some (.cells (cs.setIfInBounds i u) t fr) := by
  simp [World.setCell, Array.getElem?_modify, h]

def U64 (n : Nat) : Prop := n < 18446744073709551616

theorem src_one_drew (w1 : World) (x : Value) (h1 : x.oneCell' = true) : Src Tryz.prog 1 25 (.slice (some ⟨w1.heap.size, 0, none⟩) 1 1) 1 [x] (w1.alloc (.cells #[x] 5)).drew :=
  Src.ofSlice _ Tryz.underlying25 _ _ _ _ rfl (fun j u hj => by simpa using cell_one_new w1 x 5 j u hj) (by simpa using h1)

theorem digit_lt (n t : Nat) : digit n t < 256 := Nat.mod_lt _ (by decide)

theorem u8_ofNat {d : Nat} (h : d < 256) : u8 (UInt8.ofNat d) = .int .u8 (d : Int) := by
  unfold u8; rw [UInt8.toNat_ofNat_of_lt' (by simpa using h)]

theorem src_digits {n t : Nat} (ht : t < 8) (hbe : be 8 n = (List.range (8 - t)).reverse.map fun t => UInt8.ofNat (digit n t)) {w2 : World} {B : Nat} {T : TypeId} (hB : w2.heap[B]? = some (.cells (arrOf n t) T (0, 0))) :
    Src Tryz.prog 1 25 (.slice (some ⟨B, t, none⟩) (8 - t) (8 - t)) (8 - t) ((be 8 n).map u8) w2 := by
  refine Src.ofSlice _ Tryz.underlying25 _ _ _ _ (by rw [hbe]; simp) (fun j u hu => ?_) (fun u hu => ?_)
  · have hj : j < 8 - t := by
      rcases Nat.lt_or_ge j (8 - t) with h | h
      · exact h
      · rw [List.getElem?_eq_none (by rw [hbe]; simpa using h)] at hu; cases hu
    rw [Addr.add_lit, block_cell hB, arrOf_at n t (t + j) (by omega), if_pos (by omega)]
    rw [hbe, List.getElem?_map, List.getElem?_map, List.getElem?_reverse (by simpa using hj), List.length_range, List.getElem?_range (by omega)] at hu
    simp only [Option.map_some, Option.some.injEq] at hu
    rw [← hu, u8_ofNat (digit_lt _ _), show 8 - t - 1 - j = 7 - (t + j) by omega]
  · obtain ⟨b, _, rfl⟩ := List.mem_map.1 hu
    rfl

theorem own_drew {w : World} {base : Nat} {v : Value} {bs : List UInt8} (h : OwnB w base v bs) : OwnB w.drew base v bs := h

set_option maxRecDepth 100000 in
set_option maxHeartbeats 800000 in
theorem num_any (v : Value) (bs : List UInt8) (n : Nat) (w : World) (hv : SlP 1 ByteE w v bs) (hl : bs.length ≤ 1000000000) (hn : U64 n) :
    Calls Tryz.prog 71 #[v, .int .u64 n] w (OutB w (bs ++ numS n)) := by
  have hclone := clone_bytes v bs w hv (by omega)
  by_cases hs : n < 248
  · have hnum : numS n = [UInt8.ofNat n] := by unfold numS; rw [if_pos hs]
    have hu : Value.int .u8 (n : Int) = u8 (UInt8.ofNat n) := by unfold u8; rw [UInt8.toNat_ofNat_of_lt' (Nat.lt_trans hs (by decide))]
    rw [hnum]
    have Hu := Lib.hid hu
    clear hnum hu hv
    go_enter Tryz.func71, Tryz.ntmps71
    go_wp2_with (first
      | (go_at_call 34; refine hclone.mono ?_; rintro e w1 ⟨v1, rfl, hown, hb1⟩; have hk1 := src_one w1 (UInt8.ofNat n); rw [← Hu.out] at hk1; have hsz1 := hb1.size)
      | (at_builtin; refine wpList_app (v := v1) rfl _ _ 25 25 rfl w.heap.size 5 1 1 byteElt Tryz.underlying25 bs.length _ rfl (hown.alloc _) rfl 1 _ hk1 (by unfold maxLen; omega) (by omega) (by simp; omega) ?_; intro v' w2 hown2 hg2 _))
    go_ret
    have hlt := hown.lt
    rw [Hu.out] at hown2
    refine ⟨_, rfl, by simpa [OwnB] using hown2, grown_below (below_alloc hb1 _) hg2 (by simp; omega) (fun k hk => (hlt k hk).1)⟩
  · go_enter Tryz.func71, Tryz.ntmps71
    go_wp2_with (first
      | (go_at_call 34; refine hclone.mono ?_; rintro e w1 ⟨v1, rfl, hown, hb1⟩; have hsz1 := hb1.size))
    have hstart : (w1.alloc (.cells (arrOf n 8) 157)).heap[w1.heap.size]? = some (.cells (arrOf n 8) 157 (0, 0)) := heap_alloc_new _ _
    rw [arrOf_start n] at hstart
    go_loopw [6, 1] (fun i m wr => ∃ t : Nat, t ≤ 8 ∧ i = .int .i64 t ∧ m = .int .u64 (n / 256 ^ (8 - t) : Nat) ∧ Below w1.heap.size w1 wr ∧ Hid (wr.heap.size = w1.heap.size + 1) ∧ Hid (wr.heap[w1.heap.size]? = some (.cells (arrOf n t) 157 (0, 0))) ∧ Hid (t < 8 → n / 256 ^ (7 - t) ≠ 0)) (fun i _ _ => (intOf i).toNat)
    case atStart => exact ⟨8, by omega, rfl, by simp, below_new _ _, Lib.hid (by simp), Lib.hid (by rw [arrOf_start]; exact hstart), Lib.hid (fun h => by omega)⟩
    case round =>
      obtain ⟨t, ht, rfl, rfl, hb, hz, hB, hd⟩ := hrel
      by_cases hm : 0 < n / 256 ^ (8 - t)
      · obtain ⟨t, rfl⟩ : ∃ u, t = u + 1 := by
          cases t with
          | zero => exfalso; rw [Nat.div_eq_of_lt (by simpa [U64] using hn)] at hm; omega
          | succ u => exact ⟨u, rfl⟩
        have hc : wr.cell? ⟨w1.heap.size, t, none⟩ = some (.int .u8 0) := by rw [block_cell hB.out, arrOf_at n _ t (by omega), if_neg (by omega)]
        have hf := block_free hB.out t
        generalize hg : n / 256 ^ (8 - (t + 1)) = g at *
        have Hg := Lib.hid hg
        clear hg hstart
        go_wp2_with fail
        have e1 : ((g : Int) / 256) = ((n / 256 ^ (8 - t) : Nat) : Int) := by rw [← div_step n t (by omega), Hg.out]; omega
        have e2 : ((g : Int) % 256) = (digit n (7 - t) : Int) := by unfold digit; rw [show 7 - t = 8 - (t + 1) by omega, Hg.out]; omega
        rw [e1, e2]
        refine ⟨⟨t, by omega, rfl, rfl, hb.setCell (p := ⟨w1.heap.size, t, none⟩) (Nat.le_refl _) _, Lib.hid (by rw [World.size_setCell]; exact hz.out), Lib.hid ?_, Lib.hid fun h => ?_⟩, by simp [intOf]⟩
        · rw [block_set hB.out, arrOf_set n t (by omega)]
        · rw [show 7 - t = 8 - (t + 1) by omega, Hg.out]; omega
      · have hm0 : n / 256 ^ (8 - t) = 0 := Nat.eq_zero_of_not_pos hm
        have hbe := be_len 8 n (8 - t) (by omega) hm0 (by
          by_cases h8 : t = 8
          · left; omega
          · right; rw [show 8 - t - 1 = 7 - t by omega]; exact hd.out (by omega))
        have ht8 : t < 8 := by
          rcases Nat.lt_or_ge t 8 with h | h
          · exact h
          · have : t = 8 := by omega
            subst this; simp at hm0; omega
        rw [hm0]
        clear hm hm0 hstart
        go_wp2_with fail
        have n1 : IntKind.i64.wrap (255 - (t : Int)) = 255 - (t : Int) := by rw [IntWalk.i64_in _ (by omega)]
        have n2 : (0 : Int) ≤ (t : Int) := by omega
        have n3 : (t : Int) ≤ 8 := by omega
        have n4 : ¬ (8 = t) := by omega
        have n5 : IntKind.u8.wrap (255 - (t : Int)) = 255 - (t : Int) := by unfold IntKind.wrap; simp [IntKind.signed, IntKind.bits]; omega
        have ho2 := OwnB.mono hb hown
        have hszr := hb.size
        have hlt := hown.lt
        have hblk : ∀ (x : Value) (w2 : World), (wr.alloc (.cells #[x] 5)).drew.grownBy w2 v1.ownBlock → w2.heap[w1.heap.size]? = some (.cells (arrOf n t) 157 (0, 0)) := fun x w2 hg => by
          rw [hg.block _ (by have := hz.out; simp; omega) (fun e => by have := hlt _ e.symm; omega)]
          exact (Below.heap_alloc wr _ _ (by have := hz.out; omega)).trans hB.out
        have hbl : (be 8 n).length = 8 - t := by rw [hbe]; simp
        go_region_held3 (fun _ => True) (trivial) (first
          | (refine step_app (v := v1) (by rfl) _ _ 25 25 (by rfl) w.heap.size 5 1 1 byteElt Tryz.underlying25 bs.length _ (by rfl) (own_drew (World.ownsRow.alloc ho2 _)) (by rfl) 1 _ (src_one_drew wr _ (by rfl)) (by unfold maxLen; omega) (by omega) (by simp; omega) ?_; intro v2 w2 hown2 hg2 hat2)
          | (refine step_app (v := v2) (by rfl) _ _ 25 25 (by rfl) w.heap.size 5 1 1 byteElt Tryz.underlying25 _ _ (by rfl) hown2 (by rfl) _ _ (src_digits ht8 hbe (hblk _ _ hg2)) (by unfold maxLen; omega) (by omega) (by have := hg2.size; simp at this; omega) ?_; intro v3 w3 hown3 hg3 hat3))
        go_wp2_with fail
        go_ret
        have hb2 : Below w.heap.size w w2 := grown_below (below_alloc (below_trans hb1 hb) _).drew hg2 (by simp; omega) (fun k hk => (hlt k hk).1)
        have hx : Value.int .u8 (255 - (t : Int)) = u8 (UInt8.ofNat (247 + (be 8 n).length)) := by
          rw [hbl, u8_ofNat (by omega)]; congr 1; omega
        have hlt2 := hown2.lt
        refine ⟨v3, rfl, ?_, grown_below hb2 hg3 (by have := hb2.size; exact this) (fun k hk => (hlt2 k hk).1)⟩
        rw [hx] at hown3
        unfold OwnB numS
        rw [if_neg hs]
        have hle : (bs ++ UInt8.ofNat (247 + (be 8 n).length) :: be 8 n).length = bs.length + 1 + (8 - t) := by simp [hbl]; omega
        rw [hle]
        simpa using hown3

theorem be_length : ∀ (f n : Nat), (be f n).length ≤ f
  | 0, _ => Nat.le_refl _
  | f + 1, n => by
    have := be_length f (n / 256)
    unfold be; split <;> simp; omega

theorem numS_length (n : Nat) : (numS n).length ≤ 9 := by
  have := be_length 8 n
  unfold numS; split <;> simp; omega

set_option maxRecDepth 100000 in
/-- Str -/
theorem str_any (v : Value) (bs : List UInt8) (s : ByteArray) (w : World) (hv : SlP 1 ByteE w v bs) (hl : bs.length ≤ 1000000000) (hs : s.size ≤ 1000000000) :
    Calls Tryz.prog 116 #[v, .string s] w (OutB w (bs ++ numS s.size ++ s.data.toList)) := by
  have hnum := num_any v bs s.size w hv hl (by unfold U64; omega)
  have hnl : (numS s.size).length ≤ 9 := numS_length _
  have hal : (bs ++ numS s.size).length + s.size ≤ 2100000000 := by rw [List.length_append]; omega
  have hsrc := fun W : World => Src.ofString (P := Tryz.prog) W (tx := 9) Tryz.underlying9 s
  go_enter Tryz.func116, Tryz.ntmps116
  go_wp2_with (first
    | (go_at_call 71; refine hnum.mono ?_; rintro e w1 ⟨v1, rfl, hown, hb1⟩; have hsz1 := hb1.size)
    | (at_builtin; refine wpList_app (v := v1) rfl _ _ 25 9 rfl w.heap.size 5 1 1 byteElt Tryz.underlying25 _ _ rfl hown rfl _ _ (hsrc _) (by unfold maxLen; omega) (by omega) (by omega) ?_; intro v' w2 hown2 hg2 _))
  go_ret
  have hlt := hown.lt
  refine ⟨_, rfl, ?_, grown_below hb1 hg2 (by omega) (fun k hk => (hlt k hk).1)⟩
  unfold OwnB
  have e1 : byteCells s = s.data.toList.map u8 := rfl
  rw [e1] at hown2
  have e2 : (bs ++ numS s.size ++ s.data.toList).length = (bs ++ numS s.size).length + s.size := by rw [List.length_append, Array.length_toList]; rfl
  rw [e2]
  simpa using hown2

end Go.Proofs.YtlhefifejcoecaaGreatDoor
