/- The reference of layer 1: numbers, texts and truths behind bytes. -/
import Derived.Test.YtgmcpfcpdmnebaaGreatRefE
import Derived.Test.YtgmcpfcpdmnebaaGreatRec4
namespace Go.Proofs.YtgmcpfcpdmnebaaGreat
open Go.RowKit Go.Proofs Go.Shelf

/-- An empty slice of bytes that was made just now. -/
theorem own_empty (w : World) (base : Nat) (hb : base ≤ w.heap.size) : (w.alloc (.cells #[] 5)).ownsRow base 5 1 (.slice (some ⟨w.heap.size, 0, none⟩) 0 0) 0 [] := World.ownsRow_lit w #[] 0 hb (by decide) (by decide)

set_option maxRecDepth 100000 in
theorem rflag_any (v : Value) (bs : List UInt8) (f : Bool) (w : World) (hv : SlP 1 ByteE w v bs) (hl : bs.length ≤ 1000000000) : Calls Tryz.prog 71 #[v, .bool f] w (OutB w (bs ++ [if f then 1 else 0])) := by
  have hs0 := src_bytes (P := Tryz.prog) Tryz.underlying66 (hv.mono ByteE.mono (below_new w (.cells #[] 5)))
  obtain ⟨q, cap, rfl, hlc, hcap, h0, -⟩ := hv
  have hown := own_empty w w.heap.size (Nat.le_refl _)
  cases f with
  | false =>
    go_enter Tryz.func71, Tryz.ntmps71
    go_wp2_with (first
      | (at_builtin; refine wpList_app (v := .slice (some ⟨w.heap.size, 0, none⟩) 0 0) rfl _ _ 66 66 rfl w.heap.size 5 1 1 byteElt Tryz.underlying66 0 [] rfl hown rfl _ _ hs0 (by unfold maxLen; omega) (by omega) (by simp) ?_; intro v1 w1 hown1 hg1 _; simp only [Nat.zero_add, List.nil_append] at hown1; have hb1 := grown_below (below_new w _) hg1 (by simp) (by simp [Value.ownBlock]); have hsz1 := hb1.size; have hk1 := src_one w1 0; clear hs0 hown hg1)
      | (at_builtin; refine wpList_app (v := v1) rfl _ _ 66 66 rfl w.heap.size 5 1 1 byteElt Tryz.underlying66 bs.length _ rfl (hown1.alloc _) rfl 1 _ hk1 (by unfold maxLen; omega) (by omega) (by simp; omega) ?_; intro v2 w2 hown2 hg2 _)
      | fail)
    go_ret
    have hlt := hown1.lt
    exact ⟨_, rfl, by simpa [OwnB] using hown2, grown_below (below_alloc hb1 _) hg2 (by simp; omega) (fun k hk => (hlt k hk).1)⟩
  | true =>
    go_enter Tryz.func71, Tryz.ntmps71
    go_wp2_with (first
      | (at_builtin; refine wpList_app (v := .slice (some ⟨w.heap.size, 0, none⟩) 0 0) rfl _ _ 66 66 rfl w.heap.size 5 1 1 byteElt Tryz.underlying66 0 [] rfl hown rfl _ _ hs0 (by unfold maxLen; omega) (by omega) (by simp) ?_; intro v1 w1 hown1 hg1 _; simp only [Nat.zero_add, List.nil_append] at hown1; have hb1 := grown_below (below_new w _) hg1 (by simp) (by simp [Value.ownBlock]); have hsz1 := hb1.size; have hk1 := src_one w1 1; clear hs0 hown hg1)
      | (at_builtin; refine wpList_app (v := v1) rfl _ _ 66 66 rfl w.heap.size 5 1 1 byteElt Tryz.underlying66 bs.length _ rfl (hown1.alloc _) rfl 1 _ hk1 (by unfold maxLen; omega) (by omega) (by simp; omega) ?_; intro v2 w2 hown2 hg2 _)
      | fail)
    go_ret
    have hlt := hown1.lt
    exact ⟨_, rfl, by simpa [OwnB] using hown2, grown_below (below_alloc hb1 _) hg2 (by simp; omega) (fun k hk => (hlt k hk).1)⟩

def lowB (n t : Nat) : List UInt8 := (List.range t).reverse.map fun t => UInt8.ofNat (digit n t)
theorem lowB_succ (n t : Nat) : lowB n (t + 1) = UInt8.ofNat (digit n t) :: lowB n t := by
  unfold lowB; rw [List.range_succ, List.reverse_append]; rfl
theorem lowB_len (n t : Nat) : (lowB n t).length = t := by simp [lowB]

set_option maxRecDepth 100000 in
set_option maxHeartbeats 1000000 in
theorem rnum_any (v : Value) (bs : List UInt8) (n : Nat) (w : World) (hv : SlP 1 ByteE w v bs) (hl : bs.length ≤ 1000000000) (hn : U64 n) :
    Calls Tryz.prog 72 #[v, .int .u64 n] w (OutB w (bs ++ numS n)) := by
  have hs0 := src_bytes (P := Tryz.prog) Tryz.underlying66 (hv.mono ByteE.mono (below_new w (.cells #[] 5)))
  obtain ⟨q, cap, rfl, hlc, hcap, h0, -⟩ := hv
  have hown := own_empty w w.heap.size (Nat.le_refl _)
  by_cases hs : n < 248
  · have hnum : numS n = [UInt8.ofNat n] := by unfold numS; rw [if_pos hs]
    have hu : Value.int .u8 (n : Int) = u8 (UInt8.ofNat n) := by unfold u8; rw [UInt8.toNat_ofNat_of_lt' (Nat.lt_trans hs (by decide))]
    rw [hnum]
    have Hu := Lib.hid hu
    clear hnum hu
    go_enter Tryz.func72, Tryz.ntmps72
    go_wp2_with (first
      | (at_builtin; refine wpList_app (v := .slice (some ⟨w.heap.size, 0, none⟩) 0 0) rfl _ _ 66 66 rfl w.heap.size 5 1 1 byteElt Tryz.underlying66 0 [] rfl hown rfl _ _ hs0 (by unfold maxLen; omega) (by omega) (by simp) ?_; intro v1 w1 hown1 hg1 _; simp only [Nat.zero_add, List.nil_append] at hown1; have hb1 := grown_below (below_new w _) hg1 (by simp) (by simp [Value.ownBlock]); have hsz1 := hb1.size; have hk1 := src_one w1 (UInt8.ofNat n); rw [← Hu.out] at hk1; clear hs0 hown hg1)
      | (at_builtin; refine wpList_app (v := v1) rfl _ _ 66 66 rfl w.heap.size 5 1 1 byteElt Tryz.underlying66 bs.length _ rfl (hown1.alloc _) rfl 1 _ hk1 (by unfold maxLen; omega) (by omega) (by simp; omega) ?_; intro v2 w2 hown2 hg2 _)
      | fail)
    go_ret
    have hlt := hown1.lt
    rw [Hu.out] at hown2
    exact ⟨_, rfl, by simpa [OwnB] using hown2, grown_below (below_alloc hb1 _) hg2 (by simp; omega) (fun k hk => (hlt k hk).1)⟩
  · go_enter Tryz.func72, Tryz.ntmps72
    go_wp2_with (first
      | (at_builtin; refine wpList_app (v := .slice (some ⟨w.heap.size, 0, none⟩) 0 0) rfl _ _ 66 66 rfl w.heap.size 5 1 1 byteElt Tryz.underlying66 0 [] rfl hown rfl _ _ hs0 (by unfold maxLen; omega) (by omega) (by simp) ?_; intro v1 w1 hown1 hg1 _; simp only [Nat.zero_add, List.nil_append] at hown1; have hb1 := grown_below (below_new w _) hg1 (by simp) (by simp [Value.ownBlock]); have hsz1 := hb1.size; clear hs0 hown hg1)
      | fail)
    have hlt1 := hown1.lt
    go_loopw [7, 6] (fun m l wr => ∃ t : Nat, t ≤ 8 ∧ m = .int .u64 (n / 256 ^ t : Nat) ∧ Below w.heap.size w wr ∧ Below w1.heap.size w1 wr ∧ OwnB wr w1.heap.size l (lowB n t) ∧ Hid (t = 0 ∨ n / 256 ^ (t - 1) ≠ 0)) (fun m _ _ => (intOf m).toNat)
    case atStart => exact ⟨0, by omega, by simp, hb1, Below.refl _ _, World.ownsRow_nil _ _ _ _, Lib.hid (.inl rfl)⟩
    case round =>
      obtain ⟨t, ht, rfl, hbw, hb, hol, hd⟩ := hrel
      by_cases hm : 0 < n / 256 ^ t
      · have ht8 : t < 8 := by
          rcases Nat.lt_or_ge t 8 with h | h
          · exact h
          · have : t = 8 := by omega
            subst this
            rw [Nat.div_eq_of_lt (by simpa [U64] using hn)] at hm; omega
        have hsrc := src_bytes (P := Tryz.prog) Tryz.underlying66 ((hol.at (by rw [lowB_len]; omega)).mono ByteE.mono (below_new wr (.cells #[u8 (UInt8.ofNat (digit n t))] 5)))
        have hlit := World.ownsRow_lit (base := w1.heap.size) (e := 5) (size := 1) wr #[u8 (UInt8.ofNat (digit n t))] 1 hb.size (by decide) rfl
        rw [lowB_len] at hsrc
        obtain ⟨ql, cl, rfl, -, -⟩ := hol.len
        rw [lowB_len] at *
        have hstep : n / 256 ^ t / 256 = n / 256 ^ (t + 1) := by rw [Nat.div_div_eq_div_mul, Nat.pow_succ]
        have hdig : digit n t = n / 256 ^ t % 256 := rfl
        have hu := u8_ofNat (digit_lt n t)
        rw [hu] at hsrc hlit
        rw [hdig] at hsrc hlit hu
        generalize hg : n / 256 ^ t = g at *
        have Hg := Lib.hid hg
        have Hu := Lib.hid hu
        have Hst := Lib.hid hstep
        clear hg hu hstep hdig
        have hgz : Hid (g ≠ 0) := Lib.hid (by omega)
        have hsz := hb.size
        go_wp2_with (at_builtin; refine wpList_app (v := .slice (some ⟨wr.heap.size, 0, none⟩) 1 1) rfl _ _ 66 66 rfl w1.heap.size 5 1 1 byteElt Tryz.underlying66 1 [.int .u8 ((g % 256 : Nat) : Int)] rfl hlit rfl _ _ hsrc (by unfold maxLen; omega) (by omega) (by simp; omega) ?_; intro v2 w2 hown2 hg2 _)
        have hb3 : Below w1.heap.size w1 w2 := grown_below (below_alloc hb _) hg2 (by simp; omega) (by simp [Value.ownBlock]; exact hsz)
        go_roundw
        case rel =>
          refine ⟨t + 1, by omega, by rw [← Hst.out]; go_num, below_trans hb1 hb3, hb3, ?_, Lib.hid (.inr ?_)⟩
          · unfold OwnB
            rw [lowB_len, lowB_succ, List.map_cons]
            have e1 : digit n t = g % 256 := by unfold digit; rw [Hg.out]
            rw [e1, Hu.out, show t + 1 = 1 + t by omega]
            exact hown2
          · rw [Nat.add_sub_cancel, Hg.out]; exact hgz.out
        case measure => first | (simp [intOf]; done) | (simp [intOf]; omega)
      · have hm0 : n / 256 ^ t = 0 := Nat.eq_zero_of_not_pos hm
        have hbe : be 8 n = lowB n t := be_len 8 n t ht hm0 hd.out
        have ht0 : 0 < t := by
          rcases Nat.eq_zero_or_pos t with h | h
          · subst h; simp at hm0; omega
          · exact h
        have hrow := hown1
        have ho1 : OwnB wr w.heap.size v1 bs := OwnB.mono hb hown1
        have hlt2 := ho1.lt
        have hltl := hol.lt
        have hne : u6.ownBlock = none ∨ u6.ownBlock ≠ v1.ownBlock := by
          cases hlb : u6.ownBlock with
          | none => exact .inl rfl
          | some k =>
            right
            intro e
            have g1 := (hltl k hlb).1
            have g2 := (hlt1 k e.symm).2
            omega
        obtain ⟨ql, cl, rfl, -, -⟩ := hol.len
        rw [lowB_len] at *
        rw [hm0]
        have hx : Value.int .u8 (247 + (t : Int)) = u8 (UInt8.ofNat (247 + t)) := by
          rw [u8_ofNat (by omega)]; congr 1
        have Hx := Lib.hid hx
        have hk1 := src_one wr (UInt8.ofNat (247 + t))
        rw [← hx] at hk1
        have Hbe := Lib.hid hbe
        have hszw := hbw.size
        have hol' : World.ownsRow wr w1.heap.size 5 1 (.slice ql t cl) t ((lowB n t).map u8) := by have := hol; unfold OwnB at this; rwa [lowB_len] at this
        clear hm hm0 hx hbe hrow
        go_wp2_with (first
          | (at_builtin; refine wpList_app (v := v1) rfl _ _ 66 66 rfl w.heap.size 5 1 1 byteElt Tryz.underlying66 bs.length _ rfl (World.ownsRow.alloc ho1 _) rfl 1 _ hk1 (by unfold maxLen; omega) (by omega) (by simp; omega) ?_; intro v2 w2 hown2 hg2 hat2; have hb2 := grown_below (below_alloc hbw _) hg2 (by simp; omega) (fun k hk => (hlt2 k hk).1); have hlw := World.ownsRow.kept (World.ownsRow.alloc hol' _) hg2 hne; have hol2 : OwnB w2 w1.heap.size (.slice ql t cl) (lowB n t) := (by unfold OwnB; rw [lowB_len]; exact hlw); have hs2 := src_bytes (P := Tryz.prog) Tryz.underlying66 (hol2.at (by rw [lowB_len]; omega)); rw [lowB_len] at hs2; have hb2s := hb2.size; have hlt3 := hown2.lt)
          | (at_builtin; refine wpList_app (v := v2) rfl _ _ 66 66 rfl w.heap.size 5 1 1 byteElt Tryz.underlying66 _ _ rfl hown2 rfl _ _ hs2 (by unfold maxLen; omega) (by omega) (by omega) ?_; intro v3 w3 hown3 hg3 hat3)
          | fail)
        go_ret
        refine ⟨v3, rfl, ?_, grown_below hb2 hg3 (by omega) (fun k hk => (hlt3 k hk).1)⟩
        rw [Hx.out] at hown3
        unfold OwnB numS
        rw [if_neg hs, Hbe.out]
        have hle : (bs ++ UInt8.ofNat (247 + (lowB n t).length) :: lowB n t).length = bs.length + 1 + t := by simp [lowB_len]; omega
        rw [hle, lowB_len]
        simpa using hown3

set_option maxRecDepth 100000 in
/-- Str -/
theorem rstr_any (v : Value) (bs : List UInt8) (s : ByteArray) (w : World) (hv : SlP 1 ByteE w v bs) (hl : bs.length ≤ 1000000000) (hs : s.size ≤ 1000000000) :
    Calls Tryz.prog 73 #[v, .string s] w (OutB w (bs ++ numS s.size ++ s.data.toList)) := by
  have hnum := rnum_any v bs s.size w hv hl (by unfold U64; omega)
  have hnl : (numS s.size).length ≤ 9 := numS_length _
  have hal : (bs ++ numS s.size).length + s.size ≤ 2100000000 := by rw [List.length_append]; omega
  have hsrc := fun W : World => Src.ofString (P := Tryz.prog) W (tx := 9) Tryz.underlying9 s
  go_enter Tryz.func73, Tryz.ntmps73
  go_wp2_with (first
    | (go_at_call 72; refine hnum.mono ?_; rintro e w1 ⟨v1, rfl, hown, hb1⟩; have hsz1 := hb1.size)
    | (at_builtin; refine wpList_app (v := v1) rfl _ _ 66 9 rfl w.heap.size 5 1 1 byteElt Tryz.underlying66 _ _ rfl hown rfl _ _ (hsrc _) (by unfold maxLen; omega) (by omega) (by omega) ?_; intro v' w2 hown2 hg2 _))
  go_ret
  have hlt := hown.lt
  refine ⟨_, rfl, ?_, grown_below hb1 hg2 (by omega) (fun k hk => (hlt k hk).1)⟩
  unfold OwnB
  have e1 : byteCells s = s.data.toList.map u8 := rfl
  rw [e1] at hown2
  have e2 : (bs ++ numS s.size ++ s.data.toList).length = (bs ++ numS s.size).length + s.size := by rw [List.length_append, Array.length_toList]; rfl
  rw [e2]
  simpa using hown2

end Go.Proofs.YtgmcpfcpdmnebaaGreat
