/- The reference of layer 8: Install. -/
import Derived.Test.YtgmcpfcpdmnebaaGreatStoP
import Derived.Test.YtgmcpfcpdmnebaaGreatRefA
namespace Go.Proofs.YtgmcpfcpdmnebaaGreat
open Go.RowKit Go.Proofs Go.Shelf
attribute [local go_sem ↓] Go.wp_at_zero Go.wp_at_succ

theorem StoP.below {w w' : World} {base b n : Nat} {S : List KeyS} (h : StoP w base b S n) (hb : Below w.heap.size w w') : StoP w' base b S n := by
  obtain ⟨Lv, css, h⟩ := h
  exact ⟨Lv, css, h.below hb⟩

/-- The last size is another. -/
theorem StoP.last {w : World} {base b n : Nat} {S : List KeyS} (h : StoP w base b S n) (m : Nat) : StoP (w.setCell ⟨b, 1, none⟩ (.int .i64 m)) base b S m := by
  obtain ⟨Lv, css, h⟩ := h
  refine ⟨Lv, css, by rw [block_setCell h.block]; rfl, h.above, h.own.setOther (h.own.ne_block h.block tKey_ne) _, h.len, h.few, fun j h1 h2 => ?_⟩
  obtain ⟨cv, e1, e2, e3⟩ := h.each j h1 h2
  exact ⟨cv, e1, e2, ⟨e3.own.setOther (e3.own.ne_block h.block tVer_ne) _, e3.small⟩⟩

theorem StoP.cells {w : World} {base b n : Nat} {S : List KeyS} (h : StoP w base b S n) : w.cell? ⟨b, 1, none⟩ = some (.int .i64 n) ∧ w.frozen? ⟨b, 1, none⟩ = false ∧ b < w.heap.size ∧ base ≤ b := by
  obtain ⟨Lv, css, h⟩ := h
  exact ⟨by rw [block_cell' h.block]; rfl, by simp [World.frozen?, h.block], h.lt, h.above⟩

def InstOut (w0 : World) (b : Nat) (S : List KeyS) (n : Nat) (e : Ending) (w' : World) : Prop := e = .returned (.int .i64 0) ∧ StoP w' w0.heap.size b S n ∧ Below w0.heap.size w0 w'

set_option maxRecDepth 100000 in
set_option maxHeartbeats 4000000 in
theorem rinstall_any (w0 : World) (b n N : Nat) (S : List KeyS) (f : St) (l : List Pair) (v : Value) (at_ : Nat) (w : World) (hb0 : Below w0.heap.size w0 w) (hs : StoP w w0.heap.size b S n) (hv : SlP 3 PairE w0 v l) (hg : goodS l = true)
    (hI : SInv S f n N) (hN : N + l.length ≤ 90000) (hn : n < 90000) (hat : at_ = n + 1) :
    Calls Tryz.prog 37 #[.pointer (some ⟨b, 0, none⟩), .int .i64 at_, v] w (InstOut w0 b (putL S l at_) at_) := by
  have hgood := fun W hb => rgood_any l v W (hv.mono PairE.mono (w' := W) hb)
  obtain ⟨q, cap, rfl, hlc, hcap, hcells⟩ := hv.pairs
  rw [hg] at hgood
  have Hg := Lib.hid hg
  have Hs := Lib.hid hs
  have hwr : IntKind.i64.wrap ((n : Int) + 1) = (at_ : Int) := by rw [IntWalk.i64_in _ (by omega)]; omega
  obtain ⟨y0, fz0, hbl, -⟩ := hs.cells
  have hInv := Lib.hid (fun k hk => putL_inv (hI.later (Nat.le_succ n) (Nat.le_refl _)) l hg (Nat.succ_pos _) k hk (fun x hx => by have := (hI.each x hx).2.2.1; omega))
  rw [show n.succ = at_ from hat.symm] at hInv
  have Hat := Lib.hid hat
  have hat1 : 0 < at_ ∧ at_ ≤ 90000 := by omega
  have Hat1 := Lib.hid hat1
  clear hs hg hI hat hat1
  go_enter Tryz.func37, Tryz.ntmps37
  go_wp2_with (first | (go_at_call 36; refine (hgood _ hb0).mono ?_; rintro e W ⟨rfl, hW⟩; replace y0 := bcell hW y0) | fail)
  have Hs2 := Lib.hid (Hs.out.below hW)
  have hbW := below_trans hb0 hW
  clear hgood Hs y0 fz0
  go_loopw [23] (fun i wr => ∃ k : Nat, k ≤ l.length ∧ i = .int .i64 k ∧ Hid (StoP wr w0.heap.size b (putL S (l.take k) at_) n) ∧ Below w0.heap.size w0 wr) (fun i _ => l.length - (intOf i).toNat)
  case atStart => exact ⟨0, Nat.zero_le _, rfl, Hs2, hbW⟩
  case round =>
    obtain ⟨k, hk, rfl, Hst, hb⟩ := hrel
    by_cases hlt : k < l.length
    · obtain ⟨b2, off, rfl, ⟨z1, z2⟩, c0, c1, c2⟩ := hcells k hlt
      replace c0 := bcell hb c0
      replace c1 := bcell hb c1
      replace c2 := bcell hb c2
      have n0 : (0 : Int) ≤ (k : Int) := by omega
      have n1 : (k : Int) < (l.length : Int) := by omega
      have hput : ∀ W, Below wr.heap.size wr W → Calls Tryz.prog 55 #[.pointer (some ⟨b, 0, none⟩), .agg #[.string l[k].key, .string l[k].val, .bool l[k].dead], .int .i64 at_] W (PutOut w0.heap.size b (putL S (l.take (k + 1)) at_) n W) := fun W hbW => by
        rw [putL_snoc S l at_ k hlt]
        obtain ⟨i1, i2⟩ := hInv.out k hk
        have hsz := hb.size
        have hsz2 := hbW.size
        have hat1 := Hat1.out
        refine rput_any w0.heap.size b n _ l[k] at_ W (Hst.out.below hbW) (by omega) z1 z2 (by have := i1.few; omega) (goodS_dead Hg.out _ (List.getElem_mem hlt)) (by omega) (by omega) fun x hx hn => ?_
        exact ⟨(i1.each x hx).2.1, i2 k hlt (Nat.le_refl _) x hx hn, by have := (i1.each x hx).2.2.2; omega⟩
      have hszb := hb.size
      clear hcells
      generalize l[k] = p at *
      go_wp2_with (first | (go_at_call 55; refine (hput _ (below_new _ _)).mono ?_; rintro e w2 ⟨rfl, hst2, hb2⟩) | fail)
      go_roundw
      case rel => exact ⟨k + 1, hlt, by go_num, Lib.hid hst2, hb.trans ((below_new _ _).mono hszb |>.trans hb2)⟩
      case measure => simp [intOf]; omega
    · have hke : k = l.length := by omega
      subst hke
      rw [List.take_length] at Hst
      obtain ⟨y0, fz0, hbl2, hb02⟩ := Hst.out.cells
      clear hcells hInv
      go_wp2_with fail
      go_ret
      exact ⟨rfl, Hst.out.last at_, hb.setCell (p := ⟨b, 1, none⟩) hb02 _⟩

end Go.Proofs.YtgmcpfcpdmnebaaGreat
