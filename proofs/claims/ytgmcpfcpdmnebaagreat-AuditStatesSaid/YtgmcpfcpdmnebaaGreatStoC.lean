/- The reference of layer 8: put. -/
import Derived.Test.YtgmcpfcpdmnebaaGreatStoB
import Derived.Test.YtgmcpfcpdmnebaaGreatReg
import Derived.Outline
import Derived.Deep.DeepCutAuto
import Derived.Deep.LoopGhost
import Derived.Deep.CutBlock
namespace Go.Proofs.YtgmcpfcpdmnebaaGreat
open Go.RowKit Go.Proofs Go.Shelf
attribute [local go_sem ↓] Go.wp_at_zero Go.wp_at_succ

/-- Where a key stands, or should. -/
def posS : List KeyS → ByteArray → Nat
  | [], _ => 0
  | x :: S, key => if ltB x.name key then posS S key + 1 else 0

theorem posS_le : ∀ (S : List KeyS) (key : ByteArray), posS S key ≤ S.length
  | [], _ => Nat.le_refl _
  | x :: S, key => by
    have := posS_le S key
    unfold posS
    split <;> simp <;> omega

theorem posS_below : ∀ {S : List KeyS} {key : ByteArray} {j : Nat}, j < posS S key → (hj : j < S.length) → ltB S[j].name key = true
  | [], _, _, _, hj => by simp at hj
  | x :: S, key, j, h, hj => by
    unfold posS at h
    by_cases hx : ltB x.name key = true
    · rw [if_pos hx] at h
      cases j with
      | zero => exact hx
      | succ j => exact posS_below (S := S) (by omega) (by simpa using hj)
    · rw [if_neg hx] at h; omega

theorem posS_stop : ∀ {S : List KeyS} {key : ByteArray} (h : posS S key < S.length), ltB S[posS S key].name key = false
  | [], _, h => by simp at h
  | x :: S, key, h => by
    by_cases hx : ltB x.name key = true
    · have e : posS (x :: S) key = posS S key + 1 := by conv => lhs; unfold posS; rw [if_pos hx]
      simp only [e] at h ⊢
      simp only [List.getElem_cons_succ]
      exact posS_stop (S := S) (by simpa using h)
    · have e : posS (x :: S) key = 0 := by unfold posS; rw [if_neg hx]
      simp only [e, List.getElem_cons_zero]
      simpa using hx

theorem posS_eq {S : List KeyS} {key : ByteArray} {k : Nat} (hk : k ≤ S.length) (h1 : ∀ j, j < k → (hj : j < S.length) → ltB S[j].name key = true) (h2 : (h : k < S.length) → ltB S[k].name key = false) : posS S key = k := by
  rcases Nat.lt_trichotomy (posS S key) k with h | h | h
  · have := posS_stop (S := S) (key := key) (by omega)
    rw [h1 _ h (by omega)] at this; cases this
  · exact h
  · have hl := posS_le S key
    have := posS_below h (by omega)
    rw [h2 (by omega)] at this; cases this

theorem src_own {w : World} {base : Nat} {v : Value} {css : List (List Value)} (h : OwnR w base 63 2 v css) (h1 : ∀ c ∈ css, ∀ u ∈ c, u.oneCell' = true) : Src Tryz.prog 2 57 v css.length css.flatten w := by
  rcases h.row.2 with ⟨rfl, hn⟩ | ⟨g, cap, cur, rfl, hb, hg, hc, hm', hsz, ht⟩
  · have : css = [] := List.eq_nil_of_length_eq_zero hn
    subst this
    exact Src.ofNil w Tryz.underlying57 0
  · refine Src.ofSlice w Tryz.underlying57 _ _ cap _ (flatten_len 2 css h.len) (fun t u hu => h.row.cells (g := g) rfl t u hu) (fun u hu => ?_)
    obtain ⟨c, hc, hu⟩ := List.mem_flatten.1 hu
    exact h1 c hc u hu

theorem StoAt.one {w : World} {base b n : Nat} {S : List KeyS} {Lv : Value} {css : List (List Value)} (h : StoAt w base b S n Lv css) : ∀ c ∈ css, ∀ u ∈ c, u.oneCell' = true := by
  intro c hc u hu
  obtain ⟨j, hj, rfl⟩ := List.getElem_of_mem hc
  obtain ⟨cv, e1, -, e3⟩ := h.each j hj (by rw [← h.len]; exact hj)
  rw [e1] at hu
  obtain ⟨p, c', hv, -⟩ := e3.own.form
  simp only [List.mem_cons, List.not_mem_nil, or_false] at hu
  rcases hu with rfl | rfl
  · rfl
  · rw [hv]; rfl

theorem flatten_take {β : Type} (m : Nat) : ∀ (css : List (List β)) (k : Nat), (∀ c ∈ css, c.length = m) → (css.take k).flatten = css.flatten.take (k * m)
  | [], k, _ => by simp
  | c :: css, 0, _ => by simp
  | c :: css, k + 1, h => by
    have h0 := h c (by simp)
    have e1 : (k + 1) * m = c.length + k * m := by rw [h0, Nat.add_mul]; omega
    rw [List.take_succ_cons, List.flatten_cons, flatten_take m css k fun d hd => h d (by simp [hd]), List.flatten_cons, e1, List.take_length_add_append]

theorem flatten_drop {β : Type} (m : Nat) : ∀ (css : List (List β)) (k : Nat), (∀ c ∈ css, c.length = m) → (css.drop k).flatten = css.flatten.drop (k * m)
  | [], k, _ => by simp
  | c :: css, 0, _ => by simp
  | c :: css, k + 1, h => by
    have h0 := h c (by simp)
    have e1 : (k + 1) * m = c.length + k * m := by rw [h0, Nat.add_mul]; omega
    rw [List.drop_succ_cons, flatten_drop m css k fun d hd => h d (by simp [hd]), List.flatten_cons, e1, List.drop_length_add_append]

/-- The rows ahead of a place, and those behind it. -/
theorem StoAt.head {w W : World} {base b n k cap : Nat} {S : List KeyS} {q : Option Addr} {css : List (List Value)} (h : StoAt w base b S n (.slice q S.length cap) css) (hk : k ≤ S.length) (hb : Below w.heap.size w W) :
    (Builtin.firstCells 2 k (.slice q k k)).run Tryz.prog W.drew = .ok (css.take k).flatten.toArray W.drew := by
  have h2 := h.below hb
  have hfl := flatten_take 2 css k h.own.len
  have hln : (css.take k).flatten.length = k * 2 := by rw [flatten_len 2 _ fun c hc => h.own.len c (List.mem_of_mem_take hc), List.length_take, h.len]; omega
  rcases h2.own.row.2 with ⟨h3, hn⟩ | ⟨g, cap', cur, h3, hbg, hg, _⟩
  · simp only [Value.slice.injEq] at h3
    obtain ⟨rfl, h4, rfl⟩ := h3
    have : css = [] := List.eq_nil_of_length_eq_zero hn
    subst this
    have hk0 : k = 0 := by omega
    subst hk0
    exact run_firstCells_none W.drew 2 0 0 0
  · simp only [Value.slice.injEq] at h3
    obtain ⟨rfl, h4, rfl⟩ := h3
    exact run_firstCells_some W.drew 2 k ⟨g, 0, none⟩ k k _ hln (fun j u hu => by
      have hj : j < k * 2 := by
        rcases Nat.lt_or_ge j (k * 2) with h5 | h5
        · exact h5
        · rw [List.getElem?_eq_none (by rw [hln]; exact h5)] at hu; cases hu
      rw [hfl, List.getElem?_take, if_pos hj] at hu
      exact h2.own.row.cells (g := g) rfl j u hu)

theorem StoAt.tail {w W : World} {base b n k g cap c2 : Nat} {S : List KeyS} {css : List (List Value)} (h : StoAt w base b S n (.slice (some ⟨g, 0, none⟩) S.length cap) css) (hk : k ≤ S.length) (hb : Below w.heap.size w W) :
    Src Tryz.prog 2 57 (.slice (some ⟨g, k * 2, none⟩) (S.length - k) c2) (S.length - k) (css.drop k).flatten W := by
  have h2 := h.below hb
  have hfl := flatten_drop 2 css k h.own.len
  have hln : (css.drop k).flatten.length = (S.length - k) * 2 := by rw [flatten_len 2 _ fun c hc => h.own.len c (List.mem_of_mem_drop hc), List.length_drop, h.len]
  refine Src.ofSlice W Tryz.underlying57 _ _ _ _ hln (fun j u hu => ?_) (fun u hu => ?_)
  · rw [hfl, List.getElem?_drop] at hu
    have := h2.own.row.cells (g := g) rfl _ u hu
    rw [Addr.add_lit] at this ⊢
    rw [← this, Nat.zero_add]
  · obtain ⟨c, hc, hu⟩ := List.mem_flatten.1 hu
    exact h.one c (List.mem_of_mem_drop hc) u hu

theorem StoAt.tail0 {w W : World} {base b n k cap : Nat} {q : Option Addr} {S : List KeyS} {css : List (List Value)} (h : StoAt w base b S n (.slice q S.length cap) css) (hk : S.length ≤ k) (a : Addr) (c2 : Nat) :
    Src Tryz.prog 2 57 (.slice (some a) 0 c2) 0 (css.drop k).flatten W := by
  have : css.drop k = [] := List.drop_of_length_le (by rw [h.len]; exact hk)
  rw [this]
  exact Src.ofSlice W Tryz.underlying57 _ _ _ _ (by simp) (fun j u hu => by simp at hu) (fun u hu => by simp at hu)

theorem StoAt.tailN {w W : World} {base b n k cap : Nat} {q : Option Addr} {S : List KeyS} {css : List (List Value)} (h : StoAt w base b S n (.slice q S.length cap) css) (hk : S.length ≤ k) (c2 : Nat) :
    Src Tryz.prog 2 57 (.slice none 0 c2) 0 (css.drop k).flatten W := by
  have : css.drop k = [] := List.drop_of_length_le (by rw [h.len]; exact hk)
  rw [this]
  exact Src.ofNil W Tryz.underlying57 c2

theorem own_form {w : World} {base : Nat} {T : TypeId} {k n g : Nat} {v : Value} {xs : List Value} (h : w.ownsRow base T k v n xs) (hv : v.ownBlock = some g) : ∃ cap, v = .slice (some ⟨g, 0, none⟩) n cap := by
  rcases h.2 with ⟨rfl, hn⟩ | ⟨g', cap, cur, rfl, _⟩
  · simp [Value.ownBlock] at hv
  · simp only [Value.ownBlock, Option.some.injEq] at hv
    subst hv
    exact ⟨cap, rfl⟩

def hasS (S : List KeyS) (key : ByteArray) : Bool := if h : posS S key < S.length then decide (S[posS S key].name = key) else false

def putS (S : List KeyS) (key : ByteArray) (x : Ver) : List KeyS :=
  let S' := if hasS S key then S else insS S (posS S key) key
  if h : posS S key < S'.length then S'.set (posS S key) ⟨key, S'[posS S key].vers ++ [x]⟩ else S'

theorem insS_get {S : List KeyS} {k : Nat} {key : ByteArray} (hk : k ≤ S.length) : ∃ h : k < (insS S k key).length, (insS S k key)[k] = ⟨key, []⟩ := by
  have e : (S.take k).length = k := by rw [List.length_take]; omega
  refine ⟨by unfold insS; simp; omega, ?_⟩
  unfold insS
  rw [List.getElem_append_right (by omega)]
  simp [e]

theorem put_mid {S : List KeyS} {key : ByteArray} {k : Nat} (hk : posS S key = k) : ∃ h : k < (if hasS S key then S else insS S k key).length, (if hasS S key then S else insS S k key)[k].name = key ∧
    (∀ p : KeyS → Prop, (∀ x ∈ S, p x) → p ⟨key, []⟩ → ∀ x ∈ (if hasS S key then S else insS S k key), p x) ∧ ∀ x, putS S key x = (if hasS S key then S else insS S k key).set k ⟨key, (if hasS S key then S else insS S k key)[k].vers ++ [x]⟩ := by
  have hle := posS_le S key
  subst hk
  have hget : ∃ h : posS S key < (if hasS S key then S else insS S (posS S key) key).length, (if hasS S key then S else insS S (posS S key) key)[posS S key].name = key := by
    cases hh : hasS S key with
    | true =>
      unfold hasS at hh
      by_cases h : posS S key < S.length
      · rw [dif_pos h] at hh
        exact ⟨h, by simpa using hh⟩
      · rw [dif_neg h] at hh; cases hh
    | false =>
      obtain ⟨h, e⟩ := insS_get (key := key) hle
      exact ⟨h, by simp [e]⟩
  obtain ⟨h1, h2⟩ := hget
  refine ⟨h1, h2, fun p hp h0 x hx => ?_, fun x => ?_⟩
  · cases hh : hasS S key with
    | true => rw [hh] at hx; exact hp x hx
    | false =>
      rw [hh] at hx
      simp only [Bool.false_eq_true, if_false] at hx
      unfold insS at hx
      rcases List.mem_append.1 hx with hx | hx
      · exact hp x (List.mem_of_mem_take hx)
      · rcases List.mem_cons.1 hx with rfl | hx
        · exact h0
        · exact hp x (List.mem_of_mem_drop hx)
  · unfold putS
    exact dif_pos h1

/-- What put leaves. -/
def PutOut (base b : Nat) (S : List KeyS) (n : Nat) (w : World) (e : Ending) (w' : World) : Prop := e = .returned (.tuple #[]) ∧ StoP w' base b S n ∧ Below base w w'

set_option maxRecDepth 100000 in
set_option maxHeartbeats 12000000 in
theorem rput_any (base b n : Nat) (S : List KeyS) (p : Pair) (at_ : Nat) (w : World) (hs : StoP w base b S n) (hbw : base ≤ w.heap.size) (h1 : p.key.size ≤ 9223372036854775807) (h2 : p.val.size ≤ 9223372036854775807) (hf : S.length < 100000)
    (hd : p.dead = true → p.val.toList = []) (hat : at_ ≤ 100000) (hat0 : 0 < at_) (hch : ∀ x ∈ S, x.name = p.key → GoodV x.vers ∧ lastP x.vers < at_ ∧ x.vers.length < 100000) :
    Calls Tryz.prog 55 #[.pointer (some ⟨b, 0, none⟩), .agg #[.string p.key, .string p.val, .bool p.dead], .int .i64 at_] w (PutOut base b (putS S p.key ⟨at_, p.val, p.dead⟩) n w) := by
  obtain ⟨Lv, css, hst⟩ := hs
  obtain ⟨q, cap, rfl, hlc, hq⟩ := hst.own.form
  have hbl := hst.lt
  have hblk := hst.block
  rw [hst.len] at *
  have c0 : w.cell? ⟨b, 0, none⟩ = some (.slice q S.length cap) := by rw [block_cell' hblk]; rfl
  have hst' := Lib.hid hst
  have hsl := hst.few
  have hkeys : ∀ j, (hj : j < S.length) → ∃ g, q = some ⟨g, 0, none⟩ ∧ w.cell? ⟨g, j * 2, none⟩ = some (.string S[j].name) := fun j hj => by
    obtain ⟨g, rfl, -, -⟩ := hq (by omega)
    obtain ⟨cv, e1, -, -⟩ := hst.each j (by rw [hst.len]; exact hj) hj
    have := hst.own.cell j 0 (by rw [hst.len]; exact hj) (by rw [e1]; simp)
    simp only [Nat.add_zero] at this
    exact ⟨g, rfl, by rw [this]; simp [e1]⟩
  have Hk := Lib.hid hkeys
  clear hkeys hst hblk
  go_enter Tryz.func55, Tryz.ntmps55
  go_upto_block 0 with fail
  generalize hB0 : w.alloc (.cells #[.string p.key, .string p.val, .bool p.dead] 35) = W0
  have hW : Below w.heap.size w W0 := by rw [← hB0]; exact below_new _ _
  have d0 : W0.cell? ⟨w.heap.size, 0, none⟩ = some (.string p.key) := by rw [← hB0]; simp
  have d1 : W0.cell? ⟨w.heap.size, 1, none⟩ = some (.string p.val) := by rw [← hB0]; simp
  have d2 : W0.cell? ⟨w.heap.size, 2, none⟩ = some (.bool p.dead) := by rw [← hB0]; simp
  clear hB0
  have hW0 := World.block_lt_of_cell? _ _ d0
  go_cut [6] (fun i wc => i = .int .i64 (posS S p.key : Nat) ∧ Below W0.heap.size W0 wc)
  case first => as_aux_lemma =>
    go_wp2_with fail
    go_loopw [6] (fun i wr => ∃ k : Nat, k ≤ S.length ∧ i = .int .i64 k ∧ Below W0.heap.size W0 wr ∧ Hid (∀ j, j < k → (hj : j < S.length) → ltB S[j].name p.key = true)) (fun i _ => S.length - (intOf i).toNat)
    case atStart => exact ⟨0, Nat.zero_le _, rfl, Below.refl _ _, Lib.hid fun j h => by omega⟩
    case round =>
      obtain ⟨k, hk, rfl, hb, hlow⟩ := hrel
      have hbr := below_trans hW hb
      have e0 := bcell hbr c0
      have f0 := bcell hb d0
      have l0 := World.block_lt_of_cell? _ _ e0
      have l1 := World.block_lt_of_cell? _ _ f0
      have n0 : (0 : Int) ≤ (k : Int) := by omega
      by_cases hlt : k < S.length
      · obtain ⟨g, rfl, g0⟩ := Hk.out k hlt
        replace g0 := bcell hbr g0
        have l2 := World.block_lt_of_cell? _ _ g0
        have n1 : (k : Int) < (S.length : Int) := by omega
        cases hlb : ltB S[k].name p.key with
        | true =>
          have Hn : Hid (∀ j, j < k + 1 → (hj : j < S.length) → ltB S[j].name p.key = true) := Lib.hid fun j hj hl => by
            by_cases e : j = k
            · subst e; exact hlb
            · exact hlow.out j (by omega) hl
          unfold ltB at hlb
          generalize S[k] = y at *
          go_upto_region 2 with fail
          refine wp_region_quiet_lit (by kernel_rfl) (by kernel_rfl) ?_
          repeat (any_goals (first | go_big_quiet_step (fail) | quiet_step (fail) | (refine wpQuiet_step (fun K hK => ?_); go_simp; split <;> (refine hK _ ?_; clear hK K))))
          all_goals (refine wpQuiet_nil ?_; intro _ hw'; obtain ⟨nq, hw''⟩ := hw'; subst hw'')
          go_wp2
          go_roundw
          case rel => exact ⟨k + 1, hlt, by go_num, below_drewN hb _, Hn⟩
          case measure => simp [intOf]; omega
        | false =>
          have Hpos : Hid (posS S p.key = k) := Lib.hid (posS_eq hk hlow.out (fun _ => hlb))
          unfold ltB at hlb
          generalize S[k] = y at *
          go_upto_region 2 with fail
          refine wp_region_quiet_lit (by kernel_rfl) (by kernel_rfl) ?_
          repeat (any_goals (first | go_big_quiet_step (fail) | quiet_step (fail) | (refine wpQuiet_step (fun K hK => ?_); go_simp; split <;> (refine hK _ ?_; clear hK K))))
          all_goals (refine wpQuiet_nil ?_; intro _ hw'; obtain ⟨nq, hw''⟩ := hw'; subst hw'')
          go_wp2
          go_meet
          case rel => exact ⟨by rw [Hpos.out], below_drewN hb _⟩
      · have hke : k = S.length := by omega
        have Hpos : Hid (posS S p.key = k) := Lib.hid (posS_eq hk hlow.out (fun h => by omega))
        have n1 : decide ((k : Int) < (S.length : Int)) = false := by rw [decide_eq_false (by omega)]
        clear hke
        go_upto_region 2 with fail
        refine wp_region_quiet_lit (by kernel_rfl) (by kernel_rfl) ?_
        repeat (any_goals (first | go_big_quiet_step (fail) | quiet_step (fail) | (refine wpQuiet_step (fun K hK => ?_); go_simp; split <;> (refine hK _ ?_; clear hK K))))
        all_goals (refine wpQuiet_nil ?_; intro _ hw'; obtain ⟨nq, hw''⟩ := hw'; subst hw'')
        go_wp2
        go_meet
        case rel => exact ⟨by rw [Hpos.out], below_drewN hb _⟩
  case rest => as_aux_lemma =>
    obtain ⟨rfl, hb⟩ := hcut
    obtain ⟨w3, rfl⟩ : ∃ w3 : World, w3 = wc := ⟨_, rfl⟩
    have hpl := posS_le S p.key
    have hbr := below_trans hW hb
    have e0 := bcell hbr c0
    have f0 := bcell hb d0
    have f1 := bcell hb d1
    have f2 := bcell hb d2
    have l0 := World.block_lt_of_cell? _ _ e0
    have l1 := World.block_lt_of_cell? _ _ f0
    have hasE : Hid (hasS S p.key = (if h : posS S p.key < S.length then decide (S[posS S p.key].name = p.key) else false)) := Lib.hid rfl
    generalize hpk : posS S p.key = k at *
    have n0 : (0 : Int) ≤ (k : Int) := by omega
    have Hpk := Lib.hid hpk
    clear hpk d0 d1 d2 hW c0
    go_upto_region 4 with fail
    go_cut [50] (fun c wc => c = .bool (!hasS S p.key) ∧ Below w3.heap.size w3 wc)
    case first => as_aux_lemma =>
      by_cases hlt : k < S.length
      · obtain ⟨g, rfl, g0⟩ := Hk.out k hlt
        replace g0 := bcell hbr g0
        have l2 := World.block_lt_of_cell? _ _ g0
        have n1 : (k : Int) < (S.length : Int) := by omega
        have n2 : ((k : Int) == (S.length : Int)) = false := beq_false_of_ne (by omega)
        have hE2 : Hid (hasS S p.key = (S[k].name.toList == p.key.toList)) := Lib.hid (by
          rw [hasE.out, dif_pos hlt]
          by_cases e : S[k].name = p.key
          · rw [decide_eq_true e, e]; simp
          · rw [decide_eq_false e]; symm; rw [Bool.eq_false_iff]; intro h; exact e (toList_inj (by simpa using h)))
        generalize S[k] = y at *
        refine wp_region_quiet_lit (by kernel_rfl) (by kernel_rfl) ?_
        repeat (any_goals (first | go_big_quiet_step (fail) | quiet_step (fail) | (refine wpQuiet_step (fun K hK => ?_); go_simp; split <;> (refine hK _ ?_; clear hK K))))
        all_goals (refine wpQuiet_nil ?_; intro _ hw'; obtain ⟨nq, hw''⟩ := hw'; subst hw'')
        go_wp2
        go_meet
        case rel => exact ⟨by rw [hE2.out], below_drewN (Below.refl _ _) _⟩
      · have n2 : ((k : Int) == (S.length : Int)) = true := by rw [show k = S.length by omega]; simp
        have hE2 : Hid (hasS S p.key = false) := Lib.hid (by rw [hasE.out, dif_neg hlt])
        refine wp_region_quiet_lit (by kernel_rfl) (by kernel_rfl) ?_
        repeat (any_goals (first | go_big_quiet_step (fail) | quiet_step (fail) | (refine wpQuiet_step (fun K hK => ?_); go_simp; split <;> (refine hK _ ?_; clear hK K))))
        all_goals (refine wpQuiet_nil ?_; intro _ hw'; obtain ⟨nq, hw''⟩ := hw'; subst hw'')
        go_wp2
        go_meet
        case rel => exact ⟨by rw [hE2.out]; rfl, below_drewN (Below.refl _ _) _⟩
    case rest => as_aux_lemma =>
      obtain ⟨rfl, hb4⟩ := hcut
      obtain ⟨w4, rfl⟩ : ∃ w4 : World, w4 = wc := ⟨_, rfl⟩
      go_upto_if 50 with fail
      have hst4 := (hst'.out.below hbr).below hb4
      have hbr4 := below_trans hbr hb4
      replace e0 := bcell hb4 e0
      replace f0 := bcell hb4 f0
      replace f1 := bcell hb4 f1
      replace f2 := bcell hb4 f2
      have l0 := World.block_lt_of_cell? _ _ e0
      have l1 := World.block_lt_of_cell? _ _ f0
      have Hst4 := Lib.hid hst4
      have hcl := hst4.len
      have Hcl := Lib.hid hcl
      clear hst4 hcl
      go_cut [51] (fun _ wc => ∃ g m cap2 css2, StoAt wc base b (if hasS S p.key then S else insS S k p.key) n (.slice (some ⟨g, 0, none⟩) m cap2) css2 ∧ Below base w wc ∧ wc.cell? ⟨w.heap.size, 1, none⟩ = some (.string p.val) ∧ wc.cell? ⟨w.heap.size, 2, none⟩ = some (.bool p.dead))
      case first => as_aux_lemma =>
        cases hh : hasS S p.key with
        | true =>
          have Hh := Lib.hid hh
          have hk1 : k < S.length := by
            have := hasE.out
            rw [hh] at this
            by_cases hlt : k < S.length
            · exact hlt
            · rw [dif_neg hlt] at this; cases this
          obtain ⟨g, rfl, -⟩ := Hk.out k hk1
          clear hh
          go_wp2
          go_meet
          case rel => exact ⟨g, _, cap, css, by rw [Hh.out]; exact Hst4.out, hbr4.mono hbw, f1, f2⟩
        | false =>
          have Hh := Lib.hid hh
          clear hh
          go_upto_region 5 with fail
          have hhd := fun W hb => StoAt.head Hst4.out hpl (W := W) hb
          have htl : (css.take k).flatten.length = k * 2 := by rw [flatten_len 2 _ fun c hc => Hst4.out.own.len c (List.mem_of_mem_take hc), List.length_take, Hcl.out]; omega
          have hlit : ∀ W : World, w4.heap.size ≤ W.heap.size → (W.alloc (.cells #[.string p.key, .slice none 0 0] 63)).ownsRow w4.heap.size 63 2 (.slice (some ⟨W.heap.size, 0, none⟩) 1 1) 1 [.string p.key, .slice none 0 0] := fun W h => World.ownsRow_lit W #[.string p.key, .slice none 0 0] 1 h (by decide) rfl
          have Hcnt : Hid (([.string p.key, .slice none 0 0] :: css.drop k : List (List Value)).length = 1 + (S.length - k)) := Lib.hid (by simp [Hcl.out]; omega)
          have hln2 : ∀ c ∈ ([.string p.key, .slice none 0 0] :: css.drop k : List (List Value)), c.length = 2 := fun c hc => by
            rcases List.mem_cons.1 hc with rfl | hc
            · rfl
            · exact Hst4.out.own.len c (List.mem_of_mem_drop hc)
          have hone2 : ∀ c ∈ ([.string p.key, .slice none 0 0] :: css.drop k : List (List Value)), ∀ u ∈ c, u.oneCell' = true := fun c hc u hu => by
            rcases List.mem_cons.1 hc with rfl | hc
            · simp at hu; rcases hu with rfl | rfl <;> rfl
            · exact Hst4.out.one c (List.mem_of_mem_drop hc) u hu
          have hmid : ∀ (W : World) (v1 : Value), W.ownsRow w4.heap.size 63 2 v1 (1 + (S.length - k)) ([.string p.key, .slice none 0 0] ++ (css.drop k).flatten) → Src Tryz.prog 2 57 v1 (1 + (S.length - k)) ([.string p.key, .slice none 0 0] ++ (css.drop k).flatten) W := fun W v1 h => by
            have h9 : OwnR W w4.heap.size 63 2 v1 ([.string p.key, .slice none 0 0] :: css.drop k) := ⟨by rw [Hcnt.out]; exact h, hln2⟩
            have := src_own h9 hone2
            rw [Hcnt.out] at this; exact this
          have keepS : ∀ W, Below w4.heap.size w4 W → W.cell? ⟨b, 0, none⟩ = some (.slice q S.length cap) ∧ W.cell? ⟨w.heap.size, 0, none⟩ = some (.string p.key) ∧ W.frozen? ⟨b, 0, none⟩ = false := fun W hb => ⟨bcell hb e0, bcell hb f0, by simp [World.frozen?, ((Hst4.out.below hb).block)]⟩
          have hcase : (q = none ∧ S = [] ∧ cap = 0) ∨ (∃ g, q = some ⟨g, 0, none⟩ ∧ cap = k) ∨ (∃ g, q = some ⟨g, 0, none⟩ ∧ cap ≠ k) := by
            rcases Hst4.out.own.row.2 with ⟨h3, hn⟩ | ⟨g, cap', cur, h3, hbg, hg, _⟩
            · simp only [Value.slice.injEq] at h3
              exact .inl ⟨h3.1, List.eq_nil_of_length_eq_zero h3.2.1, h3.2.2⟩
            · simp only [Value.slice.injEq] at h3
              by_cases e : cap = k
              · exact .inr (.inl ⟨g, h3.1, e⟩)
              · exact .inr (.inr ⟨g, h3.1, e⟩)
          rcases hcase with ⟨rfl, rfl, rfl⟩ | ⟨g, rfl, hkc⟩ | ⟨g, rfl, hkc⟩
          · obtain rfl : k = 0 := by simpa using hpl
            have hsrc := fun (_ : Nat) (c2 : Nat) W (_ : Below w4.heap.size w4 W) => StoAt.tailN (W := W) (k := 0) Hst4.out (Nat.le_refl _) c2
            refine wp_region_last_of (S := (fun w' => w'.cell? ⟨b, 0, none⟩ = some (.slice none 0 0) ∧ w'.cell? ⟨w.heap.size, 0, none⟩ = some (.string p.key) ∧ w'.frozen? ⟨b, 0, none⟩ = false)) 22 (by kernel_rfl) rfl rfl (by kernel_rfl) ?_
            have hHeld : (((fun w' => w'.cell? ⟨b, 0, none⟩ = some (.slice none 0 0) ∧ w'.cell? ⟨w.heap.size, 0, none⟩ = some (.string p.key) ∧ w'.frozen? ⟨b, 0, none⟩ = false)) : World → Prop) _ := (by exact keepS _ (Below.refl _ _).drew)
            refine' takeL (v := _) 0 rfl (by kernel_rfl) (by kernel_rfl) (by kernel_rfl) (fun _ _ _ h => h) (by rfl) ?_ (by assumption) ?_; rotate_left 1; (focus (intro w hSw; (try dsimp only at hSw); go_simp; (try with_reducible rfl); done))
            (try simp only [Act.put, List.setIfInBounds_toArray, List.set_cons_zero, List.set_cons_succ])
            refine' takeL (v := _) 1 rfl (by kernel_rfl) (by kernel_rfl) (by kernel_rfl) (fun _ _ _ h => h) (by rfl) ?_ (by assumption) ?_; rotate_left 1; (focus (intro w hSw; (try dsimp only at hSw); go_simp; (try with_reducible rfl); done))
            (try simp only [Act.put, List.setIfInBounds_toArray, List.set_cons_zero, List.set_cons_succ])
            refine' takeL (v := _) 2 rfl (by kernel_rfl) (by kernel_rfl) (by kernel_rfl) (fun _ _ _ h => h) (by rfl) ?_ (by assumption) ?_; rotate_left 1; (focus (intro w hSw; (try dsimp only at hSw); go_simp; (try with_reducible rfl); done))
            (try simp only [Act.put, List.setIfInBounds_toArray, List.set_cons_zero, List.set_cons_succ])
            refine' takeL (v := _) 3 rfl (by kernel_rfl) (by kernel_rfl) (by kernel_rfl) (fun _ _ _ h => h) (by rfl) ?_ (by assumption) ?_; rotate_left 1; (focus (intro w hSw; (try dsimp only at hSw); go_simp; (try with_reducible rfl); done))
            (try simp only [Act.put, List.setIfInBounds_toArray, List.set_cons_zero, List.set_cons_succ])
            refine' takeL (v := _) 4 rfl (by kernel_rfl) (by kernel_rfl) (by kernel_rfl) (fun _ _ _ h => h) (by rfl) ?_ (by assumption) ?_; rotate_left 1; (focus (intro w hSw; (try dsimp only at hSw); go_simp; (try with_reducible rfl); done))
            (try simp only [Act.put, List.setIfInBounds_toArray, List.set_cons_zero, List.set_cons_succ])
            refine' takeL (v := _) 5 rfl (by kernel_rfl) (by kernel_rfl) (by kernel_rfl) (fun _ _ _ h => h) (by rfl) ?_ (by assumption) ?_; rotate_left 1; (focus (intro w hSw; (try dsimp only at hSw); go_simp; (try with_reducible rfl); done))
            (try simp only [Act.put, List.setIfInBounds_toArray, List.set_cons_zero, List.set_cons_succ])
            refine' takeL (v := _) 6 rfl (by kernel_rfl) (by kernel_rfl) (by kernel_rfl) (fun _ _ _ h => h) (by rfl) ?_ (by assumption) ?_; rotate_left 1; (focus (intro w hSw; (try dsimp only at hSw); go_simp; (try with_reducible rfl); done))
            (try simp only [Act.put, List.setIfInBounds_toArray, List.set_cons_zero, List.set_cons_succ])
            refine' takeL (v := _) 7 rfl (by kernel_rfl) (by kernel_rfl) (by kernel_rfl) (fun _ _ _ h => h) (by rfl) ?_ (by assumption) ?_; rotate_left 1; (focus (intro w hSw; (try dsimp only at hSw); go_simp; (try with_reducible rfl); done))
            (try simp only [Act.put, List.setIfInBounds_toArray, List.set_cons_zero, List.set_cons_succ])
            refine' takeL (v := _) 8 rfl (by kernel_rfl) (by kernel_rfl) (by kernel_rfl) (fun _ _ _ h => h) (by rfl) ?_ (by assumption) ?_; rotate_left 1; (focus (intro w hSw; (try dsimp only at hSw); go_simp; (try with_reducible rfl); done))
            (try simp only [Act.put, List.setIfInBounds_toArray, List.set_cons_zero, List.set_cons_succ])
            refine' takeL (v := _) 9 rfl (by kernel_rfl) (by kernel_rfl) (by kernel_rfl) (fun _ _ _ h => h) (by rfl) ?_ (by assumption) ?_; rotate_left 1; (focus (intro w hSw; (try dsimp only at hSw); go_simp; (try with_reducible rfl); done))
            (try simp only [Act.put, List.setIfInBounds_toArray, List.set_cons_zero, List.set_cons_succ])
            refine' takeL (v := _) 10 rfl (by kernel_rfl) (by kernel_rfl) (by kernel_rfl) (fun _ _ _ h => h) (by rfl) ?_ (by assumption) ?_; rotate_left 1; (focus (intro w hSw; (try dsimp only at hSw); go_simp; (try with_reducible rfl); done))
            (try simp only [Act.put, List.setIfInBounds_toArray, List.set_cons_zero, List.set_cons_succ])
            refine' takeL (v := _) 12 rfl (by kernel_rfl) (by kernel_rfl) (by kernel_rfl) (fun _ _ _ h => h) (by rfl) ?_ (by assumption) ?_; rotate_left 1; (focus (intro w hSw; (try dsimp only at hSw); go_simp; (try with_reducible rfl); done))
            (try simp only [Act.put, List.setIfInBounds_toArray, List.set_cons_zero, List.set_cons_succ])
            refine' takeL (v := _) 13 rfl (by kernel_rfl) (by kernel_rfl) (by kernel_rfl) (fun _ _ _ h => h) (by rfl) ?_ (by assumption) ?_; rotate_left 1; (focus (intro w hSw; (try dsimp only at hSw); go_simp; (try with_reducible rfl); done))
            (try simp only [Act.put, List.setIfInBounds_toArray, List.set_cons_zero, List.set_cons_succ])
            refine' takeL (v := _) 14 rfl (by kernel_rfl) (by kernel_rfl) (by kernel_rfl) (fun _ _ _ h => h) (by rfl) ?_ (by assumption) ?_; rotate_left 1; (focus (intro w hSw; (try dsimp only at hSw); go_simp; (try with_reducible rfl); done))
            (try simp only [Act.put, List.setIfInBounds_toArray, List.set_cons_zero, List.set_cons_succ])
            refine' takeL (v := _) 15 rfl (by kernel_rfl) (by kernel_rfl) (by kernel_rfl) (fun _ _ _ h => h) (by rfl) ?_ (by assumption) ?_; rotate_left 1; (focus (intro w hSw; (try dsimp only at hSw); go_simp; (try with_reducible rfl); done))
            (try simp only [Act.put, List.setIfInBounds_toArray, List.set_cons_zero, List.set_cons_succ])
            refine' takeL (v := _) 16 rfl (by kernel_rfl) (by kernel_rfl) (by kernel_rfl) (fun _ _ _ h => h) (by rfl) ?_ (by assumption) ?_; rotate_left 1; (focus (intro w hSw; (try dsimp only at hSw); go_simp; (try with_reducible rfl); done))
            (try simp only [Act.put, List.setIfInBounds_toArray, List.set_cons_zero, List.set_cons_succ])
            refine' takeL (v := _) 17 rfl (by kernel_rfl) (by kernel_rfl) (by kernel_rfl) (fun _ _ _ h => h) (by rfl) ?_ (by assumption) ?_; rotate_left 1; (focus (intro w hSw; (try dsimp only at hSw); go_simp; (try with_reducible rfl); done))
            (try simp only [Act.put, List.setIfInBounds_toArray, List.set_cons_zero, List.set_cons_succ])
            refine stepL 11 rfl (by kernel_rfl) (fun K hK => ?_)
            go_simp
            refine hK.out _ _ (by exact keepS _ ((Below.refl _ _).drew.alloc (Nat.le_refl _) _)) (fun hHeld => ?_)
            clear hK K
            (try simp only [Act.put, List.setIfInBounds_toArray, List.set_cons_zero, List.set_cons_succ])
            refine stepL 18 rfl (by kernel_rfl) (fun K hK => ?_)
            refine step_app (v := .slice (some ⟨w4.heap.size, 0, none⟩) 1 1) (by rfl) _ _ 57 57 (by rfl) w4.heap.size 63 2 40 keyElt Tryz.underlying57 1 [.string p.key, .slice none 0 0] (by rfl) (hlit w4 (Nat.le_refl _)) (by rfl) 0 _ (hsrc 0 _ _ (below_new w4 _).drew) (by unfold maxLen; omega) (by omega) (by simp) ?_
            intro v1 w1 hown1 hg1 hat1
            have hb1 : Below w4.heap.size w4 w1 := grown_below (below_new w4 _).drew hg1 (by simp) (by simp [Value.ownBlock])
            refine hK.out _ _ (by exact keepS _ hb1) (fun hHeld => ?_)
            clear hK K
            (try simp only [Act.put, List.setIfInBounds_toArray, List.set_cons_zero, List.set_cons_succ])
            refine stepL 19 rfl (by kernel_rfl) (fun K hK => ?_)
            refine step_app_new (by rfl) _ _ 57 57 (by rfl) base 63 2 40 keyElt Tryz.underlying57 none 0 _ htl (by rfl) (hhd _ hb1) (by rfl) (1 + 0) _ (hmid w1 v1 hown1) (by unfold maxLen; omega) (by omega) (by have := hb1.size; have := hbr4.size; omega) (by omega) ?_
            intro v2 w2 hown2 hg2 hat2
            have hb2 : Below w4.heap.size w4 w2 := grown_below hb1 hg2 (by have := hb1.size; omega) (by simp)
            refine hK.out _ _ (by exact keepS _ hb2) (fun hHeld => ?_)
            clear hK K
            (try simp only [Act.put, List.setIfInBounds_toArray, List.set_cons_zero, List.set_cons_succ])
            refine' takeL (v := _) 20 rfl (by kernel_rfl) (by kernel_rfl) (by kernel_rfl) (fun _ _ _ h => h) (by rfl) ?_ (by assumption) ?_; rotate_left 1; (focus (intro w hSw; (try dsimp only at hSw); go_simp; (try with_reducible rfl); done))
            (try simp only [Act.put, List.setIfInBounds_toArray, List.set_cons_zero, List.set_cons_succ])
            refine' takeL (v := _) 21 rfl (by kernel_rfl) (by kernel_rfl) (by kernel_rfl) (fun _ _ _ h => h) (by rfl) ?_ (by assumption) ?_; rotate_left 1; (focus (intro w hSw; (try dsimp only at hSw); go_simp; (try with_reducible rfl); done))
            (try simp only [Act.put, List.setIfInBounds_toArray, List.set_cons_zero, List.set_cons_succ])
            refine wpAnyH_done (by kernel_rfl) ?_ _
            unfold withLast
            obtain ⟨k1, k2, k3⟩ := hHeld
            obtain ⟨cap2, rfl⟩ := own_form hown2 hat2
            go_wp2
            go_meet
            case rel =>
              have hO : OwnR w2 base 63 2 (.slice (some ⟨w1.heap.size, 0, none⟩) (0 + (1 + 0)) cap2) (css.take 0 ++ [.string p.key, .slice none 0 0] :: css.drop 0) := by
                have e1 : (css.take 0 ++ [.string p.key, .slice none 0 0] :: css.drop 0).length = 0 + (1 + 0) := by
                  have := Hcl.out
                  simp only [List.length_append, List.length_take, List.length_cons, List.length_drop, List.length_nil, this]; omega
                have e2 : (css.take 0 ++ [.string p.key, .slice none 0 0] :: css.drop 0).flatten = (css.take 0).flatten ++ ([.string p.key, .slice none 0 0] ++ (css.drop 0).flatten) := by simp
                refine ⟨by rw [e1, e2]; exact hown2, fun c hc => ?_⟩
                rcases List.mem_append.1 hc with hc | hc
                · exact Hst4.out.own.len c (List.mem_of_mem_take hc)
                · exact hln2 c hc
              have hI := Hst4.out.insert hb2 hpl p.key h1 hf hO
              rw [Hh.out]
              exact ⟨_, _, _, _, hI, (hbr4.mono hbw).trans ((hb2.mono (Nat.le_trans hbw hbr4.size)).setCell (p := ⟨b, 0, none⟩) hst'.out.above _),
                (World.cell?_setCell_far _ ⟨b, 0, none⟩ ⟨w.heap.size, 1, none⟩ _ (by simp; omega)).trans (bcell hb2 f1), (World.cell?_setCell_far _ ⟨b, 0, none⟩ ⟨w.heap.size, 2, none⟩ _ (by simp; omega)).trans (bcell hb2 f2)⟩
          · have hsrc := fun (a : Addr) (c2 : Nat) W (_ : Below w4.heap.size w4 W) => show Src Tryz.prog 2 57 (.slice (some a) (S.length - k) c2) (S.length - k) (css.drop k).flatten W by
              rw [show S.length - k = 0 by omega]; exact StoAt.tail0 Hst4.out (by omega) a c2
            have n5 : (k : Int) ≤ (cap : Int) := by omega
            have n6 : (k : Int) ≤ (S.length : Int) := by omega
            refine wp_region_last_of (S := (fun w' => w'.cell? ⟨b, 0, none⟩ = some (.slice (some ⟨g, 0, none⟩) S.length cap) ∧ w'.cell? ⟨w.heap.size, 0, none⟩ = some (.string p.key) ∧ w'.frozen? ⟨b, 0, none⟩ = false)) 22 (by kernel_rfl) rfl rfl (by kernel_rfl) ?_
            have hHeld : (((fun w' => w'.cell? ⟨b, 0, none⟩ = some (.slice (some ⟨g, 0, none⟩) S.length cap) ∧ w'.cell? ⟨w.heap.size, 0, none⟩ = some (.string p.key) ∧ w'.frozen? ⟨b, 0, none⟩ = false)) : World → Prop) _ := (by exact keepS _ (Below.refl _ _).drew)
            refine' takeL (v := _) 0 rfl (by kernel_rfl) (by kernel_rfl) (by kernel_rfl) (fun _ _ _ h => h) (by rfl) ?_ (by assumption) ?_; rotate_left 1; (focus (intro w hSw; (try dsimp only at hSw); go_simp; (try with_reducible rfl); done))
            (try simp only [Act.put, List.setIfInBounds_toArray, List.set_cons_zero, List.set_cons_succ])
            refine' takeL (v := _) 1 rfl (by kernel_rfl) (by kernel_rfl) (by kernel_rfl) (fun _ _ _ h => h) (by rfl) ?_ (by assumption) ?_; rotate_left 1; (focus (intro w hSw; (try dsimp only at hSw); go_simp; (try with_reducible rfl); done))
            (try simp only [Act.put, List.setIfInBounds_toArray, List.set_cons_zero, List.set_cons_succ])
            refine' takeL (v := _) 2 rfl (by kernel_rfl) (by kernel_rfl) (by kernel_rfl) (fun _ _ _ h => h) (by rfl) ?_ (by assumption) ?_; rotate_left 1; (focus (intro w hSw; (try dsimp only at hSw); go_simp; (try with_reducible rfl); done))
            (try simp only [Act.put, List.setIfInBounds_toArray, List.set_cons_zero, List.set_cons_succ])
            refine' takeL (v := _) 3 rfl (by kernel_rfl) (by kernel_rfl) (by kernel_rfl) (fun _ _ _ h => h) (by rfl) ?_ (by assumption) ?_; rotate_left 1; (focus (intro w hSw; (try dsimp only at hSw); go_simp; (try with_reducible rfl); done))
            (try simp only [Act.put, List.setIfInBounds_toArray, List.set_cons_zero, List.set_cons_succ])
            refine' takeL (v := _) 4 rfl (by kernel_rfl) (by kernel_rfl) (by kernel_rfl) (fun _ _ _ h => h) (by rfl) ?_ (by assumption) ?_; rotate_left 1; (focus (intro w hSw; (try dsimp only at hSw); go_simp; (try with_reducible rfl); done))
            (try simp only [Act.put, List.setIfInBounds_toArray, List.set_cons_zero, List.set_cons_succ])
            refine' takeL (v := _) 5 rfl (by kernel_rfl) (by kernel_rfl) (by kernel_rfl) (fun _ _ _ h => h) (by rfl) ?_ (by assumption) ?_; rotate_left 1; (focus (intro w hSw; (try dsimp only at hSw); go_simp; (try with_reducible rfl); done))
            (try simp only [Act.put, List.setIfInBounds_toArray, List.set_cons_zero, List.set_cons_succ])
            refine' takeL (v := _) 6 rfl (by kernel_rfl) (by kernel_rfl) (by kernel_rfl) (fun _ _ _ h => h) (by rfl) ?_ (by assumption) ?_; rotate_left 1; (focus (intro w hSw; (try dsimp only at hSw); go_simp; (try with_reducible rfl); done))
            (try simp only [Act.put, List.setIfInBounds_toArray, List.set_cons_zero, List.set_cons_succ])
            refine' takeL (v := _) 7 rfl (by kernel_rfl) (by kernel_rfl) (by kernel_rfl) (fun _ _ _ h => h) (by rfl) ?_ (by assumption) ?_; rotate_left 1; (focus (intro w hSw; (try dsimp only at hSw); go_simp; (try with_reducible rfl); done))
            (try simp only [Act.put, List.setIfInBounds_toArray, List.set_cons_zero, List.set_cons_succ])
            refine' takeL (v := _) 8 rfl (by kernel_rfl) (by kernel_rfl) (by kernel_rfl) (fun _ _ _ h => h) (by rfl) ?_ (by assumption) ?_; rotate_left 1; (focus (intro w hSw; (try dsimp only at hSw); go_simp; (try with_reducible rfl); done))
            (try simp only [Act.put, List.setIfInBounds_toArray, List.set_cons_zero, List.set_cons_succ])
            refine' takeL (v := _) 9 rfl (by kernel_rfl) (by kernel_rfl) (by kernel_rfl) (fun _ _ _ h => h) (by rfl) ?_ (by assumption) ?_; rotate_left 1; (focus (intro w hSw; (try dsimp only at hSw); go_simp; (try with_reducible rfl); done))
            (try simp only [Act.put, List.setIfInBounds_toArray, List.set_cons_zero, List.set_cons_succ])
            refine' takeL (v := _) 10 rfl (by kernel_rfl) (by kernel_rfl) (by kernel_rfl) (fun _ _ _ h => h) (by rfl) ?_ (by assumption) ?_; rotate_left 1; (focus (intro w hSw; (try dsimp only at hSw); go_simp; (try with_reducible rfl); done))
            (try simp only [Act.put, List.setIfInBounds_toArray, List.set_cons_zero, List.set_cons_succ])
            refine' takeL (v := _) 12 rfl (by kernel_rfl) (by kernel_rfl) (by kernel_rfl) (fun _ _ _ h => h) (by rfl) ?_ (by assumption) ?_; rotate_left 1; (focus (intro w hSw; (try dsimp only at hSw); go_simp; (try with_reducible rfl); done))
            (try simp only [Act.put, List.setIfInBounds_toArray, List.set_cons_zero, List.set_cons_succ])
            refine' takeL (v := _) 13 rfl (by kernel_rfl) (by kernel_rfl) (by kernel_rfl) (fun _ _ _ h => h) (by rfl) ?_ (by assumption) ?_; rotate_left 1; (focus (intro w hSw; (try dsimp only at hSw); go_simp; (try with_reducible rfl); done))
            (try simp only [Act.put, List.setIfInBounds_toArray, List.set_cons_zero, List.set_cons_succ])
            refine' takeL (v := _) 14 rfl (by kernel_rfl) (by kernel_rfl) (by kernel_rfl) (fun _ _ _ h => h) (by rfl) ?_ (by assumption) ?_; rotate_left 1; (focus (intro w hSw; (try dsimp only at hSw); go_simp; (try with_reducible rfl); done))
            (try simp only [Act.put, List.setIfInBounds_toArray, List.set_cons_zero, List.set_cons_succ])
            refine' takeL (v := _) 15 rfl (by kernel_rfl) (by kernel_rfl) (by kernel_rfl) (fun _ _ _ h => h) (by rfl) ?_ (by assumption) ?_; rotate_left 1; (focus (intro w hSw; (try dsimp only at hSw); go_simp; (try with_reducible rfl); done))
            (try simp only [Act.put, List.setIfInBounds_toArray, List.set_cons_zero, List.set_cons_succ])
            refine' takeL (v := _) 16 rfl (by kernel_rfl) (by kernel_rfl) (by kernel_rfl) (fun _ _ _ h => h) (by rfl) ?_ (by assumption) ?_; rotate_left 1; (focus (intro w hSw; (try dsimp only at hSw); go_simp; (try with_reducible rfl); done))
            (try simp only [Act.put, List.setIfInBounds_toArray, List.set_cons_zero, List.set_cons_succ])
            refine' takeL (v := _) 17 rfl (by kernel_rfl) (by kernel_rfl) (by kernel_rfl) (fun _ _ _ h => h) (by rfl) ?_ (by assumption) ?_; rotate_left 1; (focus (intro w hSw; (try dsimp only at hSw); go_simp; (try with_reducible rfl); done))
            (try simp only [Act.put, List.setIfInBounds_toArray, List.set_cons_zero, List.set_cons_succ])
            refine stepL 11 rfl (by kernel_rfl) (fun K hK => ?_)
            go_simp
            refine hK.out _ _ (by exact keepS _ ((Below.refl _ _).drew.alloc (Nat.le_refl _) _)) (fun hHeld => ?_)
            clear hK K
            (try simp only [Act.put, List.setIfInBounds_toArray, List.set_cons_zero, List.set_cons_succ])
            refine stepL 18 rfl (by kernel_rfl) (fun K hK => ?_)
            refine step_app (v := .slice (some ⟨w4.heap.size, 0, none⟩) 1 1) (by rfl) _ _ 57 57 (by rfl) w4.heap.size 63 2 40 keyElt Tryz.underlying57 1 [.string p.key, .slice none 0 0] (by rfl) (hlit w4 (Nat.le_refl _)) (by rfl) (S.length - k) _ (hsrc _ _ _ (below_new w4 _).drew) (by unfold maxLen; omega) (by omega) (by simp) ?_
            intro v1 w1 hown1 hg1 hat1
            have hb1 : Below w4.heap.size w4 w1 := grown_below (below_new w4 _).drew hg1 (by simp) (by simp [Value.ownBlock])
            refine hK.out _ _ (by exact keepS _ hb1) (fun hHeld => ?_)
            clear hK K
            (try simp only [Act.put, List.setIfInBounds_toArray, List.set_cons_zero, List.set_cons_succ])
            refine stepL 19 rfl (by kernel_rfl) (fun K hK => ?_)
            refine step_app_new (by rfl) _ _ 57 57 (by rfl) base 63 2 40 keyElt Tryz.underlying57 (some ⟨g, 0, none⟩) k _ htl (by rfl) (hhd _ hb1) (by rfl) (1 + (S.length - k)) _ (hmid w1 v1 hown1) (by unfold maxLen; omega) (by omega) (by have := hb1.size; have := hbr4.size; omega) (by omega) ?_
            intro v2 w2 hown2 hg2 hat2
            have hb2 : Below w4.heap.size w4 w2 := grown_below hb1 hg2 (by have := hb1.size; omega) (by simp)
            refine hK.out _ _ (by exact keepS _ hb2) (fun hHeld => ?_)
            clear hK K
            (try simp only [Act.put, List.setIfInBounds_toArray, List.set_cons_zero, List.set_cons_succ])
            refine' takeL (v := _) 20 rfl (by kernel_rfl) (by kernel_rfl) (by kernel_rfl) (fun _ _ _ h => h) (by rfl) ?_ (by assumption) ?_; rotate_left 1; (focus (intro w hSw; (try dsimp only at hSw); go_simp; (try with_reducible rfl); done))
            (try simp only [Act.put, List.setIfInBounds_toArray, List.set_cons_zero, List.set_cons_succ])
            refine' takeL (v := _) 21 rfl (by kernel_rfl) (by kernel_rfl) (by kernel_rfl) (fun _ _ _ h => h) (by rfl) ?_ (by assumption) ?_; rotate_left 1; (focus (intro w hSw; (try dsimp only at hSw); go_simp; (try with_reducible rfl); done))
            (try simp only [Act.put, List.setIfInBounds_toArray, List.set_cons_zero, List.set_cons_succ])
            refine wpAnyH_done (by kernel_rfl) ?_ _
            unfold withLast
            obtain ⟨k1, k2, k3⟩ := hHeld
            obtain ⟨cap2, rfl⟩ := own_form hown2 hat2
            go_wp2
            go_meet
            case rel =>
              have hO : OwnR w2 base 63 2 (.slice (some ⟨w1.heap.size, 0, none⟩) (k + (1 + (S.length - k))) cap2) (css.take k ++ [.string p.key, .slice none 0 0] :: css.drop k) := by
                have e1 : (css.take k ++ [.string p.key, .slice none 0 0] :: css.drop k).length = k + (1 + (S.length - k)) := by
                  have := Hcl.out
                  simp only [List.length_append, List.length_take, List.length_cons, List.length_drop, List.length_nil, this]; omega
                have e2 : (css.take k ++ [.string p.key, .slice none 0 0] :: css.drop k).flatten = (css.take k).flatten ++ ([.string p.key, .slice none 0 0] ++ (css.drop k).flatten) := by simp
                refine ⟨by rw [e1, e2]; exact hown2, fun c hc => ?_⟩
                rcases List.mem_append.1 hc with hc | hc
                · exact Hst4.out.own.len c (List.mem_of_mem_take hc)
                · exact hln2 c hc
              have hI := Hst4.out.insert hb2 hpl p.key h1 hf hO
              rw [Hh.out]
              exact ⟨_, _, _, _, hI, (hbr4.mono hbw).trans ((hb2.mono (Nat.le_trans hbw hbr4.size)).setCell (p := ⟨b, 0, none⟩) hst'.out.above _),
                (World.cell?_setCell_far _ ⟨b, 0, none⟩ ⟨w.heap.size, 1, none⟩ _ (by simp; omega)).trans (bcell hb2 f1), (World.cell?_setCell_far _ ⟨b, 0, none⟩ ⟨w.heap.size, 2, none⟩ _ (by simp; omega)).trans (bcell hb2 f2)⟩
          · have hsrc := fun (_ : Nat) (c2 : Nat) W hb => StoAt.tail (c2 := c2) Hst4.out hpl (W := W) hb
            have n5 : (k : Int) ≤ (cap : Int) := by omega
            have n6 : (k : Int) ≤ (S.length : Int) := by omega
            refine wp_region_last_of (S := (fun w' => w'.cell? ⟨b, 0, none⟩ = some (.slice (some ⟨g, 0, none⟩) S.length cap) ∧ w'.cell? ⟨w.heap.size, 0, none⟩ = some (.string p.key) ∧ w'.frozen? ⟨b, 0, none⟩ = false)) 22 (by kernel_rfl) rfl rfl (by kernel_rfl) ?_
            have hHeld : (((fun w' => w'.cell? ⟨b, 0, none⟩ = some (.slice (some ⟨g, 0, none⟩) S.length cap) ∧ w'.cell? ⟨w.heap.size, 0, none⟩ = some (.string p.key) ∧ w'.frozen? ⟨b, 0, none⟩ = false)) : World → Prop) _ := (by exact keepS _ (Below.refl _ _).drew)
            refine' takeL (v := _) 0 rfl (by kernel_rfl) (by kernel_rfl) (by kernel_rfl) (fun _ _ _ h => h) (by rfl) ?_ (by assumption) ?_; rotate_left 1; (focus (intro w hSw; (try dsimp only at hSw); go_simp; (try with_reducible rfl); done))
            (try simp only [Act.put, List.setIfInBounds_toArray, List.set_cons_zero, List.set_cons_succ])
            refine' takeL (v := _) 1 rfl (by kernel_rfl) (by kernel_rfl) (by kernel_rfl) (fun _ _ _ h => h) (by rfl) ?_ (by assumption) ?_; rotate_left 1; (focus (intro w hSw; (try dsimp only at hSw); go_simp; (try with_reducible rfl); done))
            (try simp only [Act.put, List.setIfInBounds_toArray, List.set_cons_zero, List.set_cons_succ])
            refine' takeL (v := _) 2 rfl (by kernel_rfl) (by kernel_rfl) (by kernel_rfl) (fun _ _ _ h => h) (by rfl) ?_ (by assumption) ?_; rotate_left 1; (focus (intro w hSw; (try dsimp only at hSw); go_simp; (try with_reducible rfl); done))
            (try simp only [Act.put, List.setIfInBounds_toArray, List.set_cons_zero, List.set_cons_succ])
            refine' takeL (v := _) 3 rfl (by kernel_rfl) (by kernel_rfl) (by kernel_rfl) (fun _ _ _ h => h) (by rfl) ?_ (by assumption) ?_; rotate_left 1; (focus (intro w hSw; (try dsimp only at hSw); go_simp; (try with_reducible rfl); done))
            (try simp only [Act.put, List.setIfInBounds_toArray, List.set_cons_zero, List.set_cons_succ])
            refine' takeL (v := _) 4 rfl (by kernel_rfl) (by kernel_rfl) (by kernel_rfl) (fun _ _ _ h => h) (by rfl) ?_ (by assumption) ?_; rotate_left 1; (focus (intro w hSw; (try dsimp only at hSw); go_simp; (try with_reducible rfl); done))
            (try simp only [Act.put, List.setIfInBounds_toArray, List.set_cons_zero, List.set_cons_succ])
            refine' takeL (v := _) 5 rfl (by kernel_rfl) (by kernel_rfl) (by kernel_rfl) (fun _ _ _ h => h) (by rfl) ?_ (by assumption) ?_; rotate_left 1; (focus (intro w hSw; (try dsimp only at hSw); go_simp; (try with_reducible rfl); done))
            (try simp only [Act.put, List.setIfInBounds_toArray, List.set_cons_zero, List.set_cons_succ])
            refine' takeL (v := _) 6 rfl (by kernel_rfl) (by kernel_rfl) (by kernel_rfl) (fun _ _ _ h => h) (by rfl) ?_ (by assumption) ?_; rotate_left 1; (focus (intro w hSw; (try dsimp only at hSw); go_simp; (try with_reducible rfl); done))
            (try simp only [Act.put, List.setIfInBounds_toArray, List.set_cons_zero, List.set_cons_succ])
            refine' takeL (v := _) 7 rfl (by kernel_rfl) (by kernel_rfl) (by kernel_rfl) (fun _ _ _ h => h) (by rfl) ?_ (by assumption) ?_; rotate_left 1; (focus (intro w hSw; (try dsimp only at hSw); go_simp; (try with_reducible rfl); done))
            (try simp only [Act.put, List.setIfInBounds_toArray, List.set_cons_zero, List.set_cons_succ])
            refine' takeL (v := _) 8 rfl (by kernel_rfl) (by kernel_rfl) (by kernel_rfl) (fun _ _ _ h => h) (by rfl) ?_ (by assumption) ?_; rotate_left 1; (focus (intro w hSw; (try dsimp only at hSw); go_simp; (try with_reducible rfl); done))
            (try simp only [Act.put, List.setIfInBounds_toArray, List.set_cons_zero, List.set_cons_succ])
            refine' takeL (v := _) 9 rfl (by kernel_rfl) (by kernel_rfl) (by kernel_rfl) (fun _ _ _ h => h) (by rfl) ?_ (by assumption) ?_; rotate_left 1; (focus (intro w hSw; (try dsimp only at hSw); go_simp; (try with_reducible rfl); done))
            (try simp only [Act.put, List.setIfInBounds_toArray, List.set_cons_zero, List.set_cons_succ])
            refine' takeL (v := _) 10 rfl (by kernel_rfl) (by kernel_rfl) (by kernel_rfl) (fun _ _ _ h => h) (by rfl) ?_ (by assumption) ?_; rotate_left 1; (focus (intro w hSw; (try dsimp only at hSw); go_simp; (try with_reducible rfl); done))
            (try simp only [Act.put, List.setIfInBounds_toArray, List.set_cons_zero, List.set_cons_succ])
            refine' takeL (v := _) 12 rfl (by kernel_rfl) (by kernel_rfl) (by kernel_rfl) (fun _ _ _ h => h) (by rfl) ?_ (by assumption) ?_; rotate_left 1; (focus (intro w hSw; (try dsimp only at hSw); go_simp; (try with_reducible rfl); done))
            (try simp only [Act.put, List.setIfInBounds_toArray, List.set_cons_zero, List.set_cons_succ])
            refine' takeL (v := _) 13 rfl (by kernel_rfl) (by kernel_rfl) (by kernel_rfl) (fun _ _ _ h => h) (by rfl) ?_ (by assumption) ?_; rotate_left 1; (focus (intro w hSw; (try dsimp only at hSw); go_simp; (try with_reducible rfl); done))
            (try simp only [Act.put, List.setIfInBounds_toArray, List.set_cons_zero, List.set_cons_succ])
            refine' takeL (v := _) 14 rfl (by kernel_rfl) (by kernel_rfl) (by kernel_rfl) (fun _ _ _ h => h) (by rfl) ?_ (by assumption) ?_; rotate_left 1; (focus (intro w hSw; (try dsimp only at hSw); go_simp; (try with_reducible rfl); done))
            (try simp only [Act.put, List.setIfInBounds_toArray, List.set_cons_zero, List.set_cons_succ])
            refine' takeL (v := _) 15 rfl (by kernel_rfl) (by kernel_rfl) (by kernel_rfl) (fun _ _ _ h => h) (by rfl) ?_ (by assumption) ?_; rotate_left 1; (focus (intro w hSw; (try dsimp only at hSw); go_simp; (try with_reducible rfl); done))
            (try simp only [Act.put, List.setIfInBounds_toArray, List.set_cons_zero, List.set_cons_succ])
            refine' takeL (v := _) 16 rfl (by kernel_rfl) (by kernel_rfl) (by kernel_rfl) (fun _ _ _ h => h) (by rfl) ?_ (by assumption) ?_; rotate_left 1; (focus (intro w hSw; (try dsimp only at hSw); go_simp; (try with_reducible rfl); done))
            (try simp only [Act.put, List.setIfInBounds_toArray, List.set_cons_zero, List.set_cons_succ])
            refine' takeL (v := _) 17 rfl (by kernel_rfl) (by kernel_rfl) (by kernel_rfl) (fun _ _ _ h => h) (by rfl) ?_ (by assumption) ?_; rotate_left 1; (focus (intro w hSw; (try dsimp only at hSw); go_simp; (try with_reducible rfl); done))
            (try simp only [Act.put, List.setIfInBounds_toArray, List.set_cons_zero, List.set_cons_succ])
            refine stepL 11 rfl (by kernel_rfl) (fun K hK => ?_)
            go_simp
            refine hK.out _ _ (by exact keepS _ ((Below.refl _ _).drew.alloc (Nat.le_refl _) _)) (fun hHeld => ?_)
            clear hK K
            (try simp only [Act.put, List.setIfInBounds_toArray, List.set_cons_zero, List.set_cons_succ])
            refine stepL 18 rfl (by kernel_rfl) (fun K hK => ?_)
            refine step_app (v := .slice (some ⟨w4.heap.size, 0, none⟩) 1 1) (by rfl) _ _ 57 57 (by rfl) w4.heap.size 63 2 40 keyElt Tryz.underlying57 1 [.string p.key, .slice none 0 0] (by rfl) (hlit w4 (Nat.le_refl _)) (by rfl) (S.length - k) _ (hsrc 0 _ _ (below_new w4 _).drew) (by unfold maxLen; omega) (by omega) (by simp) ?_
            intro v1 w1 hown1 hg1 hat1
            have hb1 : Below w4.heap.size w4 w1 := grown_below (below_new w4 _).drew hg1 (by simp) (by simp [Value.ownBlock])
            refine hK.out _ _ (by exact keepS _ hb1) (fun hHeld => ?_)
            clear hK K
            (try simp only [Act.put, List.setIfInBounds_toArray, List.set_cons_zero, List.set_cons_succ])
            refine stepL 19 rfl (by kernel_rfl) (fun K hK => ?_)
            refine step_app_new (by rfl) _ _ 57 57 (by rfl) base 63 2 40 keyElt Tryz.underlying57 (some ⟨g, 0, none⟩) k _ htl (by rfl) (hhd _ hb1) (by rfl) (1 + (S.length - k)) _ (hmid w1 v1 hown1) (by unfold maxLen; omega) (by omega) (by have := hb1.size; have := hbr4.size; omega) (by omega) ?_
            intro v2 w2 hown2 hg2 hat2
            have hb2 : Below w4.heap.size w4 w2 := grown_below hb1 hg2 (by have := hb1.size; omega) (by simp)
            refine hK.out _ _ (by exact keepS _ hb2) (fun hHeld => ?_)
            clear hK K
            (try simp only [Act.put, List.setIfInBounds_toArray, List.set_cons_zero, List.set_cons_succ])
            refine' takeL (v := _) 20 rfl (by kernel_rfl) (by kernel_rfl) (by kernel_rfl) (fun _ _ _ h => h) (by rfl) ?_ (by assumption) ?_; rotate_left 1; (focus (intro w hSw; (try dsimp only at hSw); go_simp; (try with_reducible rfl); done))
            (try simp only [Act.put, List.setIfInBounds_toArray, List.set_cons_zero, List.set_cons_succ])
            refine' takeL (v := _) 21 rfl (by kernel_rfl) (by kernel_rfl) (by kernel_rfl) (fun _ _ _ h => h) (by rfl) ?_ (by assumption) ?_; rotate_left 1; (focus (intro w hSw; (try dsimp only at hSw); go_simp; (try with_reducible rfl); done))
            (try simp only [Act.put, List.setIfInBounds_toArray, List.set_cons_zero, List.set_cons_succ])
            refine wpAnyH_done (by kernel_rfl) ?_ _
            unfold withLast
            obtain ⟨k1, k2, k3⟩ := hHeld
            obtain ⟨cap2, rfl⟩ := own_form hown2 hat2
            go_wp2
            go_meet
            case rel =>
              have hO : OwnR w2 base 63 2 (.slice (some ⟨w1.heap.size, 0, none⟩) (k + (1 + (S.length - k))) cap2) (css.take k ++ [.string p.key, .slice none 0 0] :: css.drop k) := by
                have e1 : (css.take k ++ [.string p.key, .slice none 0 0] :: css.drop k).length = k + (1 + (S.length - k)) := by
                  have := Hcl.out
                  simp only [List.length_append, List.length_take, List.length_cons, List.length_drop, List.length_nil, this]; omega
                have e2 : (css.take k ++ [.string p.key, .slice none 0 0] :: css.drop k).flatten = (css.take k).flatten ++ ([.string p.key, .slice none 0 0] ++ (css.drop k).flatten) := by simp
                refine ⟨by rw [e1, e2]; exact hown2, fun c hc => ?_⟩
                rcases List.mem_append.1 hc with hc | hc
                · exact Hst4.out.own.len c (List.mem_of_mem_take hc)
                · exact hln2 c hc
              have hI := Hst4.out.insert hb2 hpl p.key h1 hf hO
              rw [Hh.out]
              exact ⟨_, _, _, _, hI, (hbr4.mono hbw).trans ((hb2.mono (Nat.le_trans hbw hbr4.size)).setCell (p := ⟨b, 0, none⟩) hst'.out.above _),
                (World.cell?_setCell_far _ ⟨b, 0, none⟩ ⟨w.heap.size, 1, none⟩ _ (by simp; omega)).trans (bcell hb2 f1), (World.cell?_setCell_far _ ⟨b, 0, none⟩ ⟨w.heap.size, 2, none⟩ _ (by simp; omega)).trans (bcell hb2 f2)⟩
      case rest => as_aux_lemma =>
        obtain ⟨g, m, cap2, css2, hst5, hbw5, z1, z2⟩ := hcut
        obtain ⟨w5, rfl⟩ : ∃ w5 : World, w5 = wc := ⟨_, rfl⟩
        obtain ⟨hkl, hnm, hall, hput⟩ := put_mid Hpk.out
        have hgood := hall (fun y => y.name = p.key → GoodV y.vers ∧ lastP y.vers < at_ ∧ y.vers.length < 100000) hch (fun _ => ⟨fun j h => by simp at h, by simpa [lastP] using hat0, by simp⟩) _ (List.getElem_mem hkl) hnm
        have Hput := Lib.hid (hput ⟨at_, p.val, p.dead⟩)
        clear hput hall e0 f0 f1 f2 Hk hch hasE Hst4 Hcl hst' hlc hq
        generalize (if hasS S p.key then S else insS S k p.key) = S' at *
        have hcl5 := hst5.len
        obtain ⟨cv, q1, -, q3⟩ := hst5.each k (by omega) hkl
        have hml : m = S'.length := by
          obtain ⟨_, _, h6, -⟩ := hst5.own.form
          simp only [Value.slice.injEq] at h6
          rw [h6.2.1, hcl5]
        subst hml
        have x0 := hst5.own.cell k 1 (by omega) (by rw [q1]; simp)
        replace x0 : w5.cell? ⟨g, k * 2 + 1, none⟩ = some cv := x0.trans (by simp [q1])
        have y0 : w5.cell? ⟨b, 0, none⟩ = some (.slice (some ⟨g, 0, none⟩) S'.length cap2) := by rw [block_cell' hst5.block]; rfl
        have hfz : ∀ W, Below w5.heap.size w5 W → W.frozen? ⟨g, k * 2 + 1, none⟩ = false ∧ base ≤ g := fun W hb => by
          rcases (hst5.below hb).own.row.2 with ⟨h3, hn⟩ | ⟨g', cap', cur, h3, hbg, hg, _⟩
          · cases h3
          · simp only [Value.slice.injEq, Option.some.injEq, Addr.mk.injEq] at h3
            obtain ⟨⟨rfl, -⟩, -⟩ := h3
            exact ⟨by simp [World.frozen?, hg], hbg⟩
        have n1 : (k : Int) < (S'.length : Int) := by omega
        have Hst5 := Lib.hid hst5
        have hP := fun W hb => rputv_any cv S'[k].vers ⟨at_, p.val, p.dead⟩ W ((q3.below (w' := W) hb).slp) hgood.1 hgood.2.1 hat hd (by omega)
        dsimp only at hP
        have Hnm := Lib.hid hnm
        have Hch := Lib.hid (fun (l : List Ver) (h : l = S'[k].vers ++ [⟨at_, p.val, p.dead⟩]) => show l.length ≤ 100000 ∧ ∀ x ∈ l, x.pl ≤ 100000 ∧ x.val.size ≤ 9223372036854775807 from by
          subst h
          refine ⟨by have := hgood.2.2; simp; omega, fun x hx => ?_⟩
          rcases List.mem_append.1 hx with hx | hx
          · exact q3.small.2 x hx
          · simp only [List.mem_cons, List.not_mem_nil, or_false] at hx; subst hx; exact ⟨hat, h2⟩)
        clear hst5 q1 q3 hgood hnm
        generalize hvl : S'[k].vers = vl at *
        have Hvl := Lib.hid hvl
        clear hvl
        have keepS : ∀ W, Below w5.heap.size w5 W → W.cell? ⟨b, 0, none⟩ = some (.slice (some ⟨g, 0, none⟩) S'.length cap2) ∧ W.cell? ⟨g, k * 2 + 1, none⟩ = some cv ∧ W.cell? ⟨w.heap.size, 1, none⟩ = some (.string p.val) ∧ W.cell? ⟨w.heap.size, 2, none⟩ = some (.bool p.dead) := fun W hb => ⟨bcell hb y0, bcell hb x0, bcell hb z1, bcell hb z2⟩
        go_upto_region 6 with fail
        go_region_held3 (fun w' => w'.cell? ⟨b, 0, none⟩ = some (.slice (some ⟨g, 0, none⟩) S'.length cap2) ∧ w'.cell? ⟨g, k * 2 + 1, none⟩ = some cv ∧ w'.cell? ⟨w.heap.size, 1, none⟩ = some (.string p.val) ∧ w'.cell? ⟨w.heap.size, 2, none⟩ = some (.bool p.dead))
          (first
            | (exact keepS _ (Below.refl _ _).drew)
            | (exact keepS _ hb6))
          (first
            | (go_at_call 86; refine (hP _ (Below.refl _ _).drew).mono ?_; rintro e w6 ⟨nv, rfl, hown6, hb6x⟩; have hb6 := below_trans (Below.refl _ w5).drew hb6x))
        obtain ⟨v1, v2, v3, v4⟩ := (show w6.cell? ⟨b, 0, none⟩ = some (.slice (some ⟨g, 0, none⟩) S'.length cap2) ∧ w6.cell? ⟨g, k * 2 + 1, none⟩ = some cv ∧ w6.cell? ⟨w.heap.size, 1, none⟩ = some (.string p.val) ∧ w6.cell? ⟨w.heap.size, 2, none⟩ = some (.bool p.dead) from by assumption)
        obtain ⟨fz6, hbg⟩ := hfz w6 hb6
        have hbw6 : base ≤ w5.heap.size := Nat.le_trans hbw hbw5.size
        have hC6 : ChainAt w6 base nv (vl ++ [⟨at_, p.val, p.dead⟩]) := ⟨⟨own_base hown6.row hbw6, hown6.len⟩, Hch.out _ rfl⟩
        have hfin := Hst5.out.chain hb6 hkl hC6
        rw [Hnm.out, ← Hput.out] at hfin
        have Hfin := Lib.hid hfin
        clear hfin hC6
        obtain ⟨p6, cap6, hnv, -⟩ := hown6.form
        rw [show (List.map verCells (vl ++ [(⟨at_, p.val, p.dead⟩ : Ver)])).length = vl.length + 1 by simp] at hnv
        subst hnv
        clear hown6
        go_wp2
        first | refine bodyPost_end (results_none rfl _ _ _) rfl ?_ | refine bodyPost_ret (results_none rfl _ _ _) rfl ?_
        exact ⟨rfl, ⟨_, _, Hfin.out⟩, hbw5.trans ((hb6.mono hbw6).setCell (p := ⟨g, k * 2 + 1, none⟩) hbg _)⟩

end Go.Proofs.YtgmcpfcpdmnebaaGreat
