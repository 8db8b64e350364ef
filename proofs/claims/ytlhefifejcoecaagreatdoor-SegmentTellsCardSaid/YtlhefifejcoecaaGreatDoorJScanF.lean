/- wal's Scan: the function that is ranged over. -/
/- wal's Scan. -/
/- slices.Chunk over noughts, ranged over; bytes that are all 0, asked for. -/
import Derived.Test.YtlhefifejcoecaaGreatDoorJScan
import Derived.RangeFuncBox
import Derived.Maps.AppendAt
import Derived.Test.YtlhefifejcoecaaGreatDoorRows2
namespace Go.Proofs.YtlhefifejcoecaaGreatDoor
open Go.RowKit Go.Proofs Go.Shelf
attribute [local go_sem ↓] Go.wp_at_zero Go.wp_at_succ
attribute [local go_sem] Oper.semAt_some

theorem openS_max (b : List UInt8) (p : Nat) (hp : p ≤ b.length) : p + (openS (b.drop p)).2.1 ≤ b.length := by
  have := openS_in (b.drop p)
  rw [List.length_drop] at this; omega

set_option maxRecDepth 100000 in
set_option maxHeartbeats 4000000 in
theorem frames1_in (n : Nat) (hn : 1 ≤ n) (l Bb g o cap : Nat) (b : List UInt8) (w0 : World) (hv : SlP 1 ByteE w0 (.slice (some ⟨g, o, none⟩) b.length cap) b) (hN : Nib w0) (hb : b.length ≤ 1000000) (base : Nat) (hbase : base ≤ w0.heap.size)
    (J : List Fr → World → Prop) (hJ : ∀ s A B, J s A → Below A.heap.size A B → J s B)
    (hY : ∀ pre x W1, J pre W1 → FrC base x W1 → pre.length < b.length → YieldAt Fence.wide (n - 1) Tryz.prog l x.enc W1 fun e W' => e = .returned (.bool true) ∧ J (pre ++ [x]) W' ∧ FrK w0.heap.size Bb W1 W')
    (W : World) (hW : Below w0.heap.size w0 W) (hB : W.cell? ⟨Bb, 0, none⟩ = some (.slice (some ⟨g, o, none⟩) b.length cap)) (h0 : J [] W) :
    CallsIn Fence.wide n Tryz.prog 137 #[.func (.yield l) #[] #[], .pointer (some ⟨Bb, 0, none⟩)] W fun e W' => (∃ v, e = .returned v) ∧ ∃ xs, FrS b xs ∧ J xs W' := by
  have hlc : b.length ≤ cap := by
    obtain ⟨q', cap', e, h, -⟩ := hv
    cases e; exact h
  have Hv := Lib.hid hv
  have HN := Lib.hid hN
  have HJ := Lib.hid hJ
  have HY := Lib.hid hY
  obtain ⟨len, hlen⟩ : ∃ len, len = b.length := ⟨_, rfl⟩
  have Hlen := Lib.hid hlen
  rw [← hlen] at hlc hb
  rw [← hlen] at hB
  clear hv hN hJ hY hlen
  refine callsIn_of_wp Tryz.func137 rfl trivial ?_ rfl
  simp only [Tryz.ntmps137, List.size_toArray, List.length_cons, List.length_nil, Nat.reduceAdd, Nat.reduceSub, Array.replicate_succ, Array.replicate_zero, List.push_toArray, List.append_toArray, List.nil_append, List.cons_append]
  gi_wp2
  gi_loopw [3] (fun a wr => ∃ (p : Nat) (pre : List Fr), a = .int .i64 p ∧ FrR b p pre ∧ J pre wr ∧ Below w0.heap.size w0 wr ∧ wr.cell? ⟨Bb, 0, none⟩ = some (.slice (some ⟨g, o, none⟩) len cap)) (fun a _ => b.length - (intOf a).toNat)
  case atStart => exact ⟨0, [], rfl, FrR.nil b, h0, hW, hB⟩
  case round =>
    obtain ⟨p, pre, rfl, hR, hJs, hbw, c0⟩ := hrel
    have hp := hR.le
    have hmax := openS_max b p hp
    have hpos := @openS_pos (b.drop p)
    have hopen := fun W v (hW : Below w0.heap.size w0 W) (hv : SlP 1 ByteE W v (b.drop p)) => open_own v (b.drop p) W hv (HN.out.below hW) (by rw [List.length_drop]; have := Hlen.out; omega)
    have hfr : frameAt b p = if (openS (b.drop p)).2.2 = true ∧ upS (p + (openS (b.drop p)).2.1) ≤ b.length ∧ (((b.drop (p + (openS (b.drop p)).2.1)).take (upS (p + (openS (b.drop p)).2.1) - (p + (openS (b.drop p)).2.1))).all (· == 0)) = true
      then some ((openS (b.drop p)).1, upS (p + (openS (b.drop p)).2.1)) else none := rfl
    unfold OpenOwn at hopen
    obtain ⟨r, hr⟩ : ∃ r, r = openS (b.drop p) := ⟨_, rfl⟩
    rw [← hr] at hmax hpos hopen hfr
    clear hr
    obtain ⟨x, m, ok⟩ := r
    dsimp only at hmax hpos hopen hfr
    obtain ⟨p2, hp2⟩ : ∃ p2, p2 = p + m := ⟨_, rfl⟩
    rw [← hp2] at hmax hfr
    obtain ⟨q1, hs1, hq1⟩ := slice_from g o len cap p (by have := Hlen.out; omega) hlc wr
    have hslp1 : SlP 1 ByteE wr (.slice q1 (len - p) (cap - p)) (b.drop p) := by
      rw [hq1, Hlen.out]; exact slp_from (Hv.out.mono ByteE.mono hbw) hp
    have ho1 := hopen wr _ hbw hslp1
    have hup := fun W => up_any p2 (by have := Hlen.out; omega) W
    obtain ⟨e, he⟩ : ∃ e, e = upS p2 := ⟨_, rfl⟩
    have hue := upS_le p2
    rw [← he] at hup hfr hue
    have a1 : IntKind.i64.wrap ((p : Int) + (m : Int)) = (p2 : Int) := by rw [IntWalk.i64_in _ (by have := Hlen.out; omega)]; omega
    have HR := Lib.hid hR
    have Hfr := Lib.hid hfr
    have Hpos := Lib.hid hpos
    have HJs := Lib.hid hJs
    have Hp2 := Lib.hid hp2
    have hlen' := Hlen.out
    have b1 : p2 ≤ len := by omega
    have b2 : e ≤ len + 31 := by omega
    have b3 : p2 ≤ e := by omega
    have b4 : p ≤ len := by omega
    clear hlen' hR hfr hpos hJs hp2 hp hmax hopen hslp1 hq1 he hue
    cases ok with
    | false =>
      have hno : frameAt b p = none := by rw [Hfr.out]; simp
      have Hno := Lib.hid hno
      clear hno
      gi_wp2_with (first
        | (refine ⟨trivial, ?_⟩; gi_at_call 92; refine (callsIn_wide.2 ho1).mono ?_; rintro e1 w1 ⟨v1, rfl, hown1, hb1⟩; obtain ⟨vq, vc, hv1⟩ := own_slice hown1; subst hv1; have d1 := bcell hb1 c0)
        | (refine ⟨trivial, ?_⟩; gi_at_call 138; refine (callsIn_wide.2 (hup _)).mono ?_; rintro e2 w2 ⟨rfl, hb2⟩; have d2 := bcell hb2 d1)
        | fail)
      refine ⟨trivial, ?_⟩
      gi_wp2
      refine ⟨fun _ h => (by cases h), ?_⟩
      gi_wp2
      refine bodyPost_ret (results_none rfl _ _ _) rfl ?_
      exact ⟨⟨_, rfl⟩, pre, HR.out.done Hno.out, HJ.out _ _ _ HJs.out (below_trans hb1 hb2)⟩
    | true =>
      have hm0 : 0 < m := Hpos.out rfl
      by_cases hlong : len < e
      · have hno : frameAt b p = none := by rw [Hfr.out, if_neg]; rintro ⟨-, h, -⟩; have := Hlen.out; omega
        have Hno := Lib.hid hno
        have k1 : (len : Int) < (e : Int) := by omega
        clear hno
        gi_wp2_with (first
          | (refine ⟨trivial, ?_⟩; gi_at_call 92; refine (callsIn_wide.2 ho1).mono ?_; rintro e1 w1 ⟨v1, rfl, hown1, hb1⟩; obtain ⟨vq, vc, hv1⟩ := own_slice hown1; subst hv1; have d1 := bcell hb1 c0)
          | (refine ⟨trivial, ?_⟩; gi_at_call 138; refine (callsIn_wide.2 (hup _)).mono ?_; rintro e2 w2 ⟨rfl, hb2⟩; have d2 := bcell hb2 d1)
          | fail)
        refine ⟨trivial, ?_⟩
        gi_wp2
        refine ⟨fun _ h => (by cases h), ?_⟩
        gi_wp2
        refine bodyPost_ret (results_none rfl _ _ _) rfl ?_
        exact ⟨⟨_, rfl⟩, pre, HR.out.done Hno.out, HJ.out _ _ _ HJs.out (below_trans hb1 hb2)⟩
      · have k1 : ¬ (len : Int) < (e : Int) := by omega
        have hel : e ≤ len := by omega
        obtain ⟨q2, hs2, hq2⟩ := slice_mid g o len cap p2 e b3 (by omega) wr
        have hs2' : ∀ W2, (Instr.slice 25 (.slice (some ⟨g, o, none⟩) len cap) (some (.int .i64 (p2 : Int))) (some (.int .i64 (e : Int))) none).run Tryz.prog W2 = .ok (.slice q2 (e - p2) (cap - p2)) W2 := fun W2 => by
          obtain ⟨q3, h3, e3⟩ := slice_mid g o len cap p2 e b3 (by omega) W2
          rw [h3, hq2, e3]
        have hn : ∀ W2, Below w0.heap.size w0 W2 → Calls Tryz.prog 139 #[.slice q2 (e - p2) (cap - p2)] W2 (Gives W2 (.bool (((b.drop p2).take (e - p2)).all (· == 0)))) := fun W2 hW2 => by
          refine noughts_any _ _ W2 ?_
          rw [hq2]
          have h1 := slp_from (k := p2) (Hv.out.mono ByteE.mono hW2) (by have := Hlen.out; omega)
          exact slp_take h1 (e - p2) (by rw [List.length_drop]; have := Hlen.out; omega)
        have hfr2 : frameAt b p = if ((b.drop p2).take (e - p2)).all (· == 0) = true then some (x, e) else none := by
          rw [Hfr.out]
          have := Hlen.out
          by_cases h : ((b.drop p2).take (e - p2)).all (· == 0) = true
          · rw [if_pos h, if_pos ⟨rfl, by omega, h⟩]
          · rw [if_neg h, if_neg (fun h' => h h'.2.2)]
        have Hfr2 := Lib.hid hfr2
        have Hn := Lib.hid hn
        clear hfr2 hn hs2 hq2
        generalize ((b.drop p2).take (e - p2)).all (· == 0) = z at *
        cases z with
        | false =>
          have Hno : Hid (frameAt b p = none) := Lib.hid (by rw [Hfr2.out]; rfl)
          gi_wp2_with (first
            | (refine ⟨trivial, ?_⟩; gi_at_call 92; refine (callsIn_wide.2 ho1).mono ?_; rintro e1 w1 ⟨v1, rfl, hown1, hb1⟩; obtain ⟨vq, vc, hv1⟩ := own_slice hown1; subst hv1; have d1 := bcell hb1 c0)
            | (refine ⟨trivial, ?_⟩; gi_at_call 138; refine (callsIn_wide.2 (hup _)).mono ?_; rintro e2 w2 ⟨rfl, hb2⟩; have d2 := bcell hb2 d1; have hn2 := Hn.out w2 (hbw.trans ((below_trans hb1 hb2).mono hbw.size)))
            | (refine ⟨trivial, ?_⟩; gi_at_call 139; refine (callsIn_wide.2 hn2).mono ?_; rintro e3 w3 ⟨rfl, hb3⟩)
            | fail)
          refine ⟨fun _ h => (by cases h), ?_⟩
          gi_wp2
          refine bodyPost_ret (results_none rfl _ _ _) rfl ?_
          exact ⟨⟨_, rfl⟩, pre, HR.out.done Hno.out, HJ.out _ _ _ HJs.out (below_trans (below_trans hb1 hb2) hb3)⟩
        | true =>
          have Hyes : Hid (frameAt b p = some (x, e)) := Lib.hid (by rw [Hfr2.out]; rfl)
          gi_wp2_with (first
            | (refine ⟨trivial, ?_⟩; gi_at_call 92; refine (callsIn_wide.2 ho1).mono ?_; rintro e1 w1 ⟨v1, rfl, hown1, hb1⟩; obtain ⟨vq, vc, hv1⟩ := own_slice hown1; subst hv1; have d1 := bcell hb1 c0)
            | (refine ⟨trivial, ?_⟩; gi_at_call 138; refine (callsIn_wide.2 (hup _)).mono ?_; rintro e2 w2 ⟨rfl, hb2⟩; have d2 := bcell hb2 d1; have hn2 := Hn.out w2 (hbw.trans ((below_trans hb1 hb2).mono hbw.size)))
            | (refine ⟨trivial, ?_⟩; gi_at_call 139; refine (callsIn_wide.2 hn2).mono ?_; rintro e3 w3 ⟨rfl, hb3⟩; have d3 := bcell hb3 d2; have hb13 := below_trans hb2 hb3;
               obtain ⟨fn, tmps, assign, body, hy, hR⟩ := HY.out pre ⟨.slice vq x.length vc, x, e⟩ w3 (HJ.out _ _ _ HJs.out (below_trans hb1 hb13)) (OwnB.base (OwnB.mono hb13 hown1) (Nat.le_trans hbase hbw.size)) (by have := HR.out.few; have := Hlen.out; have := Hp2.out; omega); dsimp only [Fr.enc] at hy)
            | fail)
          refine hR.mono ?_
          rintro e5 w5 ⟨rfl, hJ5, hk5⟩
          have hlt : p < e := by have := Hp2.out; omega
          have c5 := cell_same hk5.2 d3
          have hb5 := (hbw.trans ((below_trans hb1 hb13).mono hbw.size)).trans hk5.1
          have hle : e ≤ b.length := by have := Hlen.out; omega
          gi_wp2
          go_roundw
          case rel => exact ⟨e, pre ++ [⟨.slice vq x.length vc, x, e⟩], rfl, HR.out.more Hyes.out hlt hle, hJ5, hb5, c5⟩
          case measure => simp [intOf]; omega

/-- The function that frames hands back. -/
theorem frames_hands (n : Nat) (hn : 1 ≤ n) (Bb g o cap : Nat) (b : List UInt8) (w0 w : World) (hv : SlP 1 ByteE w0 (.slice (some ⟨g, o, none⟩) b.length cap) b) (hN : Nib w0) (hb : b.length ≤ 1000000) (base : Nat) (hbase : base ≤ w0.heap.size)
    (hW : Below w0.heap.size w0 w) (hB : w.cell? ⟨Bb, 0, none⟩ = some (.slice (some ⟨g, o, none⟩) b.length cap)) :
    Hands Fence.wide n Tryz.prog 137 #[.pointer (some ⟨Bb, 0, none⟩)] Fr.enc (FrC base) (FrK w0.heap.size Bb) (FrS b) b.length w :=
  fun l J W hW2 hJ hY h0 => frames1_in n hn l Bb g o cap b w0 hv hN hb base hbase J hJ hY W (hW.trans (hW2.mono hW.size)) (bcell hW2 hB) h0

set_option maxRecDepth 100000 in
theorem frames_any (v : Value) (w : World) (q : Option Addr) (n cap : Nat) (hv : v = .slice q n cap) : Calls Tryz.prog 115 #[v] w (fun e w' => e = .returned (.func (.func 137) #[] #[.pointer (some ⟨w.heap.size, 0, none⟩)]) ∧ w' = w.alloc (.cells #[v] 25)) := by
  subst hv
  go_enter Tryz.func115, Tryz.ntmps115
  go_wp2_with fail
  go_ret
  exact ⟨rfl, rfl⟩
end Go.Proofs.YtlhefifejcoecaaGreatDoor

namespace Go.Proofs.YtlhefifejcoecaaGreatDoor
open Go.RowKit Go.Proofs Go.Shelf
attribute [local go_sem ↓] Go.wp_at_zero Go.wp_at_succ
attribute [local go_sem] Oper.semAt_some

/-- A function that holds a range over a function, walked as any other. -/
theorem calls_marks {n : Nat} {P : Program} {f : FuncId} {fn : Func} {c : Code} {args : Array Value} {w : World} {R : Ending → World → Prop} (hf : P.funcs[f]? = some fn) (hb : fn.body = some c)
    (h : c.wp P (bodyPostM Fence.wide n P fn R) { tmps := args ++ Array.replicate (fn.ntmps - args.size) undef, defers := [] } w) : Calls P f args w R :=
  callsIn_wide.1 (callsIn_of_wp_marks (n := n) hf hb trivial (wpIn_wide.2 h) rfl)

theorem boxed_put {W : World} {B r : Nat} {t : TypeId} {v : Value} {o o' : Obj} (h : Boxed W B t v) (hr : W.heap[r]? = some o) (ho : o.isCells = false) : Boxed (W.putObj r o') B t v :=
  (World.putObj_heap_other (fun e => by subst e; rw [show W.heap[B]? = _ from h] at hr; cases hr; cases ho)).trans h
theorem boxed_below {W W' : World} {B : Nat} {t : TypeId} {v : Value} (h : Boxed W B t v) (hb : Below W.heap.size W W') : Boxed W' B t v := (hb.block _ (heap_lt h)).trans h
theorem below_put {w W : World} {r : Nat} (o' : Obj) (h : Below w.heap.size w W) (hr : w.heap.size ≤ r) : Below w.heap.size w (W.putObj r o') :=
  h.trans ⟨rfl, rfl, rfl, by simp, fun k hk => World.putObj_heap_other (by omega)⟩

theorem below_put' {n₀ : Nat} (W : World) {r : Nat} (o' : Obj) (hr : n₀ ≤ r) : Below n₀ W (W.putObj r o') := ⟨rfl, rfl, rfl, by simp, fun k hk => World.putObj_heap_other (by omega)⟩

/-- Between two rounds. -/
structure ScanI (w : World) (B1 B2 n₀ : Nat) (pre : List Fr) (W : World) : Prop where
  box : ∃ lv, Boxed W B1 70 lv ∧ W.ownsRow n₀ 25 1 lv pre.length (pre.map (·.v))
  last : Boxed W B2 3 (.int .i64 (lastE pre : Nat))
  each : ∀ x ∈ pre, OwnB W w.heap.size x.v x.b
  below : Below w.heap.size w W
  size : n₀ ≤ W.heap.size

theorem scanI_calm (w : World) (B1 B2 n₀ : Nat) (hn : w.heap.size ≤ n₀) (pre : List Fr) : Calm n₀ (ScanI w B1 B2 n₀ pre) := by
  rintro W r o o' ⟨⟨lv, h1, h2⟩, h3, h4, h5, h6⟩ hr ho hc
  exact ⟨⟨lv, boxed_put h1 ho hc, ownsRow_putObj h2 _ ho hc⟩, boxed_put h3 ho hc, fun x hx => ownsRow_putObj (h4 x hx) _ ho hc, below_put _ h5 (by omega), by simpa using h6⟩

theorem scanI_below (w : World) (B1 B2 n₀ : Nat) (pre : List Fr) (A B : World) (h : ScanI w B1 B2 n₀ pre A) (hb : Below A.heap.size A B) : ScanI w B1 B2 n₀ pre B := by
  obtain ⟨⟨lv, h1, h2⟩, h3, h4, h5, h6⟩ := h
  have hk : ∀ {e : TypeId} {v : Value} {n : Nat} {base : Nat} {xs : List Value}, A.ownsRow base e 1 v n xs → B.ownsRow base e 1 v n xs := fun h => owns_block h fun g hg => hb.block g (World.ownsRow.lt h g hg).2
  exact ⟨⟨lv, boxed_below h1 hb, hk h2⟩, boxed_below h3 hb, fun x hx => hk (h4 x hx), below_trans h5 hb, Nat.le_trans h6 hb.size⟩

theorem bytesElt : Elt Tryz.prog 25 1 24 := by
  have h : (Tryz.prog.info? 25).map (fun i => (i.zero, i.size, i.bytes)) = some (some (.slice none 0 0), 1, 24) := by kernel_rfl
  obtain ⟨i0, hi, hz0, hz1, hz2⟩ := info_parts h
  exact ⟨⟨i0, _, hi, hz0, hz1, hz2, rfl⟩, by decide⟩

theorem row_other {W w1 : World} {n₀ base B : Nat} {t e e' : TypeId} {lv v' u x : Value} {k m n : Nat} {xs ys zs : List Value} {tmp : Obj} (hrow : W.ownsRow n₀ e 1 lv k xs) (hgrow : (W.alloc tmp).grownBy w1 lv.ownBlock) (hx : W.ownsRow base e' 1 x n zs) (hne : e ≠ e') : w1.ownsRow base e' 1 x n zs := by
  refine (hx.alloc tmp).kept hgrow ?_
  rcases hx.2 with ⟨rfl, _⟩ | ⟨g, cap, cur, rfl, _, hg, _⟩
  · exact .inl rfl
  · refine .inr fun h => ?_
    rcases hrow.2 with ⟨rfl, _⟩ | ⟨g', cap', cur', rfl, _, hg', _⟩
    · simp [Value.ownBlock] at h
    · have h1 : g = g' := by simpa [Value.ownBlock] using h
      subst h1
      rw [hg] at hg'
      simp at hg'
      exact hne hg'.2.symm

theorem flat_ones : ∀ l : List Value, (l.map fun v => [v]).flatten = l
  | [] => rfl
  | v :: l => by rw [List.map_cons, List.flatten_cons, flat_ones l]; rfl

theorem owns_lower {w : World} {base base' : Nat} {e : TypeId} {size : Nat} {v : Value} {n : Nat} {xs : List Value} (h : w.ownsRow base e size v n xs) (hb : base' ≤ base) : w.ownsRow base' e size v n xs := by
  obtain ⟨h1, h2⟩ := h
  refine ⟨h1, ?_⟩
  rcases h2 with h2 | ⟨g, cap, cur, rfl, hg, h3⟩
  · exact .inl h2
  · exact .inr ⟨g, cap, cur, rfl, Nat.le_trans hb hg, h3⟩

def ScanOut (b : List UInt8) (w : World) (e : Ending) (w' : World) : Prop := ∃ (lv : Value) (vs : List Value), e = .returned (.tuple #[lv, .int .i64 ((scanS (b.length + 1) b 0).2 : Nat)]) ∧ OwnR w' w.heap.size 25 1 lv (vs.map fun v => [v]) ∧
  vs.length = (scanS (b.length + 1) b 0).1.length ∧ (∀ j (h1 : j < vs.length) (h2 : j < (scanS (b.length + 1) b 0).1.length), OwnB w' w.heap.size vs[j] (scanS (b.length + 1) b 0).1[j]) ∧ Below w.heap.size w w'

set_option maxRecDepth 100000 in
set_option maxHeartbeats 4000000 in
theorem scan_any (v : Value) (b : List UInt8) (w : World) (hv : SlP 1 ByteE w v b) (hne : 0 < b.length) (hN : Nib w) (hb : b.length ≤ 1000000) : Calls Tryz.prog 80 #[v] w (ScanOut b w) := by
  obtain ⟨q, cap, rfl, hlc, hll, hcell⟩ := hv.bytesAt
  obtain ⟨g, o, rfl, -⟩ := hcell 0 hne
  have Hv := Lib.hid hv
  have HN := Lib.hid hN
  have Hb := Lib.hid hb
  clear hcell hv hN
  have hfr := fun W => frames_any (.slice (some ⟨g, o, none⟩) b.length cap) W _ _ _ rfl
  obtain ⟨len, hlen⟩ : ∃ len, len = b.length := ⟨_, rfl⟩
  have Hlen := Lib.hid hlen
  rw [← hlen] at hfr ⊢
  clear hlen hll hlc
  refine calls_marks (n := 9) Tryz.func80 rfl ?_
  simp only [Tryz.ntmps80, List.size_toArray, List.length_cons, List.length_nil, Nat.reduceAdd, Nat.reduceSub, Array.replicate_succ, Array.replicate_zero, List.push_toArray, List.append_toArray, List.nil_append, List.cons_append]
  go_wp2_with (first
    | (go_at_call 115; refine (hfr _).mono ?_; rintro e w1 ⟨rfl, rfl⟩)
    | fail)
  obtain ⟨w3, hw3⟩ : ∃ w3, (((w.alloc (.cells #[.slice none 0 0] 70)).alloc (.cells #[.int .i64 0] 3)).alloc (.cells #[.slice (some ⟨g, o, none⟩) len cap] 25)) = w3 := ⟨_, rfl⟩
  rw [hw3]
  have hb3 : Below w.heap.size w w3 := by rw [← hw3]; exact below_alloc (below_alloc (below_new _ _) _) _
  have hs3 : w3.heap.size = w.heap.size + 3 := by rw [← hw3]; simp
  have bO : Boxed w3 w.heap.size 70 (.slice none 0 0) := by rw [← hw3]; exact ((Boxed.new w _ _).alloc _).alloc _
  have bE : Boxed w3 (w.heap.size + 1) 3 (.int .i64 0) := by
    rw [← hw3]
    have h := (Boxed.new (w.alloc (.cells #[.slice none 0 0] 70)) 3 (.int .i64 0)).alloc (.cells #[.slice (some ⟨g, o, none⟩) len cap] 25)
    rwa [World.size_alloc] at h
  have bB : Boxed w3 (w.heap.size + 1 + 1) 25 (.slice (some ⟨g, o, none⟩) len cap) := by
    rw [← hw3]
    have h := Boxed.new ((w.alloc (.cells #[.slice none 0 0] 70)).alloc (.cells #[.int .i64 0] 3)) 25 (.slice (some ⟨g, o, none⟩) len cap)
    rwa [World.size_alloc, World.size_alloc] at h
  clear hw3 hfr
  refine (wpIn_wide (n := 9)).1 ?_
  refine wpIn_hands rfl (by omega) (gf := 137) (lb := #[.pointer (some ⟨w.heap.size + 1 + 1, 0, none⟩)]) rfl trivial (enters_of Tryz.func137 (by kernel_rfl) rfl)
    (frames_hands 8 (by omega) (w.heap.size + 1 + 1) g o cap b w w3 Hv.out HN.out Hb.out w.heap.size (Nat.le_refl _) hb3 (by rw [← Hlen.out]; exact bB.cell)) (Below.refl _ _) (fun _ => rfl)
    (fun x => fun W r o o' h _ hr ho => ownsRow_putObj h _ hr ho) (fun h k => ⟨h.1.trans k.1, k.2.trans h.2⟩)
    (fun W r o o' hr h ho => ⟨below_put' W o' (by omega), World.putObj_heap_other (by omega)⟩)
    (ScanI w w.heap.size (w.heap.size + 1) w3.heap.size) (scanI_calm w _ _ _ (by omega)) (scanI_below w _ _ _)
    ⟨⟨_, bO, World.ownsRow_nil _ _ _ _⟩, bE, by simp, hb3, Nat.le_refl _⟩
    (fun x => { tmps := #[.slice (some ⟨g, o, none⟩) len cap, undef, .slice none 0 0, .int .i64 0, .pointer (some ⟨w.heap.size, 0, none⟩), .pointer (some ⟨w.heap.size + 1, 0, none⟩), x.v, .int .i64 (x.e : Int), .slice (some ⟨g, o, none⟩) len cap, .func (.func 137) #[] #[.pointer (some ⟨w.heap.size + 1 + 1, 0, none⟩)], x.v, .int .i64 (x.e : Int), undef, undef, undef, undef, undef, undef, undef], defers := [] }) ?assign ?body ?done
  case assign =>
    intro l x W K hK
    unfold Fr.enc
    gi_wp2
    exact hK
  case body =>
    rintro l pre ⟨xv, xb, xe⟩ W ⟨⟨lv, h1, h2⟩, h3, h4, h5, h6⟩ hc hlt
    have hc0 : OwnB W w.heap.size xv xb := hc
    obtain ⟨xq, xc, rfl⟩ := own_slice hc0
    obtain ⟨⟨i0, z, hi, hz0, hz1, hz2, hz3⟩, -⟩ := bytesElt
    have c1 := h1.cell
    have f1 := h1.frozen
    have c2 := h3.cell
    have f2 := h3.frozen
    have hbl := Hb.out
    have Hc0 := Lib.hid hc0
    have H4 := Lib.hid h4
    clear hc hc0 h4
    gi_wp2_with (first
      | (gi_at_builtin; refine wpListIn_append_own _ rfl _ _ 70 rfl w3.heap.size 25 i0 z 1 24 Tryz.underlying70 hi hz0 hz1 hz2 hz3 (by decide) _ _ _ rfl (h2.alloc _) ⟨W.heap.size, 0, none⟩ 1 1 [.slice xq xb.length xc] rfl rfl (cell_one_new _ _ _) (by simp [Value.oneCell']) (by unfold maxLen; omega) (by omega) (by simp; omega) ?_; intro v' w1 hown' hgrow _; obtain ⟨g', cap', rfl⟩ := ownsRow_succ hown'; have bx1 := (h1.alloc _).kept hgrow (h1.not_row (by decide) h2); have d1 := bx1.cell; have e1 := bx1.frozen; have bx2 := (h3.alloc _).kept hgrow (h3.not_row (by decide) h2); have d2 := bx2.cell; have e2 := bx2.frozen)
      | fail)
    replace hgrow : (World.alloc W _).grownBy w1 lv.ownBlock := hgrow
    obtain ⟨v', hv'⟩ : ∃ v', v' = Value.slice (some ⟨g', 0, none⟩) (pre.length + 1) cap' := ⟨_, rfl⟩
    rw [← hv'] at hown' ⊢
    have hrow1 : ∀ k, lv.ownBlock = some k → w3.heap.size ≤ k ∧ k < W.heap.size := World.ownsRow.lt h2
    obtain ⟨w4, hw4⟩ : ∃ w4, w1.setCell ⟨w.heap.size, 0, none⟩ v' = w4 := ⟨_, rfl⟩
    obtain ⟨w5, hw5⟩ : ∃ w5, w4.setCell ⟨w.heap.size + 1, 0, none⟩ (.int .i64 (xe : Int)) = w5 := ⟨_, rfl⟩
    rw [hw4, hw5]
    have g1 : Boxed w4 w.heap.size 70 v' := by rw [← hw4]; exact bx1.set v'
    have g2 : Boxed w4 (w.heap.size + 1) 3 (.int .i64 (lastE pre : Nat)) := by
      rw [← hw4]; exact (Below.heap_setCell _ _ _ _ (by simp)).trans bx2
    have g3 : Boxed w5 (w.heap.size + 1) 3 (.int .i64 (xe : Int)) := by rw [← hw5]; exact g2.set _
    have g4 : Boxed w5 w.heap.size 70 v' := by
      rw [← hw5]; exact (Below.heap_setCell _ _ _ _ (by simp)).trans g1
    have r4 := hown'.kept (grownBy_setCell' w1 w.heap.size v') (.inr (bx1.not_row (by decide) hown').symm)
    rw [hw4] at r4
    have r5 := r4.kept (grownBy_setCell' w4 (w.heap.size + 1) (.int .i64 (xe : Int))) (.inr (g2.not_row (by decide) r4).symm)
    rw [hw5] at r5
    have hke : ∀ {u : Value} {ys : List UInt8}, OwnB W w.heap.size u ys → OwnB w5 w.heap.size u ys := fun {u ys} h => by
      have k1 := row_other (B := 0) (t := 0) (v' := u) (u := u) (m := 0) (ys := []) h2 hgrow h (by decide)
      have k4 := k1.kept (grownBy_setCell' w1 w.heap.size v') (.inr (bx1.not_row (by decide) k1).symm)
      rw [hw4] at k4
      have k5 := k4.kept (grownBy_setCell' w4 (w.heap.size + 1) (.int .i64 (xe : Int))) (.inr (g2.not_row (by decide) k4).symm)
      rw [hw5] at k5
      exact k5
    have hko : KeepsOthers W w5 := by
      rw [← hw5, ← hw4]
      refine (((KeepsOthers.alloc W _).trans (KeepsOthers.of_grownBy hgrow fun j o' ej hj => ?_)).trans (KeepsOthers.setCell _ _ _)).trans (KeepsOthers.setCell _ _ _)
      rcases (h2.alloc _).2 with ⟨rfl, _⟩ | ⟨g0, cap0, cur, rfl, _, hgb, _⟩
      · simp [Value.ownBlock] at ej
      · obtain rfl : g0 = j := by simpa [Value.ownBlock] using ej
        rw [hgb] at hj; cases hj; rfl
    have hbe : Below w.heap.size W w5 := by
      have z2 : Below w.heap.size W w1 := Below.grown (Below.alloc (Below.refl w.heap.size W) (show w.heap.size ≤ W.heap.size by omega) _) hgrow (by rw [World.size_alloc]; omega) (fun k hk => by have := (hrow1 k hk).1; omega)
      rw [← hw5, ← hw4]
      exact (z2.setCell (p := ⟨w.heap.size, 0, none⟩) (Nat.le_refl _) _).setCell (p := ⟨w.heap.size + 1, 0, none⟩) (by simp) _
    have hBb : w5.heap[w.heap.size + 1 + 1]? = W.heap[w.heap.size + 1 + 1]? := by
      have e1 : w5.heap[w.heap.size + 1 + 1]? = w4.heap[w.heap.size + 1 + 1]? := by rw [← hw5]; exact Below.heap_setCell _ _ _ _ (by simp)
      have e2 : w4.heap[w.heap.size + 1 + 1]? = w1.heap[w.heap.size + 1 + 1]? := by rw [← hw4]; exact Below.heap_setCell _ _ _ _ (by simp; omega)
      have e3 := hgrow.block (w.heap.size + 1 + 1) (by rw [World.size_alloc]; omega) (fun h => by have := (hrow1 _ h.symm).1; omega)
      exact ((e1.trans e2).trans e3).trans (Below.heap_alloc _ _ _ (by omega))
    have hsz5 : W.heap.size ≤ w5.heap.size := hbe.size
    refine ⟨hko, ⟨hbe, hBb⟩, ⟨⟨v', g4, ?_⟩, by rw [lastE_snoc]; exact g3, fun y hy => ?_, h5.trans hbe, by omega⟩⟩
    · simpa [hs3] using r5
    · rcases List.mem_append.1 hy with hy1 | hy1
      · exact hke (H4.out y hy1)
      · simp only [List.mem_cons, List.not_mem_nil, or_false] at hy1
        subst hy1
        exact hke Hc0.out
  case done =>
    rintro D xs W hD hS ⟨⟨lv, h1, h2⟩, h3, h4, h5, h6⟩ hK
    have hS' : scanS (b.length + 1) b 0 = (xs.map (·.b), lastE xs) := hS
    have c1 := h1.cell
    have c2 := h3.cell
    dsimp only
    go_upto_region 7 with fail
    refine wp_region_quiet_lit (by kernel_rfl) (by kernel_rfl) ?_
    repeat (any_goals (first | go_big_quiet_step (fail) | quiet_step (fail) | (refine wpQuiet_step (fun K hK => ?_); go_simp; split <;> (refine hK _ ?_; clear hK K))))
    all_goals (refine wpQuiet_nil ?_; intro _ hw'; obtain ⟨nq, hw''⟩ := hw'; subst hw'')
    go_wp2
    have hKD : (W.drewN nq).heap[D]? = some (.deferred (some [])) := by simpa using hK
    refine ⟨by simp, .inl ⟨_, _, rfl, run_takeDeferred hKD, ?_⟩⟩
    have hd : Below W.heap.size W (W.drewN nq) := by
      refine ⟨rfl, rfl, rfl, by simp, fun k _ => by simp⟩
    have hp : Below w.heap.size w ((W.drewN nq).putObj D (.deferred none)) := below_put _ (below_trans h5 hd) (by omega)
    refine ⟨_, results_tmp2 rfl _ _ _, ?_⟩
    unfold ScanOut
    rw [hS']
    refine ⟨lv, xs.map (·.v), rfl, ⟨?_, by simp⟩, by simp, fun j hj1 hj2 => ?_, hp⟩
    · have q1 : (W.drewN nq).ownsRow w3.heap.size 25 1 lv xs.length (xs.map (·.v)) := owns_block h2 fun g _ => by simp
      have q2 := ownsRow_putObj q1 (.deferred none) hKD rfl
      have q3 := owns_lower q2 (show w.heap.size ≤ w3.heap.size by omega)
      have e1 : ((xs.map (·.v)).map fun v => [v]).length = xs.length := by simp
      have e2 : ((xs.map (·.v)).map fun v => [v]).flatten = xs.map (·.v) := flat_ones _
      rw [e1, e2]
      exact q3
    · simp only [List.length_map] at hj1
      simp only [List.getElem_map]
      have q0 := h4 xs[j] (List.getElem_mem hj1)
      have q1 : OwnB (W.drewN nq) w.heap.size xs[j].v xs[j].b := owns_block q0 fun g _ => by simp
      exact ownsRow_putObj q1 (.deferred none) hKD rfl
end Go.Proofs.YtlhefifejcoecaaGreatDoor

namespace Go.Proofs.YtlhefifejcoecaaGreatDoor
open Go.RowKit Go.Proofs Go.Shelf
attribute [local go_sem ↓] Go.wp_at_zero Go.wp_at_succ
attribute [local go_sem] Oper.semAt_some

structure Pz where
  v : Value
  n : Nat
def Pz.enc (x : Pz) : Array Value := #[x.v]
def PzC (x : Pz) (W : World) : Prop := SlP 1 ByteE W x.v (zerosB x.n) ∧ x.n ≤ 32
def PzK (n₀ B1 B2 : Nat) (A B : World) : Prop := Below n₀ A B ∧ B.heap[B1]? = A.heap[B1]? ∧ B.heap[B2]? = A.heap[B2]?

theorem slice_three (g o len cap p h : Nat) (hp : p < h) (hl : h ≤ cap) (W : World) : (Instr.slice 25 (.slice (some ⟨g, o, none⟩) len cap) (some (.int .i64 (p : Int))) (some (.int .i64 (h : Int))) (some (.int .i64 (h : Int)))).run Tryz.prog W = .ok (.slice (some ⟨g, o + p, none⟩) (h - p) (h - p)) W := by
  have h1 : (Go.sizeOf 5).run Tryz.prog W = .ok 1 W := by kernel_rfl
  have h2 : (underlying 25).run Tryz.prog W = .ok (.slice 5) W := by kernel_rfl
  have h0 : (0 : Int) ≤ (p : Int) := by omega
  have h00 : (0 : Int) ≤ (h : Int) := by omega
  have h3 : (p : Int) ≤ (h : Int) := by omega
  have h4 : (h : Int) ≤ (cap : Int) := by omega
  have n1 : ¬ h = p := by omega
  simp [Instr.slice, Instr.sliceBounds, Instr.sliceBound, h1, h2, go_sem, n1, h3, h4]
  rw [if_pos (by omega), if_pos (by omega)]

theorem slp_zeros {w : World} {g o n cap k m : Nat} (h : SlP 1 ByteE w (.slice (some ⟨g, o, none⟩) n cap) (zerosB n)) (hk : k + m ≤ n) : SlP 1 ByteE w (.slice (some ⟨g, o + k, none⟩) m m) (zerosB m) := by
  have h1 := slp_part (k := k) (m := m) h (by simp [zerosB]; omega)
  have e : ((zerosB n).drop k).take m = zerosB m := by unfold zerosB; rw [List.drop_replicate, List.take_replicate, Nat.min_eq_left (by omega)]
  rw [e] at h1
  obtain ⟨q, cap', e1, h2, h3, h4, h5⟩ := h1
  simp only [Value.slice.injEq] at e1
  obtain ⟨rfl, -, rfl⟩ := e1
  exact ⟨_, m, by simp [zerosB], by simp [zerosB], h3, fun h => by simp at h, h5⟩

set_option maxRecDepth 100000 in
set_option maxHeartbeats 4000000 in
theorem chunk1_in (n : Nat) (hn : 1 ≤ n) (l Bs Bn g o m cap N : Nat) (w0 : World) (hv : SlP 1 ByteE w0 (.slice (some ⟨g, o, none⟩) m cap) (zerosB m)) (hm : m ≤ 1000000) (hN : m < N)
    (J : List Pz → World → Prop) (hJ : ∀ s A B, J s A → Below A.heap.size A B → J s B)
    (hY : ∀ pre x W1, J pre W1 → PzC x W1 → pre.length < N → YieldAt Fence.wide (n - 1) Tryz.prog l x.enc W1 fun e W' => e = .returned (.bool true) ∧ J (pre ++ [x]) W' ∧ PzK w0.heap.size Bs Bn W1 W')
    (W : World) (hW : Below w0.heap.size w0 W) (hB : W.cell? ⟨Bs, 0, none⟩ = some (.slice (some ⟨g, o, none⟩) m cap)) (hC : W.cell? ⟨Bn, 0, none⟩ = some (.int .i64 32)) (h0 : J [] W) :
    CallsIn Fence.wide n Tryz.prog 117 #[.func (.yield l) #[] #[], .pointer (some ⟨Bs, 0, none⟩), .pointer (some ⟨Bn, 0, none⟩)] W fun e W' => (∃ v, e = .returned v) ∧ ∃ xs, True ∧ J xs W' := by
  have hlc : m ≤ cap := by
    obtain ⟨q', cap', e, h, -⟩ := hv
    simp only [Value.slice.injEq] at e
    obtain ⟨-, e2, rfl⟩ := e
    omega
  have Hv := Lib.hid hv
  have HJ := Lib.hid hJ
  have HY := Lib.hid hY
  clear hv hJ hY
  refine callsIn_of_wp Tryz.func117 rfl trivial ?_ rfl
  simp only [Tryz.ntmps117, List.size_toArray, List.length_cons, List.length_nil, Nat.reduceAdd, Nat.reduceSub, Array.replicate_succ, Array.replicate_zero, List.push_toArray, List.append_toArray, List.nil_append, List.cons_append]
  refine wpIn_wide.2 ?_
  go_upto_region 1 with fail
  go_loopw [4] (fun a wr => ∃ (i : Nat) (pre : List Pz), a = .int .i64 i ∧ i ≤ 2000000 ∧ pre.length ≤ i ∧ J pre wr ∧ Below w0.heap.size w0 wr ∧ wr.cell? ⟨Bs, 0, none⟩ = some (.slice (some ⟨g, o, none⟩) m cap) ∧ wr.cell? ⟨Bn, 0, none⟩ = some (.int .i64 32)) (fun a _ => m - (intOf a).toNat)
  case atStart => exact ⟨0, [], rfl, by omega, by simp, h0, hW, hB, hC⟩
  case round =>
    obtain ⟨i, pre, rfl, hi, hpi, hJs, hbw, c0, c1⟩ := hrel
    have HJs := Lib.hid hJs
    clear hJs
    by_cases hlt : i < m
    · have n0 : (i : Int) < (m : Int) := by omega
      obtain ⟨e, he⟩ : ∃ e, e = min 32 (m - i) := ⟨_, rfl⟩
      have hmin : min (32 : Int) ((m - i : Nat) : Int) = (e : Int) := by omega
      obtain ⟨h, hh⟩ : ∃ h, h = i + e := ⟨_, rfl⟩
      have a1 : IntKind.i64.wrap ((i : Int) + (e : Int)) = (h : Int) := by rw [IntWalk.i64_in _ (by omega)]; omega
      have hs3 := slice_three g o m cap i h (by omega) (by omega)
      have e1 : h - i = e := by omega
      rw [e1] at hs3
      have hpiece : ∀ W2, Below w0.heap.size w0 W2 → PzC ⟨.slice (some ⟨g, o + i, none⟩) e e, e⟩ W2 := fun W2 hW2 => ⟨slp_zeros (Hv.out.mono ByteE.mono hW2) (by omega), by show e ≤ 32; omega⟩
      have he0 : 0 < e := by omega
      have hi2 : h ≤ m := by omega
      have a2 : IntKind.i64.wrap ((i : Int) + 32) = ((i + 32 : Nat) : Int) := by rw [IntWalk.i64_in _ (by omega)]; omega
      have Hpi := Lib.hid hpiece
      clear he hh e1 hpiece
      go_upto_region 3 with fail
      refine wp_region_quiet_lit (by kernel_rfl) (by kernel_rfl) ?_
      repeat (any_goals (first | go_big_quiet_step (fail) | quiet_step (fail) | (refine wpQuiet_step (fun K hK => ?_); go_simp; split <;> (refine hK _ ?_; clear hK K))))
      all_goals (refine wpQuiet_nil ?_; intro _ hw'; obtain ⟨nq, hw''⟩ := hw'; subst hw'')
      have hbd : Below wr.heap.size wr (wr.drewN nq) := ⟨rfl, rfl, rfl, by simp, fun k _ => by simp⟩
      have hbw2 := hbw.trans (hbd.mono hbw.size)
      have d0 := bcell hbd c0
      have d1 := bcell hbd c1
      have hJ2 := HJ.out _ _ _ HJs.out hbd
      generalize wr.drewN nq = w2 at *
      obtain ⟨fn, tmps, assign, body, hy, hR⟩ := HY.out pre ⟨.slice (some ⟨g, o + i, none⟩) e e, e⟩ w2 hJ2 (Hpi.out w2 hbw2) (by omega)
      dsimp only [Pz.enc] at hy
      have hs32 := hs3 w2
      clear c0 c1 hs3 hbd
      go_upto_region 4 with fail
      refine (wpIn_wide (n := n)).1 ?_
      gi_wp2
      refine hR.mono ?_
      rintro e5 w5 ⟨rfl, hJ5, hk5⟩
      have hb5 := hbw2.trans hk5.1
      have c5 := cell_same hk5.2.1 d0
      have c6 := cell_same hk5.2.2 d1
      gi_wp2
      go_wp2_with fail
      go_roundw
      case rel => exact ⟨i + 32, pre ++ [⟨.slice (some ⟨g, o + i, none⟩) e e, e⟩], by go_num, by omega, by simp; omega, hJ5, hb5, c5, c6⟩
      case measure => simp [intOf]; omega
    · have n0 : ¬ (i : Int) < (m : Int) := by omega
      go_wp2_with fail
      refine bodyPost_end (results_none rfl _ _ _) rfl ?_
      exact ⟨⟨_, rfl⟩, pre, HJs.out⟩

theorem chunk_hands (n : Nat) (hn : 1 ≤ n) (Bs Bn g o m cap : Nat) (w0 w : World) (hv : SlP 1 ByteE w0 (.slice (some ⟨g, o, none⟩) m cap) (zerosB m)) (hm : m ≤ 1000000) (hW : Below w0.heap.size w0 w)
    (hB : w.cell? ⟨Bs, 0, none⟩ = some (.slice (some ⟨g, o, none⟩) m cap)) (hC : w.cell? ⟨Bn, 0, none⟩ = some (.int .i64 32)) :
    Hands Fence.wide n Tryz.prog 117 #[.pointer (some ⟨Bs, 0, none⟩), .pointer (some ⟨Bn, 0, none⟩)] Pz.enc PzC (PzK w0.heap.size Bs Bn) (fun _ => True) (m + 1) w :=
  fun l J W hW2 hJ hY h0 => chunk1_in n hn l Bs Bn g o m cap (m + 1) w0 hv hm (by omega) J hJ hY W (hW.trans (hW2.mono hW.size)) (bcell hW2 hB) (bcell hW2 hC) h0

set_option maxRecDepth 100000 in
theorem chunk_any (q : Option Addr) (n cap : Nat) (w : World) : Calls Tryz.prog 85 #[.slice q n cap, .int .i64 32] w (fun e w' => e = .returned (.func (.func 117) #[] #[.pointer (some ⟨w.heap.size, 0, none⟩), .pointer (some ⟨w.heap.size + 1, 0, none⟩)]) ∧ w' = (w.alloc (.cells #[.slice q n cap] 25)).alloc (.cells #[.int .i64 32] 3)) := by
  go_enter Tryz.func85, Tryz.ntmps85
  go_wp2_with fail
  go_ret
  exact ⟨rfl, rfl⟩

set_option maxRecDepth 100000 in
theorem nonzero_any (w : World) : Calls Tryz.prog 87 #[.int .u8 0] w (Gives w (.bool false)) := by
  go_enter Tryz.func87, Tryz.ntmps87
  go_wp2_with fail
  go_ret
  exact ⟨rfl, Below.refl _ _⟩

set_option maxRecDepth 100000 in
theorem indexzero_any (v : Value) (n : Nat) (w : World) (hv : SlP 1 ByteE w v (zerosB n)) : Calls Tryz.prog 118 #[v, .func (.func 87) #[] #[]] w (Gives w (.int .i64 (-1))) := by
  obtain ⟨q, cap, rfl, hlc, hll, hcell⟩ := hv.bytesAt
  have hzl : (zerosB n).length = n := by simp [zerosB]
  have hz : ∀ j (h : j < (zerosB n).length), (zerosB n)[j] = 0 := fun j h => by simp [zerosB]
  have Hc : Hid (∀ j, j < n → ∃ b o, q = some ⟨b, o, none⟩ ∧ w.cell? ⟨b, o + j, none⟩ = some (.int .u8 0)) := Lib.hid fun j hj => by
    obtain ⟨b, o, h1, h2⟩ := hcell j (by rw [hzl]; exact hj)
    refine ⟨b, o, h1, ?_⟩
    rw [h2, hz]; rfl
  rw [hzl] at hlc hll ⊢
  have eg : ∀ args w, (callFunc 87 args).run Tryz.prog w = .ok (.enter 87 args) w := enters_of Tryz.func87 (by kernel_rfl) rfl
  clear hcell hz hv hzl
  go_enter Tryz.func118, Tryz.ntmps118
  go_wp2_with fail
  go_loopw [8, 5] (fun i _ wr => ∃ k : Nat, k ≤ n ∧ i = .int .i64 k ∧ Below w.heap.size w wr) (fun i _ _ => n - (intOf i).toNat)
  case atStart => exact ⟨0, Nat.zero_le _, rfl, Below.refl _ _⟩
  case round =>
    obtain ⟨k, hk, rfl, hb⟩ := hrel
    by_cases hlt : k < n
    · obtain ⟨b, o, rfl, c0⟩ := Hc.out k hlt
      replace c0 := bcell hb c0
      have n0 : (0 : Int) ≤ (k : Int) := by omega
      have n1 : (k : Int) < (n : Int) := by omega
      have hcall := nonzero_any wr
      go_wp2_with (first
        | (go_at_call 87; refine hcall.mono ?_; rintro e w1 ⟨rfl, hb1⟩; have hb2 := below_trans hb hb1)
        | fail)
      go_roundw
      case rel => exact ⟨k + 1, hlt, by go_num, hb2⟩
      case measure => simp [intOf]; omega
    · have n1 : ¬ (k : Int) < (n : Int) := by omega
      go_wp2_with fail
      go_ret
      exact ⟨rfl, hb⟩

set_option maxRecDepth 100000 in
theorem containszero_any (v : Value) (n : Nat) (w : World) (hv : SlP 1 ByteE w v (zerosB n)) : Calls Tryz.prog 86 #[v, .func (.func 87) #[] #[]] w (Gives w (.bool false)) := by
  have hi := indexzero_any v n w hv
  obtain ⟨q, cap, rfl, -⟩ := bytes_len hv
  go_enter Tryz.func86, Tryz.ntmps86
  go_wp2_with (first
    | (go_at_call 118; refine hi.mono ?_; rintro e w1 ⟨rfl, hb1⟩)
    | fail)
  go_ret
  exact ⟨rfl, hb1⟩
end Go.Proofs.YtlhefifejcoecaaGreatDoor
