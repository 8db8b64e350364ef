/- The directory: parse. -/
import Derived.Test.YtlhefifejcoecaaGreatDoorJDirS
import Derived.Test.YtlhefifejcoecaaGreatDoorDirQ
namespace Go.Proofs.YtlhefifejcoecaaGreatDoor
open Go.RowKit Go.Proofs Go.Shelf
attribute [local go_sem ↓] Go.wp_at_zero Go.wp_at_succ

def ParseOut (b : List UInt8) (n : Nat) (w : World) (e : Ending) (w' : World) : Prop := Below w.heap.size w w' ∧
  match parseS b n with
  | none => e = .returned (.tuple #[.int .i64 0, .map none, .bool false])
  | some r => ∃ mb, e = .returned (.tuple #[.int .i64 r.1, .map (some mb), .bool true]) ∧ FilesAt w' mb r.2 ∧ w.heap.size ≤ mb

def SmallF (f : Files) : Prop := ∀ x ∈ f, x.1.size ≤ 8 ∧ x.2.1 ≤ 1048576 ∧ x.2.2 ≤ 1048576

theorem loop_step (j : Nat) (x : List UInt8) (f : Files) (hok : (getStrS x 8).2.2 = true) (b c : Nat × List UInt8 × Bool) (hb : b = numP 1048576 (x.drop (getStrS x 8).2.1) false) (hc : c = numP 1048576 b.2.1 b.2.2) :
    filesP (j + 1) x false f = filesP j c.2.1 c.2.2 (fset f (getStrS x 8).1 (b.1, c.1)) := by
  subst hc
  subst hb
  show (if false = true then _ else _) = _
  rw [if_neg (by decide), if_neg (by rw [hok]; decide)]

theorem NumAt.far {w0 w w' : World} {p q : Nat} {x : List UInt8} {bad : Bool} (h : NumAt w0 w p q x bad) (hp : w'.heap[p]? = w.heap[p]?) (hq : w'.heap[q]? = w.heap[q]?) (hb : Below w0.heap.size w0 w') : NumAt w0 w' p q x bad := by
  obtain ⟨v, h1, h2⟩ := h.has
  exact ⟨⟨v, hp.trans h1, h2⟩, hq.trans h.flag, hb, h.ge⟩

theorem openS_len (b : List UInt8) : (openS b).1.length ≤ b.length := by
  unfold openS
  split
  · simp
  · split
    · dsimp only; rw [List.length_take, List.length_drop]; omega
    · simp

set_option maxRecDepth 100000 in
set_option maxHeartbeats 1500000 in
theorem parse_any (v : Value) (b : List UInt8) (n : Nat) (w : World) (hv : SlP 1 ByteE w v b) (hN : Nib w) (hb : b.length ≤ 1000000) (hn : n ≤ 1000000) : Calls Tryz.prog 53 #[v, .int .i64 n] w (ParseOut b n w) := by
  have hopen := open_any v b w hv hN hb
  unfold OpenOut at hopen
  have hP : parseS b n = if (openS b).2.2 = false then none else (if (filesP (numP 10 (numP 1099511627776 (openS b).1 false).2.1 (numP 1099511627776 (openS b).1 false).2.2).1 (numP 10 (numP 1099511627776 (openS b).1 false).2.1 (numP 1099511627776 (openS b).1 false).2.2).2.1 (numP 10 (numP 1099511627776 (openS b).1 false).2.1 (numP 1099511627776 (openS b).1 false).2.2).2.2 []).2.1 = true ∨
      rightS (filesP (numP 10 (numP 1099511627776 (openS b).1 false).2.1 (numP 1099511627776 (openS b).1 false).2.2).1 (numP 10 (numP 1099511627776 (openS b).1 false).2.1 (numP 1099511627776 (openS b).1 false).2.2).2.1 (numP 10 (numP 1099511627776 (openS b).1 false).2.1 (numP 1099511627776 (openS b).1 false).2.2).2.2 []).2.2 n = false ∨
      listS (numP 1099511627776 (openS b).1 false).1 (filesP (numP 10 (numP 1099511627776 (openS b).1 false).2.1 (numP 1099511627776 (openS b).1 false).2.2).1 (numP 10 (numP 1099511627776 (openS b).1 false).2.1 (numP 1099511627776 (openS b).1 false).2.2).2.1 (numP 10 (numP 1099511627776 (openS b).1 false).2.1 (numP 1099511627776 (openS b).1 false).2.2).2.2 []).2.2 ≠ b then none
      else some ((numP 1099511627776 (openS b).1 false).1, (filesP (numP 10 (numP 1099511627776 (openS b).1 false).2.1 (numP 1099511627776 (openS b).1 false).2.2).1 (numP 10 (numP 1099511627776 (openS b).1 false).2.1 (numP 1099511627776 (openS b).1 false).2.2).2.1 (numP 10 (numP 1099511627776 (openS b).1 false).2.1 (numP 1099511627776 (openS b).1 false).2.2).2.2 []).2.2)) := rfl
  have hol := openS_len b
  generalize openS b = o at *
  obtain ⟨x0, end_, ok⟩ := o
  dsimp only at hopen hP hol
  cases ok with
  | false =>
    rw [if_pos rfl] at hP
    have HP := Lib.hid hP
    clear hP
    go_enter Tryz.func53, Tryz.ntmps53
    go_wp2_with (first
      | (go_at_call 92; refine hopen.mono ?_; rintro e w1 ⟨v1, rfl, hx, hb1⟩; obtain ⟨vq, vc, rfl, hvl⟩ := bytes_len hx)
      | fail)
    go_ret3
    exact ⟨below_trans hb1 (below_new _ _), by rw [HP.out]; rfl⟩
  | true =>
    rw [if_neg (by decide)] at hP
    have le1 := numP_le 1099511627776 x0 false
    obtain ⟨r1, hr1⟩ : ∃ r1, r1 = numP 1099511627776 x0 false := ⟨_, rfl⟩
    rw [← hr1] at hP le1
    have le2 := numP_le 10 r1.2.1 r1.2.2
    obtain ⟨r2, hr2⟩ : ∃ r2, r2 = numP 10 r1.2.1 r1.2.2 := ⟨_, rfl⟩
    rw [← hr2] at hP le2
    have HP := Lib.hid hP
    clear hP
    have hnum := fun (w0 w : World) (p q mo : Nat) (x : List UInt8) (bad : Bool) (h : NumAt w0 w p q x bad) (hmo : mo ≤ 1099511627776) => num1_any w0 w p q mo x bad h hmo
    unfold NumOut1 at hnum
    have hc1 : ∀ (w0 w : World) (p q : Nat), NumAt w0 w p q x0 false → Calls Tryz.prog 93 #[.int .u64 1099511627776, .pointer (some ⟨p, 0, none⟩), .pointer (some ⟨q, 0, none⟩)] w (fun e w' => e = .returned (.int .i64 r1.1) ∧ NumAt w0 w' p q r1.2.1 r1.2.2 ∧ Kept (fun k => k < w.heap.size ∧ k ≠ p ∧ k ≠ q) w w') := fun w0 w p q h => by
      rw [hr1]; exact hnum w0 w p q 1099511627776 x0 false h (Nat.le_refl _)
    have hc2 : ∀ (w0 w : World) (p q : Nat), NumAt w0 w p q r1.2.1 r1.2.2 → Calls Tryz.prog 93 #[.int .u64 10, .pointer (some ⟨p, 0, none⟩), .pointer (some ⟨q, 0, none⟩)] w (fun e w' => e = .returned (.int .i64 r2.1) ∧ NumAt w0 w' p q r2.2.1 r2.2.2 ∧ Kept (fun k => k < w.heap.size ∧ k ≠ p ∧ k ≠ q) w w') := fun w0 w p q h => by
      rw [hr2]; exact hnum w0 w p q 10 r1.2.1 r1.2.2 h (by omega)
    have hc3 : ∀ (w0 w : World) (p q : Nat) (x : List UInt8) (bad : Bool), NumAt w0 w p q x bad → Calls Tryz.prog 93 #[.int .u64 1048576, .pointer (some ⟨p, 0, none⟩), .pointer (some ⟨q, 0, none⟩)] w (fun e w' => e = .returned (.int .i64 (numP 1048576 x bad).1) ∧ NumAt w0 w' p q (numP 1048576 x bad).2.1 (numP 1048576 x bad).2.2 ∧ Kept (fun k => k < w.heap.size ∧ k ≠ p ∧ k ≠ q) w w') := fun w0 w p q x bad h =>
      hnum w0 w p q 1048576 x bad h (by omega)
    have Hc3 := Lib.hid hc3
    have Hv := Lib.hid hv
    clear hnum hr1 hr2 hc3 hv
    obtain ⟨ep, x1, bad1⟩ := r1
    obtain ⟨n0, x2, bad2⟩ := r2
    dsimp only at le1 le2 hc1 hc2
    have hx0l : ∀ v1 W, SlP 1 ByteE W v1 x0 → x0.length ≤ 9223372036854775807 := fun v1 W h => by obtain ⟨q, c, -, h⟩ := bytes_len h; exact h
    have hmm := @run_makeMap Tryz.prog
    go_enter Tryz.func53, Tryz.ntmps53
    go_upto_region 6 with (first
      | (go_at_call 92; refine hopen.mono ?_; rintro e w1 ⟨v1, rfl, hx, hb1⟩; obtain ⟨vq, vc, rfl, hvl⟩ := bytes_len hx)
      | fail)
    generalize hW3 : World.alloc (World.alloc w1 _) _ = w3
    have hN3 : NumAt w1 w3 w1.heap.size (w1.heap.size + 1) x0 false := by
      rw [← hW3]
      refine ⟨⟨.slice vq x0.length vc, ?_, hx⟩, ?_, below_alloc (below_new _ _) _, by omega, by omega, by omega⟩
      · exact (Below.heap_alloc _ _ _ (by simp)).trans (heap_alloc_new _ _)
      · have := heap_alloc_new (w1.alloc (.cells #[.slice vq x0.length vc] 25)) (.cells #[.bool false] 4)
        simpa [World.size_alloc] using this
    clear hW3 hopen
    have hcall1 := hc1 w1 w3 w1.heap.size (w1.heap.size + 1) hN3
    clear hc1
    go_upto_region 7 with (first
      | (go_at_call 93; refine hcall1.mono ?_; rintro e w4 ⟨rfl, hN4, hk4⟩)
      | fail)
    clear hcall1
    have hl3 : w1.heap.size + 1 < w3.heap.size := heap_lt hN3.flag
    have hl4 : w1.heap.size + 1 < w4.heap.size := heap_lt hN4.flag
    go_upto_region 8 with fail
    generalize hW5 : World.alloc w4 _ = w5
    have hb5 : Below w4.heap.size w4 w5 := by rw [← hW5]; exact below_new _ _
    have hm5 : MapA Value.string w5 w4.heap.size [] := by rw [← hW5]; exact MapA.made _
    clear hW5
    have hN5 := hN4.keep hb5
    have hcall2 := hc2 w1 w5 w1.heap.size (w1.heap.size + 1) hN5
    clear hc2
    go_upto_region 9 with (first
      | (go_at_call 93; refine hcall2.mono ?_; rintro e w6 ⟨rfl, hN6, hk6⟩)
      | fail)
    clear hcall2
    have hl5 := hm5.lt
    have hf6 : FilesAt w6 w4.heap.size [] := ⟨hm5.block (hk6.block _ ⟨hl5, by omega, by omega⟩), by simp, by simp⟩
    obtain ⟨mb, hmb⟩ : ∃ mb, mb = w4.heap.size := ⟨_, rfl⟩
    rw [← hmb] at hf6 ⊢
    have hmb1 : w1.heap.size + 1 < mb := by omega
    obtain ⟨p, hp⟩ : ∃ p, p = w1.heap.size := ⟨_, rfl⟩
    obtain ⟨q, hq⟩ : ∃ q, q = w1.heap.size + 1 := ⟨_, rfl⟩
    rw [← hq] at hN6 hmb1 ⊢
    rw [← hp] at hN6 ⊢
    have hpq : p < q := by omega
    have hpm : p ≠ mb := by omega
    have hqm : q ≠ mb := by omega
    have hwm : w.heap.size ≤ mb := by have := hb1.size; omega
    have hxl : x2.length ≤ 1000000 := by omega
    have hb6 := hN6.base
    have Hge : Hid (w1.heap.size ≤ p ∧ w1.heap.size ≤ q) := Lib.hid (by omega)
    clear hN3 hN4 hN5 hk4 hk6 hm5 hb5 hl3 hl4 hl5 hp hq hmb hx hx0l hvl
    clear w3 w4 w5
    go_loopw [14, 15, 16, 17, 18] (fun nv _ _ _ _ wr => ∃ (j : Nat) (x : List UInt8) (bad : Bool) (f : Files), nv = .int .i64 j ∧ NumAt w1 wr p q x bad ∧ FilesAt wr mb f ∧ Hid (SmallF f) ∧ f.length + j ≤ 10 ∧ x.length ≤ 1000000 ∧ Hid (filesP n0 x2 bad2 [] = filesP j x bad f)) (fun nv _ _ _ _ _ => (intOf nv).toNat)
    case atStart => exact ⟨n0, x2, bad2, [], rfl, hN6, hf6, Lib.hid (fun x h => by cases h), by simp; omega, hxl, Lib.hid rfl⟩
    case round =>
      obtain ⟨j, x, bad, f, rfl, hNr, hFr, hsml, hlen, hxl2, hpast⟩ := hrel
      have hbr := hNr.base
      have hbw := below_trans hb1 hbr
      have cq : wr.cell? ⟨q, 0, none⟩ = some (.bool bad) := by rw [block_cell hNr.flag]; rfl
      cases bad with
      | true =>
        have hres : (filesP n0 x2 bad2 []).2.1 = true := by
          rw [hpast.out]
          cases j <;> rfl
        by_cases hj : (0 : Int) < (j : Int)
        · skip
          have Hres : Hid (parseS b n = none) := Lib.hid (by rw [HP.out, if_pos (.inl hres)])
          clear hpast HP
          go_wp2_with fail
          go_ret3
          exact ⟨hbw, by rw [Hres.out]; rfl⟩
        · skip
          have Hres : Hid (parseS b n = none) := Lib.hid (by rw [HP.out, if_pos (.inl hres)])
          clear hpast HP
          go_wp2_with fail
          go_ret3
          exact ⟨hbw, by rw [Hres.out]; rfl⟩
      | false =>
        by_cases hj : j = 0
        · subst hj
          have hres : filesP n0 x2 bad2 [] = (x, false, f) := hpast.out
          have hrt := right_any mb f n wr hFr hn
          have hfit := fits_of (by omega) hsml.out (epoch := ep) le1.1
          have hN1 := hN.below hbw
          have hbo := fun W (hW : Below wr.heap.size wr W) => bytesof_any ep mb f W (hFr.below hW) (hN1.below hW) (by omega) hfit.2.2 hfit.1 hfit.2.1
          have hls : listS ep f = frameS (bodyS ep f (namesS f)) ++ List.replicate (256 - (frameS (bodyS ep f (namesS f))).length) 0 := rfl
          have hll := listS_len hfit
          have HP2 : Hid (parseS b n = if rightS f n = false ∨ listS ep f ≠ b then none else some (ep, f)) := Lib.hid (by rw [HP.out, hres]; simp)
          clear HP hpast hres
          cases hrr : rightS f n with
          | false =>
            rw [hrr] at hrt
            have Hres : Hid (parseS b n = none) := Lib.hid (by rw [HP2.out, if_pos (.inl hrr)])
            clear hbo hrr
            go_wp2_with (first | (go_at_call 96; refine hrt.mono ?_; rintro e w7 ⟨rfl, hb7⟩) | fail)
            go_ret3
            exact ⟨below_trans hbw hb7, by rw [Hres.out]; rfl⟩
          | true =>
            rw [hrr] at hrt
            unfold ListOut OutB at hbo
            rw [← hls] at hbo
            have hbeq := fun W v1 (hW : Below w.heap.size w W) (h1 : SlP 1 ByteE W v1 (listS ep f)) => beq_any v1 v (listS ep f) b W h1 (Hv.out.mono ByteE.mono hW)
            have hmm2 : ∀ W B v1, OwnB W B v1 (listS ep f) → SlP 1 ByteE W v1 (listS ep f) := fun W B v1 h => h.at (by omega)
            have Hd : Hid (parseS b n = if listS ep f = b then some (ep, f) else none) := Lib.hid (by rw [HP2.out, hrr]; by_cases h : listS ep f = b <;> simp [h])
            by_cases hlb : listS ep f = b
            · have Hres : Hid (parseS b n = some (ep, f)) := Lib.hid (by rw [Hd.out, if_pos hlb])
              rw [decide_eq_true hlb] at hbeq
              clear hlb hls hrr Hd HP2
              go_wp2_with (first
                | (go_at_call 96; refine hrt.mono ?_; rintro e w7 ⟨rfl, hb7⟩)
                | (go_at_call 83; refine (hbo w7 hb7).mono ?_; rintro e w8 ⟨v8, rfl, hown8, hb8⟩)
                | (go_at_call 97; refine (hbeq w8 v8 (below_trans hbw (below_trans hb7 hb8)) (hmm2 _ _ _ hown8)).mono ?_; rintro e w9 ⟨rfl, hb9⟩)
                | fail)
              go_ret3
              exact ⟨below_trans hbw (below_trans hb7 (below_trans hb8 hb9)), by rw [Hres.out]; exact ⟨mb, rfl, hFr.below (below_trans hb7 (below_trans hb8 hb9)), hwm⟩⟩
            · have Hres : Hid (parseS b n = none) := Lib.hid (by rw [Hd.out, if_neg hlb])
              rw [decide_eq_false hlb] at hbeq
              clear hlb hls hrr Hd HP2
              go_wp2_with (first
                | (go_at_call 96; refine hrt.mono ?_; rintro e w7 ⟨rfl, hb7⟩)
                | (go_at_call 83; refine (hbo w7 hb7).mono ?_; rintro e w8 ⟨v8, rfl, hown8, hb8⟩)
                | (go_at_call 97; refine (hbeq w8 v8 (below_trans hbw (below_trans hb7 hb8)) (hmm2 _ _ _ hown8)).mono ?_; rintro e w9 ⟨rfl, hb9⟩)
                | fail)
              go_ret3
              exact ⟨below_trans hbw (below_trans hb7 (below_trans hb8 hb9)), by rw [Hres.out]; rfl⟩
        · obtain ⟨j', rfl⟩ : ∃ j', j = j' + 1 := ⟨j - 1, by omega⟩
          have hj1 : (0 : Int) < ((j' + 1 : Nat) : Int) := by omega
          obtain ⟨vx, hpb, hvx⟩ := hNr.has
          have hqb := hNr.flag
          have cp : wr.cell? ⟨p, 0, none⟩ = some vx := by rw [block_cell hpb]; rfl
          have hgs := getstr_any vx x 8 wr (hvx.mono ByteE.mono hbr) (by omega) (by omega)
          unfold StrOut at hgs
          have hgok := getStrS_ok x 8
          have hls := loop_step j' x f
          have hbd : (getStrS x 8).2.2 = false → filesP (j' + 1) x false f = (x, true, f) := fun h => by
            show (if false = true then _ else if (getStrS x 8).2.2 = false then _ else _) = _
            rw [if_neg (by decide), if_pos h]
          have hdrop : (getStrS x 8).2.2 = true → _ := fun h => slp_drop hvx (getStrS x 8).2.1 (hgok h).2.1 (hgok h).2.2
          have lp := heap_lt hpb
          have lq := heap_lt hqb
          have lm := hFr.map.lt
          generalize getStrS x 8 = gs at *
          obtain ⟨s, k, ok⟩ := gs
          dsimp only at hgs hgok hls hbd hdrop
          cases ok with
          | false =>
            have hres : (filesP n0 x2 bad2 []).2.1 = true := by rw [hpast.out, hbd rfl]
            have Hres : Hid (parseS b n = none) := Lib.hid (by rw [HP.out, if_pos (.inl hres)])
            clear hgok hls hbd hdrop HP hpast hres
            go_wp2_with (first
              | (go_at_call 95; refine hgs.mono ?_; rintro e w7 ⟨rfl, hb7⟩; have hqb7 := (hb7.block q lq).trans hqb; have cq7 : w7.cell? ⟨q, 0, none⟩ = some (.bool false) := (by rw [block_cell hqb7]; rfl); have z7 := block_free hqb7 0; have cq8 : (w7.setCell ⟨q, 0, none⟩ (.bool true)).cell? ⟨q, 0, none⟩ = some (.bool true) := (by rw [block_cell (block_set hqb7 0 (.bool true))]; rfl))
              | fail)
            go_ret3
            exact ⟨(below_trans hbw hb7).setCell (p := ⟨q, 0, none⟩) (by have := Hge.out; have := hb1.size; dsimp only; omega) _, by rw [Hres.out]; rfl⟩
          | true =>
            obtain ⟨g, o, cap, rfl, hc1, hc2, hv2⟩ := hdrop rfl
            obtain ⟨hsz, hkx, -⟩ := hgok rfl
            have hls2 := hls rfl _ _ rfl rfl
            have hlsn := Lib.hid (hpast.out.trans hls2)
            have n1 := numP_le 1048576 (x.drop k) false
            have n2 := numP_le 1048576 (numP 1048576 (x.drop k) false).2.1 (numP 1048576 (x.drop k) false).2.2
            have hxd : (x.drop k).length ≤ x.length := by rw [List.length_drop]; omega
            have hcA := fun (W : World) (h : NumAt w1 W p q (x.drop k) false) => Hc3.out w1 W p q (x.drop k) false h
            have hcB := fun (W : World) (h : NumAt w1 W p q (numP 1048576 (x.drop k) false).2.1 (numP 1048576 (x.drop k) false).2.2) => Hc3.out w1 W p q _ _ h
            obtain ⟨nb, hnb⟩ : ∃ nb, nb = numP 1048576 (x.drop k) false := ⟨_, rfl⟩
            rw [← hnb] at hlsn n1 n2 hcA hcB
            obtain ⟨nc, hnc⟩ : ∃ nc, nc = numP 1048576 nb.2.1 nb.2.2 := ⟨_, rfl⟩
            rw [← hnc] at hlsn n2 hcB
            have HcA := Lib.hid hcA
            have HcB := Lib.hid hcB
            clear hnc hnb hcA hcB hgok hls hbd hdrop hls2 hpast HP
            obtain ⟨bN, xB, badB⟩ := nb
            obtain ⟨cN, xC, badC⟩ := nc
            dsimp only at hlsn n1 n2 HcA HcB
            have hk0 : (0 : Int) ≤ (k : Int) := by omega
            have hk1 : (k : Int) ≤ (x.length : Int) := by omega
            by_cases hck : cap = k
            · subst hck
              have hv2' : SlP 1 ByteE w1 (.slice (some ⟨g, o, none⟩) 0 0) (x.drop cap) := (by rw [List.drop_of_length_le (show x.length ≤ cap by omega)]; exact ⟨_, 0, rfl, by simp, by simp, fun _ => rfl, fun j hj => by simp at hj⟩)
              have Hv2 := Lib.hid hv2'
              clear hv2'
              go_upto_region 12 with (first
                | (go_at_call 95; refine hgs.mono ?_; rintro e w7 ⟨rfl, hb7⟩)
                | fail)
              have hqb7 := (hb7.block q lq).trans hqb
              have hpb7 := (hb7.block p lp).trans hpb
              have cq7 : w7.cell? ⟨q, 0, none⟩ = some (.bool false) := by rw [block_cell hqb7]; rfl
              have z7 := block_free hqb7 0
              go_upto_region 13 with fail
              have hqb8 := block_set hqb7 0 (.bool false)
              have hpb8 := (Below.heap_setCell w7 ⟨q, 0, none⟩ (.bool false) p (by show p ≠ q; omega)).trans hpb7
              have hb8 : Below w1.heap.size w1 (w7.setCell ⟨q, 0, none⟩ (.bool false)) := (below_trans hbr hb7).setCell (p := ⟨q, 0, none⟩) Hge.out.2 _
              have hk8 : Kept (fun k => k = mb) wr (w7.setCell ⟨q, 0, none⟩ (.bool false)) := (kept_of_below hb7 (fun k hk => by subst hk; exact lm)).setCell (p := ⟨q, 0, none⟩) (by show ¬ q = mb; omega) _
              generalize World.setCell w7 _ _ = w8 at *
              have cq8 : w8.cell? ⟨q, 0, none⟩ = some (.bool false) := by rw [block_cell hqb8]; rfl
              have cp8 : w8.cell? ⟨p, 0, none⟩ = some (.slice (some ⟨g, o, none⟩) x.length cap) := by rw [block_cell hpb8]; rfl
              have z8 := block_free hpb8 0
              clear cq7 z7 hqb7 hpb7
              go_upto_region 15 with fail
              have hpb9 := block_set hpb8 0 (.slice (some ⟨g, o, none⟩) 0 0)
              have hqb9 := (Below.heap_setCell w8 ⟨p, 0, none⟩ (.slice (some ⟨g, o, none⟩) 0 0) q (by show q ≠ p; omega)).trans hqb8
              have hb9 : Below w1.heap.size w1 (w8.setCell ⟨p, 0, none⟩ (.slice (some ⟨g, o, none⟩) 0 0)) := hb8.setCell (p := ⟨p, 0, none⟩) Hge.out.1 _
              have hk9 : Kept (fun k => k = mb) wr (w8.setCell ⟨p, 0, none⟩ (.slice (some ⟨g, o, none⟩) 0 0)) := hk8.setCell (p := ⟨p, 0, none⟩) hpm _
              generalize World.setCell w8 _ _ = w9 at *
              have hN9 : NumAt w1 w9 p q (x.drop cap) false := ⟨⟨_, hpb9, Hv2.out⟩, hqb9, hb9, Hge.out.1, Hge.out.2, by omega⟩
              have hcall := HcA.out w9 hN9
              have lm9 : mb < w9.heap.size := by have := hk9.size; omega
              clear cq8 cp8 z8 hqb8 hpb8 hb8 hk8 hpb9 hqb9
              go_upto_region 16 with (first
                | (go_at_call 93; refine hcall.mono ?_; rintro e w10 ⟨rfl, hN10, hk10⟩)
                | fail)
              generalize hW11 : World.alloc w10 _ = w11
              have hb11 : Below w10.heap.size w10 w11 := by rw [← hW11]; exact below_new _ _
              have hE11 : w11.heap[w10.heap.size]? = some (.cells #[.int .i64 bN, .int .i64 0] 90 (0, 0)) := by rw [← hW11]; exact heap_alloc_new _ _
              clear hW11 hcall
              have hN11 := hN10.keep hb11
              have hcall := HcB.out w11 hN11
              have l11 := heap_lt hE11
              have lq10 := heap_lt hN10.flag
              have lp10 : p < w10.heap.size := by omega
              have lm10 : mb < w10.heap.size := by have := hk10.size; omega
              go_upto_region 17 with (first
                | (go_at_call 93; refine hcall.mono ?_; rintro e w12 ⟨rfl, hN12, hk12⟩; have hE12 := (hk12.block w10.heap.size ⟨l11, by omega, by omega⟩).trans hE11; have d12 : w12.cell? ⟨w10.heap.size, 1, none⟩ = some (.int .i64 0) := (by rw [block_cell hE12]; rfl); have z12 := block_free hE12 1)
                | fail)
              have hE13 := block_set hE12 1 (.int .i64 cN)
              have hk13 : Kept (fun k => k = mb ∨ k = p ∨ k = q) w12 (w12.setCell ⟨w10.heap.size, 1, none⟩ (.int .i64 cN)) := (Kept.refl _ _).setCell (p := ⟨w10.heap.size, 1, none⟩) (by show ¬ (w10.heap.size = mb ∨ w10.heap.size = p ∨ w10.heap.size = q); omega) _
              have hb13 : Below w1.heap.size w1 (w12.setCell ⟨w10.heap.size, 1, none⟩ (.int .i64 cN)) := hN12.base.setCell (p := ⟨w10.heap.size, 1, none⟩) hN10.base.size _
              generalize World.setCell w12 _ _ = w13 at *
              have f13 : w13.cell? ⟨w10.heap.size, 0, none⟩ = some (.int .i64 bN) := by rw [block_cell hE13]; rfl
              have g13 : w13.cell? ⟨w10.heap.size, 1, none⟩ = some (.int .i64 cN) := by rw [block_cell hE13]; rfl
              have hm13 : MapA Value.string w13 mb (filesV f) := hFr.map.block ((hk13.block mb (.inl rfl)).trans ((hk12.block mb ⟨by have := hb11.size; omega, by omega, by omega⟩).trans ((hb11.block mb lm10).trans ((hk10.block mb ⟨lm9, by omega, by omega⟩).trans (hk9.block mb rfl)))))
              have hN13 : NumAt w1 w13 p q xC badC := hN12.far (hk13.block p (.inr (.inl rfl))) (hk13.block q (.inr (.inr rfl))) hb13
              have lq13 := heap_lt hN13.flag
              clear hE13 hE12 d12 z12 hk13 hb13 hcall hE11
              go_wp2_with (first
                | (at_mapUpdate; refine wpList_mapSet rfl _ _ _ _ rfl extKey Tryz.underlying35 rfl hm13 s rfl (extV (bN, cN)) rfl ?_; intro w14 hm14 hg14)
                | fail)
              go_roundw
              case rel =>
                rw [mset_files] at hm14
                have hb14 : Below w1.heap.size w1 w14 := grown_below hN13.base hg14 hN13.base.size (fun k hk => by cases hk; have := Hge.out; omega)
                refine ⟨j', xC, badC, fset f s (bN, cN), by go_num, hN13.far (hg14.block p (by omega) (fun e => hpm (by simpa using e))) (hg14.block q lq13 (fun e => hqm (by simpa using e))) hb14, ⟨hm14, fun y hy => ?_, by have := fset_len f s (bN, cN); omega⟩, Lib.hid fun y hy => ?_, by have := fset_len f s (bN, cN); omega, by omega, hlsn⟩
                · rcases fset_mem hy with hy | rfl
                  · exact hFr.small y hy
                  · exact ⟨by dsimp only; omega, by dsimp only; omega, by dsimp only; omega⟩
                · rcases fset_mem hy with hy | rfl
                  · exact hsml.out y hy
                  · exact ⟨hsz, n1.1, n2.1⟩
              case measure => simp [intOf]
            · skip
              have hv2' : SlP 1 ByteE w1 (.slice (some ⟨g, o + k, none⟩) (x.length - k) (cap - k)) (x.drop k) := hv2
              have Hv2 := Lib.hid hv2'
              clear hv2'
              go_upto_region 12 with (first
                | (go_at_call 95; refine hgs.mono ?_; rintro e w7 ⟨rfl, hb7⟩)
                | fail)
              have hqb7 := (hb7.block q lq).trans hqb
              have hpb7 := (hb7.block p lp).trans hpb
              have cq7 : w7.cell? ⟨q, 0, none⟩ = some (.bool false) := by rw [block_cell hqb7]; rfl
              have z7 := block_free hqb7 0
              go_upto_region 13 with fail
              have hqb8 := block_set hqb7 0 (.bool false)
              have hpb8 := (Below.heap_setCell w7 ⟨q, 0, none⟩ (.bool false) p (by show p ≠ q; omega)).trans hpb7
              have hb8 : Below w1.heap.size w1 (w7.setCell ⟨q, 0, none⟩ (.bool false)) := (below_trans hbr hb7).setCell (p := ⟨q, 0, none⟩) Hge.out.2 _
              have hk8 : Kept (fun k => k = mb) wr (w7.setCell ⟨q, 0, none⟩ (.bool false)) := (kept_of_below hb7 (fun k hk => by subst hk; exact lm)).setCell (p := ⟨q, 0, none⟩) (by show ¬ q = mb; omega) _
              generalize World.setCell w7 _ _ = w8 at *
              have cq8 : w8.cell? ⟨q, 0, none⟩ = some (.bool false) := by rw [block_cell hqb8]; rfl
              have cp8 : w8.cell? ⟨p, 0, none⟩ = some (.slice (some ⟨g, o, none⟩) x.length cap) := by rw [block_cell hpb8]; rfl
              have z8 := block_free hpb8 0
              clear cq7 z7 hqb7 hpb7
              go_upto_region 15 with fail
              have hpb9 := block_set hpb8 0 (.slice (some ⟨g, o + k, none⟩) (x.length - k) (cap - k))
              have hqb9 := (Below.heap_setCell w8 ⟨p, 0, none⟩ (.slice (some ⟨g, o + k, none⟩) (x.length - k) (cap - k)) q (by show q ≠ p; omega)).trans hqb8
              have hb9 : Below w1.heap.size w1 (w8.setCell ⟨p, 0, none⟩ (.slice (some ⟨g, o + k, none⟩) (x.length - k) (cap - k))) := hb8.setCell (p := ⟨p, 0, none⟩) Hge.out.1 _
              have hk9 : Kept (fun k => k = mb) wr (w8.setCell ⟨p, 0, none⟩ (.slice (some ⟨g, o + k, none⟩) (x.length - k) (cap - k))) := hk8.setCell (p := ⟨p, 0, none⟩) hpm _
              generalize World.setCell w8 _ _ = w9 at *
              have hN9 : NumAt w1 w9 p q (x.drop k) false := ⟨⟨_, hpb9, Hv2.out⟩, hqb9, hb9, Hge.out.1, Hge.out.2, by omega⟩
              have hcall := HcA.out w9 hN9
              have lm9 : mb < w9.heap.size := by have := hk9.size; omega
              clear cq8 cp8 z8 hqb8 hpb8 hb8 hk8 hpb9 hqb9
              go_upto_region 16 with (first
                | (go_at_call 93; refine hcall.mono ?_; rintro e w10 ⟨rfl, hN10, hk10⟩)
                | fail)
              generalize hW11 : World.alloc w10 _ = w11
              have hb11 : Below w10.heap.size w10 w11 := by rw [← hW11]; exact below_new _ _
              have hE11 : w11.heap[w10.heap.size]? = some (.cells #[.int .i64 bN, .int .i64 0] 90 (0, 0)) := by rw [← hW11]; exact heap_alloc_new _ _
              clear hW11 hcall
              have hN11 := hN10.keep hb11
              have hcall := HcB.out w11 hN11
              have l11 := heap_lt hE11
              have lq10 := heap_lt hN10.flag
              have lp10 : p < w10.heap.size := by omega
              have lm10 : mb < w10.heap.size := by have := hk10.size; omega
              go_upto_region 17 with (first
                | (go_at_call 93; refine hcall.mono ?_; rintro e w12 ⟨rfl, hN12, hk12⟩; have hE12 := (hk12.block w10.heap.size ⟨l11, by omega, by omega⟩).trans hE11; have d12 : w12.cell? ⟨w10.heap.size, 1, none⟩ = some (.int .i64 0) := (by rw [block_cell hE12]; rfl); have z12 := block_free hE12 1)
                | fail)
              have hE13 := block_set hE12 1 (.int .i64 cN)
              have hk13 : Kept (fun k => k = mb ∨ k = p ∨ k = q) w12 (w12.setCell ⟨w10.heap.size, 1, none⟩ (.int .i64 cN)) := (Kept.refl _ _).setCell (p := ⟨w10.heap.size, 1, none⟩) (by show ¬ (w10.heap.size = mb ∨ w10.heap.size = p ∨ w10.heap.size = q); omega) _
              have hb13 : Below w1.heap.size w1 (w12.setCell ⟨w10.heap.size, 1, none⟩ (.int .i64 cN)) := hN12.base.setCell (p := ⟨w10.heap.size, 1, none⟩) hN10.base.size _
              generalize World.setCell w12 _ _ = w13 at *
              have f13 : w13.cell? ⟨w10.heap.size, 0, none⟩ = some (.int .i64 bN) := by rw [block_cell hE13]; rfl
              have g13 : w13.cell? ⟨w10.heap.size, 1, none⟩ = some (.int .i64 cN) := by rw [block_cell hE13]; rfl
              have hm13 : MapA Value.string w13 mb (filesV f) := hFr.map.block ((hk13.block mb (.inl rfl)).trans ((hk12.block mb ⟨by have := hb11.size; omega, by omega, by omega⟩).trans ((hb11.block mb lm10).trans ((hk10.block mb ⟨lm9, by omega, by omega⟩).trans (hk9.block mb rfl)))))
              have hN13 : NumAt w1 w13 p q xC badC := hN12.far (hk13.block p (.inr (.inl rfl))) (hk13.block q (.inr (.inr rfl))) hb13
              have lq13 := heap_lt hN13.flag
              clear hE13 hE12 d12 z12 hk13 hb13 hcall hE11
              go_wp2_with (first
                | (at_mapUpdate; refine wpList_mapSet rfl _ _ _ _ rfl extKey Tryz.underlying35 rfl hm13 s rfl (extV (bN, cN)) rfl ?_; intro w14 hm14 hg14)
                | fail)
              go_roundw
              case rel =>
                rw [mset_files] at hm14
                have hb14 : Below w1.heap.size w1 w14 := grown_below hN13.base hg14 hN13.base.size (fun k hk => by cases hk; have := Hge.out; omega)
                refine ⟨j', xC, badC, fset f s (bN, cN), by go_num, hN13.far (hg14.block p (by omega) (fun e => hpm (by simpa using e))) (hg14.block q lq13 (fun e => hqm (by simpa using e))) hb14, ⟨hm14, fun y hy => ?_, by have := fset_len f s (bN, cN); omega⟩, Lib.hid fun y hy => ?_, by have := fset_len f s (bN, cN); omega, by omega, hlsn⟩
                · rcases fset_mem hy with hy | rfl
                  · exact hFr.small y hy
                  · exact ⟨by dsimp only; omega, by dsimp only; omega, by dsimp only; omega⟩
                · rcases fset_mem hy with hy | rfl
                  · exact hsml.out y hy
                  · exact ⟨hsz, n1.1, n2.1⟩
              case measure => simp [intOf]

end Go.Proofs.YtlhefifejcoecaaGreatDoor
