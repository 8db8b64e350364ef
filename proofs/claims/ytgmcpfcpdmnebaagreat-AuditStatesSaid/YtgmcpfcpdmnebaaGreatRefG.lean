/- The reference of layer 16: a record's bytes. -/
import Derived.Test.YtgmcpfcpdmnebaaGreatRefF
import Derived.Deep.DeepCutAuto
import Derived.Deep.LoopGhost
namespace Go.Proofs.YtgmcpfcpdmnebaaGreat
open Go.RowKit Go.Proofs Go.Shelf
attribute [local go_sem ↓] Go.wp_at_zero Go.wp_at_succ

set_option maxHeartbeats 2000000 in
set_option maxRecDepth 1000000 in
theorem rbytes_any (r : Rec) (cs : List Value) (w : World) (hr : RecE w cs r) (hs : Small r) : Calls Tryz.prog 46 #[.agg cs.toArray] w (OutB w (bytesS r)) := by
  obtain ⟨rv, wv, rfl, -, -, hrd, hw⟩ := hr
  obtain ⟨q, cap, rfl, hlc, hcap, hcells⟩ := hrd.readsAt
  obtain ⟨qw, capw, rfl, hlw, hcapw, hcellsw⟩ := hw.pairs
  obtain ⟨⟨p1, p2⟩, ⟨p3, p4⟩, ⟨p5, p6⟩, p7, p8⟩ := hs
  obtain ⟨se, sp, st, rd, ws⟩ := r
  dsimp only at *
  obtain ⟨se, rfl⟩ := Int.eq_ofNat_of_zero_le p1
  obtain ⟨sp, rfl⟩ := Int.eq_ofNat_of_zero_le p3
  have u1 : IntKind.u64.wrap (se : Int) = (se : Int) := by unfold IntKind.wrap; simp [IntKind.signed, IntKind.bits]; omega
  have u2 : IntKind.u64.wrap (sp : Int) = (sp : Int) := by unfold IntKind.wrap; simp [IntKind.signed, IntKind.bits]; omega
  have hN1 : ∀ W : World, Calls Tryz.prog 72 #[.slice none 0 0, .int .u64 se] W (OutB W (numS se)) := fun W => by simpa using rnum_any (.slice none 0 0) [] se W (slp_nil _) (by simp) (by unfold U64; omega)
  have hl1 : (numS se).length ≤ 9 := numS_length se
  have hl2 : (numS se ++ numS sp).length ≤ 18 := by have := numS_length sp; rw [List.length_append]; omega
  have hN2 : ∀ (W : World) v n, OwnB W n v (numS se) → Calls Tryz.prog 72 #[v, .int .u64 sp] W (OutB W (numS se ++ numS sp)) := fun W v n h => rnum_any v _ sp W (h.at (by omega)) (by omega) (by unfold U64; omega)
  have hF1 : ∀ (W : World) v n, OwnB W n v (numS se ++ numS sp) → Calls Tryz.prog 71 #[v, .bool st] W (OutB W (numS se ++ numS sp ++ [if st then 1 else 0])) := fun W v n h => rflag_any v _ st W (h.at (by omega)) (by omega)
  go_enter Tryz.func46, Tryz.ntmps46
  go_wp2_with fail
  go_region_held3 (fun w' => w'.cell? ⟨w.heap.size, 0, none⟩ = some (.int .i64 se) ∧ w'.cell? ⟨w.heap.size, 1, none⟩ = some (.int .i64 sp) ∧ w'.cell? ⟨w.heap.size, 2, none⟩ = some (.bool st) ∧ w'.cell? ⟨w.heap.size, 3, none⟩ = some (.slice q rd.length cap) ∧ w'.cell? ⟨w.heap.size, 4, none⟩ = some (.slice qw ws.length capw) ∧ Below w.heap.size w w')
    (first
      | (exact ⟨by simp, by simp, by simp, by simp, by simp, (below_new _ _).drew⟩)
      | (go_split_ands; exact ⟨bcell hb3 (by assumption), bcell hb3 (by assumption), bcell hb3 (by assumption), bcell hb3 (by assumption), bcell hb3 (by assumption), below_trans (by assumption) hb3⟩)
      | (go_split_ands; exact ⟨bcell hb2 (by assumption), bcell hb2 (by assumption), bcell hb2 (by assumption), bcell hb2 (by assumption), bcell hb2 (by assumption), below_trans (by assumption) hb2⟩)
      | (go_split_ands; exact ⟨bcell hb1 (by assumption), bcell hb1 (by assumption), bcell hb1 (by assumption), bcell hb1 (by assumption), bcell hb1 (by assumption), below_trans (by assumption) hb1⟩))
    (first
      | (go_at_call 72; (with_reducible refine (hN1 _).mono ?_); rintro e w1 ⟨v1, rfl, hown1, hb1⟩)
      | (go_at_call 72; (with_reducible refine (hN2 w1 v1 _ hown1).mono ?_); rintro e w2 ⟨v2, rfl, hown2, hb2⟩)
      | (go_at_call 71; refine (hF1 w2 v2 _ hown2).mono ?_; rintro e w3 ⟨v3, rfl, hown3, hb3⟩))
  have d3 : w3.cell? ⟨w.heap.size, 3, none⟩ = some (.slice q rd.length cap) := bcell hb3 (bcell hb2 (bcell hb1 (by simp)))
  have d4 : w3.cell? ⟨w.heap.size, 4, none⟩ = some (.slice qw ws.length capw) := bcell hb3 (bcell hb2 (bcell hb1 (by simp)))
  have hbw : Below w.heap.size w w3 := below_trans (below_trans (below_trans (below_new _ _).drew hb1) hb2) hb3
  have hl3 : (numS se ++ numS sp ++ [if st then 1 else 0]).length ≤ 19 := by rw [List.length_append]; simp; simp at hl2; omega
  have hn1 := rnum_any v3 _ rd.length w3 (hown3.at (by omega)) (by omega) (by unfold U64; omega)
  have hsz2 : w.heap.size < w3.heap.size := World.block_lt_of_cell? w3 _ d3
  have hown3' : OwnB w3 w.heap.size v3 (numS se ++ numS sp ++ [if st then 1 else 0]) := hown3.base (below_trans (below_trans (below_new _ _).drew hb1) hb2).size
  have hhead : Hid (headB ⟨se, sp, st, rd, ws⟩ = numS se ++ numS sp ++ [if st then 1 else 0] ++ numS rd.length) := Lib.hid rfl
  generalize numS se ++ numS sp ++ [if st then 1 else 0] = h1 at *
  clear hN1 hN2 hF1 hown1 hown2 hown3 hb1 hb2 hb3 hl1 hl2 u1 u2
  go_wp2_with (first
    | (go_at_call 72; refine hn1.mono ?_; rintro e w4 ⟨v4, rfl, hown4, hb4⟩; have e3 := bcell hb4 d3; have e4 := bcell hb4 d4))
  have hbw3 : Below w.heap.size w w4 := below_trans hbw hb4
  have hown4 : OwnB w4 w.heap.size v4 (h1 ++ numS rd.length) := hown4.base hbw.size
  have hnl := numS_length rd.length
  have hl4 : (h1 ++ numS rd.length).length ≤ 28 := by rw [List.length_append]; omega
  generalize h1 ++ numS rd.length = h2 at *
  clear hn1 hb4 hbw d3 d4 hsz2 hown3'
  go_loopg [3, 30] rd.length (fun n b i wr' => ∃ k : Nat, k ≤ rd.length ∧ n + k = rd.length ∧ i = .int .i64 k ∧ Below w4.heap.size w4 wr' ∧ OwnB wr' w.heap.size b (h2 ++ (rd.take k).flatMap readB))
  case atStart => exact ⟨0, Nat.zero_le _, rfl, rfl, Below.refl _ _, by simpa using hown4⟩
  case round =>
    obtain ⟨k, hk, hgk, rfl, hb, ho⟩ := hrel
    by_cases hlt : k < rd.length
    · obtain ⟨b, off, pq, pn, pc, rfl, he, c0, c1, c2, c3⟩ := hcells k hlt
      have hx := p6 _ (List.getElem_mem hlt)
      have htk := take_flatMap readB rd k hlt
      have hacc : (h2 ++ (rd.take k).flatMap readB).length ≤ 7000000 := by
        have h3 := flatMap_le readB 100000 (rd.take k) fun x hx => readB_length (p6 x (List.mem_of_mem_take hx))
        have h4 : (rd.take k).length = k := by rw [List.length_take]; omega
        rw [List.length_append]; omega
      have hbr : Below w.heap.size w wr := below_trans hbw3 hb
      have d0 := bcell hbr c0
      have d1 := bcell hbr c1
      have d2 := bcell hbr c2
      have d3 := bcell hbr c3
      have hprs := RdE.mono.mono hbr he
      generalize hxx : rd[k] = x at *
      obtain ⟨sc, xk, xt, xp⟩ := x
      obtain ⟨x1, x2, x3, x4⟩ := hx
      obtain ⟨_, hpv, -, -, hpv2⟩ := hprs
      simp only [List.cons.injEq, and_true, true_and] at hpv
      subst hpv
      dsimp only at *
      have Htk := Lib.hid htk
      have Hxx := Lib.hid hxx
      generalize hA : h2 ++ (rd.take k).flatMap readB = acc at *
      have HA := Lib.hid hA
      clear htk hxx hA c0 c1 c2 c3 he hcells
      go_upto_region 6 with fail
      have ho1 : SlP 1 ByteE wr u3 acc := ho.at (by omega)
      obtain ⟨wx, hwx⟩ : ∃ wx, wx = wr.alloc (.cells #[.bool sc, .string xk, .string xt, .slice pq pn pc] 37) := ⟨_, rfl⟩
      have x0 : wx.cell? ⟨wr.heap.size, 0, none⟩ = some (.bool sc) := by rw [hwx]; simp
      have x1' : wx.cell? ⟨wr.heap.size, 1, none⟩ = some (.string xk) := by rw [hwx]; simp
      have x2' : wx.cell? ⟨wr.heap.size, 2, none⟩ = some (.string xt) := by rw [hwx]; simp
      have x3' : wx.cell? ⟨wr.heap.size, 3, none⟩ = some (.slice pq pn pc) := by rw [hwx]; simp
      have hbx : Below wr.heap.size wr wx := by rw [hwx]; exact below_new _ _
      rw [← hwx]
      clear hwx d0 d1 d2 d3
      have hox := ho1.mono ByteE.mono hbx
      have hlA : (acc ++ flagS sc).length ≤ 8000000 := by unfold flagS; rw [List.length_append, List.length_singleton]; omega
      have hF : ∀ W, Below wx.heap.size wx W → Calls Tryz.prog 71 #[u3, .bool sc] W (OutB W (acc ++ flagS sc)) := fun W hW => rflag_any _ acc sc W (hox.mono ByteE.mono hW) (by omega)
      have hT1 : ∀ W v n, OwnB W n v (acc ++ flagS sc) → Calls Tryz.prog 73 #[v, .string xk] W (OutB W (acc ++ flagS sc ++ strS xk)) := fun W v n h => by
        have := rstr_any v _ xk W (h.at (by omega)) (by omega) (by omega)
        rw [List.append_assoc] at this; exact this
      have hnx : w.heap.size ≤ wx.heap.size := Nat.le_trans hbr.size hbx.size
      go_cut [3] (fun v wy => OwnB wy w.heap.size v (acc ++ flagS sc ++ strS xk) ∧ Below wx.heap.size wx wy)
      case first => as_aux_lemma =>
        go_region_held3 (fun w' => w'.cell? ⟨wr.heap.size, 0, none⟩ = some (.bool sc) ∧ w'.cell? ⟨wr.heap.size, 1, none⟩ = some (.string xk) ∧ Below wx.heap.size wx w')
          (first
            | (exact ⟨by simpa using x0, by simpa using x1', (Below.refl _ _).drew⟩)
            | (go_split_ands; exact ⟨bcell hb2 (by assumption), bcell hb2 (by assumption), below_trans (by assumption) hb2⟩)
            | (go_split_ands; exact ⟨bcell hb1 (by assumption), bcell hb1 (by assumption), below_trans (by assumption) hb1⟩))
          (first
            | (go_at_call 71; refine (hF _ (by go_split_ands; assumption)).mono ?_; rintro e w1 ⟨v1, rfl, hown1, hb1⟩)
            | (go_at_call 73; refine (hT1 w1 v1 _ hown1).mono ?_; rintro e w2 ⟨v2, rfl, hown2, hb2⟩))
        go_wp2_with fail
        go_meet
        case rel =>
          have h1 : Below wx.heap.size wx w1 := below_trans (Below.refl _ _).drew hb1
          exact ⟨hown2.base (Nat.le_trans hnx h1.size), below_trans h1 hb2⟩
      case rest => as_aux_lemma =>
        obtain ⟨we, rfl⟩ : ∃ we : World, we = wc := ⟨_, rfl⟩
        obtain ⟨hoc, hbc⟩ := hcut
        have y0 := bcell hbc x0
        have y2 := bcell hbc x2'
        have y3 := bcell hbc x3'
        clear hF hT1 x0 x1' x2' x3' hox ho1 ho
        have hlB : (acc ++ flagS sc ++ strS xk).length ≤ 8000100 := by have := strS_length xk; rw [List.length_append]; omega
        have hbx0 : wr.heap.size < we.heap.size := World.block_lt_of_cell? we _ y0
        have hbcw : Below wr.heap.size wr we := below_trans hbx hbc
        have hnc : w.heap.size ≤ we.heap.size := Nat.le_trans hbr.size hbcw.size
        have hT3 := rstr_any u3 _ xt we (hoc.at (by omega)) (by omega) (by omega)
        rw [List.append_assoc _ (numS xt.size)] at hT3
        go_upto_if 42 with fail
        go_cut [3] (fun v wy => OwnB wy w.heap.size v (acc ++ flagS sc ++ strS xk ++ (if sc then strS xt else [])) ∧ Below we.heap.size we wy)
        case first => as_aux_lemma =>
          cases sc with
          | true =>
            go_wp2_with (go_at_call 73; refine hT3.mono ?_; rintro e w4 ⟨v4, rfl, hown4, hb4⟩)
            go_meet
            case rel => exact ⟨hown4.base hnc, hb4⟩
          | false =>
            go_wp2_with fail
            go_meet
            case rel => exact ⟨by simpa using hoc, Below.refl _ _⟩
        case rest => as_aux_lemma =>
          obtain ⟨hod, hbd⟩ := hcut
          obtain ⟨wd, rfl⟩ : ∃ wd : World, wd = wc := ⟨_, rfl⟩
          have z3 := bcell hbd y3
          have hlC : (acc ++ flagS sc ++ strS xk ++ (if sc then strS xt else [])).length ≤ 8000300 := by
            have := strS_length xt
            rw [List.length_append]
            split <;> (try simp only [List.length_nil]) <;> omega
          have hnd : w.heap.size ≤ wd.heap.size := Nat.le_trans hnc hbd.size
          generalize hC : acc ++ flagS sc ++ strS xk ++ (if sc then strS xt else []) = accC at *
          have HC := Lib.hid hC
          obtain ⟨qp, capp, hpe, hlp, hcapp, hcellp⟩ := hpv2.pairs
          simp only [Value.slice.injEq] at hpe
          obtain ⟨rfl, rfl, rfl⟩ := hpe
          have hN := rnum_any u3 accC xp.length wd (hod.at (by omega)) (by omega) (by unfold U64; omega)
          have hbdw : Below wr.heap.size wr wd := below_trans hbcw hbd
          have hz3 : wr.heap.size < wd.heap.size := World.block_lt_of_cell? wd _ z3
          clear hC hT3 hoc y0 y2 y3 hlA hlB
          go_wp2_with (go_at_call 72; refine hN.mono ?_; rintro e w5 ⟨v5, rfl, hown5, hb5⟩; have t3 := bcell hb5 z3)
          have hnl5 := numS_length xp.length
          have hown5 : OwnB w5 w.heap.size v5 (accC ++ numS xp.length) := hown5.base hnd
          have hl5 : (accC ++ numS xp.length).length ≤ 8000400 := by rw [List.length_append]; omega
          have hn5 : w.heap.size ≤ w5.heap.size := Nat.le_trans hnd hb5.size
          have hbrd5 : Below wr.heap.size wr w5 := below_trans hbdw hb5
          generalize hD : accC ++ numS xp.length = accD at *
          have HD := Lib.hid hD
          clear hD hN t3 hb5 z3
          obtain ⟨wo, rfl⟩ : ∃ wo : World, wo = wr := ⟨_, rfl⟩
          go_loopg [3, 56] xp.length (fun n b i wr' => ∃ m : Nat, m ≤ xp.length ∧ n + m = xp.length ∧ i = .int .i64 m ∧ Below w5.heap.size w5 wr' ∧ OwnB wr' w.heap.size b (accD ++ (xp.take m).flatMap pairB))
          case atStart => exact ⟨0, Nat.zero_le _, rfl, rfl, Below.refl _ _, by simpa using hown5⟩
          case round =>
            obtain ⟨m, hm, hgm, rfl, hbm, hom⟩ := hrel
            by_cases hmt : m < xp.length
            · obtain ⟨b', off', rfl, -, e0, e1, e2⟩ := hcellp m hmt
              have hpk := x4 _ (List.getElem_mem hmt)
              have htk2 := take_flatMap pairB xp m hmt
              have hl6 : (accD ++ (xp.take m).flatMap pairB).length ≤ 8100000 := by
                have h3 := flatMap_le pairB 400 (xp.take m) fun p hp => pairB_length (x4 p (List.mem_of_mem_take hp))
                have h4 : (xp.take m).length = m := by rw [List.length_take]; omega
                rw [List.length_append]; omega
              have hbr6 : Below wo.heap.size wo wr := below_trans hbrd5 hbm
              replace e0 := bcell hbr6 e0
              replace e1 := bcell hbr6 e1
              replace e2 := bcell hbr6 e2
              have hnr : w.heap.size ≤ wr.heap.size := Nat.le_trans hn5 hbm.size
              generalize hpp : xp[m] = p at *
              obtain ⟨pk, pvv, pd⟩ := p
              obtain ⟨q1, q2⟩ := hpk
              dsimp only at *
              have Htk2 := Lib.hid htk2
              generalize hE : accD ++ (xp.take m).flatMap pairB = accE at *
              have HE := Lib.hid hE
              clear htk2 hpp hcellp hE
              go_upto_region 13 with fail
              obtain ⟨wy, hwy⟩ : ∃ wy, wy = wr.alloc (.cells #[.string pk, .string pvv, .bool pd] 35) := ⟨_, rfl⟩
              have y0 : wy.cell? ⟨wr.heap.size, 0, none⟩ = some (.string pk) := by rw [hwy]; simp
              have y1 : wy.cell? ⟨wr.heap.size, 1, none⟩ = some (.string pvv) := by rw [hwy]; simp
              have hby : Below wr.heap.size wr wy := by rw [hwy]; exact below_new _ _
              rw [← hwy]
              clear hwy e0 e1 e2
              have hoy : SlP 1 ByteE wy u3 accE := (hom.at (by omega)).mono ByteE.mono hby
              have hlE : (accE ++ strS pk).length ≤ 8100100 := by have := strS_length pk; rw [List.length_append]; omega
              have hS1 : ∀ W, Below wy.heap.size wy W → Calls Tryz.prog 73 #[u3, .string pk] W (OutB W (accE ++ strS pk)) := fun W hW => by
                have := rstr_any u3 accE pk W (hoy.mono ByteE.mono hW) (by omega) (by omega)
                rw [List.append_assoc] at this; exact this
              have hS2 : ∀ W v n, OwnB W n v (accE ++ strS pk) → Calls Tryz.prog 73 #[v, .string pvv] W (OutB W (accE ++ strS pk ++ strS pvv)) := fun W v n h => by
                have := rstr_any v _ pvv W (h.at (by omega)) (by omega) (by omega)
                rw [List.append_assoc] at this; exact this
              have hny : w.heap.size ≤ wy.heap.size := Nat.le_trans hnr hby.size
              go_region_held3 (fun w' => w'.cell? ⟨wr.heap.size, 0, none⟩ = some (.string pk) ∧ w'.cell? ⟨wr.heap.size, 1, none⟩ = some (.string pvv) ∧ Below wy.heap.size wy w')
                (first
                  | (exact ⟨by simpa using y0, by simpa using y1, (Below.refl _ _).drew⟩)
                  | (go_split_ands; exact ⟨bcell hb2 (by assumption), bcell hb2 (by assumption), below_trans (by assumption) hb2⟩)
                  | (go_split_ands; exact ⟨bcell hb1 (by assumption), bcell hb1 (by assumption), below_trans (by assumption) hb1⟩))
                (first
                  | (go_at_call 73; (with_reducible refine (hS1 _ (by go_split_ands; assumption)).mono ?_); rintro e w1 ⟨v1, rfl, hown1, hb1⟩)
                  | (go_at_call 73; (with_reducible refine (hS2 w1 v1 _ hown1).mono ?_); rintro e w2 ⟨v2, rfl, hown2, hb2⟩))
              have g1 : Below wy.heap.size wy w1 := below_trans (Below.refl _ _).drew hb1
              have hoc := hown2.base (Nat.le_trans hny g1.size)
              have hbc := below_trans g1 hb2
              clear hS1 hS2 y0 y1 hoy hom
              go_wp2_with fail
              go_roundg (xp.length - (m + 1))
              case measure => omega
              case rel => exact ⟨m + 1, hmt, by omega, by go_num, below_trans hbm (below_trans hby hbc), by
                rw [Htk2.out, ← List.append_assoc, HE.out]
                simpa [pairB] using hoc⟩
            · have : m = xp.length := by omega
              subst this
              rw [List.take_length] at hom
              have hfin : OwnB wr w.heap.size u3 (h2 ++ (rd.take (k + 1)).flatMap readB) := by
                rw [Htk.out, ← List.append_assoc, HA.out]
                have e9 : accD ++ xp.flatMap pairB = acc ++ readB ⟨sc, xk, xt, xp⟩ := by
                  rw [← HD.out, ← HC.out]
                  simp [readB]
                rw [← e9]; exact hom
              have hfb : Below w4.heap.size w4 wr := below_trans (below_trans hb hbrd5) hbm
              clear hom hcellp
              go_wp2_with fail
              go_roundg (rd.length - (k + 1))
              case measure => omega
              case rel => exact ⟨k + 1, hlt, by omega, by go_num, hfb, hfin⟩
    · have : k = rd.length := by omega
      subst this
      rw [List.take_length] at ho
      have hacc : (h2 ++ rd.flatMap readB).length ≤ 7000000 := by
        have h3 := flatMap_le readB 100000 rd fun x hx => readB_length (p6 x hx)
        rw [List.length_append]; omega
      have hbr : Below w.heap.size w wr := below_trans hbw3 hb
      have f4 := bcell hb e4
      have hszr : w.heap.size < wr.heap.size := World.block_lt_of_cell? wr _ f4
      have hN := rnum_any u3 _ ws.length wr (ho.at (by omega)) (by omega) (by unfold U64; omega)
      have hnl6 := numS_length ws.length
      have hlA : (h2 ++ rd.flatMap readB ++ numS ws.length).length ≤ 7000009 := by rw [List.length_append]; omega
      obtain ⟨w6, rfl⟩ : ∃ w6 : World, w6 = wr := ⟨_, rfl⟩
      generalize hA : h2 ++ rd.flatMap readB ++ numS ws.length = accA at *
      have HA := Lib.hid hA
      clear hcells hA ho e3 e4 hb hown4
      go_wp2_with (go_at_call 72; refine hN.mono ?_; rintro e w7 ⟨v7, rfl, hown7, hb7⟩; have g4 := bcell hb7 f4)
      have hb7w : Below w.heap.size w w7 := below_trans hbr hb7
      have hown7 : OwnB w7 w.heap.size v7 accA := hown7.base hbr.size
      have hn7 := hb7w.size
      clear hN f4 hb7 g4
      go_loopg [3, 78] ws.length (fun n b i wr' => ∃ k : Nat, k ≤ ws.length ∧ n + k = ws.length ∧ i = .int .i64 k ∧ Below w7.heap.size w7 wr' ∧ OwnB wr' w.heap.size b (accA ++ (ws.take k).flatMap writeB))
      case atStart => exact ⟨0, Nat.zero_le _, rfl, rfl, Below.refl _ _, by simpa using hown7⟩
      case round =>
        obtain ⟨k, hk, hgk, rfl, hb, ho⟩ := hrel
        by_cases hlt : k < ws.length
        · obtain ⟨b, off, rfl, -, c0, c1, c2⟩ := hcellsw k hlt
          have hx := p8 _ (List.getElem_mem hlt)
          have htk := take_flatMap writeB ws k hlt
          have hlB : (accA ++ (ws.take k).flatMap writeB).length ≤ 7100000 := by
            have h3 := flatMap_le writeB 400 (ws.take k) fun x hx => writeB_length (p8 x (List.mem_of_mem_take hx))
            have h4 : (ws.take k).length = k := by rw [List.length_take]; omega
            rw [List.length_append]; omega
          have hbr : Below w.heap.size w wr := below_trans hb7w hb
          have d0 := bcell hbr c0
          have d1 := bcell hbr c1
          have d2 := bcell hbr c2
          generalize hxx : ws[k] = x at *
          obtain ⟨pk, pvv, pd⟩ := x
          obtain ⟨x1, x2⟩ := hx
          dsimp only at *
          have Htk := Lib.hid htk
          generalize hB : accA ++ (ws.take k).flatMap writeB = acc at *
          have HB := Lib.hid hB
          clear htk hxx hB c0 c1 c2 hcellsw
          go_upto_region 20 with fail
          have ho1 : SlP 1 ByteE wr u3 acc := ho.at (by omega)
          obtain ⟨wx, hwx⟩ : ∃ wx, wx = wr.alloc (.cells #[.string pk, .string pvv, .bool pd] 35) := ⟨_, rfl⟩
          have x0 : wx.cell? ⟨wr.heap.size, 0, none⟩ = some (.string pk) := by rw [hwx]; simp
          have x1' : wx.cell? ⟨wr.heap.size, 1, none⟩ = some (.string pvv) := by rw [hwx]; simp
          have x2' : wx.cell? ⟨wr.heap.size, 2, none⟩ = some (.bool pd) := by rw [hwx]; simp
          have hbx : Below wr.heap.size wr wx := by rw [hwx]; exact below_new _ _
          rw [← hwx]
          clear hwx d0 d1 d2
          have hox := ho1.mono ByteE.mono hbx
          have hlC : (acc ++ strS pk).length ≤ 7100100 := by have := strS_length pk; rw [List.length_append]; omega
          have hT : ∀ W, Below wx.heap.size wx W → Calls Tryz.prog 73 #[u3, .string pk] W (OutB W (acc ++ strS pk)) := fun W hW => by
            have := rstr_any u3 acc pk W (hox.mono ByteE.mono hW) (by omega) (by omega)
            rw [List.append_assoc] at this; exact this
          have hF : ∀ W v n, OwnB W n v (acc ++ strS pk) → Calls Tryz.prog 71 #[v, .bool pd] W (OutB W (acc ++ strS pk ++ flagS pd)) := fun W v n h => rflag_any v _ pd W (h.at (by omega)) (by omega)
          have hnx : w.heap.size ≤ wx.heap.size := Nat.le_trans hbr.size hbx.size
          go_cut [3] (fun v wy => OwnB wy w.heap.size v (acc ++ strS pk ++ flagS pd) ∧ Below wx.heap.size wx wy)
          case first => as_aux_lemma =>
            go_region_held3 (fun w' => w'.cell? ⟨wr.heap.size, 0, none⟩ = some (.string pk) ∧ w'.cell? ⟨wr.heap.size, 2, none⟩ = some (.bool pd) ∧ Below wx.heap.size wx w')
              (first
                | (exact ⟨by simpa using x0, by simpa using x2', (Below.refl _ _).drew⟩)
                | (go_split_ands; exact ⟨bcell hb2 (by assumption), bcell hb2 (by assumption), below_trans (by assumption) hb2⟩)
                | (go_split_ands; exact ⟨bcell hb1 (by assumption), bcell hb1 (by assumption), below_trans (by assumption) hb1⟩))
              (first
                | (go_at_call 73; refine (hT _ (by go_split_ands; assumption)).mono ?_; rintro e w1 ⟨v1, rfl, hown1, hb1⟩)
                | (go_at_call 71; refine (hF w1 v1 _ hown1).mono ?_; rintro e w2 ⟨v2, rfl, hown2, hb2⟩))
            go_wp2_with fail
            go_meet
            case rel =>
              have h1 : Below wx.heap.size wx w1 := below_trans (Below.refl _ _).drew hb1
              exact ⟨hown2.base (Nat.le_trans hnx h1.size), below_trans h1 hb2⟩
          case rest => as_aux_lemma =>
            obtain ⟨hoc, hbc⟩ := hcut
            obtain ⟨we, rfl⟩ : ∃ we : World, we = wc := ⟨_, rfl⟩
            have y1 := bcell hbc x1'
            have y2 := bcell hbc x2'
            have hlD : (acc ++ strS pk ++ flagS pd).length ≤ 7100101 := by unfold flagS; rw [List.length_append, List.length_singleton]; omega
            have hT3 := rstr_any u3 _ pvv we (hoc.at (by omega)) (by omega) (by omega)
            rw [List.append_assoc _ (numS pvv.size)] at hT3
            have hne : w.heap.size ≤ we.heap.size := Nat.le_trans hnx hbc.size
            have hbw7 : Below w7.heap.size w7 we := below_trans (below_trans hb hbx) hbc
            clear hF hT x0 x1' x2' hox ho1 ho
            cases pd with
            | true =>
              go_wp2_with fail
              go_roundg (ws.length - (k + 1))
              case measure => omega
              case rel => exact ⟨k + 1, hlt, by omega, by go_num, hbw7, by
                rw [Htk.out, ← List.append_assoc, HB.out]
                simpa [writeB] using hoc⟩
            | false =>
              go_wp2_with (go_at_call 73; refine hT3.mono ?_; rintro e w8 ⟨v8, rfl, hown8, hb8⟩)
              go_roundg (ws.length - (k + 1))
              case measure => omega
              case rel => exact ⟨k + 1, hlt, by omega, by go_num, below_trans hbw7 hb8, by
                rw [Htk.out, ← List.append_assoc, HB.out]
                have h8 := hown8.base (base' := w.heap.size) hne
                simpa [writeB, strS] using h8⟩
        · have : k = ws.length := by omega
          subst this
          rw [List.take_length] at ho
          clear hcellsw
          go_wp2_with fail
          go_ret
          have e9 : accA ++ ws.flatMap writeB = bytesS ⟨se, sp, st, rd, ws⟩ := by
            rw [← HA.out, ← hhead.out]; rfl
          rw [e9] at ho
          exact ⟨_, rfl, ho, below_trans hb7w hb⟩

end Go.Proofs.YtgmcpfcpdmnebaaGreat
