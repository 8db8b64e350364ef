/- DirSaves, walked. -/
import Derived.Test.YtnpnchociegmpaaDoorDirSv
namespace Go.Proofs.YtnpnchociegmpaaDoor
open Go.RowKit Go.Proofs Go.Shelf
attribute [local go_sem ↓] Go.wp_at_zero Go.wp_at_succ

/-- What stays true in the loop of DirSaves. -/
def SavesR (w0 : World) (X D k : Nat) (sv : Value) (ep : Int) (wr : World) : Prop := ∃ (K : Nat → Prop) (safe cur : List UInt8) (now saved : Files) (epoch which : Nat),
  DirL w0 wr K X D 100 safe cur now saved epoch which ∧ StrsK K wr sv (namesS saved) ∧ ep = (epoch : Int) ∧ epoch ≤ 1 + k

theorem lnames {w : World} {K : Nat → Prop} {X D n : Nat} {safe cur : List UInt8} {off : Bool} {now saved : Files} {epoch which : Nat} (h : DirAt w K X D n safe cur off now saved epoch which) (hl : now.length ≤ 10) :
    Calls Tryd.prog 15 #[.pointer (some ⟨X, 0, none⟩)] w (fun e w' => ∃ v, e = .returned v ∧ StrsAt w' v (namesS now) ∧ w'.ownsRow w.heap.size 9 1 v (namesS now).length ((namesS now).map encStr) ∧ Below w.heap.size w w') := by
  refine (dnames_any w K X D n safe cur off now saved epoch which h).mono ?_
  rintro e w' ⟨v, rfl, hrow, hb⟩
  exact ⟨v, rfl, StrsAt.of_row hrow (by rw [names_len]; omega), hrow, hb⟩

set_option maxRecDepth 100000 in
set_option maxHeartbeats 4000000 in
theorem dirSaves_any (v : Value) (l : List Act24) (w : World) (hv : SlP 6 ActE w v l) (hN : Nib w) : Calls Tryd.prog 3 #[v] w (Gives w (.bool true)) := by
  have hnew := new_any w 100 (by omega) (by omega)
  obtain ⟨F, hform⟩ := start_new w hN
  have Hf := Lib.hid hform
  have hlight := fun W (hb : Below w.heap.size w W) => light_any v l W (hv.mono ActE.mono hb)
  have Hli := Lib.hid hlight
  have hliv := fun W (hb : Below w.heap.size w W) => lives_any W (hN.below hb)
  have Hlv := Lib.hid hliv
  have HN := Lib.hid hN
  obtain ⟨q, cap, rfl, hlc, hcap, -, hcells⟩ := hv
  have Hc := Lib.hid hcells
  clear hform hlight hliv hN hcells
  generalize zeros (32 * 100) = Z at *
  go_enter Tryd.func3, Tryd.ntmps3
  go_upto_region 3 with (first
    | (go_at_call 7; refine hnew.mono ?_; rintro e w1 ⟨D, rfl, hd1, hb1⟩)
    | (go_at_call 8; refine (Hf.out w1 D hd1 hb1).mono ?_; rintro e w2 ⟨X, rfl, hL2⟩)
    | fail)
  clear hnew hd1
  have hb2 := hL2.below
  have hli2 := Hli.out w2 hb2
  unfold LightOut at hli2
  have HL2 := Lib.hid hL2
  clear hL2
  go_wp2_with (first
    | (go_at_call 9; refine hli2.mono ?_; rintro e w3 ⟨r, rfl, hr, hb3⟩; have hliv3 := Hlv.out w3 (below_trans hb2 hb3))
    | (go_at_call 10; refine hliv3.mono ?_; rintro e w4 ⟨rfl, hb4⟩)
    | fail)
  · go_ret
    exact ⟨rfl, below_trans (below_trans hb2 hb3) hb4⟩
  · have hr1 : r = true := by
      have h : (!r) = false := by assumption
      simpa using h
    subst hr1
    have h50 := hr rfl
    rw [show (!true) = false from rfl]
    have hL3 := HL2.out.more hb3
    clear hli2 hliv3
    go_loopw [32, 6, 7, 9] (fun i sv ep _ wr => ∃ (k : Nat) (epi : Int), k ≤ l.length ∧ i = .int .i64 k ∧ ep = .int .i64 epi ∧ SavesR w X D k sv epi wr) (fun i _ _ _ _ => l.length - (intOf i).toNat)
    case atStart => exact ⟨0, 1, Nat.zero_le _, rfl, rfl, _, _, _, _, _, _, _, hL3, ⟨⟨none, 0, by simp [namesS], by simp [namesS], fun j hj => by simp [namesS] at hj⟩, fun h => by simp [namesS] at h⟩, rfl, by omega⟩
    case round =>
      obtain ⟨k, epi, hk, rfl, rfl, K, safe, cur, now, saved, epoch, which, hL, hst, rfl, hep⟩ := hrel
      have hbw := hL.below
      by_cases hlt : k < l.length
      · obtain ⟨b, off, cs, rfl, hcs, he, hc⟩ := Hc.out k hlt
        obtain ⟨bv, kv, rfl, hi1, hi2, hi3, hnm, hbv, hkv⟩ := he
        obtain ⟨qb, cb, rfl, hbl⟩ := bytes_len hbv
        obtain ⟨qk, ck, rfl⟩ := int_len hkv
        have c0 := bcell hbw (hc 0 (by simp))
        have c1 := bcell hbw (hc 1 (by simp))
        have c2 := bcell hbw (hc 2 (by simp))
        have c3 := bcell hbw (hc 3 (by simp))
        have c4 := bcell hbw (hc 4 (by simp))
        have c5 := bcell hbw (hc 5 (by simp))
        simp only [List.getElem_cons_zero, List.getElem_cons_succ, Nat.add_zero] at c0 c1 c2 c3 c4 c5
        have n0 : (0 : Int) ≤ (k : Int) := by omega
        have n1 : (k : Int) < (l.length : Int) := by omega
        clear hc hkv hcs
        generalize l[k] = a at *
        obtain ⟨kd, at_, n, nm, bs, ks⟩ := a
        dsimp only at *
        go_upto_region 10 with fail
        generalize hW2 : World.alloc wr _ = w5
        have hb5 : Below wr.heap.size wr w5 := by rw [← hW2]; exact below_new _ _
        have f0 : w5.cell? ⟨wr.heap.size, 0, none⟩ = some (.int .i64 kd) := by rw [← hW2]; simp
        have f1 : w5.cell? ⟨wr.heap.size, 1, none⟩ = some (.int .i64 at_) := by rw [← hW2]; simp
        have f2 : w5.cell? ⟨wr.heap.size, 2, none⟩ = some (.int .i64 n) := by rw [← hW2]; simp
        have f3 : w5.cell? ⟨wr.heap.size, 3, none⟩ = some (.string nm) := by rw [← hW2]; simp
        have f4 : w5.cell? ⟨wr.heap.size, 4, none⟩ = some (.slice qb bs.length cb) := by rw [← hW2]; simp
        clear hW2 c0 c1 c2 c3 c4 c5
        have hL5 := hL.more hb5
        have hst5 := hst.kept (kept_of_below hb5 hL.lt)
        have HL5 := Lib.hid hL5
        have Hst5 := Lib.hid hst5
        have hep1 : epoch ≤ 51 := by omega
        clear hL hL5 hst hst5
        by_cases k0 : kd = 0
        · subst k0
          have hcall := lmake HL5.out nm hnm n hi3
          go_wp2_with (first
            | (go_at_call 11; refine hcall.mono ?_; rintro e w6 ⟨x, r, rfl, hx, hms, hL6, hk6⟩)
            | fail)
          go_roundw
          case rel => exact ⟨k + 1, epoch, hlt, by go_num, rfl, _, _, _, _, _, _, _, hL6, Hst5.out.kept hk6, rfl, by omega⟩
          case measure => simp [intOf]; omega
        · by_cases k1 : kd = 1
          · subst k1
            have hcall := lremove HL5.out nm
            go_wp2_with (first
              | (go_at_call 12; refine hcall.mono ?_; rintro e w6 ⟨x, rfl, hx, hL6, hk6⟩)
              | fail)
            go_roundw
            case rel => exact ⟨k + 1, epoch, hlt, by go_num, rfl, _, _, _, _, _, _, _, hL6, Hst5.out.kept hk6, rfl, by omega⟩
            case measure => simp [intOf]; omega
          · by_cases k2 : kd = 2
            · subst k2
              have hcall := lwrite HL5.out nm at_ hi2 _ bs hbv
              go_wp2_with (first
                | (go_at_call 13; refine hcall.mono ?_; rintro e w6 ⟨x, rfl, hx, hL6, hk6⟩)
                | fail)
              go_roundw
              case rel => exact ⟨k + 1, epoch, hlt, by go_num, rfl, _, _, _, _, _, _, _, hL6, Hst5.out.kept hk6, rfl, by omega⟩
              case measure => simp [intOf]; omega
            · by_cases k5 : kd = 5
              · subst k5
                have hcall := lsave HL5.out HN.out (by omega)
                have e1 : IntKind.i64.wrap ((epoch : Int) + 1) = ((epoch + 1 : Nat) : Int) := by rw [IntWalk.i64_in _ (by omega)]; omega
                go_upto_region 20 with (first
                  | (go_at_call 14; refine hcall.mono ?_; rintro e w6 ⟨rfl, hL6, hk6⟩)
                  | fail)
                have hnmc := lnames hL6.at_ hL6.ok.gnow.few
                go_wp2_with (first
                  | (go_at_call 15; refine hnmc.mono ?_; rintro e w7 ⟨v7, rfl, hst7, hrow7, hb7⟩)
                  | fail)
                go_roundw
                case rel =>
                  have hl7 : (namesS now).length ≤ 1000000 := by rw [names_len]; have := hL6.ok.gnow.few; omega
                  obtain ⟨K', hs', h1, h2, h3⟩ := names_kept (K := K) (w := w6) hrow7 hl7 (Nat.le_refl _)
                  have hL7 := hL6.more hb7
                  refine ⟨k + 1, epoch + 1, hlt, by go_num, by simp, K', _, _, _, _, _, _, ⟨(hL6.at_.more h2).below hb7, hL6.ok, fun k hk => h1 k (hL6.base k hk), fun k hk => ?_, hL7.below⟩, hs', by simp, by omega⟩
                  rcases h3 k hk with h | h
                  · exact hL7.lt k h
                  · exact h
                case measure => simp [intOf]; omega
              · go_wp2_with fail
                go_roundw
                case rel => exact ⟨k + 1, epoch, hlt, by go_num, rfl, _, _, _, _, _, _, _, HL5.out, Hst5.out, rfl, by omega⟩
                case measure => simp [intOf]; omega
      · have hke : k = l.length := by omega
        subst hke
        obtain ⟨K', hKK', hcr⟩ := lcrash hL
        have hep1 : epoch ≤ 51 := by omega
        clear hL
        go_upto_region 25 with (first
          | (go_at_call 16; refine hcr.mono ?_; rintro e w6 ⟨rfl, hk6, hstart⟩)
          | (go_at_call 17; refine hstart.mono ?_; rintro e w7 ⟨rfl, hk7, hlt7, hd7, hL7⟩)
          | fail)
        have hop7 := hL7.ok.opens (by omega)
        have hopn := opend_any w7 K' D 100 safe safe hd7 hlt7 (HN.out.below hL7.below) (by omega)
        unfold OpenDOut at hopn
        rw [hop7] at hopn
        have hst7 := (hst.kept hk7).1
        have hfew := hL7.ok.gsaved.few
        have HL7 := Lib.hid hL7
        clear hcr hstart hd7 hop7 hL7 hst
        go_upto_region 26 with (first
          | (go_at_call 18; refine hopn.mono ?_; rintro e w8 ⟨hb8, Y, rfl, hY, hy8⟩)
          | fail)
        have hnmc := lnames hy8 (by rw [sort_len]; exact hfew)
        rw [names_sort] at hnmc
        have htx := fun W u v (h1 : StrsAt W u (namesS saved)) (h2 : StrsAt W v (namesS saved)) => texts_any u v (namesS saved) W h1 h2
        have hey := fun W (hb : Below w8.heap.size w8 W) => epoch_any W _ Y D 100 safe safe false _ _ epoch which (hy8.below hb)
        have hex := fun W (hb : Below w7.heap.size w7 W) => epoch_any W _ X D 100 safe safe false _ _ epoch which (HL7.out.at_.below hb)
        have hst8 := hst7.below hb8
        have hb78 := below_trans HL7.out.below hb8
        have Htx := Lib.hid htx
        have Hey := Lib.hid hey
        have Hex := Lib.hid hex
        have Hst8 := Lib.hid hst8
        clear htx hey hex hopn hy8 hst7 hst8
        go_wp2_with (first
          | (go_at_call 15; refine hnmc.mono ?_; rintro e w9 ⟨v9, rfl, hst9, -, hb9⟩)
          | (go_at_call 19; refine (Htx.out w9 _ _ hst9 (Hst8.out.below hb9)).mono ?_; rintro e w10 ⟨rfl, hb10⟩; have hb810 := below_trans hb9 hb10; have hey10 := Hey.out w10 hb810)
          | (go_at_call 20; refine hey10.mono ?_; clear hey10; rintro e w11 ⟨rfl, hb11⟩; have hb811 := below_trans hb810 hb11; have hex11 := Hex.out w11 (below_trans hb8 hb811))
          | (go_at_call 20; refine hex11.mono ?_; clear hex11; rintro e w12 ⟨rfl, hb12⟩; have hb012 := below_trans hb78 (below_trans hb811 hb12); have hlv12 := Hlv.out w12 hb012)
          | (go_at_call 10; refine hlv12.mono ?_; rintro e w13 ⟨rfl, hb13⟩)
          | fail)
        go_ret
        exact ⟨rfl, below_trans hb012 hb13⟩

end Go.Proofs.YtnpnchociegmpaaDoor
