/- DirKeeps, walked. -/
import Derived.Test.YtnpnchociegmpaaDoorDirKp
namespace Go.Proofs.YtnpnchociegmpaaDoor
open Go.RowKit Go.Proofs Go.Shelf
attribute [local go_sem ↓] Go.wp_at_zero Go.wp_at_succ

def keepN : ByteArray := ⟨#[107, 101, 101, 112]⟩
theorem good_keep : goodNameS keepN = true := by
  unfold goodNameS keepN
  rw [ByteArray.toList_eq]
  decide

/-- What stays true in the loop of DirKeeps: the file keep has its place, and the bytes. -/
structure KeepS (b : List UInt8) (e0 : Nat × Nat) (safe cur : List UInt8) (now saved : Files) : Prop where
  now : fget now keepN = some e0
  saved : fget saved keepN = some e0
  two : e0.2 = 2
  len : b.length ≤ 64
  safe : seg safe (32 * e0.1) b.length = b
  cur : seg cur (32 * e0.1) b.length = b

def KeepR (w0 : World) (b : List UInt8) (X D k : Nat) (wr : World) : Prop := ∃ (K : Nat → Prop) (safe cur : List UInt8) (now saved : Files) (epoch which : Nat) (e0 : Nat × Nat),
  DirL w0 wr K X D 100 safe cur now saved epoch which ∧ KeepS b e0 safe cur now saved ∧ epoch ≤ 2 + k

section
variable {b : List UInt8} {e0 : Nat × Nat} {n : Nat} {safe cur : List UInt8} {now saved : Files} {epoch which : Nat}

theorem KeepS.make (h : KeepS b e0 safe cur now saved) (hok : DOK n safe cur now saved epoch which) {s : ByteArray} {c : Int} {r : Option (Nat × Nat)} (hm : MakeS now saved n s c r) : KeepS b e0 safe (makeCur cur r) (makeNow now s r) saved := by
  cases r with
  | none => exact h
  | some f =>
    obtain ⟨h1, h2⟩ := make_apart hok hm h.now
    have h3 := h.two
    have h4 := h.len
    refine ⟨fget_append h.now _, h.saved, h.two, h.len, h.safe, ?_⟩
    show seg (splice _ _ _) _ _ = _
    rw [seg_far h2 (by simp only [zerosB, List.length_replicate]; omega)]
    exact h.cur

theorem KeepS.remove (h : KeepS b e0 safe cur now saved) {s : ByteArray} (hs : keepN ≠ s) : KeepS b e0 safe cur (if (fget now s).isSome = true then fdel now s else now) saved := by
  split
  · exact ⟨by rw [fget_del_ne hs]; exact h.now, h.saved, h.two, h.len, h.safe, h.cur⟩
  · exact h

theorem KeepS.write (h : KeepS b e0 safe cur now saved) (hok : DOK n safe cur now saved epoch which) {s : ByteArray} (hs : keepN ≠ s) (a : Int) (bs : List UInt8) : KeepS b e0 safe (wrCur cur (wrS now s a bs.length) bs) now saved := by
  cases hw : wrS now s a bs.length with
  | none => exact h
  | some q =>
    obtain ⟨h1, h2⟩ := write_apart hok hs h.now hw
    have h3 := h.two
    have h4 := h.len
    refine ⟨h.now, h.saved, h.two, h.len, h.safe, ?_⟩
    show seg (splice _ _ _) _ _ = _
    rw [seg_far h2 (by omega)]
    exact h.cur

theorem KeepS.save (h : KeepS b e0 safe cur now saved) (hok : DOK n safe cur now saved epoch which) (he : epoch ≤ 1000000000000) : KeepS b e0 (saveS cur which epoch now) (saveS cur which epoch now) now now := by
  have h1 := hok.gnow.ext_ok h.now
  have h2 : seg (saveS cur which epoch now) (32 * e0.1) b.length = b := by rw [save_apart hok he (by omega)]; exact h.cur
  exact ⟨h.now, h.now, h.two, h.len, h2, h2⟩
end

theorem bytes_neq {s : ByteArray} (h : ¬ s.toList = [107, 101, 101, 112]) : keepN ≠ s := fun e => h (by
  rw [← e, ByteArray.toList_eq]; rfl)

set_option maxRecDepth 100000 in
set_option maxHeartbeats 4000000 in
theorem dirKeeps_any (vb v : Value) (b : List UInt8) (l : List Act24) (w : World) (hvb : SlP 1 ByteE w vb b) (hv : SlP 6 ActE w v l) (hN : Nib w) : Calls Tryd.prog 5 #[vb, v] w (Gives w (.bool true)) := by
  have hnew := new_any w 100 (by omega) (by omega)
  obtain ⟨F, hform⟩ := start_new w hN
  have Hf := Lib.hid hform
  have hlight := fun W (hb : Below w.heap.size w W) => light_any v l W (hv.mono ActE.mono hb)
  have Hli := Lib.hid hlight
  have hliv := fun W (hb : Below w.heap.size w W) => lives_any W (hN.below hb)
  have Hlv := Lib.hid hliv
  have HN := Lib.hid hN
  have Hvb := Lib.hid hvb
  obtain ⟨qv, cv, rfl, hbl⟩ := bytes_len hvb
  obtain ⟨q, cap, rfl, hlc, hcap, -, hcells⟩ := hv
  have Hc := Lib.hid hcells
  clear hform hlight hliv hN hcells hvb
  generalize zeros (32 * 100) = Z at *
  by_cases h64 : (64 : Int) < (b.length : Int)
  · go_enter Tryd.func5, Tryd.ntmps5
    go_upto_region 3 with (first
      | (go_at_call 7; refine hnew.mono ?_; rintro e w1 ⟨D, rfl, hd1, hb1⟩)
      | (go_at_call 8; refine (Hf.out w1 D hd1 hb1).mono ?_; rintro e w2 ⟨X, rfl, hL2⟩)
      | fail)
    have hb2 := hL2.below
    have hliv2 := Hlv.out w2 hb2
    clear hL2 hnew hd1
    go_wp2_with (first
      | (go_at_call 10; refine hliv2.mono ?_; rintro e w4 ⟨rfl, hb4⟩)
      | fail)
    go_ret
    exact ⟨rfl, below_trans hb2 hb4⟩
  · go_enter Tryd.func5, Tryd.ntmps5
    go_upto_region 3 with (first
      | (go_at_call 7; refine hnew.mono ?_; rintro e w1 ⟨D, rfl, hd1, hb1⟩)
      | (go_at_call 8; refine (Hf.out w1 D hd1 hb1).mono ?_; rintro e w2 ⟨X, rfl, hL2⟩)
      | fail)
    clear hnew hd1
    have hb2 := hL2.below
    have hli2 := Hli.out w2 hb2
    unfold LightOut at hli2
    have HL2 := Lib.hid hL2
    clear hL2
    go_upto_region 5 with (first
      | (go_at_call 9; refine hli2.mono ?_; rintro e w3 ⟨r, rfl, hr, hb3⟩; have hliv3 := Hlv.out w3 (below_trans hb2 hb3))
      | (go_at_call 10; refine hliv3.mono ?_; rintro e w4 ⟨rfl, hb4⟩)
      | fail)
    · go_ret
      exact ⟨rfl, below_trans (below_trans hb2 hb3) hb4⟩
    · have hr1 : r = true := by
        obtain ⟨-, h⟩ : (b.length : Int) ≤ 64 ∧ (!r) = false := by assumption
        simpa using h
      subst hr1
      have h50 := hr rfl
      rw [show (!true) = false from rfl]
      have hL3 := HL2.out.more hb3
      clear hli2 hliv3
      have hmk : Calls Tryd.prog 11 #[.pointer (some ⟨X, 0, none⟩), .string ⟨#[107, 101, 101, 112]⟩, .int .i64 2] w3 (fun e w' => e = .returned (.int .i64 0) ∧ ∃ e1 : Nat × Nat, e1.2 = 2 ∧ ∃ cur, DirL w w' (fun k => k < w.heap.size) X D 100 F cur [(keepN, e1)] [] 1 0) := by
        refine (lmake hL3 keepN (by decide) 2 (by unfold I64; omega)).mono ?_
        rintro e w' ⟨x, r, rfl, hx, hm, hL, hk⟩
        have hs := make_first (c := 2) good_keep (by omega) (by omega) hm
        obtain ⟨e1, rfl⟩ := Option.isSome_iff_exists.1 hs
        obtain rfl := hx.2 hs
        obtain ⟨-, -, -, h4, -, -⟩ := hm
        exact ⟨rfl, e1, by omega, _, hL⟩
      have hsv := fun W (e1 : Nat × Nat) cur (h : DirL w W (fun k => k < w.heap.size) X D 100 F cur [(keepN, e1)] [] 1 0) => lsave h HN.out (by omega)
      have hwr : ∀ W (e1 : Nat × Nat) (safe : List UInt8) ep wh, e1.2 = 2 → DirL w W (fun k => k < w.heap.size) X D 100 safe safe [(keepN, e1)] [(keepN, e1)] ep wh → Calls Tryd.prog 13 #[.pointer (some ⟨X, 0, none⟩), .string ⟨#[107, 101, 101, 112]⟩, .int .i64 0, .slice qv b.length cv] W
          (fun e w' => e = .returned (.int .i64 0) ∧ ∃ cur, seg cur (32 * e1.1) b.length = b ∧ DirL w w' (fun k => k < w.heap.size) X D 100 safe cur [(keepN, e1)] [(keepN, e1)] ep wh) := fun W e1 safe ep wh h2 h => by
        refine (lwrite h keepN 0 (by unfold I64; omega) _ b Hvb.out).mono ?_
        rintro e w' ⟨x, rfl, hx, hL, hk⟩
        have hw : wrS [(keepN, e1)] keepN 0 b.length = some (32 * e1.1) := by
          unfold wrS
          have : fget [(keepN, e1)] keepN = some e1 := by simp [fget]
          rw [this]
          dsimp only
          rw [if_pos (by omega)]
          simp
        rw [hw] at hx hL
        obtain rfl := hx.2 rfl
        have hin := h.ok.gnow.each (keepN, e1) (by simp)
        have hll := h.ok.lens.2
        dsimp only at hin
        exact ⟨rfl, _, seg_here (by omega), hL⟩
      have hsy := fun W (e1 : Nat × Nat) safe cur ep wh (h : DirL w W (fun k => k < w.heap.size) X D 100 safe cur [(keepN, e1)] [(keepN, e1)] ep wh) => lsync h
      have Hsv := Lib.hid hsv
      have Hwr := Lib.hid hwr
      have Hsy := Lib.hid hsy
      clear hsv hwr hsy
      go_upto_region 7 with (first
        | (go_at_call 11; refine hmk.mono ?_; rintro e w4 ⟨rfl, e1, he1, cur4, hL4⟩; have hsv4 := Hsv.out w4 e1 cur4 hL4)
        | (go_at_call 14; refine hsv4.mono ?_; clear hsv4; rintro e w5 ⟨rfl, hL5, -⟩; have hwr5 := Hwr.out w5 e1 _ _ _ he1 hL5)
        | (go_at_call 13; refine hwr5.mono ?_; clear hwr5; rintro e w6 ⟨rfl, cur6, hseg6, hL6⟩; have hsy6 := Hsy.out w6 e1 _ _ _ _ hL6)
        | (go_at_call 24; refine hsy6.mono ?_; clear hsy6; rintro e w7 ⟨rfl, hL7, -⟩)
        | fail)
      have hks : KeepS b e1 cur6 cur6 [(keepN, e1)] [(keepN, e1)] := ⟨by simp [fget], by simp [fget], he1, by omega, hseg6, hseg6⟩
      have HL7 := Lib.hid hL7
      clear hL3 hL4 hL5 hL6 hL7 hmk Hsv Hwr Hsy
      go_wp2_with fail
      go_loopw [58, 9] (fun i _ wr => ∃ k : Nat, k ≤ l.length ∧ i = .int .i64 k ∧ KeepR w b X D k wr) (fun i _ _ => l.length - (intOf i).toNat)
      case atStart => exact ⟨0, Nat.zero_le _, rfl, _, _, _, _, _, _, _, _, HL7.out, hks, by omega⟩
      case round =>
        obtain ⟨k, hk, rfl, K, safe, cur, now, saved, epoch, which, e0, hL, hK, hep⟩ := hrel
        have hbw := hL.below
        by_cases hlt : k < l.length
        · obtain ⟨g, off, cs, rfl, hcs, he, hc⟩ := Hc.out k hlt
          obtain ⟨bv, kv, rfl, hi1, hi2, hi3, hnm, hbv, hkv⟩ := he
          obtain ⟨qb, cb, rfl, hbl2⟩ := bytes_len hbv
          obtain ⟨qk, ck, rfl⟩ := int_len hkv
          have c0 := bcell hbw (hc 0 (by simp))
          have c1 := bcell hbw (hc 1 (by simp))
          have c2 := bcell hbw (hc 2 (by simp))
          have c3 := bcell hbw (hc 3 (by simp))
          have c4 := bcell hbw (hc 4 (by simp))
          have c5 := bcell hbw (hc 5 (by simp))
          simp only [List.getElem_cons_zero, List.getElem_cons_succ, Nat.add_zero] at c0 c1 c2 c3 c4 c5
          have n0 : (0 : Int) ≤ (k : Int) := by omega
          have n1 : (k : Int) < (l.length : Int) := by omega
          clear hc hkv hcs
          generalize l[k] = a at *
          obtain ⟨kd, at_, n, nm, bs, ks⟩ := a
          dsimp only at *
          go_upto_region 10 with fail
          generalize hW2 : World.alloc wr _ = w5
          have hb5 : Below wr.heap.size wr w5 := by rw [← hW2]; exact below_new _ _
          have f0 : w5.cell? ⟨wr.heap.size, 0, none⟩ = some (.int .i64 kd) := by rw [← hW2]; simp
          have f1 : w5.cell? ⟨wr.heap.size, 1, none⟩ = some (.int .i64 at_) := by rw [← hW2]; simp
          have f2 : w5.cell? ⟨wr.heap.size, 2, none⟩ = some (.int .i64 n) := by rw [← hW2]; simp
          have f3 : w5.cell? ⟨wr.heap.size, 3, none⟩ = some (.string nm) := by rw [← hW2]; simp
          have f4 : w5.cell? ⟨wr.heap.size, 4, none⟩ = some (.slice qb bs.length cb) := by rw [← hW2]; simp
          clear hW2 c0 c1 c2 c3 c4 c5
          have hL5 := hL.more hb5
          have HL5 := Lib.hid hL5
          have HK := Lib.hid hK
          have hep1 : epoch ≤ 52 := by omega
          clear hL hL5 hK
          by_cases hname : (nm.toList == [107, 101, 101, 112]) = true
          · go_wp2_with fail
            go_roundw
            case rel => exact ⟨k + 1, hlt, by go_num, _, _, _, _, _, _, _, _, HL5.out, HK.out, by omega⟩
            case measure => simp [intOf]; omega
          · have Hne := Lib.hid (bytes_neq (fun e => hname (by rw [e]; rfl)))
            have hname2 : (nm.toList == [107, 101, 101, 112]) = false := by cases h : (nm.toList == [107, 101, 101, 112]) with
              | true => exact absurd h hname
              | false => rfl
            clear hname
            by_cases k0 : kd = 0
            · subst k0
              have hcall := lmake HL5.out nm hnm n hi3
              go_wp2_with (first
                | (go_at_call 11; refine hcall.mono ?_; rintro e w6 ⟨x, r, rfl, hx, hms, hL6, hk6⟩)
                | fail)
              go_roundw
              case rel => exact ⟨k + 1, hlt, by go_num, _, _, _, _, _, _, _, _, hL6, HK.out.make HL5.out.ok hms, by omega⟩
              case measure => simp [intOf]; omega
            · by_cases k1 : kd = 1
              · subst k1
                have hcall := lremove HL5.out nm
                go_wp2_with (first
                  | (go_at_call 12; refine hcall.mono ?_; rintro e w6 ⟨x, rfl, hx, hL6, hk6⟩)
                  | fail)
                go_roundw
                case rel => exact ⟨k + 1, hlt, by go_num, _, _, _, _, _, _, _, _, hL6, HK.out.remove Hne.out, by omega⟩
                case measure => simp [intOf]; omega
              · by_cases k2 : kd = 2
                · subst k2
                  have hcall := lwrite HL5.out nm at_ hi2 _ bs hbv
                  go_wp2_with (first
                    | (go_at_call 13; refine hcall.mono ?_; rintro e w6 ⟨x, rfl, hx, hL6, hk6⟩)
                    | fail)
                  go_roundw
                  case rel => exact ⟨k + 1, hlt, by go_num, _, _, _, _, _, _, _, _, hL6, HK.out.write HL5.out.ok Hne.out at_ bs, by omega⟩
                  case measure => simp [intOf]; omega
                · by_cases k5 : kd = 5
                  · subst k5
                    have hcall := lsave HL5.out HN.out (by omega)
                    go_wp2_with (first
                      | (go_at_call 14; refine hcall.mono ?_; rintro e w6 ⟨rfl, hL6, hk6⟩)
                      | fail)
                    go_roundw
                    case rel => exact ⟨k + 1, hlt, by go_num, _, _, _, _, _, _, _, _, hL6, HK.out.save HL5.out.ok (by omega), by omega⟩
                    case measure => simp [intOf]; omega
                  · go_wp2_with fail
                    go_roundw
                    case rel => exact ⟨k + 1, hlt, by go_num, _, _, _, _, _, _, _, _, HL5.out, HK.out, by omega⟩
                    case measure => simp [intOf]; omega
        · have hke : k = l.length := by omega
          subst hke
          obtain ⟨K', hKK', hcr⟩ := lcrash hL
          have hep1 : epoch ≤ 52 := by omega
          clear hL
          go_upto_region 23 with (first
            | (go_at_call 16; refine hcr.mono ?_; rintro e w6 ⟨rfl, hk6, hstart⟩)
            | (go_at_call 17; refine hstart.mono ?_; rintro e w8 ⟨rfl, hk8, hlt8, hd8, hL8⟩)
            | fail)
          have hop8 := hL8.ok.opens (by omega)
          have hopn := opend_any w8 K' D 100 safe safe hd8 hlt8 (HN.out.below hL8.below) (by omega)
          unfold OpenDOut at hopn
          rw [hop8] at hopn
          have hgs := hL8.ok.gsaved
          have hb08 := hL8.below
          clear hcr hstart hd8 hop8 hL8
          go_upto_region 24 with (first
            | (go_at_call 18; refine hopn.mono ?_; rintro e w9 ⟨hb9, Y, rfl, hY, hy9⟩)
            | fail)
          have hgsort : ∀ x ∈ sortF saved, x.2.1 + x.2.2 ≤ 100 := fun x hx => by
            unfold sortF at hx
            obtain ⟨s, hs, rfl⟩ := List.mem_map.1 hx
            have := hgs.okE hs
            unfold okE at this
            simp only [Bool.and_eq_true, decide_eq_true_eq] at this
            dsimp only; omega
          have hrd := dread_any w9 _ Y D 100 safe safe (sortF saved) (sortF saved) epoch which hy9 hgsort keepN 0 b.length (by omega) (by omega)
          have hw : wrS (sortF saved) keepN 0 b.length = some (32 * e0.1) := by
            unfold wrS
            rw [fget_sortF hK.saved]
            dsimp only
            have := hK.two
            rw [if_pos (by omega)]
            simp
          have hsg : (safe.drop (32 * e0.1)).take (b.length : Int).toNat = b := by
            rw [Int.toNat_natCast]
            exact hK.safe
          have hrd2 : Calls Tryd.prog 22 #[.pointer (some ⟨Y, 0, none⟩), .string ⟨#[107, 101, 101, 112]⟩, .int .i64 0, .int .i64 b.length] w9 (fun e w' => ∃ (v : Value) (x : Int), e = .returned (.tuple #[v, .int .i64 x]) ∧ Below w9.heap.size w9 w' ∧ x = 0 ∧ OwnB w' w9.heap.size v b) := by
            refine hrd.mono ?_
            rintro e w' ⟨v, x, rfl, hb, hm⟩
            rw [hw] at hm
            obtain ⟨rfl, hown⟩ := hm
            rw [hsg] at hown
            exact ⟨v, 0, rfl, hb, rfl, hown⟩
          have hb09 := below_trans hb08 hb9
          have hcv := fun W (hb : Below w.heap.size w W) => conv_bytes (Hvb.out.mono ByteE.mono hb)
          have Hcv := Lib.hid hcv
          clear hcv hrd hopn hy9 hsg hw hgsort hgs hK
          go_upto_region 25 with (first
            | (go_at_call 22; refine hrd2.mono ?_; rintro e w10 ⟨vr, x, rfl, hb10, rfl, hown10⟩)
            | fail)
          have hb010 := below_trans hb09 hb10
          have cv1 := conv_bytes (hown10.at (by omega))
          have cv2 := Hcv.out w10 hb010
          have hlv10 := Hlv.out w10 hb010
          generalize (⟨b.toArray⟩ : ByteArray) = bstr at *
          go_wp2_with (first
            | (go_at_call 10; refine hlv10.mono ?_; rintro e w13 ⟨rfl, hb13⟩)
            | fail)
          go_ret
          exact ⟨rfl, below_trans hb010 hb13⟩

end Go.Proofs.YtnpnchociegmpaaDoor
