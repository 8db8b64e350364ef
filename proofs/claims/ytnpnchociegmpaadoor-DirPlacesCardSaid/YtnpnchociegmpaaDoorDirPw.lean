/- DirPlaces, walked. -/
import Derived.Test.YtnpnchociegmpaaDoorDirPz
import Derived.Deep.LoopGhost
namespace Go.Proofs.YtnpnchociegmpaaDoor
open Go.RowKit Go.Proofs Go.Shelf
attribute [local go_sem ↓] Go.wp_at_zero Go.wp_at_succ

/-- What stays true in the loop of DirPlaces. -/
def PlacesR (w0 : World) (X D k : Nat) (hv : Value) (wr : World) : Prop := ∃ (K : Nat → Prop) (safe cur : List UInt8) (now saved : Files) (epoch which : Nat) (gs : List Nat),
  DirL w0 wr K X D 100 safe cur now saved epoch which ∧ HaveAt w0 wr K hv (haveS now cur) gs ∧ epoch ≤ 1 + k

theorem lnamesP {w : World} {K : Nat → Prop} {X D n : Nat} {safe cur : List UInt8} {off : Bool} {now saved : Files} {epoch which : Nat} (h : DirAt w K X D n safe cur off now saved epoch which) :
    Calls Tryd.prog 15 #[.pointer (some ⟨X, 0, none⟩)] w (fun e w' => ∃ q cap, e = .returned (.slice q now.length cap) ∧ Below w.heap.size w w') := by
  refine (dnames_any w K X D n safe cur off now saved epoch which h).mono ?_
  rintro e w' ⟨v, rfl, hrow, hb⟩
  obtain ⟨q, cap, rfl⟩ := own_slice hrow
  exact ⟨q, cap, by rw [names_len], hb⟩

theorem isSome_dec {α : Type} {x : Int} {r : Option α} {rb : Bool} (h : x = 0 ↔ r.isSome = true) (hb : rb = r.isSome) : decide (x = 0) = rb := by
  rw [hb]
  cases hr : r.isSome with
  | true => exact decide_eq_true (h.2 hr)
  | false => exact decide_eq_false fun e => by rw [h.1 e] at hr; cases hr
theorem isSome_beq {α : Type} {x : Int} {r : Option α} {rb : Bool} (h : x = 0 ↔ r.isSome = true) (hb : rb = r.isSome) : (x == (0 : Int)) = rb := by
  rw [← isSome_dec h hb]
  exact Bool.eq_iff_iff.2 (by simp)

theorem HaveAt.wide {w0 w : World} {K K' : Nat → Prop} {v : Value} {L : List (ByteArray × List UInt8)} {gs : List Nat} (h : HaveAt w0 w K v L gs) (hK : ∀ k, K k → K' k) : HaveAt w0 w K' v L gs :=
  ⟨h.len, h.row, h.blk, h.nodup, fun g hg => ⟨hK _ (h.inK g hg).1, (h.inK g hg).2⟩, fun g hg => hK _ (h.vK g hg)⟩

theorem slp_block {w : World} {g : Nat} {bs : List UInt8} (h : w.heap[g]? = some (.cells (bs.map u8).toArray 5 (0, 0))) (hl : bs.length ≤ 9223372036854775807) : SlP 1 ByteE w (.slice (some ⟨g, 0, none⟩) bs.length bs.length) bs := by
  refine ⟨_, _, rfl, Nat.le_refl _, hl, fun h => by (cases h), fun j hj => ⟨g, 0, [u8 bs[j]], rfl, rfl, rfl, fun i hi => ?_⟩⟩
  obtain rfl : i = 0 := by simpa using hi
  rw [block_cell h]
  simp only [List.getElem_cons_zero, Nat.mul_one, Nat.zero_add, Nat.add_zero, List.getElem?_toArray, List.getElem?_map, List.getElem?_eq_getElem hj, Option.map_some]

/-- The block that make made. -/
theorem made_blockN {w : World} {base g n : Nat} (h : w.ownsRow base 5 1 (.slice (some ⟨g, 0, none⟩) n n) n (madeCells (Value.int .u8 0).cells (n * 1)).toList) : w.heap[g]? = some (.cells ((zerosB n).map u8).toArray 5 (0, 0)) := by
  rcases h.2 with ⟨h1, -⟩ | ⟨g', cap, cur, h1, hb, hg, hc, -, hcs, ht⟩
  · cases h1
  · simp only [Value.slice.injEq, Option.some.injEq, Addr.mk.injEq, true_and, and_true] at h1
    obtain ⟨rfl, rfl⟩ := h1
    rw [hg]
    have e : (madeCells (Value.int .u8 0).cells (n * 1)).toList = (zerosB n).map u8 := by
      rw [Nat.mul_one]
      refine (toList_madeCells_one (.int .u8 0) n).trans ?_
      unfold zerosB
      rw [List.map_replicate]; rfl
    have hcur : cur.toList = (zerosB n).map u8 := by rw [← e, ← ht, List.take_of_length_le (by rw [Array.length_toList]; omega)]
    rw [← hcur]

theorem findV_some {now : Files} {cur : List UInt8} {s : ByteArray} {j : Nat} (h : fidx now s = some j) : findV (haveS now cur) s = (j : Int) := by
  unfold findV; rw [hidx_have, h]

theorem have_files {w0 w : World} {K : Nat → Prop} {X D : Nat} {safe cur : List UInt8} {now saved : Files} {epoch which : Nat} {v : Value} {gs : List Nat} (hL : DirL w0 w K X D 100 safe cur now saved epoch which) (hH : HaveAt w0 w K v (haveS now cur) gs) :
    ∃ q cap, v = .slice q (haveS now cur).length cap ∧ (haveS now cur).length ≤ 10 ∧ (haveS now cur).length ≤ cap ∧ ∀ m, (hm : m < (haveS now cur).length) → ∃ g gb, q = some ⟨g, 0, none⟩ ∧ w.cell? ⟨g, m * 2, none⟩ = some (.string (haveS now cur)[m].1) ∧
      w.cell? ⟨g, m * 2 + 1, none⟩ = some (.slice (some ⟨gb, 0, none⟩) (haveS now cur)[m].2.length (haveS now cur)[m].2.length) ∧ (haveS now cur)[m].2.length ≤ 3200 ∧
      SlP 1 ByteE w (.slice (some ⟨gb, 0, none⟩) (haveS now cur)[m].2.length (haveS now cur)[m].2.length) (haveS now cur)[m].2 ∧
      (∀ W, Below w.heap.size w W → Calls Tryd.prog 22 #[.pointer (some ⟨X, 0, none⟩), .string (haveS now cur)[m].1, .int .i64 0, .int .i64 (haveS now cur)[m].2.length] W (fun e w' => ∃ v, e = .returned (.tuple #[v, .int .i64 0]) ∧ Below W.heap.size W w' ∧ OwnB w' W.heap.size v (haveS now cur)[m].2)) ∧
      ∀ W, Below w.heap.size w W → Calls Tryd.prog 23 #[.pointer (some ⟨X, 0, none⟩), .string (haveS now cur)[m].1] W (Gives W (.int .i64 (haveS now cur)[m].2.length)) := by
  obtain ⟨q, cap, rfl, hcap, hc⟩ := hH.cells
  have hlen := haveS_len now cur
  refine ⟨q, cap, rfl, by rw [hlen]; exact hL.ok.gnow.few, hcap, fun m hm => ?_⟩
  have hm2 : m < gs.length := by rw [hH.len]; exact hm
  have hmn : m < now.length := by rw [← hlen]; exact hm
  obtain ⟨g, rfl, -, d0, d1⟩ := hc m hm hm2
  have hx : (haveS now cur)[m] = (now[m].1, seg cur (32 * now[m].2.1) (32 * now[m].2.2)) := by simp [haveS]
  have hsl := have_seg hL.ok (List.getElem_mem hmn)
  obtain ⟨hr1, hr2⟩ := have_read hL.ok hmn
  have hin := (hL.ok.gnow.each now[m] (List.getElem_mem hmn)).2.2.2
  have hb := hH.blk m hm hm2
  rw [hx] at d0 d1 hb ⊢
  dsimp only at d0 d1 hb ⊢
  rw [hsl] at d1 ⊢
  refine ⟨g, gs[m], rfl, d0, d1, by omega, ?_, fun W hW => ?_, fun W hW => ?_⟩
  · have := slp_block hb (by rw [hsl]; omega)
    rw [hsl] at this
    exact this
  · refine (dread_any W K X D 100 safe cur now saved epoch which (hL.at_.below hW) hL.ok.gnow.in_ now[m].1 0 (32 * now[m].2.2 : Nat) (by omega) (by omega)).mono ?_
    rintro e w' ⟨v, x, rfl, hb', hmt⟩
    rw [hr1] at hmt
    obtain ⟨rfl, hown⟩ := hmt
    rw [Int.toNat_natCast] at hown
    exact ⟨v, rfl, hb', hown⟩
  · have := dsize_any W K X D 100 safe cur false now saved epoch which (hL.at_.below hW) now[m].1
    rw [hr2] at this
    exact this

set_option maxRecDepth 100000 in
set_option maxHeartbeats 40000000 in
theorem dirPlaces_any (v : Value) (l : List Act24) (w : World) (hv : SlP 6 ActE w v l) (hN : Nib w) : Calls Tryd.prog 4 #[v] w (Gives w (.bool true)) := by
  have hnew := new_any w 100 (by omega) (by omega)
  obtain ⟨F, hform⟩ := start_new w hN
  have Hf := Lib.hid hform
  have hlight := fun W (hb : Below w.heap.size w W) => light_any v l W (hv.mono ActE.mono hb)
  have Hli := Lib.hid hlight
  have hliv := fun W (hb : Below w.heap.size w W) => lives_any W (hN.below hb)
  have Hlv := Lib.hid hliv
  have HN := Lib.hid hN
  obtain ⟨q, cap, rfl, hlc, hcap, -, hcells⟩ := hv
  have Hc := Lib.hid hcells
  clear hform hlight hliv hN hcells
  generalize zeros (32 * 100) = Z at *
  go_enter Tryd.func4, Tryd.ntmps4
  go_upto_region 3 with (first
    | (go_at_call 7; refine hnew.mono ?_; rintro e w1 ⟨D, rfl, hd1, hb1⟩)
    | (go_at_call 8; refine (Hf.out w1 D hd1 hb1).mono ?_; rintro e w2 ⟨X, rfl, hL2⟩)
    | fail)
  clear hnew hd1
  have hb2 := hL2.below
  have hli2 := Hli.out w2 hb2
  unfold LightOut at hli2
  have HL2 := Lib.hid hL2
  clear hL2
  go_upto_region 5 with (first
    | (go_at_call 9; refine hli2.mono ?_; rintro e w3 ⟨r, rfl, hr, hb3⟩; have hliv3 := Hlv.out w3 (below_trans hb2 hb3))
    | (go_at_call 10; refine hliv3.mono ?_; rintro e w4 ⟨rfl, hb4⟩)
    | fail)
  · go_ret
    exact ⟨rfl, below_trans (below_trans hb2 hb3) hb4⟩
  · have hr1 : r = true := by
      have h : (!r) = false := by assumption
      simpa using h
    subst hr1
    have h50 := hr rfl
    rw [show (!true) = false from rfl]
    have hL3 := HL2.out.more hb3
    clear hli2 hliv3
    go_wp2_with fail
    have hH4 : HaveAt w (w3.alloc (.cells #[] 47)) (fun k => k < w.heap.size ∨ k = w3.heap.size) (.slice (some ⟨w3.heap.size, 0, none⟩) 0 0) (haveS [] F) [] := HaveAt.nil w w3 _ (by have := hL3.below.size; omega)
    have hL4 : DirL w (w3.alloc (.cells #[] 47)) (fun k => k < w.heap.size ∨ k = w3.heap.size) X D 100 F F [] [] 1 0 := hL3.grow (fun k hk _ => (below_new w3 _).block k hk) (below_trans hL3.below (below_new w3 _)) (fun k hk => .inl hk) (fun k hk h2 => by
      rcases h2 with h2 | h2
      · exact h2
      · omega) (fun k hk => by
      rw [World.size_alloc]
      rcases hk with hk | hk
      · have := hL3.below.size; omega
      · omega)
    go_loopw [35, 6, 8, 9, 11, 12, 13] (fun i hv _ _ _ _ _ wr => ∃ k : Nat, k ≤ l.length ∧ i = .int .i64 k ∧ PlacesR w X D k hv wr) (fun i _ _ _ _ _ _ _ => l.length - (intOf i).toNat)
    case atStart => exact ⟨0, Nat.zero_le _, rfl, _, _, _, _, _, _, _, _, hL4, hH4, by omega⟩
    case round =>
      obtain ⟨k, hk, rfl, K, safe, cur, now, saved, epoch, which, gs, hL, hH, hep⟩ := hrel
      have hbw := hL.below
      clear hL4 hH4
      by_cases hlt : k < l.length
      · obtain ⟨b, off, cs, rfl, hcs, he, hc⟩ := Hc.out k hlt
        obtain ⟨bv, kv, rfl, hi1, hi2, hi3, hnm, hbv, hkv⟩ := he
        obtain ⟨qb, cb, rfl, hbl⟩ := bytes_len hbv
        obtain ⟨qk, ck, rfl⟩ := int_len hkv
        have c0 := bcell hbw (hc 0 (by simp))
        have c1 := bcell hbw (hc 1 (by simp))
        have c2 := bcell hbw (hc 2 (by simp))
        have c3 := bcell hbw (hc 3 (by simp))
        have c4 := bcell hbw (hc 4 (by simp))
        have c5 := bcell hbw (hc 5 (by simp))
        simp only [List.getElem_cons_zero, List.getElem_cons_succ, Nat.add_zero] at c0 c1 c2 c3 c4 c5
        have n0 : (0 : Int) ≤ (k : Int) := by omega
        have n1 : (k : Int) < (l.length : Int) := by omega
        clear hc hkv hcs
        generalize l[k] = a at *
        obtain ⟨kd, at_, n, nm, bs, ks⟩ := a
        dsimp only at *
        go_upto_region 9 with fail
        generalize hW2 : World.alloc wr _ = w5
        have hb5 : Below wr.heap.size wr w5 := by rw [← hW2]; exact below_new _ _
        have hz5 : w5.heap.size = wr.heap.size + 1 := by rw [← hW2]; simp
        have f0 : w5.cell? ⟨wr.heap.size, 0, none⟩ = some (.int .i64 kd) := by rw [← hW2]; simp
        have f1 : w5.cell? ⟨wr.heap.size, 1, none⟩ = some (.int .i64 at_) := by rw [← hW2]; simp
        have f2 : w5.cell? ⟨wr.heap.size, 2, none⟩ = some (.int .i64 n) := by rw [← hW2]; simp
        have f3 : w5.cell? ⟨wr.heap.size, 3, none⟩ = some (.string nm) := by rw [← hW2]; simp
        have f4 : w5.cell? ⟨wr.heap.size, 4, none⟩ = some (.slice qb bs.length cb) := by rw [← hW2]; simp
        have hbk5 : w5.heap[wr.heap.size]? = some (.cells #[.int .i64 kd, .int .i64 at_, .int .i64 n, .string nm, .slice qb bs.length cb, .slice qk ks.length ck] 35 (0, 0)) := by rw [← hW2]; exact heap_alloc_new _ _
        clear hW2 c0 c1 c2 c3 c4 c5
        have hL5 : DirL w w5 (fun k => K k ∨ k = wr.heap.size) X D 100 safe cur now saved epoch which := hL.grow (fun k hk _ => hb5.block k hk) (below_trans hL.below hb5) (fun k hk => .inl hk) (fun k hk h2 => by
          rcases h2 with h2 | h2
          · exact h2
          · omega) (fun k hk => by
          rcases hk with hk | hk
          · have := hL.lt k hk; omega
          · omega)
        have hH5 : HaveAt w w5 (fun k => K k ∨ k = wr.heap.size) u6 (haveS now cur) gs := (hH.kept (kept_of_below hb5 hL.lt)).wide fun k hk => .inl hk
        obtain ⟨KB, hKB⟩ : ∃ KB : Nat → Prop, KB = fun k => K k ∨ k = wr.heap.size := ⟨_, rfl⟩
        have hbox : KB wr.heap.size := by rw [hKB]; exact .inr rfl
        rw [← hKB] at hL5 hH5
        clear hKB hL hH
        generalize hbxx : wr.heap.size = bx at *
        have hfind := find_any w w5 KB u6 _ gs nm hH5 (by rw [haveS_len]; have := hL5.ok.gnow.few; omega)
        have hep1 : epoch ≤ 51 := by omega
        obtain ⟨fv, hfv⟩ : ∃ fv, fv = findV (haveS now cur) nm := ⟨_, rfl⟩
        rw [← hfv] at hfind
        have Hfv := Lib.hid hfv
        clear hfv
        go_upto_region 10 with (first | (go_at_call 21; refine hfind.mono ?_; rintro e w6 ⟨rfl, hb6⟩) | fail)
        have hL6 := hL5.more hb6
        have hH6 := hH5.kept (kept_of_below hb6 hL5.lt)
        replace f0 := bcell hb6 f0
        replace f1 := bcell hb6 f1
        replace f2 := bcell hb6 f2
        replace f3 := bcell hb6 f3
        replace f4 := bcell hb6 f4
        have hbk6 := (hb6.block bx (heap_lt hbk5)).trans hbk5
        clear hbk5
        have Hbk6 := Lib.hid hbk6
        clear hbk6
        have HL6 := Lib.hid hL6
        have HH6 := Lib.hid hH6
        clear hL5 hH5 hL6 hH6 hfind hz5 hbxx
        by_cases k0 : kd = 0
        · subst k0
          have hcall := lmake HL6.out nm hnm n hi3
          obtain ⟨qh0, ch0, hu, hch0, -⟩ := HH6.out.cells
          subst hu
          go_upto_region 15 with (first
            | (go_at_call 11; refine hcall.mono ?_; rintro e w7 ⟨x, r, rfl, hx, hms, hL7, hk7⟩; replace f2 := (hk7.cell (p := ⟨bx, 2, none⟩) hbox).trans f2; replace f3 := (hk7.cell (p := ⟨bx, 3, none⟩) hbox).trans f3; have hHk := HH6.out.kept hk7; obtain ⟨rb, hrb⟩ : ∃ rb, rb = r.isSome := ⟨_, rfl⟩; have hxb : (x == (0 : Int)) = rb := isSome_beq hx hrb; have hxd : decide (x = 0) = rb := (isSome_dec hx hrb); have Hrb := Lib.hid hrb; clear hrb)
            | fail)
          · have hrt : r.isSome = true := by rw [← Hrb.out]; assumption
            obtain ⟨f, rfl⟩ := Option.isSome_iff_exists.1 hrt
            have hfew := make_few HL6.out.ok hms
            exfalso
            omega
          · have hrbt : rb = true := by assumption
            subst hrbt
            have hrt : r.isSome = true := Hrb.out.symm
            obtain ⟨f, rfl⟩ := Option.isSome_iff_exists.1 hrt
            obtain ⟨hnf, hf1, hf84⟩ := make_few HL6.out.ok hms
            subst hnf
            have hhm := have_make HL6.out.ok hms
            obtain ⟨za, hza⟩ : ∃ za : Nat, za = 32 * f.2 := ⟨_, rfl⟩
            rw [← hza] at hhm
            have z1 : IntKind.i64.wrap (32 * (f.2 : Int)) = (za : Int) := by rw [IntWalk.i64_in _ (by omega)]; omega
            have hza2 : za ≤ 2688 := by omega
            clear hza hcall hx hxb hxd hms
            have HL7 := Lib.hid hL7
            have HHk := Lib.hid hHk
            have Hhm := Lib.hid hhm
            have hLlen : (haveS now cur).length ≤ 10 := by rw [haveS_len]; exact HL6.out.ok.gnow.few
            clear hL7 hHk hhm
            obtain ⟨i0, z, hi, hz, hz1, hz2, -⟩ := byteElt.has
            have hz0 : i0.zero = some (.int .u8 0) := by
              have h : (Tryd.prog.info? 5).map (·.zero) = some (some (.int .u8 0)) := by kernel_rfl
              rw [hi] at h
              simpa using h
            have hrow7 := HHk.out.row.row
            rw [HHk.out.rows] at hrow7
            have hsf := fun W => src_file W nm w7.heap.size za
            refine wp_region_held_drew (S := (fun w' => w'.cell? ⟨bx, 2, none⟩ = some (.int .i64 (f.2 : Int)) ∧ w'.cell? ⟨bx, 3, none⟩ = some (.string nm))) (by kernel_rfl) (by exact ⟨f2, f3⟩) (fun hHeld => ?_)
            refine' takeL (v := _) 0 rfl (by kernel_rfl) (by kernel_rfl) (by kernel_rfl) (fun _ _ _ h => h) (by rfl) ?_ (by assumption) ?_; rotate_left 1; (focus (intro w hSw; (try dsimp only at hSw); go_simp; (try with_reducible rfl); done))
            (try simp only [Act.put, List.setIfInBounds_toArray, List.set_cons_zero, List.set_cons_succ])
            refine' takeL (v := _) 1 rfl (by kernel_rfl) (by kernel_rfl) (by kernel_rfl) (fun _ _ _ h => h) (by rfl) ?_ (by assumption) ?_; rotate_left 1; (focus (intro w hSw; (try dsimp only at hSw); go_simp; (try with_reducible rfl); done))
            (try simp only [Act.put, List.setIfInBounds_toArray, List.set_cons_zero, List.set_cons_succ])
            refine' takeL (v := _) 2 rfl (by kernel_rfl) (by kernel_rfl) (by kernel_rfl) (fun _ _ _ h => h) (by rfl) ?_ (by assumption) ?_; rotate_left 1; (focus (intro w hSw; (try dsimp only at hSw); go_simp; (try with_reducible rfl); done))
            (try simp only [Act.put, List.setIfInBounds_toArray, List.set_cons_zero, List.set_cons_succ])
            refine' takeL (v := _) 3 rfl (by kernel_rfl) (by kernel_rfl) (by kernel_rfl) (fun _ _ _ h => h) (by rfl) ?_ (by assumption) ?_; rotate_left 1; (focus (intro w hSw; (try dsimp only at hSw); go_simp; (try with_reducible rfl); done))
            (try simp only [Act.put, List.setIfInBounds_toArray, List.set_cons_zero, List.set_cons_succ])
            refine' takeL (v := _) 4 rfl (by kernel_rfl) (by kernel_rfl) (by kernel_rfl) (fun _ _ _ h => h) (by rfl) ?_ (by assumption) ?_; rotate_left 1; (focus (intro w hSw; (try dsimp only at hSw); go_simp; (try with_reducible rfl); done))
            (try simp only [Act.put, List.setIfInBounds_toArray, List.set_cons_zero, List.set_cons_succ])
            refine' takeL (v := _) 5 rfl (by kernel_rfl) (by kernel_rfl) (by kernel_rfl) (fun _ _ _ h => h) (by rfl) ?_ (by assumption) ?_; rotate_left 1; (focus (intro w hSw; (try dsimp only at hSw); go_simp; (try with_reducible rfl); done))
            (try simp only [Act.put, List.setIfInBounds_toArray, List.set_cons_zero, List.set_cons_succ])
            refine stepL 6 rfl (by kernel_rfl) (fun K hK => ?_)
            refine step_make_full _ (by rfl) _ _ 32 (by rfl) w7.heap.size 5 i0 (.int .u8 0) 1 Tryd.underlying32 hi hz0 hz1 .i64 .i64 _ _ za (by rfl) (by rfl) (by rfl) (by rfl) (by rw [hz2]; omega) (by unfold maxLen; omega) (Nat.le_refl _) ?_
            intro w8 hown8 hg8
            have hb8 : Below w7.heap.size w7 w8 := grown_below (Below.refl _ _).drew hg8 (Nat.le_refl _) (by simp)
            refine hK.out _ _ (by exact ⟨bcell hb8 f2, bcell hb8 f3⟩) (fun hHeld => ?_)
            clear hK K
            (try simp only [Act.put, List.setIfInBounds_toArray, List.set_cons_zero, List.set_cons_succ])
            refine' takeL (v := _) 7 rfl (by kernel_rfl) (by kernel_rfl) (by kernel_rfl) (fun _ _ _ h => h) (by rfl) ?_ (by assumption) ?_; rotate_left 1; (focus (intro w hSw; (try dsimp only at hSw); go_simp; (try with_reducible rfl); done))
            (try simp only [Act.put, List.setIfInBounds_toArray, List.set_cons_zero, List.set_cons_succ])
            refine stepL 8 rfl (by kernel_rfl) (fun K hK => ?_)
            go_simp
            generalize hW9 : World.alloc w8 _ = w9
            have hb9 : Below w8.heap.size w8 w9 := by rw [← hW9]; exact below_new _ _
            have hs9 : Src Tryd.prog 2 44 (.slice (some ⟨w8.heap.size, 0, none⟩) 1 1) 1 [.string nm, .slice (some ⟨w7.heap.size, 0, none⟩) za za] w9 := by rw [← hW9]; exact src_file w8 nm w7.heap.size za
            clear hW9
            have hb79 := below_trans hb8 hb9
            have hrow9 := ownsRow_below hrow7 hb79
            refine hK.out _ _ (by exact ⟨bcell hb79 f2, bcell hb79 f3⟩) (fun hHeld => ?_)
            clear hK K
            (try simp only [Act.put, List.setIfInBounds_toArray, List.set_cons_zero, List.set_cons_succ])
            refine stepL 9 rfl (by kernel_rfl) (fun K hK => ?_)
            refine step_app (v := .slice qh0 (haveS now cur).length ch0) (by rfl) _ _ 44 44 (by rfl) w.heap.size 47 2 40 fileElt Tryd.underlying44 _ _ (by rfl) hrow9 (by rfl) 1 _ hs9 (by unfold maxLen; omega) (by omega) (by have := HL7.out.below.size; have := hb79.size; omega) ?_
            intro v10 w10 hown10 hg10 hat10
            have hvK := HHk.out.vK
            have hKl := HL7.out.lt
            have hs8 := hb8.size
            have hs9z := hb9.size
            have hsz7 := HL7.out.below.size
            have hs10 := hg10.size
            have hgb8 : w7.heap.size < w8.heap.size := by
              have := World.ownsRow.lt hown8 w7.heap.size rfl
              exact this.2
            have hne7 : ∀ k, ¬ KB k → some k ≠ (Value.slice qh0 (haveS now cur).length ch0).ownBlock := fun k hk e => hk (hvK k e.symm)
            have hback : ∀ k, k < w9.heap.size → some k ≠ (Value.slice qh0 (haveS now cur).length ch0).ownBlock → w10.heap[k]? = w9.heap[k]? := fun k hk hne => hg10.block k hk (fun e => hne e)
            have hb10 : Below w.heap.size w w10 := grown_below (below_trans HL7.out.below hb79) hg10 (by omega) (fun g hg => (World.ownsRow.lt hrow9 g hg).1)
            have hnew : ∀ g, v10.ownBlock = some g → KB g ∨ w7.heap.size ≤ g := fun g hg => by
              rcases hat10 with h | h
              · exact .inl (hvK g (h.symm.trans hg))
              · rw [h] at hg; simp only [Option.some.injEq] at hg; omega
            have hnewl : ∀ g, v10.ownBlock = some g → g < w10.heap.size := fun g hg => (World.ownsRow.lt hown10 g hg).2
            have hblk : w10.heap[w7.heap.size]? = some (.cells ((zerosB za).map YtnpnchociegmpaaDoor.u8).toArray 5 (0, 0)) :=
              (hback _ (by omega) (hne7 _ fun h => by have := hKl _ h; omega)).trans ((hb9.block _ hgb8).trans (made_blockN hown8))
            have hH10 := HHk.out.more (s := nm) (bs := zerosB za) (gb := w7.heap.size) (Nat.le_refl _) hKl hsz7 hblk (by
              have e : fileC (nm, zerosB za) w7.heap.size = [.string nm, .slice (some ⟨w7.heap.size, 0, none⟩) za za] := by simp [fileC, zerosB]
              rw [e]; exact hown10) (fun g hg => by
              have h1 := hKl g (HHk.out.inK g hg).1
              have h2 : some g ≠ (Value.slice qh0 (haveS now cur).length ch0).ownBlock := fun e => by
                obtain ⟨jj, hjj, rfl⟩ := List.getElem_of_mem hg
                have hbj := HHk.out.blk jj (by rw [← HHk.out.len]; exact hjj) hjj
                rcases HHk.out.row.row.2 with ⟨h3, -⟩ | ⟨g', cap', cur', h3, -, h4, -⟩
                · rw [h3] at e; cases e
                · rw [h3] at e
                  simp only [Value.ownBlock, Option.some.injEq] at e
                  have h5 := (congrArg (fun k : Nat => w7.heap[k]?) e).symm.trans hbj
                  have h6 := h4.symm.trans h5
                  simp only [Option.some.injEq, Obj.cells.injEq] at h6
                  exact absurd h6.2.1 (by decide)
              exact (hback g (by omega) h2).trans (hb79.block g h1))
            rw [← Hhm.out] at hH10
            have hL10 : DirL w w10 (fun k => KB k ∨ k = w7.heap.size ∨ v10.ownBlock = some k) X D 100 safe _ _ saved epoch which := HL7.out.grow (fun k hk hnk => (hback k (by omega) (hne7 k hnk)).trans (hb79.block k hk)) hb10 (fun k hk => .inl hk) (fun k hk h2 => by
              rcases h2 with h2 | h2 | h2
              · exact h2
              · omega
              · rcases hnew k h2 with h | h
                · exact h
                · omega) (fun k hk => by
              rcases hk with hk | hk | hk
              · have := hKl k hk; omega
              · omega
              · exact hnewl k hk)
            have hbxn : some bx ≠ (Value.slice qh0 (haveS now cur).length ch0).ownBlock := fun e => by
              rcases HHk.out.row.row.2 with ⟨h3, -⟩ | ⟨g', cap', cur', h3, -, h4, -⟩
              · rw [h3] at e; cases e
              · rw [h3] at e
                simp only [Value.ownBlock, Option.some.injEq] at e
                have h5 := (congrArg (fun k : Nat => w7.heap[k]?) e).symm.trans ((hk7.block bx hbox).trans Hbk6.out)
                have h6 := h4.symm.trans h5
                simp only [Option.some.injEq, Obj.cells.injEq] at h6
                exact absurd h6.2.1 (by decide)
            have hlb : bx < w9.heap.size := by have := hKl bx hbox; omega
            refine hK.out _ _ (by exact ⟨(World.cell?_of_block (w := w9) (hback bx hlb hbxn)).trans (bcell hb79 f2), (World.cell?_of_block (w := w9) (hback bx hlb hbxn)).trans (bcell hb79 f3)⟩) (fun hHeld => ?_)
            clear hK K
            (try simp only [Act.put, List.setIfInBounds_toArray, List.set_cons_zero, List.set_cons_succ])
            refine' takeL (v := _) 10 rfl (by kernel_rfl) (by kernel_rfl) (by kernel_rfl) (fun _ _ _ h => h) (by rfl) ?_ (by assumption) ?_; rotate_left 1; (focus (intro w hSw; (try dsimp only at hSw); go_simp; (try with_reducible rfl); done))
            (try simp only [Act.put, List.setIfInBounds_toArray, List.set_cons_zero, List.set_cons_succ])
            refine wpAnyH_done (by kernel_rfl) ?_ _
            have HL10 := Lib.hid hL10
            have HH10 := Lib.hid hH10
            clear hL10 hH10 hown10 hg10 hat10 hback hnew hnewl hne7
            as_aux_lemma =>
              obtain ⟨qh, ch, hve, hl10, hlch, hfile⟩ := have_files HL10.out HH10.out
              first | subst hve | (simp only [Value.slice.injEq] at hve; obtain ⟨rfl, hlq, rfl⟩ := hve; first | subst hlq | skip)
              have Hfile := Lib.hid hfile
              clear hfile
              generalize hLh : haveS (makeNow now nm (some f)) (makeCur cur (some f)) = Lh at *
              have HLh := Lib.hid hLh
              clear hLh
              go_wp2_with fail
              go_loopg [137, 11, 12, 13] Lh.length (fun g i _ _ _ wr => ∃ m : Nat, i = .int .i64 m ∧ m ≤ Lh.length ∧ Lh.length - m ≤ g ∧ Below w10.heap.size w10 wr)
              case atStart => exact ⟨0, rfl, Nat.zero_le _, by omega, (Below.refl _ _)⟩
              case round =>
                obtain ⟨m, rfl, hm, hmg, hbi⟩ := hrel
                by_cases hml : m < Lh.length
                · obtain ⟨g, gb, hge, d0, d1, hlf, hs, hR, hZ⟩ := Hfile.out m hml
                  first | subst hge | (simp only [Option.some.injEq, Addr.mk.injEq, and_true] at hge; subst hge)
                  replace d0 := bcell hbi d0
                  replace d1 := bcell hbi d1
                  have m0 : (0 : Int) ≤ (m : Int) := by omega
                  have m1 : (m : Int) < (Lh.length : Int) := by omega
                  generalize Lh[m] = fx at *
                  obtain ⟨fn, fb⟩ := fx
                  dsimp only at *
                  obtain ⟨lf, hlfe⟩ : ∃ lf, lf = fb.length := ⟨_, rfl⟩
                  rw [← hlfe] at d1 hlf hs hR hZ
                  have Hlf := Lib.hid hlfe
                  clear hlfe
                  go_upto_region 31 with fail
                  generalize hW11 : World.alloc wr _ = w11
                  have hb11 : Below wr.heap.size wr w11 := by rw [← hW11]; exact below_new _ _
                  have e0 : w11.cell? ⟨wr.heap.size, 0, none⟩ = some (.string fn) := by rw [← hW11]; simp
                  have e1 : w11.cell? ⟨wr.heap.size, 1, none⟩ = some (.slice (some ⟨gb, 0, none⟩) lf lf) := by rw [← hW11]; simp
                  clear hW11 d0 d1
                  have hbi11 := below_trans hbi hb11
                  have hRd := hR w11 hbi11
                  go_upto_region 32 with (first | (go_at_call 22; refine hRd.mono ?_; rintro e w12 ⟨vr, rfl, hb12, hown12⟩) | fail)
                  have hbi12 := below_trans hbi11 hb12
                  replace e0 := bcell hb12 e0
                  replace e1 := bcell hb12 e1
                  have hsv := hown12.at (by have := Hlf.out; omega)
                  have hsf := hs.mono ByteE.mono hbi12
                  obtain ⟨qr, cr, rfl, -⟩ := bytes_len hsv
                  have cv1 := fun s => conv_bytes (hsv.mono ByteE.mono (later_below w12 s))
                  have cv2 := fun s => conv_bytes (hsf.mono ByteE.mono (later_below w12 s))
                  have kZ := fun s => hZ (later w12 s) (below_trans hbi12 (later_below w12 s))
                  have g0 := fun s => later_cell e0 s
                  have g1 := fun s => later_cell e1 s
                  generalize (⟨fb.toArray⟩ : ByteArray) = fstr at *
                  clear hR hZ hRd hsv hsf hown12 hs e0 e1
                  refine wp_region_mild (by kernel_rfl) (by kernel_rfl) ?_
                  repeat (any_goals (first | go_big_quiet_step ((first | (exact mild_of (kZ _)))) | quiet_step ((first | (exact mild_of (kZ _)))) | (refine wpQuiet_step (fun K hK => ?_); go_simp; split <;> (refine hK _ ?_; clear hK K))))
                  all_goals (refine wpQuiet_nil ?_; intro W hW)
                  all_goals
                    (go_wp2_with fail
                     go_roundg (gk - 1)
                     case measure => omega
                     case rel => exact ⟨m + 1, by go_num, by omega, by omega, below_trans hbi12 hW⟩)
                · have hme : m = Lh.length := by omega
                  subst hme
                  go_wp2_with fail
                  go_roundw
                  case rel => exact ⟨k + 1, hlt, by go_num, _, _, _, _, _, _, _, _, HL10.out.more hbi, by rw [HLh.out]; exact HH10.out.kept (kept_of_below hbi HL10.out.lt), by omega⟩
                  case measure => simp [intOf]; omega
          · have hrt : r.isSome = true := by rw [← Hrb.out]; assumption
            obtain ⟨f, rfl⟩ := Option.isSome_iff_exists.1 hrt
            have hfew := make_few HL6.out.ok hms
            exfalso
            omega
          · have hrbf : rb = false := by assumption
            subst hrbf
            have hrf : r.isSome = false := Hrb.out.symm
            obtain rfl : r = none := by cases r with
              | none => rfl
              | some f => cases hrf
            have HL7 := Lib.hid (show DirL w w7 KB X D 100 safe cur now saved epoch which from hL7)
            have HH7 := Lib.hid hHk
            clear hL7 hHk HH6 hcall hms hx hxb hxd
            as_aux_lemma =>
              obtain ⟨qh, ch, hve, hl10, hlch, hfile⟩ := have_files HL7.out HH7.out
              first | subst hve | (simp only [Value.slice.injEq] at hve; obtain ⟨rfl, hlq, rfl⟩ := hve; first | subst hlq | skip)
              have Hfile := Lib.hid hfile
              clear hfile
              generalize hLh : haveS now cur = Lh at *
              have HLh := Lib.hid hLh
              clear hLh
              go_wp2_with fail
              go_loopg [137, 11, 12, 13] Lh.length (fun g i _ _ _ wr => ∃ m : Nat, i = .int .i64 m ∧ m ≤ Lh.length ∧ Lh.length - m ≤ g ∧ Below w7.heap.size w7 wr)
              case atStart => exact ⟨0, rfl, Nat.zero_le _, by omega, (Below.refl _ _)⟩
              case round =>
                obtain ⟨m, rfl, hm, hmg, hbi⟩ := hrel
                by_cases hml : m < Lh.length
                · obtain ⟨g, gb, hge, d0, d1, hlf, hs, hR, hZ⟩ := Hfile.out m hml
                  first | subst hge | (simp only [Option.some.injEq, Addr.mk.injEq, and_true] at hge; subst hge)
                  replace d0 := bcell hbi d0
                  replace d1 := bcell hbi d1
                  have m0 : (0 : Int) ≤ (m : Int) := by omega
                  have m1 : (m : Int) < (Lh.length : Int) := by omega
                  generalize Lh[m] = fx at *
                  obtain ⟨fn, fb⟩ := fx
                  dsimp only at *
                  obtain ⟨lf, hlfe⟩ : ∃ lf, lf = fb.length := ⟨_, rfl⟩
                  rw [← hlfe] at d1 hlf hs hR hZ
                  have Hlf := Lib.hid hlfe
                  clear hlfe
                  go_upto_region 31 with fail
                  generalize hW11 : World.alloc wr _ = w11
                  have hb11 : Below wr.heap.size wr w11 := by rw [← hW11]; exact below_new _ _
                  have e0 : w11.cell? ⟨wr.heap.size, 0, none⟩ = some (.string fn) := by rw [← hW11]; simp
                  have e1 : w11.cell? ⟨wr.heap.size, 1, none⟩ = some (.slice (some ⟨gb, 0, none⟩) lf lf) := by rw [← hW11]; simp
                  clear hW11 d0 d1
                  have hbi11 := below_trans hbi hb11
                  have hRd := hR w11 hbi11
                  go_upto_region 32 with (first | (go_at_call 22; refine hRd.mono ?_; rintro e w12 ⟨vr, rfl, hb12, hown12⟩) | fail)
                  have hbi12 := below_trans hbi11 hb12
                  replace e0 := bcell hb12 e0
                  replace e1 := bcell hb12 e1
                  have hsv := hown12.at (by have := Hlf.out; omega)
                  have hsf := hs.mono ByteE.mono hbi12
                  obtain ⟨qr, cr, rfl, -⟩ := bytes_len hsv
                  have cv1 := fun s => conv_bytes (hsv.mono ByteE.mono (later_below w12 s))
                  have cv2 := fun s => conv_bytes (hsf.mono ByteE.mono (later_below w12 s))
                  have kZ := fun s => hZ (later w12 s) (below_trans hbi12 (later_below w12 s))
                  have g0 := fun s => later_cell e0 s
                  have g1 := fun s => later_cell e1 s
                  generalize (⟨fb.toArray⟩ : ByteArray) = fstr at *
                  clear hR hZ hRd hsv hsf hown12 hs e0 e1
                  refine wp_region_mild (by kernel_rfl) (by kernel_rfl) ?_
                  repeat (any_goals (first | go_big_quiet_step ((first | (exact mild_of (kZ _)))) | quiet_step ((first | (exact mild_of (kZ _)))) | (refine wpQuiet_step (fun K hK => ?_); go_simp; split <;> (refine hK _ ?_; clear hK K))))
                  all_goals (refine wpQuiet_nil ?_; intro W hW)
                  all_goals
                    (go_wp2_with fail
                     go_roundg (gk - 1)
                     case measure => omega
                     case rel => exact ⟨m + 1, by go_num, by omega, by omega, below_trans hbi12 hW⟩)
                · have hme : m = Lh.length := by omega
                  subst hme
                  go_wp2_with fail
                  go_roundw
                  case rel => exact ⟨k + 1, hlt, by go_num, _, _, _, _, _, _, _, _, HL7.out.more hbi, by rw [HLh.out]; exact HH7.out.kept (kept_of_below hbi HL7.out.lt), by omega⟩
                  case measure => simp [intOf]; omega
        · by_cases k1 : kd = 1
          · subst k1
            obtain ⟨qh0, ch0, hu, hch0, hcj⟩ := HH6.out.cells
            subst hu
            have hcall := lremove HL6.out nm
            cases hfg : fget now nm with
            | none =>
              rw [hfg] at hcall
              go_upto_region 28 with (first
                | (go_at_call 12; refine hcall.mono ?_; rintro e w7 ⟨x, rfl, hx, hL7, hk7⟩; have hxb := isSome_beq hx rfl; have hxd := isSome_dec hx rfl; rw [show (none : Option (Nat × Nat)).isSome = false from rfl] at hxb hxd; have hHk := HH6.out.kept hk7)
                | fail)
              have HL7 := Lib.hid (show DirL w w7 KB X D 100 safe cur now saved epoch which from hL7)
              have HH7 := Lib.hid hHk
              clear hL7 hHk HH6 hcall hx hxb hxd hcj
              as_aux_lemma =>
                obtain ⟨qh, ch, hve, hl10, hlch, hfile⟩ := have_files HL7.out HH7.out
                first | subst hve | (simp only [Value.slice.injEq] at hve; obtain ⟨rfl, hlq, rfl⟩ := hve; first | subst hlq | skip)
                have Hfile := Lib.hid hfile
                clear hfile
                generalize hLh : haveS now cur = Lh at *
                have HLh := Lib.hid hLh
                clear hLh
                go_wp2_with fail
                go_loopg [137, 11, 12, 13] Lh.length (fun g i _ _ _ wr => ∃ m : Nat, i = .int .i64 m ∧ m ≤ Lh.length ∧ Lh.length - m ≤ g ∧ Below w7.heap.size w7 wr)
                case atStart => exact ⟨0, rfl, Nat.zero_le _, by omega, (Below.refl _ _)⟩
                case round =>
                  obtain ⟨m, rfl, hm, hmg, hbi⟩ := hrel
                  by_cases hml : m < Lh.length
                  · obtain ⟨g, gb, hge, d0, d1, hlf, hs, hR, hZ⟩ := Hfile.out m hml
                    first | subst hge | (simp only [Option.some.injEq, Addr.mk.injEq, and_true] at hge; subst hge)
                    replace d0 := bcell hbi d0
                    replace d1 := bcell hbi d1
                    have m0 : (0 : Int) ≤ (m : Int) := by omega
                    have m1 : (m : Int) < (Lh.length : Int) := by omega
                    generalize Lh[m] = fx at *
                    obtain ⟨fn, fb⟩ := fx
                    dsimp only at *
                    obtain ⟨lf, hlfe⟩ : ∃ lf, lf = fb.length := ⟨_, rfl⟩
                    rw [← hlfe] at d1 hlf hs hR hZ
                    have Hlf := Lib.hid hlfe
                    clear hlfe
                    go_upto_region 31 with fail
                    generalize hW11 : World.alloc wr _ = w11
                    have hb11 : Below wr.heap.size wr w11 := by rw [← hW11]; exact below_new _ _
                    have e0 : w11.cell? ⟨wr.heap.size, 0, none⟩ = some (.string fn) := by rw [← hW11]; simp
                    have e1 : w11.cell? ⟨wr.heap.size, 1, none⟩ = some (.slice (some ⟨gb, 0, none⟩) lf lf) := by rw [← hW11]; simp
                    clear hW11 d0 d1
                    have hbi11 := below_trans hbi hb11
                    have hRd := hR w11 hbi11
                    go_upto_region 32 with (first | (go_at_call 22; refine hRd.mono ?_; rintro e w12 ⟨vr, rfl, hb12, hown12⟩) | fail)
                    have hbi12 := below_trans hbi11 hb12
                    replace e0 := bcell hb12 e0
                    replace e1 := bcell hb12 e1
                    have hsv := hown12.at (by have := Hlf.out; omega)
                    have hsf := hs.mono ByteE.mono hbi12
                    obtain ⟨qr, cr, rfl, -⟩ := bytes_len hsv
                    have cv1 := fun s => conv_bytes (hsv.mono ByteE.mono (later_below w12 s))
                    have cv2 := fun s => conv_bytes (hsf.mono ByteE.mono (later_below w12 s))
                    have kZ := fun s => hZ (later w12 s) (below_trans hbi12 (later_below w12 s))
                    have g0 := fun s => later_cell e0 s
                    have g1 := fun s => later_cell e1 s
                    generalize (⟨fb.toArray⟩ : ByteArray) = fstr at *
                    clear hR hZ hRd hsv hsf hown12 hs e0 e1
                    refine wp_region_mild (by kernel_rfl) (by kernel_rfl) ?_
                    repeat (any_goals (first | go_big_quiet_step ((first | (exact mild_of (kZ _)))) | quiet_step ((first | (exact mild_of (kZ _)))) | (refine wpQuiet_step (fun K hK => ?_); go_simp; split <;> (refine hK _ ?_; clear hK K))))
                    all_goals (refine wpQuiet_nil ?_; intro W hW)
                    all_goals
                      (go_wp2_with fail
                       go_roundg (gk - 1)
                       case measure => omega
                       case rel => exact ⟨m + 1, by go_num, by omega, by omega, below_trans hbi12 hW⟩)
                  · have hme : m = Lh.length := by omega
                    subst hme
                    go_wp2_with fail
                    go_roundw
                    case rel => exact ⟨k + 1, hlt, by go_num, _, _, _, _, _, _, _, _, HL7.out.more hbi, by rw [HLh.out]; exact HH7.out.kept (kept_of_below hbi HL7.out.lt), by omega⟩
                    case measure => simp [intOf]; omega
            | some e =>
              rw [hfg] at hcall
              have hji : (fidx now nm).isSome = true := by rw [fidx_get, hfg]; rfl
              obtain ⟨j, hj⟩ := Option.isSome_iff_exists.1 hji
              obtain ⟨hjl, -, -⟩ := fidx_some hj
              obtain rfl : fv = (j : Int) := by rw [Hfv.out, findV_some hj]
              have hjL : j < (haveS now cur).length := by rw [haveS_len]; exact hjl
              have hLlen : (haveS now cur).length ≤ 10 := by rw [haveS_len]; exact HL6.out.ok.gnow.few
              obtain ⟨g, rfl, -⟩ := hcj j hjL (by rw [HH6.out.len]; exact hjL)
              have j0 : (0 : Int) ≤ (j : Int) := by omega
              have j1 : (j : Int) ≤ (ch0 : Int) := by omega
              have j2 : IntKind.i64.wrap ((j : Int) + 1) = ((j + 1 : Nat) : Int) := by rw [IntWalk.i64_in _ (by omega)]; omega
              have j3 : ((j + 1 : Nat) : Int) ≤ ((haveS now cur).length : Int) := by omega
              obtain ⟨jn, hjn⟩ : ∃ jn, jn = j + 1 := ⟨_, rfl⟩
              rw [← hjn] at j2 j3
              have j4 : (0 : Int) ≤ (jn : Int) := by omega
              have hjn2 : jn ≤ (haveS now cur).length := by omega
              have Hjn := Lib.hid hjn
              have Hfg := Lib.hid hj
              clear hcj hji hfg hjn hj
              go_upto_region 20 with (first
                | (go_at_call 12; refine hcall.mono ?_; rintro e w7 ⟨x, rfl, hx, hL7, hk7⟩; have hx0 := hx.2 rfl; subst hx0; have hHk := HH6.out.kept hk7)
                | fail)
              have HL7 := Lib.hid (show DirL w w7 KB X D 100 safe cur (fdel now nm) saved epoch which from hL7)
              have HHk := Lib.hid hHk
              clear hL7 hHk hcall HH6 hx
              by_cases hcc : ch0 = jn
              · subst hcc
                have hsB : ∀ W, Below w7.heap.size w7 W → Src Tryd.prog 2 44 (.slice (some ⟨g, 0, none⟩) 0 0) ((haveS now cur).length - ch0) ((List.zipWith fileC (haveS now cur) gs).drop ch0).flatten W := fun W hW => by
                  have h1 := (HHk.out.kept (kept_of_below hW HL7.out.lt)).part (i := ch0) (m := (haveS now cur).length - ch0) (c := 0) (by omega)
                  rw [List.take_of_length_le (by rw [List.length_drop, HHk.out.rows]; omega)] at h1
                  rw [show (haveS now cur).length - ch0 = 0 by omega]; rw [List.drop_of_length_le (by rw [HHk.out.rows]; omega)]; exact Src.ofSlice _ Tryd.underlying44 _ _ _ _ rfl (fun t u hu => by simp at hu) (fun u hu => by simp at hu)
                have hsA : ∀ W, Below w7.heap.size w7 W → Src Tryd.prog 2 44 (.slice (some ⟨g, 0, none⟩) j ch0) j ((List.zipWith fileC (haveS now cur) gs).take j).flatten W := fun W hW => by
                  have h1 := (HHk.out.kept (kept_of_below hW HL7.out.lt)).part (i := 0) (m := j) (c := ch0) (by omega)
                  rw [Nat.zero_mul, List.drop_zero] at h1
                  exact h1
                have HsA := Lib.hid hsA
                have HsB := Lib.hid hsB
                clear hsA hsB
                refine wp_region_held_drew (S := (fun _ => True)) (by kernel_rfl) (by trivial) (fun hHeld => ?_)
                refine' takeL (v := _) 1 rfl (by kernel_rfl) (by kernel_rfl) (by kernel_rfl) (fun _ _ _ h => h) (by rfl) ?_ (by assumption) ?_; rotate_left 1; (focus (intro w hSw; (try dsimp only at hSw); go_simp; (try with_reducible rfl); done))
                (try simp only [Act.put, List.setIfInBounds_toArray, List.set_cons_zero, List.set_cons_succ])
                refine' takeL (v := _) 2 rfl (by kernel_rfl) (by kernel_rfl) (by kernel_rfl) (fun _ _ _ h => h) (by rfl) ?_ (by assumption) ?_; rotate_left 1; (focus (intro w hSw; (try dsimp only at hSw); go_simp; (try with_reducible rfl); done))
                (try simp only [Act.put, List.setIfInBounds_toArray, List.set_cons_zero, List.set_cons_succ])
                refine' takeL (v := _) 3 rfl (by kernel_rfl) (by kernel_rfl) (by kernel_rfl) (fun _ _ _ h => h) (by rfl) ?_ (by assumption) ?_; rotate_left 1; (focus (intro w hSw; (try dsimp only at hSw); go_simp; (try with_reducible rfl); done))
                (try simp only [Act.put, List.setIfInBounds_toArray, List.set_cons_zero, List.set_cons_succ])
                refine' takeL (v := _) 5 rfl (by kernel_rfl) (by kernel_rfl) (by kernel_rfl) (fun _ _ _ h => h) (by rfl) ?_ (by assumption) ?_; rotate_left 1; (focus (intro w hSw; (try dsimp only at hSw); go_simp; (try with_reducible rfl); done))
                (try simp only [Act.put, List.setIfInBounds_toArray, List.set_cons_zero, List.set_cons_succ])
                refine' takeL (v := _) 6 rfl (by kernel_rfl) (by kernel_rfl) (by kernel_rfl) (fun _ _ _ h => h) (by rfl) ?_ (by assumption) ?_; rotate_left 1; (focus (intro w hSw; (try dsimp only at hSw); go_simp; (try with_reducible rfl); done))
                (try simp only [Act.put, List.setIfInBounds_toArray, List.set_cons_zero, List.set_cons_succ])
                refine' takeL (v := _) 7 rfl (by kernel_rfl) (by kernel_rfl) (by kernel_rfl) (fun _ _ _ h => h) (by rfl) ?_ (by assumption) ?_; rotate_left 1; (focus (intro w hSw; (try dsimp only at hSw); go_simp; (try with_reducible rfl); done))
                (try simp only [Act.put, List.setIfInBounds_toArray, List.set_cons_zero, List.set_cons_succ])
                refine' takeL (v := _) 8 rfl (by kernel_rfl) (by kernel_rfl) (by kernel_rfl) (fun _ _ _ h => h) (by rfl) ?_ (by assumption) ?_; rotate_left 1; (focus (intro w hSw; (try dsimp only at hSw); go_simp; (try with_reducible rfl); done))
                (try simp only [Act.put, List.setIfInBounds_toArray, List.set_cons_zero, List.set_cons_succ])
                refine stepL 0 rfl (by kernel_rfl) (fun K hK => ?_)
                go_simp
                have hbA : Below w7.heap.size w7 (w7.alloc (.cells #[] 47)) := below_new _ _
                have hz := OwnR.made w7 w.heap.size 47 2 HL7.out.below.size
                refine hK.out _ _ (by trivial) (fun hHeld => ?_)
                clear hK K
                (try simp only [Act.put, List.setIfInBounds_toArray, List.set_cons_zero, List.set_cons_succ])
                refine stepL 4 rfl (by kernel_rfl) (fun K hK => ?_)
                refine step_app (v := .slice (some ⟨w7.heap.size, 0, none⟩) 0 0) (by rfl) _ _ 44 44 (by rfl) w.heap.size 47 2 40 fileElt Tryd.underlying44 0 [] (by rfl) hz.row (by rfl) j _ (HsA.out _ hbA.drew) (by unfold maxLen; omega) (by omega) (by have := HL7.out.below.size; simp; omega) ?_
                intro v8 w8 hown8 hg8 hat8
                have hv8 : ∀ g, v8.ownBlock = some g → w7.heap.size ≤ g := fun g hg => by
                  rcases hat8 with h | h
                  · rw [h] at hg; simp only [Value.ownBlock, Option.some.injEq] at hg; omega
                  · rw [h] at hg; simp only [Option.some.injEq, World.size_drew, World.size_alloc] at hg; omega
                have hb8 : Below w7.heap.size w7 w8 := grown_below hbA.drew hg8 (by simp) (fun k hk => by simp only [Value.ownBlock, Option.some.injEq] at hk; omega)
                refine hK.out _ _ (by trivial) (fun hHeld => ?_)
                clear hK K
                (try simp only [Act.put, List.setIfInBounds_toArray, List.set_cons_zero, List.set_cons_succ])
                refine stepL 9 rfl (by kernel_rfl) (fun K hK => ?_)
                refine step_app (v := v8) (by rfl) _ _ 44 44 (by rfl) w.heap.size 47 2 40 fileElt Tryd.underlying44 _ _ (by rfl) hown8 (by rfl) ((haveS now cur).length - ch0) _ (HsB.out _ hb8) (by unfold maxLen; omega) (by omega) (by have := HL7.out.below.size; have := hb8.size; omega) ?_
                intro v10 w10 hown10 hg10 hat10
                have hb10 : Below w7.heap.size w7 w10 := grown_below hb8 hg10 hb8.size hv8
                have hnew : ∀ g, v10.ownBlock = some g → w7.heap.size ≤ g := fun g hg => by
                  rcases hat10 with h | h
                  · exact hv8 g (h.symm.trans hg)
                  · rw [h] at hg; simp only [Option.some.injEq] at hg; have := hb8.size; omega
                have hnewl : ∀ g, v10.ownBlock = some g → g < w10.heap.size := fun g hg => (World.ownsRow.lt hown10 g hg).2
                have hH10 := HHk.out.less hjL (v' := v10) (w10 := w10) (by
                  rw [← Hjn.out]
                  rw [Nat.zero_add, List.nil_append] at hown10
                  exact hown10) (fun g hg => hb10.block g (HL7.out.lt g (HHk.out.inK g hg).1))
                rw [← have_remove Hfg.out] at hH10
                have hL10 : DirL w w10 (fun k => KB k ∨ v10.ownBlock = some k) X D 100 safe cur (fdel now nm) saved epoch which := HL7.out.grow (fun k hk _ => hb10.block k hk) (below_trans HL7.out.below hb10) (fun k hk => .inl hk) (fun k hk h2 => by
                  rcases h2 with h2 | h2
                  · exact h2
                  · have := hnew k h2; omega) (fun k hk => by
                  rcases hk with hk | hk
                  · have := HL7.out.lt k hk; have := hb10.size; omega
                  · exact hnewl k hk)
                refine hK.out _ _ (by trivial) (fun hHeld => ?_)
                clear hK K
                (try simp only [Act.put, List.setIfInBounds_toArray, List.set_cons_zero, List.set_cons_succ])
                refine' takeL (v := _) 10 rfl (by kernel_rfl) (by kernel_rfl) (by kernel_rfl) (fun _ _ _ h => h) (by rfl) ?_ (by assumption) ?_; rotate_left 1; (focus (intro w hSw; (try dsimp only at hSw); go_simp; (try with_reducible rfl); done))
                (try simp only [Act.put, List.setIfInBounds_toArray, List.set_cons_zero, List.set_cons_succ])
                refine wpAnyH_done (by kernel_rfl) ?_ _
                have HL10 := Lib.hid hL10
                have HH10 := Lib.hid hH10
                clear hL10 hH10 hown10 hg10 hat10 hnew hnewl hown8 hg8 hat8 hv8 hz
                as_aux_lemma =>
                  obtain ⟨qh, ch, hve, hl10, hlch, hfile⟩ := have_files HL10.out HH10.out
                  first | subst hve | (simp only [Value.slice.injEq] at hve; obtain ⟨rfl, hlq, rfl⟩ := hve; first | subst hlq | skip)
                  have Hfile := Lib.hid hfile
                  clear hfile
                  generalize hLh : haveS (fdel now nm) cur = Lh at *
                  have HLh := Lib.hid hLh
                  clear hLh
                  go_wp2_with fail
                  go_loopg [137, 11, 12, 13] Lh.length (fun g i _ _ _ wr => ∃ m : Nat, i = .int .i64 m ∧ m ≤ Lh.length ∧ Lh.length - m ≤ g ∧ Below w10.heap.size w10 wr)
                  case atStart => exact ⟨0, rfl, Nat.zero_le _, by omega, (Below.refl _ _)⟩
                  case round =>
                    obtain ⟨m, rfl, hm, hmg, hbi⟩ := hrel
                    by_cases hml : m < Lh.length
                    · obtain ⟨g, gb, hge, d0, d1, hlf, hs, hR, hZ⟩ := Hfile.out m hml
                      first | subst hge | (simp only [Option.some.injEq, Addr.mk.injEq, and_true] at hge; subst hge)
                      replace d0 := bcell hbi d0
                      replace d1 := bcell hbi d1
                      have m0 : (0 : Int) ≤ (m : Int) := by omega
                      have m1 : (m : Int) < (Lh.length : Int) := by omega
                      generalize Lh[m] = fx at *
                      obtain ⟨fn, fb⟩ := fx
                      dsimp only at *
                      obtain ⟨lf, hlfe⟩ : ∃ lf, lf = fb.length := ⟨_, rfl⟩
                      rw [← hlfe] at d1 hlf hs hR hZ
                      have Hlf := Lib.hid hlfe
                      clear hlfe
                      go_upto_region 31 with fail
                      generalize hW11 : World.alloc wr _ = w11
                      have hb11 : Below wr.heap.size wr w11 := by rw [← hW11]; exact below_new _ _
                      have e0 : w11.cell? ⟨wr.heap.size, 0, none⟩ = some (.string fn) := by rw [← hW11]; simp
                      have e1 : w11.cell? ⟨wr.heap.size, 1, none⟩ = some (.slice (some ⟨gb, 0, none⟩) lf lf) := by rw [← hW11]; simp
                      clear hW11 d0 d1
                      have hbi11 := below_trans hbi hb11
                      have hRd := hR w11 hbi11
                      go_upto_region 32 with (first | (go_at_call 22; refine hRd.mono ?_; rintro e w12 ⟨vr, rfl, hb12, hown12⟩) | fail)
                      have hbi12 := below_trans hbi11 hb12
                      replace e0 := bcell hb12 e0
                      replace e1 := bcell hb12 e1
                      have hsv := hown12.at (by have := Hlf.out; omega)
                      have hsf := hs.mono ByteE.mono hbi12
                      obtain ⟨qr, cr, rfl, -⟩ := bytes_len hsv
                      have cv1 := fun s => conv_bytes (hsv.mono ByteE.mono (later_below w12 s))
                      have cv2 := fun s => conv_bytes (hsf.mono ByteE.mono (later_below w12 s))
                      have kZ := fun s => hZ (later w12 s) (below_trans hbi12 (later_below w12 s))
                      have g0 := fun s => later_cell e0 s
                      have g1 := fun s => later_cell e1 s
                      generalize (⟨fb.toArray⟩ : ByteArray) = fstr at *
                      clear hR hZ hRd hsv hsf hown12 hs e0 e1
                      refine wp_region_mild (by kernel_rfl) (by kernel_rfl) ?_
                      repeat (any_goals (first | go_big_quiet_step ((first | (exact mild_of (kZ _)))) | quiet_step ((first | (exact mild_of (kZ _)))) | (refine wpQuiet_step (fun K hK => ?_); go_simp; split <;> (refine hK _ ?_; clear hK K))))
                      all_goals (refine wpQuiet_nil ?_; intro W hW)
                      all_goals
                        (go_wp2_with fail
                         go_roundg (gk - 1)
                         case measure => omega
                         case rel => exact ⟨m + 1, by go_num, by omega, by omega, below_trans hbi12 hW⟩)
                    · have hme : m = Lh.length := by omega
                      subst hme
                      go_wp2_with fail
                      go_roundw
                      case rel => exact ⟨k + 1, hlt, by go_num, _, _, _, _, _, _, _, _, HL10.out.more hbi, by rw [HLh.out]; exact HH10.out.kept (kept_of_below hbi HL10.out.lt), by omega⟩
                      case measure => simp [intOf]; omega
              · skip
                have hsB : ∀ W, Below w7.heap.size w7 W → Src Tryd.prog 2 44 (.slice (some ⟨g, jn * 2, none⟩) ((haveS now cur).length - jn) (ch0 - jn)) ((haveS now cur).length - jn) ((List.zipWith fileC (haveS now cur) gs).drop jn).flatten W := fun W hW => by
                  have h1 := (HHk.out.kept (kept_of_below hW HL7.out.lt)).part (i := jn) (m := (haveS now cur).length - jn) (c := (ch0 - jn)) (by omega)
                  rw [List.take_of_length_le (by rw [List.length_drop, HHk.out.rows]; omega)] at h1
                  exact h1
                have hsA : ∀ W, Below w7.heap.size w7 W → Src Tryd.prog 2 44 (.slice (some ⟨g, 0, none⟩) j ch0) j ((List.zipWith fileC (haveS now cur) gs).take j).flatten W := fun W hW => by
                  have h1 := (HHk.out.kept (kept_of_below hW HL7.out.lt)).part (i := 0) (m := j) (c := ch0) (by omega)
                  rw [Nat.zero_mul, List.drop_zero] at h1
                  exact h1
                have HsA := Lib.hid hsA
                have HsB := Lib.hid hsB
                clear hsA hsB
                refine wp_region_held_drew (S := (fun _ => True)) (by kernel_rfl) (by trivial) (fun hHeld => ?_)
                refine' takeL (v := _) 1 rfl (by kernel_rfl) (by kernel_rfl) (by kernel_rfl) (fun _ _ _ h => h) (by rfl) ?_ (by assumption) ?_; rotate_left 1; (focus (intro w hSw; (try dsimp only at hSw); go_simp; (try with_reducible rfl); done))
                (try simp only [Act.put, List.setIfInBounds_toArray, List.set_cons_zero, List.set_cons_succ])
                refine' takeL (v := _) 2 rfl (by kernel_rfl) (by kernel_rfl) (by kernel_rfl) (fun _ _ _ h => h) (by rfl) ?_ (by assumption) ?_; rotate_left 1; (focus (intro w hSw; (try dsimp only at hSw); go_simp; (try with_reducible rfl); done))
                (try simp only [Act.put, List.setIfInBounds_toArray, List.set_cons_zero, List.set_cons_succ])
                refine' takeL (v := _) 3 rfl (by kernel_rfl) (by kernel_rfl) (by kernel_rfl) (fun _ _ _ h => h) (by rfl) ?_ (by assumption) ?_; rotate_left 1; (focus (intro w hSw; (try dsimp only at hSw); go_simp; (try with_reducible rfl); done))
                (try simp only [Act.put, List.setIfInBounds_toArray, List.set_cons_zero, List.set_cons_succ])
                refine' takeL (v := _) 5 rfl (by kernel_rfl) (by kernel_rfl) (by kernel_rfl) (fun _ _ _ h => h) (by rfl) ?_ (by assumption) ?_; rotate_left 1; (focus (intro w hSw; (try dsimp only at hSw); go_simp; (try with_reducible rfl); done))
                (try simp only [Act.put, List.setIfInBounds_toArray, List.set_cons_zero, List.set_cons_succ])
                refine' takeL (v := _) 6 rfl (by kernel_rfl) (by kernel_rfl) (by kernel_rfl) (fun _ _ _ h => h) (by rfl) ?_ (by assumption) ?_; rotate_left 1; (focus (intro w hSw; (try dsimp only at hSw); go_simp; (try with_reducible rfl); done))
                (try simp only [Act.put, List.setIfInBounds_toArray, List.set_cons_zero, List.set_cons_succ])
                refine' takeL (v := _) 7 rfl (by kernel_rfl) (by kernel_rfl) (by kernel_rfl) (fun _ _ _ h => h) (by rfl) ?_ (by assumption) ?_; rotate_left 1; (focus (intro w hSw; (try dsimp only at hSw); go_simp; (try with_reducible rfl); done))
                (try simp only [Act.put, List.setIfInBounds_toArray, List.set_cons_zero, List.set_cons_succ])
                refine' takeL (v := _) 8 rfl (by kernel_rfl) (by kernel_rfl) (by kernel_rfl) (fun _ _ _ h => h) (by rfl) ?_ (by assumption) ?_; rotate_left 1; (focus (intro w hSw; (try dsimp only at hSw); go_simp; (try with_reducible rfl); done))
                (try simp only [Act.put, List.setIfInBounds_toArray, List.set_cons_zero, List.set_cons_succ])
                refine stepL 0 rfl (by kernel_rfl) (fun K hK => ?_)
                go_simp
                have hbA : Below w7.heap.size w7 (w7.alloc (.cells #[] 47)) := below_new _ _
                have hz := OwnR.made w7 w.heap.size 47 2 HL7.out.below.size
                refine hK.out _ _ (by trivial) (fun hHeld => ?_)
                clear hK K
                (try simp only [Act.put, List.setIfInBounds_toArray, List.set_cons_zero, List.set_cons_succ])
                refine stepL 4 rfl (by kernel_rfl) (fun K hK => ?_)
                refine step_app (v := .slice (some ⟨w7.heap.size, 0, none⟩) 0 0) (by rfl) _ _ 44 44 (by rfl) w.heap.size 47 2 40 fileElt Tryd.underlying44 0 [] (by rfl) hz.row (by rfl) j _ (HsA.out _ hbA.drew) (by unfold maxLen; omega) (by omega) (by have := HL7.out.below.size; simp; omega) ?_
                intro v8 w8 hown8 hg8 hat8
                have hv8 : ∀ g, v8.ownBlock = some g → w7.heap.size ≤ g := fun g hg => by
                  rcases hat8 with h | h
                  · rw [h] at hg; simp only [Value.ownBlock, Option.some.injEq] at hg; omega
                  · rw [h] at hg; simp only [Option.some.injEq, World.size_drew, World.size_alloc] at hg; omega
                have hb8 : Below w7.heap.size w7 w8 := grown_below hbA.drew hg8 (by simp) (fun k hk => by simp only [Value.ownBlock, Option.some.injEq] at hk; omega)
                refine hK.out _ _ (by trivial) (fun hHeld => ?_)
                clear hK K
                (try simp only [Act.put, List.setIfInBounds_toArray, List.set_cons_zero, List.set_cons_succ])
                refine stepL 9 rfl (by kernel_rfl) (fun K hK => ?_)
                refine step_app (v := v8) (by rfl) _ _ 44 44 (by rfl) w.heap.size 47 2 40 fileElt Tryd.underlying44 _ _ (by rfl) hown8 (by rfl) ((haveS now cur).length - jn) _ (HsB.out _ hb8) (by unfold maxLen; omega) (by omega) (by have := HL7.out.below.size; have := hb8.size; omega) ?_
                intro v10 w10 hown10 hg10 hat10
                have hb10 : Below w7.heap.size w7 w10 := grown_below hb8 hg10 hb8.size hv8
                have hnew : ∀ g, v10.ownBlock = some g → w7.heap.size ≤ g := fun g hg => by
                  rcases hat10 with h | h
                  · exact hv8 g (h.symm.trans hg)
                  · rw [h] at hg; simp only [Option.some.injEq] at hg; have := hb8.size; omega
                have hnewl : ∀ g, v10.ownBlock = some g → g < w10.heap.size := fun g hg => (World.ownsRow.lt hown10 g hg).2
                have hH10 := HHk.out.less hjL (v' := v10) (w10 := w10) (by
                  rw [← Hjn.out]
                  rw [Nat.zero_add, List.nil_append] at hown10
                  exact hown10) (fun g hg => hb10.block g (HL7.out.lt g (HHk.out.inK g hg).1))
                rw [← have_remove Hfg.out] at hH10
                have hL10 : DirL w w10 (fun k => KB k ∨ v10.ownBlock = some k) X D 100 safe cur (fdel now nm) saved epoch which := HL7.out.grow (fun k hk _ => hb10.block k hk) (below_trans HL7.out.below hb10) (fun k hk => .inl hk) (fun k hk h2 => by
                  rcases h2 with h2 | h2
                  · exact h2
                  · have := hnew k h2; omega) (fun k hk => by
                  rcases hk with hk | hk
                  · have := HL7.out.lt k hk; have := hb10.size; omega
                  · exact hnewl k hk)
                refine hK.out _ _ (by trivial) (fun hHeld => ?_)
                clear hK K
                (try simp only [Act.put, List.setIfInBounds_toArray, List.set_cons_zero, List.set_cons_succ])
                refine' takeL (v := _) 10 rfl (by kernel_rfl) (by kernel_rfl) (by kernel_rfl) (fun _ _ _ h => h) (by rfl) ?_ (by assumption) ?_; rotate_left 1; (focus (intro w hSw; (try dsimp only at hSw); go_simp; (try with_reducible rfl); done))
                (try simp only [Act.put, List.setIfInBounds_toArray, List.set_cons_zero, List.set_cons_succ])
                refine wpAnyH_done (by kernel_rfl) ?_ _
                have HL10 := Lib.hid hL10
                have HH10 := Lib.hid hH10
                clear hL10 hH10 hown10 hg10 hat10 hnew hnewl hown8 hg8 hat8 hv8 hz
                as_aux_lemma =>
                  obtain ⟨qh, ch, hve, hl10, hlch, hfile⟩ := have_files HL10.out HH10.out
                  first | subst hve | (simp only [Value.slice.injEq] at hve; obtain ⟨rfl, hlq, rfl⟩ := hve; first | subst hlq | skip)
                  have Hfile := Lib.hid hfile
                  clear hfile
                  generalize hLh : haveS (fdel now nm) cur = Lh at *
                  have HLh := Lib.hid hLh
                  clear hLh
                  go_wp2_with fail
                  go_loopg [137, 11, 12, 13] Lh.length (fun g i _ _ _ wr => ∃ m : Nat, i = .int .i64 m ∧ m ≤ Lh.length ∧ Lh.length - m ≤ g ∧ Below w10.heap.size w10 wr)
                  case atStart => exact ⟨0, rfl, Nat.zero_le _, by omega, (Below.refl _ _)⟩
                  case round =>
                    obtain ⟨m, rfl, hm, hmg, hbi⟩ := hrel
                    by_cases hml : m < Lh.length
                    · obtain ⟨g, gb, hge, d0, d1, hlf, hs, hR, hZ⟩ := Hfile.out m hml
                      first | subst hge | (simp only [Option.some.injEq, Addr.mk.injEq, and_true] at hge; subst hge)
                      replace d0 := bcell hbi d0
                      replace d1 := bcell hbi d1
                      have m0 : (0 : Int) ≤ (m : Int) := by omega
                      have m1 : (m : Int) < (Lh.length : Int) := by omega
                      generalize Lh[m] = fx at *
                      obtain ⟨fn, fb⟩ := fx
                      dsimp only at *
                      obtain ⟨lf, hlfe⟩ : ∃ lf, lf = fb.length := ⟨_, rfl⟩
                      rw [← hlfe] at d1 hlf hs hR hZ
                      have Hlf := Lib.hid hlfe
                      clear hlfe
                      go_upto_region 31 with fail
                      generalize hW11 : World.alloc wr _ = w11
                      have hb11 : Below wr.heap.size wr w11 := by rw [← hW11]; exact below_new _ _
                      have e0 : w11.cell? ⟨wr.heap.size, 0, none⟩ = some (.string fn) := by rw [← hW11]; simp
                      have e1 : w11.cell? ⟨wr.heap.size, 1, none⟩ = some (.slice (some ⟨gb, 0, none⟩) lf lf) := by rw [← hW11]; simp
                      clear hW11 d0 d1
                      have hbi11 := below_trans hbi hb11
                      have hRd := hR w11 hbi11
                      go_upto_region 32 with (first | (go_at_call 22; refine hRd.mono ?_; rintro e w12 ⟨vr, rfl, hb12, hown12⟩) | fail)
                      have hbi12 := below_trans hbi11 hb12
                      replace e0 := bcell hb12 e0
                      replace e1 := bcell hb12 e1
                      have hsv := hown12.at (by have := Hlf.out; omega)
                      have hsf := hs.mono ByteE.mono hbi12
                      obtain ⟨qr, cr, rfl, -⟩ := bytes_len hsv
                      have cv1 := fun s => conv_bytes (hsv.mono ByteE.mono (later_below w12 s))
                      have cv2 := fun s => conv_bytes (hsf.mono ByteE.mono (later_below w12 s))
                      have kZ := fun s => hZ (later w12 s) (below_trans hbi12 (later_below w12 s))
                      have g0 := fun s => later_cell e0 s
                      have g1 := fun s => later_cell e1 s
                      generalize (⟨fb.toArray⟩ : ByteArray) = fstr at *
                      clear hR hZ hRd hsv hsf hown12 hs e0 e1
                      refine wp_region_mild (by kernel_rfl) (by kernel_rfl) ?_
                      repeat (any_goals (first | go_big_quiet_step ((first | (exact mild_of (kZ _)))) | quiet_step ((first | (exact mild_of (kZ _)))) | (refine wpQuiet_step (fun K hK => ?_); go_simp; split <;> (refine hK _ ?_; clear hK K))))
                      all_goals (refine wpQuiet_nil ?_; intro W hW)
                      all_goals
                        (go_wp2_with fail
                         go_roundg (gk - 1)
                         case measure => omega
                         case rel => exact ⟨m + 1, by go_num, by omega, by omega, below_trans hbi12 hW⟩)
                    · have hme : m = Lh.length := by omega
                      subst hme
                      go_wp2_with fail
                      go_roundw
                      case rel => exact ⟨k + 1, hlt, by go_num, _, _, _, _, _, _, _, _, HL10.out.more hbi, by rw [HLh.out]; exact HH10.out.kept (kept_of_below hbi HL10.out.lt), by omega⟩
                      case measure => simp [intOf]; omega
          · by_cases k2 : kd = 2
            · subst k2
              obtain ⟨qh0, ch0, hu, hch0, hcj⟩ := HH6.out.cells
              obtain ⟨N, hN⟩ : ∃ N, N = (haveS now cur).length := ⟨_, rfl⟩
              rw [← hN] at hu
              subst hu
              have HN2 := Lib.hid hN
              clear hN hch0
              have hcall := lwrite HL6.out nm at_ hi2 _ bs hbv
              cases hws : wrS now nm at_ bs.length with
              | none =>
                rw [hws] at hcall
                go_upto_region 28 with (first
                  | (go_at_call 13; refine hcall.mono ?_; rintro e w7 ⟨x, rfl, hx, hL7, hk7⟩; have hxb := isSome_beq hx rfl; have hxd := isSome_dec hx rfl; rw [show (none : Option Nat).isSome = false from rfl] at hxb hxd; have hHk := HH6.out.kept hk7)
                  | fail)
                have HL7 := Lib.hid (show DirL w w7 KB X D 100 safe cur now saved epoch which from hL7)
                have HH7 := Lib.hid hHk
                clear hL7 hHk HH6 hcall hx hxb hxd hcj
                as_aux_lemma =>
                  obtain ⟨qh, ch, hve, hl10, hlch, hfile⟩ := have_files HL7.out HH7.out
                  first | subst hve | (simp only [Value.slice.injEq] at hve; obtain ⟨rfl, hlq, rfl⟩ := hve; first | subst hlq | skip)
                  have Hfile := Lib.hid hfile
                  clear hfile
                  generalize hLh : haveS now cur = Lh at *
                  have HLh := Lib.hid hLh
                  clear hLh
                  go_wp2_with fail
                  go_loopg [137, 11, 12, 13] Lh.length (fun g i _ _ _ wr => ∃ m : Nat, i = .int .i64 m ∧ m ≤ Lh.length ∧ Lh.length - m ≤ g ∧ Below w7.heap.size w7 wr)
                  case atStart => exact ⟨0, rfl, Nat.zero_le _, by omega, (Below.refl _ _)⟩
                  case round =>
                    obtain ⟨m, rfl, hm, hmg, hbi⟩ := hrel
                    by_cases hml : m < Lh.length
                    · obtain ⟨g, gb, hge, d0, d1, hlf, hs, hR, hZ⟩ := Hfile.out m hml
                      first | subst hge | (simp only [Option.some.injEq, Addr.mk.injEq, and_true] at hge; subst hge)
                      replace d0 := bcell hbi d0
                      replace d1 := bcell hbi d1
                      have m0 : (0 : Int) ≤ (m : Int) := by omega
                      have m1 : (m : Int) < (Lh.length : Int) := by omega
                      generalize Lh[m] = fx at *
                      obtain ⟨fn, fb⟩ := fx
                      dsimp only at *
                      obtain ⟨lf, hlfe⟩ : ∃ lf, lf = fb.length := ⟨_, rfl⟩
                      rw [← hlfe] at d1 hlf hs hR hZ
                      have Hlf := Lib.hid hlfe
                      clear hlfe
                      go_upto_region 31 with fail
                      generalize hW11 : World.alloc wr _ = w11
                      have hb11 : Below wr.heap.size wr w11 := by rw [← hW11]; exact below_new _ _
                      have e0 : w11.cell? ⟨wr.heap.size, 0, none⟩ = some (.string fn) := by rw [← hW11]; simp
                      have e1 : w11.cell? ⟨wr.heap.size, 1, none⟩ = some (.slice (some ⟨gb, 0, none⟩) lf lf) := by rw [← hW11]; simp
                      clear hW11 d0 d1
                      have hbi11 := below_trans hbi hb11
                      have hRd := hR w11 hbi11
                      go_upto_region 32 with (first | (go_at_call 22; refine hRd.mono ?_; rintro e w12 ⟨vr, rfl, hb12, hown12⟩) | fail)
                      have hbi12 := below_trans hbi11 hb12
                      replace e0 := bcell hb12 e0
                      replace e1 := bcell hb12 e1
                      have hsv := hown12.at (by have := Hlf.out; omega)
                      have hsf := hs.mono ByteE.mono hbi12
                      obtain ⟨qr, cr, rfl, -⟩ := bytes_len hsv
                      have cv1 := fun s => conv_bytes (hsv.mono ByteE.mono (later_below w12 s))
                      have cv2 := fun s => conv_bytes (hsf.mono ByteE.mono (later_below w12 s))
                      have kZ := fun s => hZ (later w12 s) (below_trans hbi12 (later_below w12 s))
                      have g0 := fun s => later_cell e0 s
                      have g1 := fun s => later_cell e1 s
                      generalize (⟨fb.toArray⟩ : ByteArray) = fstr at *
                      clear hR hZ hRd hsv hsf hown12 hs e0 e1
                      refine wp_region_mild (by kernel_rfl) (by kernel_rfl) ?_
                      repeat (any_goals (first | go_big_quiet_step ((first | (exact mild_of (kZ _)))) | quiet_step ((first | (exact mild_of (kZ _)))) | (refine wpQuiet_step (fun K hK => ?_); go_simp; split <;> (refine hK _ ?_; clear hK K))))
                      all_goals (refine wpQuiet_nil ?_; intro W hW)
                      all_goals
                        (go_wp2_with fail
                         go_roundg (gk - 1)
                         case measure => omega
                         case rel => exact ⟨m + 1, by go_num, by omega, by omega, below_trans hbi12 hW⟩)
                    · have hme : m = Lh.length := by omega
                      subst hme
                      go_wp2_with fail
                      go_roundw
                      case rel => exact ⟨k + 1, hlt, by go_num, _, _, _, _, _, _, _, _, HL7.out.more hbi, by rw [HLh.out]; exact HH7.out.kept (kept_of_below hbi HL7.out.lt), by omega⟩
                      case measure => simp [intOf]; omega
              | some q0 =>
                rw [hws] at hcall
                obtain ⟨j, hjl, hj, ha0, hal, hset⟩ := have_write HL6.out.ok hws
                obtain rfl : fv = (j : Int) := by rw [Hfv.out, findV_some hj]
                have hjL : j < (haveS now cur).length := by rw [haveS_len]; exact hjl
                have hjg : j < gs.length := by rw [HH6.out.len]; exact hjL
                obtain ⟨g, rfl, -, -, d1⟩ := hcj j hjL hjg
                have hxj : (haveS now cur)[j] = (now[j].1, seg cur (32 * now[j].2.1) (32 * now[j].2.2)) := by simp [haveS]
                have hsl := have_seg HL6.out.ok (List.getElem_mem hjl)
                obtain ⟨hjl2, hj1, hjl3⟩ := fidx_some hj
                obtain ⟨an, rfl⟩ : ∃ an : Nat, at_ = an := ⟨at_.toNat, by omega⟩
                rw [Int.toNat_natCast] at hal hset
                have hbj := HH6.out.blk j hjL hjg
                rw [hxj] at d1 hbj
                dsimp only at d1 hbj
                obtain ⟨lf, hlf⟩ : ∃ lf, lf = 32 * now[j].2.2 := ⟨_, rfl⟩
                rw [hsl, ← hlf] at d1
                rw [← hlf] at hal
                have hin9 := (HL6.out.ok.gnow.each now[j] (List.getElem_mem hjl)).2.2.2
                have hlf2 : lf ≤ 3200 := by omega
                obtain ⟨old, hold⟩ : ∃ old, old = seg cur (32 * now[j].2.1) (32 * now[j].2.2) := ⟨_, rfl⟩
                rw [← hold] at hset hbj
                have holdl : old.length = lf := by rw [hold, hsl, hlf]
                have hres1 : nm = (haveS now cur)[j].1 := by rw [hxj]; exact hj1.symm
                have hres2 : (haveS now cur)[j].2.length = lf := by rw [hxj]; dsimp only; rw [hsl, hlf]
                obtain ⟨gb, hgb⟩ : ∃ gb, gb = gs[j] := ⟨_, rfl⟩
                rw [← hgb] at d1 hbj
                have hgbK : KB gb ∧ w.heap.size ≤ gb := by rw [hgb]; exact HH6.out.inK _ (List.getElem_mem hjg)
                have hgK : KB g := HH6.out.vK g rfl
                have Hset := Lib.hid hset
                have Hres1 := Lib.hid hres1
                have Hres2 := Lib.hid hres2
                have Hgb := Lib.hid hgb
                have Holdl := Lib.hid holdl
                have j0 : (0 : Int) ≤ (j : Int) := by omega
                have j1 : (j : Int) < (N : Int) := by rw [HN2.out]; omega
                have j2 : ¬ (an : Int) < 0 := by omega
                have j3 : ¬ (lf : Int) < (an : Int) := by omega
                have j4 : (an : Int) ≤ (lf : Int) := by omega
                have j5 : (0 : Int) ≤ (an : Int) := by omega
                clear hset hres1 hres2 hgb holdl hold hlf hsl hj1 hjl3 hxj hj hcj hws hin9 ha0
                go_upto_region 23 with (first
                  | (go_at_call 13; refine hcall.mono ?_; rintro e w7 ⟨x, rfl, hx, hL7, hk7⟩; have hx0 := hx.2 rfl; subst hx0; have hHk := HH6.out.kept hk7)
                  | fail)
                replace f1 := (hk7.cell (p := ⟨bx, 1, none⟩) hbox).trans f1
                replace f4 := (hk7.cell (p := ⟨bx, 4, none⟩) hbox).trans f4
                replace d1 := (hk7.cell (p := ⟨g, j * 2 + 1, none⟩) hgK).trans d1
                replace hbj := (hk7.block gb hgbK.1).trans hbj
                have HL7 := Lib.hid (show DirL w w7 KB X D 100 safe (splice cur q0 bs) now saved epoch which from hL7)
                have HHk := Lib.hid hHk
                clear hL7 hHk hcall HH6 hx
                refine wp_region_held_drew (S := (fun w' => w'.cell? ⟨bx, 1, none⟩ = some (.int .i64 (an : Int)) ∧ w'.cell? ⟨g, j * 2 + 1, none⟩ = some (.slice (some ⟨gb, 0, none⟩) lf lf))) (by kernel_rfl) (by exact ⟨f1, d1⟩) (fun hHeld => ?_)
                refine' takeL (v := _) 0 rfl (by kernel_rfl) (by kernel_rfl) (by kernel_rfl) (fun _ _ _ h => h) (by rfl) ?_ (by assumption) ?_; rotate_left 1; (focus (intro w hSw; (try dsimp only at hSw); go_simp; (try with_reducible rfl); done))
                (try simp only [Act.put, List.setIfInBounds_toArray, List.set_cons_zero, List.set_cons_succ])
                refine' takeL (v := _) 1 rfl (by kernel_rfl) (by kernel_rfl) (by kernel_rfl) (fun _ _ _ h => h) (by rfl) ?_ (by assumption) ?_; rotate_left 1; (focus (intro w hSw; (try dsimp only at hSw); go_simp; (try with_reducible rfl); done))
                (try simp only [Act.put, List.setIfInBounds_toArray, List.set_cons_zero, List.set_cons_succ])
                refine' takeL (v := _) 2 rfl (by kernel_rfl) (by kernel_rfl) (by kernel_rfl) (fun _ _ _ h => h) (by rfl) ?_ (by assumption) ?_; rotate_left 1; (focus (intro w hSw; (try dsimp only at hSw); go_simp; (try with_reducible rfl); done))
                (try simp only [Act.put, List.setIfInBounds_toArray, List.set_cons_zero, List.set_cons_succ])
                refine' takeL (v := _) 3 rfl (by kernel_rfl) (by kernel_rfl) (by kernel_rfl) (fun _ _ _ h => h) (by rfl) ?_ (by assumption) ?_; rotate_left 1; (focus (intro w hSw; (try dsimp only at hSw); go_simp; (try with_reducible rfl); done))
                (try simp only [Act.put, List.setIfInBounds_toArray, List.set_cons_zero, List.set_cons_succ])
                refine' takeL (v := _) 4 rfl (by kernel_rfl) (by kernel_rfl) (by kernel_rfl) (fun _ _ _ h => h) (by rfl) ?_ (by assumption) ?_; rotate_left 1; (focus (intro w hSw; (try dsimp only at hSw); go_simp; (try with_reducible rfl); done))
                (try simp only [Act.put, List.setIfInBounds_toArray, List.set_cons_zero, List.set_cons_succ])
                refine' takeL (v := _) 5 rfl (by kernel_rfl) (by kernel_rfl) (by kernel_rfl) (fun _ _ _ h => h) (by rfl) ?_ (by assumption) ?_; rotate_left 1; (focus (intro w hSw; (try dsimp only at hSw); go_simp; (try with_reducible rfl); done))
                (try simp only [Act.put, List.setIfInBounds_toArray, List.set_cons_zero, List.set_cons_succ])
                refine' takeL (v := _) 6 rfl (by kernel_rfl) (by kernel_rfl) (by kernel_rfl) (fun _ _ _ h => h) (by rfl) ?_ (by assumption) ?_; rotate_left 1; (focus (intro w hSw; (try dsimp only at hSw); go_simp; (try with_reducible rfl); done))
                (try simp only [Act.put, List.setIfInBounds_toArray, List.set_cons_zero, List.set_cons_succ])
                refine' takeL (v := _) 7 rfl (by kernel_rfl) (by kernel_rfl) (by kernel_rfl) (fun _ _ _ h => h) (by rfl) ?_ (by assumption) ?_; rotate_left 1; (focus (intro w hSw; (try dsimp only at hSw); go_simp; (try with_reducible rfl); done))
                (try simp only [Act.put, List.setIfInBounds_toArray, List.set_cons_zero, List.set_cons_succ])
                refine' takeL (v := _) 8 rfl (by kernel_rfl) (by kernel_rfl) (by kernel_rfl) (fun _ _ _ h => h) (by rfl) ?_ (by assumption) ?_; rotate_left 1; (focus (intro w hSw; (try dsimp only at hSw); go_simp; (try with_reducible rfl); done))
                (try simp only [Act.put, List.setIfInBounds_toArray, List.set_cons_zero, List.set_cons_succ])
                refine' takeL (v := _) 9 rfl (by kernel_rfl) (by kernel_rfl) (by kernel_rfl) (fun _ _ _ h => h) (by rfl) ?_ (by assumption) ?_; rotate_left 1; (focus (intro w hSw; (try dsimp only at hSw); go_simp; (try with_reducible rfl); done))
                (try simp only [Act.put, List.setIfInBounds_toArray, List.set_cons_zero, List.set_cons_succ])
                refine' takeL (v := _) 10 rfl (by kernel_rfl) (by kernel_rfl) (by kernel_rfl) (fun _ _ _ h => h) (by rfl) ?_ (by assumption) ?_; rotate_left 1; (focus (intro w hSw; (try dsimp only at hSw); go_simp; (try with_reducible rfl); done))
                (try simp only [Act.put, List.setIfInBounds_toArray, List.set_cons_zero, List.set_cons_succ])
                refine' takeL (v := _) 11 rfl (by kernel_rfl) (by kernel_rfl) (by kernel_rfl) (fun _ _ _ h => h) (by rfl) ?_ (by assumption) ?_; rotate_left 1; (focus (intro w hSw; (try dsimp only at hSw); go_simp; (try with_reducible rfl); done))
                (try simp only [Act.put, List.setIfInBounds_toArray, List.set_cons_zero, List.set_cons_succ])
                refine' takeL (v := _) 12 rfl (by kernel_rfl) (by kernel_rfl) (by kernel_rfl) (fun _ _ _ h => h) (by rfl) ?_ (by assumption) ?_; rotate_left 1; (focus (intro w hSw; (try dsimp only at hSw); go_simp; (try with_reducible rfl); done))
                (try simp only [Act.put, List.setIfInBounds_toArray, List.set_cons_zero, List.set_cons_succ])
                refine' takeL (v := _) 13 rfl (by kernel_rfl) (by kernel_rfl) (by kernel_rfl) (fun _ _ _ h => h) (by rfl) ?_ (by assumption) ?_; rotate_left 1; (focus (intro w hSw; (try dsimp only at hSw); go_simp; (try with_reducible rfl); done))
                (try simp only [Act.put, List.setIfInBounds_toArray, List.set_cons_zero, List.set_cons_succ])
                refine' takeL (v := _) 14 rfl (by kernel_rfl) (by kernel_rfl) (by kernel_rfl) (fun _ _ _ h => h) (by rfl) ?_ (by assumption) ?_; rotate_left 1; (focus (intro w hSw; (try dsimp only at hSw); go_simp; (try with_reducible rfl); done))
                (try simp only [Act.put, List.setIfInBounds_toArray, List.set_cons_zero, List.set_cons_succ])
                refine' takeL (v := _) 15 rfl (by kernel_rfl) (by kernel_rfl) (by kernel_rfl) (fun _ _ _ h => h) (by rfl) ?_ (by assumption) ?_; rotate_left 1; (focus (intro w hSw; (try dsimp only at hSw); go_simp; (try with_reducible rfl); done))
                (try simp only [Act.put, List.setIfInBounds_toArray, List.set_cons_zero, List.set_cons_succ])
                refine' takeL (v := _) 16 rfl (by kernel_rfl) (by kernel_rfl) (by kernel_rfl) (fun _ _ _ h => h) (by rfl) ?_ (by assumption) ?_; rotate_left 1; (focus (intro w hSw; (try dsimp only at hSw); go_simp; (try with_reducible rfl); done))
                (try simp only [Act.put, List.setIfInBounds_toArray, List.set_cons_zero, List.set_cons_succ])
                refine' takeL (v := _) 17 rfl (by kernel_rfl) (by kernel_rfl) (by kernel_rfl) (fun _ _ _ h => h) (by rfl) ?_ (by assumption) ?_; rotate_left 1; (focus (intro w hSw; (try dsimp only at hSw); go_simp; (try with_reducible rfl); done))
                (try simp only [Act.put, List.setIfInBounds_toArray, List.set_cons_zero, List.set_cons_succ])
                refine wpAnyH_done (by kernel_rfl) ?_ _
                go_upto_region 25 with fail
                have hHfin : ∀ W, Kept (fun k => k ≠ gb) w7 W → W.heap[gb]? = some (.cells ((splice old an bs).map YtnpnchociegmpaaDoor.u8).toArray 5 (0, 0)) → HaveAt w W KB (.slice (some ⟨g, 0, none⟩) N ch0) (haveS now (splice cur q0 bs)) gs ∧ DirL w W KB X D 100 safe (splice cur q0 bs) now saved epoch which := fun W hk hb => by
                  have h1 := HHk.out.set (i := j) hjL hjg Hres1.out (bs := splice old an bs) (by rw [splice_len (by rw [Holdl.out]; exact hal), Holdl.out, Hres2.out]) (by rw [← Hgb.out]; exact hb) (fun k hk2 => hk.block k (by rw [Hgb.out]; exact hk2))
                  rw [← Hset.out] at h1
                  have hbw : Below w.heap.size w W := HL7.out.below.trans (hk.less (K' := fun k => k < w.heap.size) (fun k hk2 => by have := hgbK.2; show k ≠ gb; omega)).below
                  exact ⟨h1, HL7.out.grow (fun k hk2 hnk => hk.block k (fun e => hnk (e ▸ hgbK.1))) hbw (fun k h => h) (fun k _ h => h) (fun k h => Nat.lt_of_lt_of_le (HL7.out.lt k h) hk.size)⟩
                have HHfin := Lib.hid hHfin
                clear hHfin
                by_cases hbs0 : bs.length = 0
                · have hbsn : bs = [] := List.eq_nil_of_length_eq_zero hbs0
                  have hspl : splice old an bs = old := by rw [hbsn]; exact splice_nil
                  have hfin := HHfin.out w7.drew ((Kept.refl _ w7).drew) (by rw [hspl]; exact hbj)
                  rw [hbs0] at f4
                  have Hfin := Lib.hid hfin
                  clear hfin hspl hbs0 hbsn
                  by_cases hle : lf = an
                  · subst hle
                    refine wp_region_held_drew (S := (fun w' => w'.cell? ⟨bx, 1, none⟩ = some (.int .i64 (lf : Int)) ∧ w'.cell? ⟨bx, 4, none⟩ = some (.slice qb 0 cb) ∧ w'.cell? ⟨g, j * 2 + 1, none⟩ = some (.slice (some ⟨gb, 0, none⟩) lf lf))) (by kernel_rfl) (by exact ⟨f1, f4, d1⟩) (fun hHeld => ?_)
                    refine' takeL (v := _) 0 rfl (by kernel_rfl) (by kernel_rfl) (by kernel_rfl) (fun _ _ _ h => h) (by rfl) ?_ (by assumption) ?_; rotate_left 1; (focus (intro w hSw; (try dsimp only at hSw); go_simp; (try with_reducible rfl); done))
                    (try simp only [Act.put, List.setIfInBounds_toArray, List.set_cons_zero, List.set_cons_succ])
                    refine' takeL (v := _) 1 rfl (by kernel_rfl) (by kernel_rfl) (by kernel_rfl) (fun _ _ _ h => h) (by rfl) ?_ (by assumption) ?_; rotate_left 1; (focus (intro w hSw; (try dsimp only at hSw); go_simp; (try with_reducible rfl); done))
                    (try simp only [Act.put, List.setIfInBounds_toArray, List.set_cons_zero, List.set_cons_succ])
                    refine' takeL (v := _) 2 rfl (by kernel_rfl) (by kernel_rfl) (by kernel_rfl) (fun _ _ _ h => h) (by rfl) ?_ (by assumption) ?_; rotate_left 1; (focus (intro w hSw; (try dsimp only at hSw); go_simp; (try with_reducible rfl); done))
                    (try simp only [Act.put, List.setIfInBounds_toArray, List.set_cons_zero, List.set_cons_succ])
                    refine' takeL (v := _) 3 rfl (by kernel_rfl) (by kernel_rfl) (by kernel_rfl) (fun _ _ _ h => h) (by rfl) ?_ (by assumption) ?_; rotate_left 1; (focus (intro w hSw; (try dsimp only at hSw); go_simp; (try with_reducible rfl); done))
                    (try simp only [Act.put, List.setIfInBounds_toArray, List.set_cons_zero, List.set_cons_succ])
                    refine' takeL (v := _) 4 rfl (by kernel_rfl) (by kernel_rfl) (by kernel_rfl) (fun _ _ _ h => h) (by rfl) ?_ (by assumption) ?_; rotate_left 1; (focus (intro w hSw; (try dsimp only at hSw); go_simp; (try with_reducible rfl); done))
                    (try simp only [Act.put, List.setIfInBounds_toArray, List.set_cons_zero, List.set_cons_succ])
                    refine' takeL (v := _) 5 rfl (by kernel_rfl) (by kernel_rfl) (by kernel_rfl) (fun _ _ _ h => h) (by rfl) ?_ (by assumption) ?_; rotate_left 1; (focus (intro w hSw; (try dsimp only at hSw); go_simp; (try with_reducible rfl); done))
                    (try simp only [Act.put, List.setIfInBounds_toArray, List.set_cons_zero, List.set_cons_succ])
                    refine' takeL (v := _) 6 rfl (by kernel_rfl) (by kernel_rfl) (by kernel_rfl) (fun _ _ _ h => h) (by rfl) ?_ (by assumption) ?_; rotate_left 1; (focus (intro w hSw; (try dsimp only at hSw); go_simp; (try with_reducible rfl); done))
                    (try simp only [Act.put, List.setIfInBounds_toArray, List.set_cons_zero, List.set_cons_succ])
                    refine' takeL (v := _) 7 rfl (by kernel_rfl) (by kernel_rfl) (by kernel_rfl) (fun _ _ _ h => h) (by rfl) ?_ (by assumption) ?_; rotate_left 1; (focus (intro w hSw; (try dsimp only at hSw); go_simp; (try with_reducible rfl); done))
                    (try simp only [Act.put, List.setIfInBounds_toArray, List.set_cons_zero, List.set_cons_succ])
                    refine' takeL (v := _) 8 rfl (by kernel_rfl) (by kernel_rfl) (by kernel_rfl) (fun _ _ _ h => h) (by rfl) ?_ (by assumption) ?_; rotate_left 1; (focus (intro w hSw; (try dsimp only at hSw); go_simp; (try with_reducible rfl); done))
                    (try simp only [Act.put, List.setIfInBounds_toArray, List.set_cons_zero, List.set_cons_succ])
                    refine' takeL (v := _) 9 rfl (by kernel_rfl) (by kernel_rfl) (by kernel_rfl) (fun _ _ _ h => h) (by rfl) ?_ (by assumption) ?_; rotate_left 1; (focus (intro w hSw; (try dsimp only at hSw); go_simp; (try with_reducible rfl); done))
                    (try simp only [Act.put, List.setIfInBounds_toArray, List.set_cons_zero, List.set_cons_succ])
                    refine stepL 10 rfl (by kernel_rfl) (fun K hK => ?_)
                    refine step_copy_none (by rfl) _ _ 32 32 (by rfl) 5 Tryd.underlying32 u8_size _ _ _ _ _ _ (by rfl) (by rfl) (Nat.zero_min _) ?_
                    refine hK.out _ _ (by exact ⟨f1, f4, d1⟩) (fun hHeld => ?_)
                    clear hK K
                    (try simp only [Act.put, List.setIfInBounds_toArray, List.set_cons_zero, List.set_cons_succ])
                    refine wpAnyH_done (by kernel_rfl) ?_ _
                    rw [show goInt 0 = Value.int .i64 0 from rfl]
                    try simp only [show ¬ (lf < lf) by omega, decide_false, Bool.or_false]
                    have HLf := Lib.hid Hfin.out.2
                    have HHf := Lib.hid Hfin.out.1
                    as_aux_lemma =>
                      obtain ⟨qh, ch, hve, hl10, hlch, hfile⟩ := have_files HLf.out HHf.out
                      first | subst hve | (simp only [Value.slice.injEq] at hve; obtain ⟨rfl, hlq, rfl⟩ := hve; first | subst hlq | skip)
                      have Hfile := Lib.hid hfile
                      clear hfile
                      generalize hLh : haveS now (splice cur q0 bs) = Lh at *
                      have HLh := Lib.hid hLh
                      clear hLh
                      go_wp2_with fail
                      go_loopg [137, 11, 12, 13] Lh.length (fun g i _ _ _ wr => ∃ m : Nat, i = .int .i64 m ∧ m ≤ Lh.length ∧ Lh.length - m ≤ g ∧ Below w7.drew.heap.size w7.drew wr)
                      case atStart => exact ⟨0, rfl, Nat.zero_le _, by omega, ((Below.refl _ _).drew)⟩
                      case round =>
                        obtain ⟨m, rfl, hm, hmg, hbi⟩ := hrel
                        by_cases hml : m < Lh.length
                        · obtain ⟨g, gb, hge, d0, d1, hlf, hs, hR, hZ⟩ := Hfile.out m hml
                          first | subst hge | (simp only [Option.some.injEq, Addr.mk.injEq, and_true] at hge; subst hge)
                          replace d0 := bcell hbi d0
                          replace d1 := bcell hbi d1
                          have m0 : (0 : Int) ≤ (m : Int) := by omega
                          have m1 : (m : Int) < (Lh.length : Int) := by omega
                          generalize Lh[m] = fx at *
                          obtain ⟨fn, fb⟩ := fx
                          dsimp only at *
                          obtain ⟨lf, hlfe⟩ : ∃ lf, lf = fb.length := ⟨_, rfl⟩
                          rw [← hlfe] at d1 hlf hs hR hZ
                          have Hlf := Lib.hid hlfe
                          clear hlfe
                          go_upto_region 31 with fail
                          generalize hW11 : World.alloc wr _ = w11
                          have hb11 : Below wr.heap.size wr w11 := by rw [← hW11]; exact below_new _ _
                          have e0 : w11.cell? ⟨wr.heap.size, 0, none⟩ = some (.string fn) := by rw [← hW11]; simp
                          have e1 : w11.cell? ⟨wr.heap.size, 1, none⟩ = some (.slice (some ⟨gb, 0, none⟩) lf lf) := by rw [← hW11]; simp
                          clear hW11 d0 d1
                          have hbi11 := below_trans hbi hb11
                          have hRd := hR w11 hbi11
                          go_upto_region 32 with (first | (go_at_call 22; refine hRd.mono ?_; rintro e w12 ⟨vr, rfl, hb12, hown12⟩) | fail)
                          have hbi12 := below_trans hbi11 hb12
                          replace e0 := bcell hb12 e0
                          replace e1 := bcell hb12 e1
                          have hsv := hown12.at (by have := Hlf.out; omega)
                          have hsf := hs.mono ByteE.mono hbi12
                          obtain ⟨qr, cr, rfl, -⟩ := bytes_len hsv
                          have cv1 := fun s => conv_bytes (hsv.mono ByteE.mono (later_below w12 s))
                          have cv2 := fun s => conv_bytes (hsf.mono ByteE.mono (later_below w12 s))
                          have kZ := fun s => hZ (later w12 s) (below_trans hbi12 (later_below w12 s))
                          have g0 := fun s => later_cell e0 s
                          have g1 := fun s => later_cell e1 s
                          generalize (⟨fb.toArray⟩ : ByteArray) = fstr at *
                          clear hR hZ hRd hsv hsf hown12 hs e0 e1
                          refine wp_region_mild (by kernel_rfl) (by kernel_rfl) ?_
                          repeat (any_goals (first | go_big_quiet_step ((first | (exact mild_of (kZ _)))) | quiet_step ((first | (exact mild_of (kZ _)))) | (refine wpQuiet_step (fun K hK => ?_); go_simp; split <;> (refine hK _ ?_; clear hK K))))
                          all_goals (refine wpQuiet_nil ?_; intro W hW)
                          all_goals
                            (go_wp2_with fail
                             go_roundg (gk - 1)
                             case measure => omega
                             case rel => exact ⟨m + 1, by go_num, by omega, by omega, below_trans hbi12 hW⟩)
                        · have hme : m = Lh.length := by omega
                          subst hme
                          go_wp2_with fail
                          go_roundw
                          case rel => exact ⟨k + 1, hlt, by go_num, _, _, _, _, _, _, _, _, HLf.out.more hbi, by rw [HLh.out]; exact HHf.out.kept (kept_of_below hbi HLf.out.lt), by omega⟩
                          case measure => simp [intOf]; omega
                  · skip
                    refine wp_region_held_drew (S := (fun w' => w'.cell? ⟨bx, 1, none⟩ = some (.int .i64 (an : Int)) ∧ w'.cell? ⟨bx, 4, none⟩ = some (.slice qb 0 cb) ∧ w'.cell? ⟨g, j * 2 + 1, none⟩ = some (.slice (some ⟨gb, 0, none⟩) lf lf))) (by kernel_rfl) (by exact ⟨f1, f4, d1⟩) (fun hHeld => ?_)
                    refine' takeL (v := _) 0 rfl (by kernel_rfl) (by kernel_rfl) (by kernel_rfl) (fun _ _ _ h => h) (by rfl) ?_ (by assumption) ?_; rotate_left 1; (focus (intro w hSw; (try dsimp only at hSw); go_simp; (try with_reducible rfl); done))
                    (try simp only [Act.put, List.setIfInBounds_toArray, List.set_cons_zero, List.set_cons_succ])
                    refine' takeL (v := _) 1 rfl (by kernel_rfl) (by kernel_rfl) (by kernel_rfl) (fun _ _ _ h => h) (by rfl) ?_ (by assumption) ?_; rotate_left 1; (focus (intro w hSw; (try dsimp only at hSw); go_simp; (try with_reducible rfl); done))
                    (try simp only [Act.put, List.setIfInBounds_toArray, List.set_cons_zero, List.set_cons_succ])
                    refine' takeL (v := _) 2 rfl (by kernel_rfl) (by kernel_rfl) (by kernel_rfl) (fun _ _ _ h => h) (by rfl) ?_ (by assumption) ?_; rotate_left 1; (focus (intro w hSw; (try dsimp only at hSw); go_simp; (try with_reducible rfl); done))
                    (try simp only [Act.put, List.setIfInBounds_toArray, List.set_cons_zero, List.set_cons_succ])
                    refine' takeL (v := _) 3 rfl (by kernel_rfl) (by kernel_rfl) (by kernel_rfl) (fun _ _ _ h => h) (by rfl) ?_ (by assumption) ?_; rotate_left 1; (focus (intro w hSw; (try dsimp only at hSw); go_simp; (try with_reducible rfl); done))
                    (try simp only [Act.put, List.setIfInBounds_toArray, List.set_cons_zero, List.set_cons_succ])
                    refine' takeL (v := _) 4 rfl (by kernel_rfl) (by kernel_rfl) (by kernel_rfl) (fun _ _ _ h => h) (by rfl) ?_ (by assumption) ?_; rotate_left 1; (focus (intro w hSw; (try dsimp only at hSw); go_simp; (try with_reducible rfl); done))
                    (try simp only [Act.put, List.setIfInBounds_toArray, List.set_cons_zero, List.set_cons_succ])
                    refine' takeL (v := _) 5 rfl (by kernel_rfl) (by kernel_rfl) (by kernel_rfl) (fun _ _ _ h => h) (by rfl) ?_ (by assumption) ?_; rotate_left 1; (focus (intro w hSw; (try dsimp only at hSw); go_simp; (try with_reducible rfl); done))
                    (try simp only [Act.put, List.setIfInBounds_toArray, List.set_cons_zero, List.set_cons_succ])
                    refine' takeL (v := _) 6 rfl (by kernel_rfl) (by kernel_rfl) (by kernel_rfl) (fun _ _ _ h => h) (by rfl) ?_ (by assumption) ?_; rotate_left 1; (focus (intro w hSw; (try dsimp only at hSw); go_simp; (try with_reducible rfl); done))
                    (try simp only [Act.put, List.setIfInBounds_toArray, List.set_cons_zero, List.set_cons_succ])
                    refine' takeL (v := _) 7 rfl (by kernel_rfl) (by kernel_rfl) (by kernel_rfl) (fun _ _ _ h => h) (by rfl) ?_ (by assumption) ?_; rotate_left 1; (focus (intro w hSw; (try dsimp only at hSw); go_simp; (try with_reducible rfl); done))
                    (try simp only [Act.put, List.setIfInBounds_toArray, List.set_cons_zero, List.set_cons_succ])
                    refine' takeL (v := _) 8 rfl (by kernel_rfl) (by kernel_rfl) (by kernel_rfl) (fun _ _ _ h => h) (by rfl) ?_ (by assumption) ?_; rotate_left 1; (focus (intro w hSw; (try dsimp only at hSw); go_simp; (try with_reducible rfl); done))
                    (try simp only [Act.put, List.setIfInBounds_toArray, List.set_cons_zero, List.set_cons_succ])
                    refine' takeL (v := _) 9 rfl (by kernel_rfl) (by kernel_rfl) (by kernel_rfl) (fun _ _ _ h => h) (by rfl) ?_ (by assumption) ?_; rotate_left 1; (focus (intro w hSw; (try dsimp only at hSw); go_simp; (try with_reducible rfl); done))
                    (try simp only [Act.put, List.setIfInBounds_toArray, List.set_cons_zero, List.set_cons_succ])
                    refine stepL 10 rfl (by kernel_rfl) (fun K hK => ?_)
                    refine step_copy_none (by rfl) _ _ 32 32 (by rfl) 5 Tryd.underlying32 u8_size _ _ _ _ _ _ (by rfl) (by rfl) (Nat.zero_min _) ?_
                    refine hK.out _ _ (by exact ⟨f1, f4, d1⟩) (fun hHeld => ?_)
                    clear hK K
                    (try simp only [Act.put, List.setIfInBounds_toArray, List.set_cons_zero, List.set_cons_succ])
                    refine wpAnyH_done (by kernel_rfl) ?_ _
                    rw [show goInt 0 = Value.int .i64 0 from rfl]
                    try simp only [show ¬ (lf < an) by omega, decide_false, Bool.or_false]
                    have HLf := Lib.hid Hfin.out.2
                    have HHf := Lib.hid Hfin.out.1
                    as_aux_lemma =>
                      obtain ⟨qh, ch, hve, hl10, hlch, hfile⟩ := have_files HLf.out HHf.out
                      first | subst hve | (simp only [Value.slice.injEq] at hve; obtain ⟨rfl, hlq, rfl⟩ := hve; first | subst hlq | skip)
                      have Hfile := Lib.hid hfile
                      clear hfile
                      generalize hLh : haveS now (splice cur q0 bs) = Lh at *
                      have HLh := Lib.hid hLh
                      clear hLh
                      go_wp2_with fail
                      go_loopg [137, 11, 12, 13] Lh.length (fun g i _ _ _ wr => ∃ m : Nat, i = .int .i64 m ∧ m ≤ Lh.length ∧ Lh.length - m ≤ g ∧ Below w7.drew.heap.size w7.drew wr)
                      case atStart => exact ⟨0, rfl, Nat.zero_le _, by omega, ((Below.refl _ _).drew)⟩
                      case round =>
                        obtain ⟨m, rfl, hm, hmg, hbi⟩ := hrel
                        by_cases hml : m < Lh.length
                        · obtain ⟨g, gb, hge, d0, d1, hlf, hs, hR, hZ⟩ := Hfile.out m hml
                          first | subst hge | (simp only [Option.some.injEq, Addr.mk.injEq, and_true] at hge; subst hge)
                          replace d0 := bcell hbi d0
                          replace d1 := bcell hbi d1
                          have m0 : (0 : Int) ≤ (m : Int) := by omega
                          have m1 : (m : Int) < (Lh.length : Int) := by omega
                          generalize Lh[m] = fx at *
                          obtain ⟨fn, fb⟩ := fx
                          dsimp only at *
                          obtain ⟨lf, hlfe⟩ : ∃ lf, lf = fb.length := ⟨_, rfl⟩
                          rw [← hlfe] at d1 hlf hs hR hZ
                          have Hlf := Lib.hid hlfe
                          clear hlfe
                          go_upto_region 31 with fail
                          generalize hW11 : World.alloc wr _ = w11
                          have hb11 : Below wr.heap.size wr w11 := by rw [← hW11]; exact below_new _ _
                          have e0 : w11.cell? ⟨wr.heap.size, 0, none⟩ = some (.string fn) := by rw [← hW11]; simp
                          have e1 : w11.cell? ⟨wr.heap.size, 1, none⟩ = some (.slice (some ⟨gb, 0, none⟩) lf lf) := by rw [← hW11]; simp
                          clear hW11 d0 d1
                          have hbi11 := below_trans hbi hb11
                          have hRd := hR w11 hbi11
                          go_upto_region 32 with (first | (go_at_call 22; refine hRd.mono ?_; rintro e w12 ⟨vr, rfl, hb12, hown12⟩) | fail)
                          have hbi12 := below_trans hbi11 hb12
                          replace e0 := bcell hb12 e0
                          replace e1 := bcell hb12 e1
                          have hsv := hown12.at (by have := Hlf.out; omega)
                          have hsf := hs.mono ByteE.mono hbi12
                          obtain ⟨qr, cr, rfl, -⟩ := bytes_len hsv
                          have cv1 := fun s => conv_bytes (hsv.mono ByteE.mono (later_below w12 s))
                          have cv2 := fun s => conv_bytes (hsf.mono ByteE.mono (later_below w12 s))
                          have kZ := fun s => hZ (later w12 s) (below_trans hbi12 (later_below w12 s))
                          have g0 := fun s => later_cell e0 s
                          have g1 := fun s => later_cell e1 s
                          generalize (⟨fb.toArray⟩ : ByteArray) = fstr at *
                          clear hR hZ hRd hsv hsf hown12 hs e0 e1
                          refine wp_region_mild (by kernel_rfl) (by kernel_rfl) ?_
                          repeat (any_goals (first | go_big_quiet_step ((first | (exact mild_of (kZ _)))) | quiet_step ((first | (exact mild_of (kZ _)))) | (refine wpQuiet_step (fun K hK => ?_); go_simp; split <;> (refine hK _ ?_; clear hK K))))
                          all_goals (refine wpQuiet_nil ?_; intro W hW)
                          all_goals
                            (go_wp2_with fail
                             go_roundg (gk - 1)
                             case measure => omega
                             case rel => exact ⟨m + 1, by go_num, by omega, by omega, below_trans hbi12 hW⟩)
                        · have hme : m = Lh.length := by omega
                          subst hme
                          go_wp2_with fail
                          go_roundw
                          case rel => exact ⟨k + 1, hlt, by go_num, _, _, _, _, _, _, _, _, HLf.out.more hbi, by rw [HLh.out]; exact HHf.out.kept (kept_of_below hbi HLf.out.lt), by omega⟩
                          case measure => simp [intOf]; omega
                · obtain ⟨q9, c9, hq9, -, -, hby⟩ := hbv.bytesAt
                  simp only [Value.slice.injEq] at hq9
                  obtain ⟨rfl, -, rfl⟩ := hq9
                  obtain ⟨sb, so, rfl, -⟩ := hby 0 (by omega)
                  have hb07 := HL7.out.below
                  have hsrc : ∀ (jj : Nat) (vv : Value), (bs.map YtnpnchociegmpaaDoor.u8)[jj]? = some vv → w7.cell? ((⟨sb, so, none⟩ : Addr).add jj) = some vv := fun jj vv hvv => by
                    rw [List.getElem?_map] at hvv
                    cases hbb : bs[jj]? with
                    | none => rw [hbb] at hvv; cases hvv
                    | some y =>
                      rw [hbb] at hvv
                      simp only [Option.map_some, Option.some.injEq] at hvv
                      obtain ⟨hjj, rfl⟩ := List.getElem?_eq_some_iff.1 hbb
                      obtain ⟨b9, o9, e9, h9⟩ := hby jj hjj
                      simp only [Option.some.injEq, Addr.mk.injEq] at e9
                      obtain ⟨rfl, rfl, -⟩ := e9
                      rw [Addr.add_lit, ← hvv]
                      exact bcell hb07 h9
                  have hne : ¬ lf = an := by omega
                  refine wp_region_held_drew (S := (fun w' => w'.cell? ⟨bx, 1, none⟩ = some (.int .i64 (an : Int)) ∧ w'.cell? ⟨bx, 4, none⟩ = some (.slice (some ⟨sb, so, none⟩) bs.length cb) ∧ w'.cell? ⟨g, j * 2 + 1, none⟩ = some (.slice (some ⟨gb, 0, none⟩) lf lf))) (by kernel_rfl) (by exact ⟨f1, f4, d1⟩) (fun hHeld => ?_)
                  refine' takeL (v := _) 0 rfl (by kernel_rfl) (by kernel_rfl) (by kernel_rfl) (fun _ _ _ h => h) (by rfl) ?_ (by assumption) ?_; rotate_left 1; (focus (intro w hSw; (try dsimp only at hSw); go_simp; (try with_reducible rfl); done))
                  (try simp only [Act.put, List.setIfInBounds_toArray, List.set_cons_zero, List.set_cons_succ])
                  refine' takeL (v := _) 1 rfl (by kernel_rfl) (by kernel_rfl) (by kernel_rfl) (fun _ _ _ h => h) (by rfl) ?_ (by assumption) ?_; rotate_left 1; (focus (intro w hSw; (try dsimp only at hSw); go_simp; (try with_reducible rfl); done))
                  (try simp only [Act.put, List.setIfInBounds_toArray, List.set_cons_zero, List.set_cons_succ])
                  refine' takeL (v := _) 2 rfl (by kernel_rfl) (by kernel_rfl) (by kernel_rfl) (fun _ _ _ h => h) (by rfl) ?_ (by assumption) ?_; rotate_left 1; (focus (intro w hSw; (try dsimp only at hSw); go_simp; (try with_reducible rfl); done))
                  (try simp only [Act.put, List.setIfInBounds_toArray, List.set_cons_zero, List.set_cons_succ])
                  refine' takeL (v := _) 3 rfl (by kernel_rfl) (by kernel_rfl) (by kernel_rfl) (fun _ _ _ h => h) (by rfl) ?_ (by assumption) ?_; rotate_left 1; (focus (intro w hSw; (try dsimp only at hSw); go_simp; (try with_reducible rfl); done))
                  (try simp only [Act.put, List.setIfInBounds_toArray, List.set_cons_zero, List.set_cons_succ])
                  refine' takeL (v := _) 4 rfl (by kernel_rfl) (by kernel_rfl) (by kernel_rfl) (fun _ _ _ h => h) (by rfl) ?_ (by assumption) ?_; rotate_left 1; (focus (intro w hSw; (try dsimp only at hSw); go_simp; (try with_reducible rfl); done))
                  (try simp only [Act.put, List.setIfInBounds_toArray, List.set_cons_zero, List.set_cons_succ])
                  refine' takeL (v := _) 5 rfl (by kernel_rfl) (by kernel_rfl) (by kernel_rfl) (fun _ _ _ h => h) (by rfl) ?_ (by assumption) ?_; rotate_left 1; (focus (intro w hSw; (try dsimp only at hSw); go_simp; (try with_reducible rfl); done))
                  (try simp only [Act.put, List.setIfInBounds_toArray, List.set_cons_zero, List.set_cons_succ])
                  refine' takeL (v := _) 6 rfl (by kernel_rfl) (by kernel_rfl) (by kernel_rfl) (fun _ _ _ h => h) (by rfl) ?_ (by assumption) ?_; rotate_left 1; (focus (intro w hSw; (try dsimp only at hSw); go_simp; (try with_reducible rfl); done))
                  (try simp only [Act.put, List.setIfInBounds_toArray, List.set_cons_zero, List.set_cons_succ])
                  refine' takeL (v := _) 7 rfl (by kernel_rfl) (by kernel_rfl) (by kernel_rfl) (fun _ _ _ h => h) (by rfl) ?_ (by assumption) ?_; rotate_left 1; (focus (intro w hSw; (try dsimp only at hSw); go_simp; (try with_reducible rfl); done))
                  (try simp only [Act.put, List.setIfInBounds_toArray, List.set_cons_zero, List.set_cons_succ])
                  refine' takeL (v := _) 8 rfl (by kernel_rfl) (by kernel_rfl) (by kernel_rfl) (fun _ _ _ h => h) (by rfl) ?_ (by assumption) ?_; rotate_left 1; (focus (intro w hSw; (try dsimp only at hSw); go_simp; (try with_reducible rfl); done))
                  (try simp only [Act.put, List.setIfInBounds_toArray, List.set_cons_zero, List.set_cons_succ])
                  refine' takeL (v := _) 9 rfl (by kernel_rfl) (by kernel_rfl) (by kernel_rfl) (fun _ _ _ h => h) (by rfl) ?_ (by assumption) ?_; rotate_left 1; (focus (intro w hSw; (try dsimp only at hSw); go_simp; (try with_reducible rfl); done))
                  (try simp only [Act.put, List.setIfInBounds_toArray, List.set_cons_zero, List.set_cons_succ])
                  refine stepL 10 rfl (by kernel_rfl) (fun K hK => ?_)
                  refine step_copy_row (by rfl) _ _ 32 32 (by rfl) 5 Tryd.underlying32 u8_size gb an (lf - an) (lf - an) ⟨sb, so, none⟩ bs.length cb (by rfl) (by rfl) (old.map YtnpnchociegmpaaDoor.u8).toArray 5 hbj (bs.map YtnpnchociegmpaaDoor.u8) (by rw [List.length_map]; exact (Nat.min_eq_left (by omega)).symm) hsrc (by rw [List.length_map, List.size_toArray, List.length_map, Holdl.out]; exact hal) (fun v hv => by obtain ⟨y, -, rfl⟩ := List.mem_map.1 hv; rfl) ?_
                  have hbxg : bx ≠ gb := fun e => by
                    have h5 := (congrArg (fun k : Nat => w7.heap[k]?) e).symm.trans ((hk7.block bx hbox).trans Hbk6.out)
                    have h6 := hbj.symm.trans h5
                    simp only [Option.some.injEq, Obj.cells.injEq] at h6
                    exact absurd h6.2.1 (by decide)
                  have hgg : g ≠ gb := fun e => by
                    rcases HHk.out.row.row.2 with ⟨h3, -⟩ | ⟨g', cap', cur', h3, -, h4, -⟩
                    · cases h3
                    · simp only [Value.slice.injEq, Option.some.injEq, Addr.mk.injEq] at h3
                      have h5 := (congrArg (fun k : Nat => w7.heap[k]?) (e.symm.trans h3.1.1)).symm.trans hbj
                      have h6 := h4.symm.trans h5
                      simp only [Option.some.injEq, Obj.cells.injEq] at h6
                      exact absurd h6.2.1 (by decide)
                  have hrowl : (List.take an (List.map YtnpnchociegmpaaDoor.u8 old).toArray.toList ++ List.map YtnpnchociegmpaaDoor.u8 bs ++ List.drop (an + (List.map YtnpnchociegmpaaDoor.u8 bs).length) (List.map YtnpnchociegmpaaDoor.u8 old).toArray.toList) = (splice old an bs).map YtnpnchociegmpaaDoor.u8 := by
                    unfold splice
                    simp only [List.map_append, List.map_take, List.map_drop, List.length_map]
                  rw [hrowl]
                  generalize hW8 : World.setRow _ _ _ = w8
                  have hk8 : Kept (fun k => k ≠ gb) w7 w8 := by
                    rw [← hW8]
                    exact ((Kept.refl _ w7).drew).trans ⟨rfl, rfl, rfl, by simp [World.setRow], fun k hk => setRow_other _ _ _ _ hk⟩
                  have hb8 : w8.heap[gb]? = some (.cells ((splice old an bs).map YtnpnchociegmpaaDoor.u8).toArray 5 (0, 0)) := by
                    rw [← hW8]
                    exact setRow_heap _ gb _ _ _ _ hbj
                  clear hW8
                  refine hK.out _ _ (by exact ⟨(hk8.cell (p := ⟨bx, 1, none⟩) hbxg).trans f1, (hk8.cell (p := ⟨bx, 4, none⟩) hbxg).trans f4, (hk8.cell (p := ⟨g, j * 2 + 1, none⟩) hgg).trans d1⟩) (fun hHeld => ?_)
                  clear hK K
                  (try simp only [Act.put, List.setIfInBounds_toArray, List.set_cons_zero, List.set_cons_succ])
                  refine wpAnyH_done (by kernel_rfl) ?_ _
                  have hfin := HHfin.out w8 hk8 hb8
                  have HLf := Lib.hid hfin.2
                  have HHf := Lib.hid hfin.1
                  clear hfin
                  as_aux_lemma =>
                    obtain ⟨qh, ch, hve, hl10, hlch, hfile⟩ := have_files HLf.out HHf.out
                    first | subst hve | (simp only [Value.slice.injEq] at hve; obtain ⟨rfl, hlq, rfl⟩ := hve; first | subst hlq | skip)
                    have Hfile := Lib.hid hfile
                    clear hfile
                    generalize hLh : haveS now (splice cur q0 bs) = Lh at *
                    have HLh := Lib.hid hLh
                    clear hLh
                    go_wp2_with fail
                    go_loopg [137, 11, 12, 13] Lh.length (fun g i _ _ _ wr => ∃ m : Nat, i = .int .i64 m ∧ m ≤ Lh.length ∧ Lh.length - m ≤ g ∧ Below w8.heap.size w8 wr)
                    case atStart => exact ⟨0, rfl, Nat.zero_le _, by omega, (Below.refl _ _)⟩
                    case round =>
                      obtain ⟨m, rfl, hm, hmg, hbi⟩ := hrel
                      by_cases hml : m < Lh.length
                      · obtain ⟨g, gb, hge, d0, d1, hlf, hs, hR, hZ⟩ := Hfile.out m hml
                        first | subst hge | (simp only [Option.some.injEq, Addr.mk.injEq, and_true] at hge; subst hge)
                        replace d0 := bcell hbi d0
                        replace d1 := bcell hbi d1
                        have m0 : (0 : Int) ≤ (m : Int) := by omega
                        have m1 : (m : Int) < (Lh.length : Int) := by omega
                        generalize Lh[m] = fx at *
                        obtain ⟨fn, fb⟩ := fx
                        dsimp only at *
                        obtain ⟨lf, hlfe⟩ : ∃ lf, lf = fb.length := ⟨_, rfl⟩
                        rw [← hlfe] at d1 hlf hs hR hZ
                        have Hlf := Lib.hid hlfe
                        clear hlfe
                        go_upto_region 31 with fail
                        generalize hW11 : World.alloc wr _ = w11
                        have hb11 : Below wr.heap.size wr w11 := by rw [← hW11]; exact below_new _ _
                        have e0 : w11.cell? ⟨wr.heap.size, 0, none⟩ = some (.string fn) := by rw [← hW11]; simp
                        have e1 : w11.cell? ⟨wr.heap.size, 1, none⟩ = some (.slice (some ⟨gb, 0, none⟩) lf lf) := by rw [← hW11]; simp
                        clear hW11 d0 d1
                        have hbi11 := below_trans hbi hb11
                        have hRd := hR w11 hbi11
                        go_upto_region 32 with (first | (go_at_call 22; refine hRd.mono ?_; rintro e w12 ⟨vr, rfl, hb12, hown12⟩) | fail)
                        have hbi12 := below_trans hbi11 hb12
                        replace e0 := bcell hb12 e0
                        replace e1 := bcell hb12 e1
                        have hsv := hown12.at (by have := Hlf.out; omega)
                        have hsf := hs.mono ByteE.mono hbi12
                        obtain ⟨qr, cr, rfl, -⟩ := bytes_len hsv
                        have cv1 := fun s => conv_bytes (hsv.mono ByteE.mono (later_below w12 s))
                        have cv2 := fun s => conv_bytes (hsf.mono ByteE.mono (later_below w12 s))
                        have kZ := fun s => hZ (later w12 s) (below_trans hbi12 (later_below w12 s))
                        have g0 := fun s => later_cell e0 s
                        have g1 := fun s => later_cell e1 s
                        generalize (⟨fb.toArray⟩ : ByteArray) = fstr at *
                        clear hR hZ hRd hsv hsf hown12 hs e0 e1
                        refine wp_region_mild (by kernel_rfl) (by kernel_rfl) ?_
                        repeat (any_goals (first | go_big_quiet_step ((first | (exact mild_of (kZ _)))) | quiet_step ((first | (exact mild_of (kZ _)))) | (refine wpQuiet_step (fun K hK => ?_); go_simp; split <;> (refine hK _ ?_; clear hK K))))
                        all_goals (refine wpQuiet_nil ?_; intro W hW)
                        all_goals
                          (go_wp2_with fail
                           go_roundg (gk - 1)
                           case measure => omega
                           case rel => exact ⟨m + 1, by go_num, by omega, by omega, below_trans hbi12 hW⟩)
                      · have hme : m = Lh.length := by omega
                        subst hme
                        go_wp2_with fail
                        go_roundw
                        case rel => exact ⟨k + 1, hlt, by go_num, _, _, _, _, _, _, _, _, HLf.out.more hbi, by rw [HLh.out]; exact HHf.out.kept (kept_of_below hbi HLf.out.lt), by omega⟩
                        case measure => simp [intOf]; omega
            · by_cases k5 : kd = 5
              · subst k5
                have hcall := lsave HL6.out HN.out (by omega)
                go_upto_region 28 with (first
                  | (go_at_call 14; refine hcall.mono ?_; rintro e w7 ⟨rfl, hL7, hk7⟩)
                  | fail)
                have hH7 := HH6.out.kept hk7
                rw [← have_save HL6.out.ok (by omega)] at hH7
                have HL7 := Lib.hid hL7
                have HH7 := Lib.hid hH7
                clear hL7 hH7 HH6 hcall
                as_aux_lemma =>
                  obtain ⟨qh, ch, hve, hl10, hlch, hfile⟩ := have_files HL7.out HH7.out
                  first | subst hve | (simp only [Value.slice.injEq] at hve; obtain ⟨rfl, hlq, rfl⟩ := hve; first | subst hlq | skip)
                  have Hfile := Lib.hid hfile
                  clear hfile
                  generalize hLh : haveS now (saveS cur which epoch now) = Lh at *
                  have HLh := Lib.hid hLh
                  clear hLh
                  go_wp2_with fail
                  go_loopg [137, 11, 12, 13] Lh.length (fun g i _ _ _ wr => ∃ m : Nat, i = .int .i64 m ∧ m ≤ Lh.length ∧ Lh.length - m ≤ g ∧ Below w7.heap.size w7 wr)
                  case atStart => exact ⟨0, rfl, Nat.zero_le _, by omega, (Below.refl _ _)⟩
                  case round =>
                    obtain ⟨m, rfl, hm, hmg, hbi⟩ := hrel
                    by_cases hml : m < Lh.length
                    · obtain ⟨g, gb, hge, d0, d1, hlf, hs, hR, hZ⟩ := Hfile.out m hml
                      first | subst hge | (simp only [Option.some.injEq, Addr.mk.injEq, and_true] at hge; subst hge)
                      replace d0 := bcell hbi d0
                      replace d1 := bcell hbi d1
                      have m0 : (0 : Int) ≤ (m : Int) := by omega
                      have m1 : (m : Int) < (Lh.length : Int) := by omega
                      generalize Lh[m] = fx at *
                      obtain ⟨fn, fb⟩ := fx
                      dsimp only at *
                      obtain ⟨lf, hlfe⟩ : ∃ lf, lf = fb.length := ⟨_, rfl⟩
                      rw [← hlfe] at d1 hlf hs hR hZ
                      have Hlf := Lib.hid hlfe
                      clear hlfe
                      go_upto_region 31 with fail
                      generalize hW11 : World.alloc wr _ = w11
                      have hb11 : Below wr.heap.size wr w11 := by rw [← hW11]; exact below_new _ _
                      have e0 : w11.cell? ⟨wr.heap.size, 0, none⟩ = some (.string fn) := by rw [← hW11]; simp
                      have e1 : w11.cell? ⟨wr.heap.size, 1, none⟩ = some (.slice (some ⟨gb, 0, none⟩) lf lf) := by rw [← hW11]; simp
                      clear hW11 d0 d1
                      have hbi11 := below_trans hbi hb11
                      have hRd := hR w11 hbi11
                      go_upto_region 32 with (first | (go_at_call 22; refine hRd.mono ?_; rintro e w12 ⟨vr, rfl, hb12, hown12⟩) | fail)
                      have hbi12 := below_trans hbi11 hb12
                      replace e0 := bcell hb12 e0
                      replace e1 := bcell hb12 e1
                      have hsv := hown12.at (by have := Hlf.out; omega)
                      have hsf := hs.mono ByteE.mono hbi12
                      obtain ⟨qr, cr, rfl, -⟩ := bytes_len hsv
                      have cv1 := fun s => conv_bytes (hsv.mono ByteE.mono (later_below w12 s))
                      have cv2 := fun s => conv_bytes (hsf.mono ByteE.mono (later_below w12 s))
                      have kZ := fun s => hZ (later w12 s) (below_trans hbi12 (later_below w12 s))
                      have g0 := fun s => later_cell e0 s
                      have g1 := fun s => later_cell e1 s
                      generalize (⟨fb.toArray⟩ : ByteArray) = fstr at *
                      clear hR hZ hRd hsv hsf hown12 hs e0 e1
                      refine wp_region_mild (by kernel_rfl) (by kernel_rfl) ?_
                      repeat (any_goals (first | go_big_quiet_step ((first | (exact mild_of (kZ _)))) | quiet_step ((first | (exact mild_of (kZ _)))) | (refine wpQuiet_step (fun K hK => ?_); go_simp; split <;> (refine hK _ ?_; clear hK K))))
                      all_goals (refine wpQuiet_nil ?_; intro W hW)
                      all_goals
                        (go_wp2_with fail
                         go_roundg (gk - 1)
                         case measure => omega
                         case rel => exact ⟨m + 1, by go_num, by omega, by omega, below_trans hbi12 hW⟩)
                    · have hme : m = Lh.length := by omega
                      subst hme
                      go_wp2_with fail
                      go_roundw
                      case rel => exact ⟨k + 1, hlt, by go_num, _, _, _, _, _, _, _, _, HL7.out.more hbi, by rw [HLh.out]; exact HH7.out.kept (kept_of_below hbi HL7.out.lt), by omega⟩
                      case measure => simp [intOf]; omega
              · have q0 : (kd == (0 : Int)) = false := beq_false_of_ne k0
                have q1 : (kd == (1 : Int)) = false := beq_false_of_ne k1
                have q2 : (kd == (2 : Int)) = false := beq_false_of_ne k2
                have q5 : (kd == (5 : Int)) = false := beq_false_of_ne k5
                go_upto_region 28 with fail
                try rw [q0]
                try rw [q1]
                try rw [q2]
                try rw [q5]
                as_aux_lemma =>
                  obtain ⟨qh, ch, hve, hl10, hlch, hfile⟩ := have_files HL6.out HH6.out
                  first | subst hve | (simp only [Value.slice.injEq] at hve; obtain ⟨rfl, hlq, rfl⟩ := hve; first | subst hlq | skip)
                  have Hfile := Lib.hid hfile
                  clear hfile
                  generalize hLh : haveS now cur = Lh at *
                  have HLh := Lib.hid hLh
                  clear hLh
                  go_wp2_with fail
                  go_loopg [137, 11, 12, 13] Lh.length (fun g i _ _ _ wr => ∃ m : Nat, i = .int .i64 m ∧ m ≤ Lh.length ∧ Lh.length - m ≤ g ∧ Below w6.heap.size w6 wr)
                  case atStart => exact ⟨0, rfl, Nat.zero_le _, by omega, (Below.refl _ _)⟩
                  case round =>
                    obtain ⟨m, rfl, hm, hmg, hbi⟩ := hrel
                    by_cases hml : m < Lh.length
                    · obtain ⟨g, gb, hge, d0, d1, hlf, hs, hR, hZ⟩ := Hfile.out m hml
                      first | subst hge | (simp only [Option.some.injEq, Addr.mk.injEq, and_true] at hge; subst hge)
                      replace d0 := bcell hbi d0
                      replace d1 := bcell hbi d1
                      have m0 : (0 : Int) ≤ (m : Int) := by omega
                      have m1 : (m : Int) < (Lh.length : Int) := by omega
                      generalize Lh[m] = fx at *
                      obtain ⟨fn, fb⟩ := fx
                      dsimp only at *
                      obtain ⟨lf, hlfe⟩ : ∃ lf, lf = fb.length := ⟨_, rfl⟩
                      rw [← hlfe] at d1 hlf hs hR hZ
                      have Hlf := Lib.hid hlfe
                      clear hlfe
                      go_upto_region 31 with fail
                      generalize hW11 : World.alloc wr _ = w11
                      have hb11 : Below wr.heap.size wr w11 := by rw [← hW11]; exact below_new _ _
                      have e0 : w11.cell? ⟨wr.heap.size, 0, none⟩ = some (.string fn) := by rw [← hW11]; simp
                      have e1 : w11.cell? ⟨wr.heap.size, 1, none⟩ = some (.slice (some ⟨gb, 0, none⟩) lf lf) := by rw [← hW11]; simp
                      clear hW11 d0 d1
                      have hbi11 := below_trans hbi hb11
                      have hRd := hR w11 hbi11
                      go_upto_region 32 with (first | (go_at_call 22; refine hRd.mono ?_; rintro e w12 ⟨vr, rfl, hb12, hown12⟩) | fail)
                      have hbi12 := below_trans hbi11 hb12
                      replace e0 := bcell hb12 e0
                      replace e1 := bcell hb12 e1
                      have hsv := hown12.at (by have := Hlf.out; omega)
                      have hsf := hs.mono ByteE.mono hbi12
                      obtain ⟨qr, cr, rfl, -⟩ := bytes_len hsv
                      have cv1 := fun s => conv_bytes (hsv.mono ByteE.mono (later_below w12 s))
                      have cv2 := fun s => conv_bytes (hsf.mono ByteE.mono (later_below w12 s))
                      have kZ := fun s => hZ (later w12 s) (below_trans hbi12 (later_below w12 s))
                      have g0 := fun s => later_cell e0 s
                      have g1 := fun s => later_cell e1 s
                      generalize (⟨fb.toArray⟩ : ByteArray) = fstr at *
                      clear hR hZ hRd hsv hsf hown12 hs e0 e1
                      refine wp_region_mild (by kernel_rfl) (by kernel_rfl) ?_
                      repeat (any_goals (first | go_big_quiet_step ((first | (exact mild_of (kZ _)))) | quiet_step ((first | (exact mild_of (kZ _)))) | (refine wpQuiet_step (fun K hK => ?_); go_simp; split <;> (refine hK _ ?_; clear hK K))))
                      all_goals (refine wpQuiet_nil ?_; intro W hW)
                      all_goals
                        (go_wp2_with fail
                         go_roundg (gk - 1)
                         case measure => omega
                         case rel => exact ⟨m + 1, by go_num, by omega, by omega, below_trans hbi12 hW⟩)
                    · have hme : m = Lh.length := by omega
                      subst hme
                      go_wp2_with fail
                      go_roundw
                      case rel => exact ⟨k + 1, hlt, by go_num, _, _, _, _, _, _, _, _, HL6.out.more hbi, by rw [HLh.out]; exact HH6.out.kept (kept_of_below hbi HL6.out.lt), by omega⟩
                      case measure => simp [intOf]; omega
      · have hke : k = l.length := by omega
        subst hke
        obtain ⟨qh, ch, rfl, hl10, hlch, hfile⟩ := have_files hL hH
        have hnmc := lnamesP hL.at_
        have hlv := fun W (h : Below wr.heap.size wr W) => Hlv.out W (below_trans hbw h)
        rw [← haveS_len now cur] at hnmc
        have hl10' : ((haveS now cur).length : Int) ≤ 10 := by omega
        clear hfile hH hL
        generalize (haveS now cur).length = ln at *
        go_wp2_with (first
          | (go_at_call 15; refine hnmc.mono ?_; rintro e w9 ⟨q9, c9, rfl, hb9⟩; have hlv9 := hlv w9 hb9)
          | (go_at_call 10; refine hlv9.mono ?_; rintro e w10 ⟨rfl, hb10⟩)
          | fail)
        go_ret
        exact ⟨rfl, below_trans (below_trans hbw hb9) hb10⟩

end Go.Proofs.YtnpnchociegmpaaDoor
