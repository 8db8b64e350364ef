/- The directory: taken. -/
/- The directory: place. -/
import Derived.Test.YtlhefifejcoecaaGreatDoorJDirE
import Derived.WalkMore
import Derived.Deep.LoopGhost
namespace Go.Proofs.YtlhefifejcoecaaGreatDoor
open Go.RowKit Go.Proofs Go.Shelf
attribute [local go_sem ↓] Go.wp_at_zero Go.wp_at_succ

def anyMeets (e : Nat × Nat) (m : Files) : Bool := m.any fun x => meetsS e x.2
def takenS (now saved : Files) (e : Nat × Nat) : Bool := anyMeets e now || anyMeets e saved

theorem any_erase {α : Type} (p : α → Bool) : ∀ (l : List α) (i : Nat) (hi : i < l.length), l.any p = (p l[i] || (l.eraseIdx i).any p)
  | x :: l, 0, _ => rfl
  | x :: l, i + 1, hi => by
    have ih := any_erase p l i (by simpa using hi)
    simp only [List.any_cons, List.getElem_cons_succ, List.eraseIdx_cons_succ, ih]
    cases p x <;> cases p (l[i]'(by simpa using hi)) <;> rfl

theorem two0 (a b : Value) (W : World) : (Instr.index 197 (.agg #[a, b]) (.int .i64 0)).run Tryz.prog W = .ok a W := by kernel_rfl
theorem two1 (a b : Value) (W : World) : (Instr.index 197 (.agg #[a, b]) (.int .i64 1)).run Tryz.prog W = .ok b W := by kernel_rfl

set_option maxRecDepth 100000 in
set_option maxHeartbeats 4000000 in
theorem taken_any (w : World) (K : Nat → Prop) (X D n : Nat) (safe cur : List UInt8) (off : Bool) (now saved : Files) (epoch which : Nat) (h : DirAt w K X D n safe cur off now saved epoch which) (e : Nat × Nat) (he1 : e.1 ≤ 1000000000) (he2 : e.2 ≤ 1000000000) :
    Calls Tryz.prog 128 #[.pointer (some ⟨X, 0, none⟩), extV e] w (Gives w (.bool (takenS now saved e))) := by
  obtain ⟨bn, bs, h⟩ := h
  obtain ⟨-, c1, c2, -, -, lX⟩ := h.cells
  have hq : takenS now saved e = (anyMeets e now || anyMeets e saved) := rfl
  have hnow := Lib.hid h.now
  have hsav := Lib.hid h.saved
  have hmeets : ∀ (o : Nat × Nat) W, o.1 ≤ 1000000000 → o.2 ≤ 1000000000 → Calls Tryz.prog 120 #[.agg #[.int .i64 e.1, .int .i64 e.2], .agg #[.int .i64 o.1, .int .i64 o.2]] W (Gives W (.bool (meetsS e o))) := fun (o : Nat × Nat) W (h3 : o.1 ≤ 1000000000) (h4 : o.2 ≤ 1000000000) => meets_any e o W he1 he2 h3 h4
  have Hmeets := Lib.hid hmeets
  generalize takenS now saved e = q at hq ⊢
  have Hq := Lib.hid hq
  have hi0 := fun W => two0 (.map (some bn)) (.map (some bs)) W
  have hi1 := fun W => two1 (.map (some bn)) (.map (some bs)) W
  have hev : extV e = .agg #[.int .i64 e.1, .int .i64 e.2] := rfl
  rw [hev]
  clear h hq hmeets he1 he2 hev
  go_enter Tryz.func128, Tryz.ntmps128
  go_upto_region 1 with fail
  generalize hB0 : World.alloc w _ = W0
  have hb0 : Below w.heap.size w W0 := by rw [← hB0]; exact below_new _ _
  have p0 : W0.cell? ⟨w.heap.size, 0, none⟩ = some (.int .i64 e.1) := by rw [← hB0]; simp
  have p1 : W0.cell? ⟨w.heap.size, 1, none⟩ = some (.int .i64 e.2) := by rw [← hB0]; simp
  have lp : w.heap.size < W0.heap.size := by rw [← hB0]; simp
  clear hB0
  replace c1 := bcell hb0 c1
  replace c2 := bcell hb0 c2
  refine wp_region_held_drew (S := (fun w' => w'.cell? ⟨X, 1, none⟩ = some (.map (some bn)) ∧ w'.cell? ⟨X, 2, none⟩ = some (.map (some bs)))) (by kernel_rfl) (by exact ⟨c1, c2⟩) (fun hHeld => ?_)
  refine' takeL (v := _) 0 rfl (by kernel_rfl) (by kernel_rfl) (by kernel_rfl) (fun _ _ _ h => h) (by rfl) ?_ (by assumption) ?_; rotate_left 1; (focus (intro w hSw; (try dsimp only at hSw); go_simp; (try with_reducible rfl); done))
  (try simp only [Act.put, List.setIfInBounds_toArray, List.set_cons_zero, List.set_cons_succ])
  refine' takeL (v := _) 1 rfl (by kernel_rfl) (by kernel_rfl) (by kernel_rfl) (fun _ _ _ h => h) (by rfl) ?_ (by assumption) ?_; rotate_left 1; (focus (intro w hSw; (try dsimp only at hSw); go_simp; (try with_reducible rfl); done))
  (try simp only [Act.put, List.setIfInBounds_toArray, List.set_cons_zero, List.set_cons_succ])
  refine' takeL (v := _) 2 rfl (by kernel_rfl) (by kernel_rfl) (by kernel_rfl) (fun _ _ _ h => h) (by rfl) ?_ (by assumption) ?_; rotate_left 1; (focus (intro w hSw; (try dsimp only at hSw); go_simp; (try with_reducible rfl); done))
  (try simp only [Act.put, List.setIfInBounds_toArray, List.set_cons_zero, List.set_cons_succ])
  refine' takeL (v := _) 3 rfl (by kernel_rfl) (by kernel_rfl) (by kernel_rfl) (fun _ _ _ h => h) (by rfl) ?_ (by assumption) ?_; rotate_left 1; (focus (intro w hSw; (try dsimp only at hSw); go_simp; (try with_reducible rfl); done))
  (try simp only [Act.put, List.setIfInBounds_toArray, List.set_cons_zero, List.set_cons_succ])
  refine' takeL (v := _) 4 rfl (by kernel_rfl) (by kernel_rfl) (by kernel_rfl) (fun _ _ _ h => h) (by rfl) ?_ (by assumption) ?_; rotate_left 1; (focus (intro w hSw; (try dsimp only at hSw); go_simp; (try with_reducible rfl); done))
  (try simp only [Act.put, List.setIfInBounds_toArray, List.set_cons_zero, List.set_cons_succ])
  refine' takeL (v := _) 5 rfl (by kernel_rfl) (by kernel_rfl) (by kernel_rfl) (fun _ _ _ h => h) (by rfl) ?_ (by assumption) ?_; rotate_left 1; (focus (intro w hSw; (try dsimp only at hSw); go_simp; (try with_reducible rfl); done))
  (try simp only [Act.put, List.setIfInBounds_toArray, List.set_cons_zero, List.set_cons_succ])
  refine' takeL (v := _) 6 rfl (by kernel_rfl) (by kernel_rfl) (by kernel_rfl) (fun _ _ _ h => h) (by rfl) ?_ (by assumption) ?_; rotate_left 1; (focus (intro w hSw; (try dsimp only at hSw); go_simp; (try with_reducible rfl); done))
  (try simp only [Act.put, List.setIfInBounds_toArray, List.set_cons_zero, List.set_cons_succ])
  refine' takeL (v := _) 7 rfl (by kernel_rfl) (by kernel_rfl) (by kernel_rfl) (fun _ _ _ h => h) (by rfl) ?_ (by assumption) ?_; rotate_left 1; (focus (intro w hSw; (try dsimp only at hSw); go_simp; (try with_reducible rfl); done))
  (try simp only [Act.put, List.setIfInBounds_toArray, List.set_cons_zero, List.set_cons_succ])
  refine' takeL (v := _) 8 rfl (by kernel_rfl) (by kernel_rfl) (by kernel_rfl) (fun _ _ _ h => h) (by rfl) ?_ (by assumption) ?_; rotate_left 1; (focus (intro w hSw; (try dsimp only at hSw); go_simp; (try with_reducible rfl); done))
  (try simp only [Act.put, List.setIfInBounds_toArray, List.set_cons_zero, List.set_cons_succ])
  refine' takeL (v := _) 9 rfl (by kernel_rfl) (by kernel_rfl) (by kernel_rfl) (fun _ _ _ h => h) (by rfl) ?_ (by assumption) ?_; rotate_left 1; (focus (intro w hSw; (try dsimp only at hSw); go_simp; (try with_reducible rfl); done))
  (try simp only [Act.put, List.setIfInBounds_toArray, List.set_cons_zero, List.set_cons_succ])
  refine wpAnyH_done (by kernel_rfl) ?_ _
  go_wp2_with fail
  go_loopw [18, 6, 8] (fun i _ _ wr => ∃ k : Nat, k ≤ 2 ∧ i = .int .i64 k ∧ Below W0.heap.size W0 wr ∧ Hid ((1 ≤ k → anyMeets e now = false) ∧ (2 ≤ k → anyMeets e saved = false))) (fun i _ _ _ => 2 - (intOf i).toNat)
  case atStart => exact ⟨0, by omega, rfl, (Below.refl _ _).drew, Lib.hid ⟨fun h => by omega, fun h => by omega⟩⟩
  case round =>
    obtain ⟨k, hk, rfl, hb, hpast⟩ := hrel
    have hbw := below_trans hb0 hb
    have d0 := bcell hb p0
    have d1 := bcell hb p1
    have hl0 : w.heap.size < wr.heap.size := by have := hb.size; omega
    have hN0 := hnow.out.below hbw
    have hS0 := hsav.out.below hbw
    rcases (by omega : k = 0 ∨ k = 1 ∨ k = 2) with rfl | rfl | rfl
    · skip
      have hfm : FilesAt wr bn now := hN0
      have hmap := Lib.hid hfm
      have hmr := hfm.map
      clear hfm hN0 hS0
      go_wp2_with (first | (at_range; refine wpList_mapRange rfl _ _ rfl Tryz.underlying35 rfl hmr ?_; intro w1 hit hb1) | fail)
      go_frame
      obtain ⟨wo, hwo⟩ : ∃ wo : World, wo = wr := ⟨_, rfl⟩
      subst hwo
      go_loopg [8] (now).length (fun g _ wr => ∃ r : Files, r.length ≤ g ∧ (∀ x ∈ r, x ∈ now) ∧ anyMeets e now = anyMeets e r ∧ IterA Value.string wr wo.heap.size bn (filesV now) (filesV r) ∧ Below wo.heap.size wo wr)
      case atStart => exact ⟨now, Nat.le_refl _, fun _ h => h, rfl, hit, hb1⟩
      case round =>
        obtain ⟨r, hn, hsub, hany, hit, hbi⟩ := hrel
        by_cases hr : r = []
        · subst hr
          have hfin := Lib.hid hany
          clear hany
          go_wp2_with (first | (at_next; refine wpList_mapEnd rfl _ rfl rfl hit ?_) | fail)
          go_roundw
          case rel => exact ⟨0 + 1, by omega, by go_num, below_trans hb hbi, Lib.hid ⟨fun _ => hfin.out, fun h => by omega⟩⟩
          case measure => simp [intOf]
        · have hne : filesV r ≠ [] := fun h => hr (by simpa [filesV] using h)
          have hlen : (filesV r).length = r.length := by simp [filesV]
          have hrl : 0 < r.length := List.length_pos_iff.2 hr
          have hrem : ∀ i, (hi : i < (filesV r).length) → ∃ x : ByteArray × Nat × Nat, x ∈ r ∧ (filesV r)[i].1 = x.1 ∧ (filesV r)[i].2 = .agg #[.int .i64 x.2.1, .int .i64 x.2.2] ∧ (filesV r).eraseIdx i = filesV (r.eraseIdx i) ∧ anyMeets e r = (meetsS e x.2 || anyMeets e (r.eraseIdx i)) ∧ (r.eraseIdx i).length ≤ gk - 1 ∧ (r.eraseIdx i).length < gk ∧ (∀ y ∈ r.eraseIdx i, y ∈ now) := fun i hi => by
            have hi' : i < r.length := by omega
            refine ⟨r[i], List.getElem_mem _, by simp [filesV], by simp [filesV, extV], by unfold filesV; rw [ChangeMaps.map_eraseIdx], any_erase _ r i hi', ?_, ?_, fun y hy => hsub y (List.mem_of_mem_eraseIdx hy)⟩
            · rw [List.length_eraseIdx_of_lt hi']; omega
            · rw [List.length_eraseIdx_of_lt hi']; omega
          have Hrem := Lib.hid hrem
          have Hany := Lib.hid hany
          have Hsub := Lib.hid hsub
          clear hrem hany hsub
          go_upto_region 7 with (first | (at_next; refine wpList_mapNext rfl _ rfl rfl hit hne ?_; intro i hi W hent hit2 hg; obtain ⟨x, hxr, hx1, hx2, hx3, hx4, hx5, hx6, hx7⟩ := Hrem.out i hi; rw [hx1, hx2] at hent ⊢) | fail)
          have hbW : Below wo.heap.size wo W := grown_below hbi hg hbi.size (fun k hk => by cases hk; exact Nat.le_refl _)
          generalize hW2 : World.alloc W _ = W2
          have hb2 : Below W.heap.size W W2 := by rw [← hW2]; exact below_new _ _
          have f0 : W2.cell? ⟨W.heap.size, 0, none⟩ = some (.int .i64 x.2.1) := by rw [← hW2]; simp
          have f1 : W2.cell? ⟨W.heap.size, 1, none⟩ = some (.int .i64 x.2.2) := by rw [← hW2]; simp
          clear hW2
          have hboW := below_trans hbW hb2
          have g0 := bcell hboW d0
          have g1 := bcell hboW d1
          have hsm := hmap.out.small x (Hsub.out x hxr)
          have hcall := Hmeets.out x.2 W2 hsm.2.1 hsm.2.2
          have hit3 := hit2.below hb2
          rw [hx3] at hit3
          have Hx4 := Lib.hid hx4
          have Hx7 := Lib.hid hx7
          generalize x.2 = x2 at *
          clear hit hit2 hg hx1 hx2 hx3 hx4 hx7 hent hmr hsm hne Hrem hxr
          cases hmt : meetsS e x2 with
          | false =>
            rw [hmt] at hcall
            have Hmt := Lib.hid hmt
            clear hmt
            go_wp2_with (first | (go_at_call 120; refine hcall.mono ?_; rintro e w3 ⟨rfl, hb3⟩) | fail)
            go_roundg (gk - 1)
            case measure => omega
            case rel => exact ⟨_, hx5, Hx7.out, by rw [Hany.out, Hx4.out, Hmt.out]; rfl, hit3.below hb3, below_trans hboW hb3⟩
          | true =>
            rw [hmt] at hcall
            have Hmt := Lib.hid hmt
            clear hmt
            have Hqt : Hid (q = true) := Lib.hid (by rw [Hq.out]; have : anyMeets e now = true := by rw [Hany.out, Hx4.out, Hmt.out]; rfl
                                                     rw [this]; rfl)
            clear Hq
            go_wp2_with (first | (go_at_call 120; refine hcall.mono ?_; rintro e w3 ⟨rfl, hb3⟩) | fail)
            go_ret
            exact ⟨by rw [Hqt.out]; rfl, below_trans hbw (below_trans hboW hb3)⟩
    · skip
      have hfm : FilesAt wr bs saved := hS0
      have hmap := Lib.hid hfm
      have hmr := hfm.map
      clear hfm hN0 hS0
      go_wp2_with (first | (at_range; refine wpList_mapRange rfl _ _ rfl Tryz.underlying35 rfl hmr ?_; intro w1 hit hb1) | fail)
      go_frame
      obtain ⟨wo, hwo⟩ : ∃ wo : World, wo = wr := ⟨_, rfl⟩
      subst hwo
      go_loopg [8] (saved).length (fun g _ wr => ∃ r : Files, r.length ≤ g ∧ (∀ x ∈ r, x ∈ saved) ∧ anyMeets e saved = anyMeets e r ∧ IterA Value.string wr wo.heap.size bs (filesV saved) (filesV r) ∧ Below wo.heap.size wo wr)
      case atStart => exact ⟨saved, Nat.le_refl _, fun _ h => h, rfl, hit, hb1⟩
      case round =>
        obtain ⟨r, hn, hsub, hany, hit, hbi⟩ := hrel
        by_cases hr : r = []
        · subst hr
          have hfin := Lib.hid hany
          clear hany
          go_wp2_with (first | (at_next; refine wpList_mapEnd rfl _ rfl rfl hit ?_) | fail)
          go_roundw
          case rel => exact ⟨1 + 1, by omega, by go_num, below_trans hb hbi, Lib.hid ⟨fun _ => hpast.out.1 (by omega), fun _ => hfin.out⟩⟩
          case measure => simp [intOf]
        · have hne : filesV r ≠ [] := fun h => hr (by simpa [filesV] using h)
          have hlen : (filesV r).length = r.length := by simp [filesV]
          have hrl : 0 < r.length := List.length_pos_iff.2 hr
          have hrem : ∀ i, (hi : i < (filesV r).length) → ∃ x : ByteArray × Nat × Nat, x ∈ r ∧ (filesV r)[i].1 = x.1 ∧ (filesV r)[i].2 = .agg #[.int .i64 x.2.1, .int .i64 x.2.2] ∧ (filesV r).eraseIdx i = filesV (r.eraseIdx i) ∧ anyMeets e r = (meetsS e x.2 || anyMeets e (r.eraseIdx i)) ∧ (r.eraseIdx i).length ≤ gk - 1 ∧ (r.eraseIdx i).length < gk ∧ (∀ y ∈ r.eraseIdx i, y ∈ saved) := fun i hi => by
            have hi' : i < r.length := by omega
            refine ⟨r[i], List.getElem_mem _, by simp [filesV], by simp [filesV, extV], by unfold filesV; rw [ChangeMaps.map_eraseIdx], any_erase _ r i hi', ?_, ?_, fun y hy => hsub y (List.mem_of_mem_eraseIdx hy)⟩
            · rw [List.length_eraseIdx_of_lt hi']; omega
            · rw [List.length_eraseIdx_of_lt hi']; omega
          have Hrem := Lib.hid hrem
          have Hany := Lib.hid hany
          have Hsub := Lib.hid hsub
          clear hrem hany hsub
          go_upto_region 7 with (first | (at_next; refine wpList_mapNext rfl _ rfl rfl hit hne ?_; intro i hi W hent hit2 hg; obtain ⟨x, hxr, hx1, hx2, hx3, hx4, hx5, hx6, hx7⟩ := Hrem.out i hi; rw [hx1, hx2] at hent ⊢) | fail)
          have hbW : Below wo.heap.size wo W := grown_below hbi hg hbi.size (fun k hk => by cases hk; exact Nat.le_refl _)
          generalize hW2 : World.alloc W _ = W2
          have hb2 : Below W.heap.size W W2 := by rw [← hW2]; exact below_new _ _
          have f0 : W2.cell? ⟨W.heap.size, 0, none⟩ = some (.int .i64 x.2.1) := by rw [← hW2]; simp
          have f1 : W2.cell? ⟨W.heap.size, 1, none⟩ = some (.int .i64 x.2.2) := by rw [← hW2]; simp
          clear hW2
          have hboW := below_trans hbW hb2
          have g0 := bcell hboW d0
          have g1 := bcell hboW d1
          have hsm := hmap.out.small x (Hsub.out x hxr)
          have hcall := Hmeets.out x.2 W2 hsm.2.1 hsm.2.2
          have hit3 := hit2.below hb2
          rw [hx3] at hit3
          have Hx4 := Lib.hid hx4
          have Hx7 := Lib.hid hx7
          generalize x.2 = x2 at *
          clear hit hit2 hg hx1 hx2 hx3 hx4 hx7 hent hmr hsm hne Hrem hxr
          cases hmt : meetsS e x2 with
          | false =>
            rw [hmt] at hcall
            have Hmt := Lib.hid hmt
            clear hmt
            go_wp2_with (first | (go_at_call 120; refine hcall.mono ?_; rintro e w3 ⟨rfl, hb3⟩) | fail)
            go_roundg (gk - 1)
            case measure => omega
            case rel => exact ⟨_, hx5, Hx7.out, by rw [Hany.out, Hx4.out, Hmt.out]; rfl, hit3.below hb3, below_trans hboW hb3⟩
          | true =>
            rw [hmt] at hcall
            have Hmt := Lib.hid hmt
            clear hmt
            have Hqt : Hid (q = true) := Lib.hid (by rw [Hq.out]; have : anyMeets e saved = true := by rw [Hany.out, Hx4.out, Hmt.out]; rfl
                                                     rw [this]; cases anyMeets e now <;> rfl)
            clear Hq
            go_wp2_with (first | (go_at_call 120; refine hcall.mono ?_; rintro e w3 ⟨rfl, hb3⟩) | fail)
            go_ret
            exact ⟨by rw [Hqt.out]; rfl, below_trans hbw (below_trans hboW hb3)⟩
    · go_wp2_with fail
      go_ret
      exact ⟨by rw [Hq.out, hpast.out.1 (by omega), hpast.out.2 (by omega)]; rfl, hbw⟩

end Go.Proofs.YtlhefifejcoecaaGreatDoor

namespace Go.Proofs.YtlhefifejcoecaaGreatDoor
open Go.RowKit Go.Proofs Go.Shelf
attribute [local go_sem ↓] Go.wp_at_zero Go.wp_at_succ

theorem load_ext (w : World) (b o : Nat) (v0 v1 : Value) (h0 : w.cell? ⟨b, o, none⟩ = some v0) (h1 : w.cell? ⟨b, o + 1, none⟩ = some v1) : (loadVar 90 ⟨b, o, none⟩).run Tryz.prog w = .ok (.agg #[v0, v1]) w := by
  have ha : (isAgg 90).run Tryz.prog w = .ok true w := by kernel_rfl
  have hs : (sizeOf 90).run Tryz.prog w = .ok 2 w := by kernel_rfl
  simp [loadVar, ha, hs, loadCells, loadCellsFrom, Result.andThen, h0, h1, Addr.add]

theorem results_ext {fn : Func} {a u : Tmp} (h : fn.results = #[.cell a 90, .tmp u]) (tmps : Array Value) (w : World) (b o : Nat) (v0 v1 : Value) (ha : tmps.getD a undef = .pointer (some ⟨b, o, none⟩)) (h0 : w.cell? ⟨b, o, none⟩ = some v0) (h1 : w.cell? ⟨b, o + 1, none⟩ = some v1) :
    (results fn tmps).run Tryz.prog w = .ok (.tuple #[.agg #[v0, v1], tmps.getD u undef]) w := by
  have h2 := load_ext w b o v0 v1 h0 h1
  simp only [Array.getD_eq_getD_getElem?] at ha
  simp [results, h, ha, asAddr, h2, Result.andThen]

def tk (now saved : Files) (i : Nat) : Bool := takenS now saved (i, 1)
/-- Where place finds room. -/
def PlaceS (now saved : Files) (n : Nat) (c : Int) : Option Nat → Prop
  | some b => 16 ≤ b ∧ (b : Int) + c ≤ n ∧ (∀ i : Nat, b ≤ i → (i : Int) < b + c → tk now saved i = false) ∧ ∀ b' : Nat, 16 ≤ b' → b' < b → ∃ i : Nat, b' ≤ i ∧ (i : Int) < b' + c ∧ tk now saved i = true
  | none => ∀ b' : Nat, 16 ≤ b' → (b' : Int) + c ≤ n → ∃ i : Nat, b' ≤ i ∧ (i : Int) < b' + c ∧ tk now saved i = true

def placeV (r : Option Nat) (c : Int) : Value := match r with | some b => .agg #[.int .i64 b, .int .i64 c] | none => .agg #[.int .i64 0, .int .i64 0]
def PlaceOut (now saved : Files) (n : Nat) (c : Int) (w : World) (e : Ending) (w' : World) : Prop :=
  ∃ r, PlaceS now saved n c r ∧ e = .returned (.tuple #[placeV r c, .bool r.isSome]) ∧ Below w.heap.size w w'

set_option maxRecDepth 100000 in
set_option maxHeartbeats 4000000 in
theorem place_any (w : World) (K : Nat → Prop) (X D n : Nat) (safe cur : List UInt8) (off : Bool) (now saved : Files) (epoch which : Nat) (h : DirAt w K X D n safe cur off now saved epoch which) (c : Int) (hc : 1 ≤ c) (hc2 : c ≤ 9223372036854775807) (hn : 16 ≤ n) :
    Calls Tryz.prog 108 #[.pointer (some ⟨X, 0, none⟩), .int .i64 c] w (PlaceOut now saved n c w) := by
  have htk := fun (i : Nat) W (hb : Below w.heap.size w W) (hi : i ≤ 1000000) => taken_any W K X D n safe cur off now saved epoch which (h.below hb) (i, 1) (by dsimp only; omega) (by dsimp only; omega)
  have hsec : ∀ W, Below w.heap.size w W → Calls Tryz.prog 54 #[.pointer (some ⟨D, 0, none⟩)] W (Gives W (.int .i64 n)) := fun W hb => by
    obtain ⟨bn, bs, h⟩ := h
    exact sectors_any W _ D n safe cur off (h.disk.below hb)
  have hn2 : n ≤ 4096 := by
    obtain ⟨bn, bs, h⟩ := h
    exact h.disk.lens.2.2.2
  obtain ⟨bn, bs, h⟩ := h
  obtain ⟨c0, -, -, -, -, lX⟩ := h.cells
  have Htk := Lib.hid htk
  clear h htk
  go_enter Tryz.func108, Tryz.ntmps108
  go_upto_region 1 with fail
  generalize hB0 : World.alloc w _ = W0
  have hb0 : Below w.heap.size w W0 := by rw [← hB0]; exact below_new _ _
  have r0 : W0.heap[w.heap.size]? = some (.cells #[.int .i64 0, .int .i64 0] 90 (0, 0)) := by rw [← hB0]; exact heap_alloc_new _ _
  clear hB0
  replace c0 := bcell hb0 c0
  go_step3
  go_upto_region 2 with (first | (go_at_call 54; refine (hsec _ hb0).mono ?_; rintro e w1 ⟨rfl, hb1⟩) | fail)
  have hb01 := below_trans hb0 hb1
  have lp1 : w.heap.size < W0.heap.size := heap_lt r0
  go_wp2_with fail
  go_step3
  go_wp2_with fail
  have htk0 := Htk.out 0 w (Below.refl _ _) (by omega)
  clear htk0 hsec c0
  go_loopg [7, 8] n (fun g b _ wr => ∃ k : Nat, b = .int .i64 k ∧ 16 ≤ k ∧ k ≤ n ∧ n - k ≤ g ∧ Below w1.heap.size w1 wr ∧ Hid (∀ b' : Nat, 16 ≤ b' → b' < k → ∃ i : Nat, b' ≤ i ∧ (i : Int) < b' + c ∧ tk now saved i = true))
  case atStart => exact ⟨16, rfl, Nat.le_refl _, hn, by omega, Below.refl _ _, Lib.hid fun b' h1 h2 => by omega⟩
  case round =>
    obtain ⟨k, rfl, hk1, hk2, hkg, hb, hpast⟩ := hrel
    have hbw := below_trans hb01 hb
    have m0 : (k : Int) ≤ (n : Int) := by omega
    have e1 : IntKind.i64.wrap ((n : Int) - (k : Int)) = (n : Int) - (k : Int) := IntWalk.i64_in _ (by omega)
    have r1 : wr.heap[w.heap.size]? = some (.cells #[.int .i64 0, .int .i64 0] 90 (0, 0)) := ((hb1.trans (hb.mono hb1.size)).block _ lp1).trans r0
    have hfz := fun (i : Nat) => block_free r1 i
    have d0 : wr.cell? ⟨w.heap.size, 0, none⟩ = some (.int .i64 0) := by rw [block_cell r1]; rfl
    have d1 : wr.cell? ⟨w.heap.size, 1, none⟩ = some (.int .i64 0) := by rw [block_cell r1]; rfl
    by_cases hfit : c ≤ (n : Int) - (k : Int)
    · obtain ⟨en, hen⟩ : ∃ en : Nat, (en : Int) = k + c := ⟨(k + c).toNat, by omega⟩
      have e2 : IntKind.i64.wrap ((k : Int) + c) = (en : Int) := by rw [IntWalk.i64_in _ (by omega)]; omega
      have hke : k ≤ en := by omega
      have hen2 : en ≤ n := by omega
      have Hen := Lib.hid hen
      clear hen
      go_wp2_with fail
      obtain ⟨wo, hwo⟩ : ∃ wo : World, wo = wr := ⟨_, rfl⟩
      subst hwo
      obtain ⟨go, hgo⟩ : ∃ go : Nat, go = gk := ⟨_, rfl⟩
      subst hgo
      go_loopg [7, 8] n (fun g b i wr => ∃ j : Nat, b = .int .i64 k ∧ i = .int .i64 j ∧ k ≤ j ∧ j ≤ en ∧ en - j ≤ g ∧ Below wo.heap.size wo wr ∧ Hid (∀ i : Nat, k ≤ i → i < j → tk now saved i = false))
      case atStart => exact ⟨k, rfl, rfl, Nat.le_refl _, hke, by omega, Below.refl _ _, Lib.hid fun i h1 h2 => by omega⟩
      case round =>
        obtain ⟨j, rfl, rfl, hj1, hj2, hjg, hbi, hfree⟩ := hrel
        have hbow := below_trans hbw hbi
        by_cases hje : j < en
        · have hje2 : (j : Int) < (en : Int) := by omega
          have hcall := Htk.out j wr hbow (by omega)
          have e3 : IntKind.i64.wrap ((j : Int) + 1) = ((j + 1 : Nat) : Int) := by rw [IntWalk.i64_in _ (by omega)]; omega
          cases htj : tk now saved j with
          | false =>
            have htj2 := htj
            unfold tk at htj2
            rw [htj2] at hcall
            have Hfree : Hid (∀ i : Nat, k ≤ i → i < j + 1 → tk now saved i = false) := Lib.hid fun i h1 h2 => by
              by_cases h3 : i = j
              · subst h3; exact htj
              · exact hfree.out i h1 (by omega)
            clear htj htj2
            go_wp2_with (first | (go_at_call 128; refine hcall.mono ?_; rintro e w3 ⟨rfl, hb3⟩) | fail)
            go_roundg (gk - 1)
            case measure => omega
            case rel => exact ⟨j + 1, rfl, by go_num, by omega, by omega, by omega, below_trans hbi hb3, Hfree⟩
          | true =>
            have htj2 := htj
            unfold tk at htj2
            rw [htj2] at hcall
            have Hnext : Hid (∀ b' : Nat, 16 ≤ b' → b' < j + 1 → ∃ i : Nat, b' ≤ i ∧ (i : Int) < b' + c ∧ tk now saved i = true) := Lib.hid fun b' h1 h2 => by
              by_cases h3 : b' < k
              · exact hpast.out b' h1 h3
              · exact ⟨j, by omega, by have := Hen.out; omega, htj⟩
            clear htj htj2
            go_wp2_with (first | (go_at_call 128; refine hcall.mono ?_; rintro e w3 ⟨rfl, hb3⟩) | fail)
            go_roundg (go - 1)
            case measure => omega
            case rel => exact ⟨j + 1, by go_num, by omega, by omega, by omega, below_trans hb (below_trans hbi hb3), Hnext⟩
        · have hje2 : j = en := by omega
          subst hje2
          have r2 := (hbi.block _ (heap_lt r1)).trans r1
          have hfz2 := fun (i : Nat) => block_free r2 i
          replace d0 := bcell hbi d0
          replace d1 := bcell hbi d1
          have Hyes : Hid (PlaceS now saved n c (some k)) := Lib.hid ⟨hk1, by omega, fun i h1 h2 => hfree.out i h1 (by have := Hen.out; omega), hpast.out⟩
          go_wp2_with fail
          have r3 := block_set (block_set r2 0 (.int .i64 k)) 1 (.int .i64 c)
          refine bodyPost_ret (results_ext rfl _ _ w.heap.size 0 (.int .i64 k) (.int .i64 c) rfl (by rw [block_cell r3]; rfl) (by rw [block_cell r3]; rfl)) rfl ?_
          exact ⟨_, Hyes.out, rfl, (hbow.setCell (Nat.le_refl _) _).setCell (Nat.le_refl _) _⟩
    · have hlt : (n : Int) - (k : Int) < c := by omega
      have Hno : Hid (PlaceS now saved n c none) := Lib.hid (fun b' h1 h2 => hpast.out b' h1 (by omega))
      go_wp2_with fail
      have r3 := block_set (block_set r1 0 (.int .i64 0)) 1 (.int .i64 0)
      refine bodyPost_ret (results_ext rfl _ _ w.heap.size 0 (.int .i64 0) (.int .i64 0) rfl (by rw [block_cell r3]; rfl) (by rw [block_cell r3]; rfl)) rfl ?_
      exact ⟨_, Hno.out, rfl, (hbw.setCell (Nat.le_refl _) _).setCell (Nat.le_refl _) _⟩

end Go.Proofs.YtlhefifejcoecaaGreatDoor
