/- forget: the first segments go; Truncate, Reset. -/
/- Reset: the log anew at a place. -/
/- Truncate: segments all of which stand below a place go. -/
import Derived.Test.YtlhefifejcoecaaGreatDoorJSegS
namespace Go.Proofs.YtlhefifejcoecaaGreatDoor
open Go.RowKit Go.Proofs Go.Shelf
attribute [local go_sem ↓] Go.wp_at_zero Go.wp_at_succ

/-- The row of segments anew, of the last ones. -/
theorem LogM.rowed {w w1 : World} {base : Nat} {KL : Nat → Prop} {L X sz k : Nat} {ms : List MSeg} {v' : Value} (h : LogM w base KL L X sz ms) (hlt : ∀ k, KL k → k < w.heap.size) (hb1 : Below w.heap.size w w1)
    (hown : OwnR w1 base 72 4 v' ((ms.drop k).map MSeg.cells)) (hv : ∀ g, v'.ownBlock = some g → w.heap.size ≤ g) :
    LogM (w1.setCell ⟨L, 2, none⟩ v') base (KLN KL w.heap.size w1.heap.size) L X sz (ms.drop k) ∧ ∀ k, k < w.heap.size → ¬ KL k → (w1.setCell ⟨L, 2, none⟩ v').heap[k]? = w.heap[k]? := by
  obtain ⟨⟨sv, hL, hsv, hsk⟩, hkl, heach, hap⟩ := h
  have hLw := hlt L hkl
  have hL1 : w1.heap[L]? = some (.cells #[.pointer (some ⟨X, 0, none⟩), .int .i64 (sz : Int), sv] 32 (0, 0)) := (hb1.block L hLw).trans hL
  have same : ∀ k, k < w.heap.size → k ≠ L → (w1.setCell ⟨L, 2, none⟩ v').heap[k]? = w.heap[k]? := fun k hk h1 => (set_other _ _ _ _ _ h1).trans (hb1.block k hk)
  refine ⟨⟨⟨v', ?_, ?_, fun g hg => .inr ⟨hv g hg, (World.ownsRow.lt hown.row g hg).2⟩⟩, .inl hkl, fun m hm => ?_, ?_⟩, fun k hk hnk => same k hk (fun e => hnk (e ▸ hkl))⟩
  · rw [set_at hL1]; rfl
  · exact hown.block fun g hg => set_other _ _ _ _ _ (fun e => by have := hv g hg; omega)
  · have hm' := List.mem_of_mem_drop hm
    refine (heach m hm').typed (fun g cs hg hc => same g (hlt g ((heach m hm').bk g hg)) (fun e => ?_)) (fun g cs hk hc => same g (hlt g hk) (fun e => ?_)) fun _ hg => .inl hg
    · subst e; rw [hL] at hc; cases hc
    · subst e; rw [hL] at hc; cases hc
  · exact hap.sublist (List.drop_sublist _ _)

/-- slices.Clone at segments: a row of the call's own. -/
def CloneOut (w : World) (base : Nat) (css : List (List Value)) (e : Ending) (w' : World) : Prop := ∃ v, e = .returned v ∧ OwnR w' base 72 4 v css ∧ (∀ g, v.ownBlock = some g → w.heap.size ≤ g) ∧ Below w.heap.size w w'

set_option maxRecDepth 100000 in
theorem clone_nil (w : World) (base cap : Nat) (hc : cap = 0) : Calls Tryz.prog 75 #[.slice none 0 cap] w (CloneOut w base []) := by
  have hq := fun (w : World) (a : Option Addr) (n c : Nat) => Lib.run_eql_slice_nil (P := Tryz.prog) w 30 72 a n c 0 0 Tryz.underlying30
  subst hc
  go_enter Tryz.func75, Tryz.ntmps75
  go_wp2_with fail
  go_ret
  exact ⟨_, rfl, ⟨World.ownsRow_nil _ _ _ _, by simp⟩, fun g hg => by simp [Value.ownBlock] at hg, Below.refl _ _⟩

set_option maxRecDepth 100000 in
theorem clone_seg (w : World) (base : Nat) (hbase : base ≤ w.heap.size) (a : Addr) (cap : Nat) (css : List (List Value)) (hl : css.length ≤ 100000) (h4 : ∀ c ∈ css, c.length = 4)
    (hsrc : ∀ W, Below w.heap.size w W → Src Tryz.prog 4 30 (.slice (some a) css.length cap) css.length css.flatten W) :
    Calls Tryz.prog 75 #[.slice (some a) css.length cap] w (CloneOut w base css) := by
  have hq := fun (w : World) (a : Option Addr) (n c : Nat) => Lib.run_eql_slice_nil (P := Tryz.prog) w 30 72 a n c 0 0 Tryz.underlying30
  have hown := World.ownsRow_lit (base := base) (e := 72) (size := 4) w #[] 0 hbase (by decide) (by decide)
  have hs := hsrc _ (below_new w (.cells #[] 72))
  clear hsrc
  go_enter Tryz.func75, Tryz.ntmps75
  go_wp2_with (at_builtin; refine wpList_app (v := .slice (some ⟨w.heap.size, 0, none⟩) 0 0) rfl _ _ 30 30 rfl base 72 4 48 segElt Tryz.underlying30 0 [] rfl hown rfl _ _ hs (by unfold maxLen; omega) (by omega) (by simp; omega) ?_; intro v' w1 hown1 hg1 hv1)
  go_ret
  refine ⟨v', rfl, ⟨by simpa using hown1, h4⟩, fun g hg => ?_, grown_below (below_new _ _) hg1 (by simp) (by simp [Value.ownBlock])⟩
  rcases hv1 with h | h
  · rw [h] at hg; simp [Value.ownBlock] at hg; omega
  · rw [h] at hg; simp at hg; omega

/-- What holds while the first segments' files go. -/
def ForR (w : World) (K KL : Nat → Prop) (base L X D n sz M : Nat) (safe cur : List UInt8) (now : Files) (epoch which : Nat) (ms : List MSeg) (j : Nat) (wr : World) : Prop := ∃ now', LogX wr K KL base L X D n sz safe cur now' now epoch which ms ∧
  LogOK sz ((MSeg.segs ms).drop j) now' cur ∧ DOK n safe cur now' now epoch which ∧ (∀ x ∈ now', x.2.1 + x.2.2 ≤ M) ∧ Kept (fun k => K k ∨ KL k) w wr

/-- One file goes; what was laid since stays. -/
theorem forR_step {w wr : World} {K KL : Nat → Prop} {base L X D n sz M : Nat} {safe cur : List UInt8} {now : Files} {epoch which : Nat} {ms : List MSeg} {j : Nat} (h : ForR w K KL base L X D n sz M safe cur now epoch which ms j wr) (hj : j < (MSeg.segs ms).length) :
    ∀ W, Below wr.heap.size wr W → Calls Tryz.prog 46 #[.pointer (some ⟨X, 0, none⟩), .string (nameS ((MSeg.segs ms)[j]).n)] W (fun e w' => ∃ x : Int, e = .returned (.int .i64 x) ∧ ForR w K KL base L X D n sz M safe cur now epoch which ms (j + 1) w' ∧ Kept (fun k => (K k ∨ KL k) ∨ wr.heap.size ≤ k ∧ k < W.heap.size) W w') := by
  intro W hb
  obtain ⟨now', hx, hok, hdok, hM, hk⟩ := h
  rw [List.drop_eq_getElem_cons hj] at hok
  obtain ⟨hs, hok'⟩ := hok.cut hdok
  have hx' := hx.below hb
  have hsz := hb.size
  have hdx : DirAt W (fun k => (K k ∨ KL k) ∨ wr.heap.size ≤ k ∧ k < W.heap.size) X D n safe cur false now' now epoch which := (hx.dir.more (K' := fun k => (K k ∨ KL k) ∨ wr.heap.size ≤ k ∧ k < W.heap.size) fun k hk h2 => h2.elim id fun h3 => by omega).below hb
  refine (remove_any W _ X D n safe cur false now' now epoch which hdx (fun k hk => hk.elim (fun h1 => by have := hx.lt k h1; omega) fun h1 => h1.2) (nameS ((MSeg.segs ms)[j]).n)).mono ?_
  rintro e w' ⟨x, rfl, -, hd, hk'⟩
  have hdok' := hdok.remove (nameS ((MSeg.segs ms)[j]).n)
  rw [if_pos hs] at hd hdok'
  have hk2 := hk'.less (K' := fun k => K k ∨ KL k) fun k hk => .inl hk
  exact ⟨x, rfl, ⟨_, hx'.go (hd.more fun k _ hk => .inl hk) hk2, hok', hdok', fun y hy => hM y (fdel_mem hy), hk.trans ((kept_of_below hb hx.lt).trans hk2)⟩, hk'⟩

theorem row_src {w W : World} {base : Nat} {g N cap k : Nat} {css : List (List Value)} (h : OwnR w base 72 4 (.slice (some ⟨g, 0, none⟩) N cap) css) (hk : k ≤ css.length) (hb : Below w.heap.size w W) (c : Nat) (h1 : ∀ x ∈ css, ∀ u ∈ x, u.oneCell' = true) :
    Src Tryz.prog 4 30 (.slice (some ⟨g, k * 4, none⟩) (css.drop k).length c) (css.drop k).length (css.drop k).flatten W := by
  refine Src.ofSlice W Tryz.underlying30 _ _ c _ (flatten_len 4 _ fun x hx => h.len x (List.mem_of_mem_drop hx)) (fun t u hu => ?_) (fun u hu => ?_)
  · have h2 : css.flatten[k * 4 + t]? = some u := by
      have e : css.flatten = (css.take k).flatten ++ (css.drop k).flatten := by rw [← List.flatten_append, List.take_append_drop]
      have el : (css.take k).flatten.length = k * 4 := by rw [flatten_len 4 _ fun x hx => h.len x (List.mem_of_mem_take hx), List.length_take, Nat.min_eq_left hk]
      rw [e, List.getElem?_append_right (by omega), el, Nat.add_sub_cancel_left]
      exact hu
    have h3 := h.row.cells (g := g) rfl (k * 4 + t) u h2
    rw [Addr.add_lit] at h3 ⊢
    rw [Nat.zero_add] at h3
    exact bcell hb h3
  · obtain ⟨x, hx, hu'⟩ := List.mem_flatten.1 hu
    exact h1 x (List.mem_of_mem_drop hx) u hu'

/-- The row of the last segments stored. -/
theorem forget_row {wr w4 : World} {K KL : Nat → Prop} {base L X D n sz : Nat} {safe cur : List UInt8} {now' now : Files} {epoch which : Nat} {ms : List MSeg} {j : Nat} {v' : Value} (h : LogX wr K KL base L X D n sz safe cur now' now epoch which ms) (hb : Below wr.heap.size wr w4)
    (hown : OwnR w4 base 72 4 v' ((ms.drop j).map MSeg.cells)) (hv : ∀ g, v'.ownBlock = some g → wr.heap.size ≤ g) :
    LogX (w4.setCell ⟨L, 2, none⟩ v') K (KLN KL wr.heap.size w4.heap.size) base L X D n sz safe cur now' now epoch which (ms.drop j) ∧ Kept K wr (w4.setCell ⟨L, 2, none⟩ v') := by
  obtain ⟨hm, hu⟩ := h.mem.rowed h.ltL hb hown hv
  have hs := hb.size
  refine ⟨h.turn (by simpa using hs) hu hm (fun k hk => .inl hk) (fun k hk h2 => h2.elim id fun h3 => by omega) (fun k hk => ?_), (kept_of_below hb h.ltK).setCell (p := ⟨L, 2, none⟩) (h.apart L h.mem.kl) _⟩
  rcases hk with h1 | h1
  · have := h.ltL k h1; simp; omega
  · simp; omega

/-- The last step: the directory is saved. -/
theorem forget_save {w : World} {K KL : Nat → Prop} {base L X D n sz E M : Nat} {safe cur : List UInt8} {now' now : Files} {epoch which : Nat} {ms : List MSeg} (h : LogX w K KL base L X D n sz safe cur now' now epoch which ms) (hok : LogOK sz (MSeg.segs ms) now' cur)
    (hd : DOK n safe cur now' now epoch which) (hM : ∀ x ∈ now', x.2.1 + x.2.2 ≤ M) (henv : Env w) (kn : K 2) (kp : K 0) (hsz : 2 ≤ sz ∧ sz ≤ 512) (hlow : 16 ≤ M) (hep : epoch ≤ E) (hE : E ≤ 1000000) :
    Calls Tryz.prog 47 #[.pointer (some ⟨X, 0, none⟩)] w (fun e w' => e = .returned (.int .i64 0) ∧ Kept K w w' ∧ LogS w' K base L X D n sz (E + 1) M ms) := by
  refine (save_any w _ X D n safe cur now' now epoch which h.dir h.lt (.inl kn) (henv.nib.kept (Kept.refl (fun k => K k ∨ KL k) _) (.inl kn)) (by have := hd.sz; omega) hd.wh (by omega) (hd.fits (by omega))).mono ?_
  rintro e w' ⟨rfl, hd', hk'⟩
  have hk2 := hk'.less (K' := K) fun k hk => .inl hk
  exact ⟨rfl, hk2, ⟨⟨KL, _, _, _, _, _, h.go hd' hk', hok.kept hd (by omega), hd.save (by omega), by omega, hM⟩, henv.kept hk2 kn kp, kn, kp, hsz, hlow⟩⟩

set_option maxRecDepth 100000 in
set_option maxHeartbeats 1000000 in
theorem sforget_any (w : World) (K : Nat → Prop) (base L X D n sz E M : Nat) (ms : List MSeg) (h : LogS w K base L X D n sz E M ms) (k : Nat) (hk : k ≤ ms.length) (hE : E ≤ 1000000) (hms : ms.length ≤ 10000) :
    Calls Tryz.prog 40 #[.pointer (some ⟨L, 0, none⟩), .int .i64 (k : Int)] w (fun e w' => e = .returned (.int .i64 0) ∧ Kept K w w' ∧ LogS w' K base L X D n sz (E + 1) M (ms.drop k)) := by
  obtain ⟨⟨KL, safe, cur, now, epoch, which, hx, hok, hdok, hep, hM⟩, henv, hkn, hkp, hsz, hlow⟩ := id h
  have hkl := hx.mem.kl
  obtain ⟨sv, hblk, hown, hsk⟩ := hx.mem.ex
  obtain ⟨q, cap, hq, hcap, hqg⟩ := hown.form
  rw [List.length_map] at hq hcap hqg
  subst hq
  have c0 : w.cell? ⟨L, 0, none⟩ = some (.pointer (some ⟨X, 0, none⟩)) := by rw [block_cell hblk]; rfl
  have c2 : w.cell? ⟨L, 2, none⟩ = some (.slice q ms.length cap) := by rw [block_cell hblk]; rfl
  have hforms : (q = none ∧ cap = 0) ∨ ∃ g, q = some ⟨g, 0, none⟩ := by
    rcases hown.row.2 with ⟨hh, -⟩ | ⟨g, cp, cu, hh, -⟩
    · simp only [Value.slice.injEq] at hh
      exact .inl ⟨hh.1, hh.2.2⟩
    · simp only [Value.slice.injEq] at hh
      exact .inr ⟨g, hh.1⟩
  have Hforms := Lib.hid hforms
  clear hforms
  obtain ⟨N, hN⟩ : ∃ N, N = ms.length := ⟨_, rfl⟩
  rw [← hN] at c2 hcap hqg hk hms
  have HN := Lib.hid hN
  have hF0 : ForR w K KL base L X D n sz M safe cur now epoch which ms 0 w := ⟨now, hx, by rw [List.drop_zero]; exact hok, hdok, hM, Kept.refl _ _⟩
  have Hx := Lib.hid hx
  have Hown := Lib.hid hown
  have Hblk := Lib.hid hblk
  have Henv := Lib.hid henv
  have Hok := Lib.hid hok
  have Hqg := Lib.hid hqg
  have hL := World.block_lt_of_cell? _ _ c0
  clear h hx hok hdok hM hown hblk henv hN hqg
  go_enter Tryz.func40, Tryz.ntmps40
  go_upto_region 2 with fail
  go_loopw [14, 6] (fun i _ wr => ∃ j : Nat, j ≤ k ∧ i = .int .i64 j ∧ ForR w K KL base L X D n sz M safe cur now epoch which ms j wr) (fun i _ _ => k - (intOf i).toNat)
  case atStart => exact ⟨0, by omega, rfl, hF0⟩
  case round =>
    obtain ⟨j, hj, rfl, hR⟩ := hrel
    by_cases hlt : j < k
    · obtain ⟨g, hge, hgb, hgw⟩ := Hqg.out (by omega)
      subst hge
      have hjm : j < ms.length := by have := HN.out; omega
      have hjs : j < (MSeg.segs ms).length := by rw [msegs_len]; exact hjm
      have hsj : (MSeg.segs ms)[j] = (ms[j]).s := by simp [MSeg.segs]
      have hstep := forR_step hR hjs
      rw [hsj] at hstep
      have hm := Hx.out.mem.each _ (List.getElem_mem hjm)
      have hmo := Hok.out.ok (ms[j]).s (List.mem_map.2 ⟨_, List.getElem_mem hjm, rfl⟩)
      obtain ⟨plv, clv, hlv, -, -⟩ := hm.own.form
      obtain ⟨now', hxr, -, -, -, hkr⟩ := id hR
      have hkg : KL g := hsk g rfl
      have hat : (ms.map MSeg.cells)[j]'(by simpa using hjm) = (ms[j]).cells := by simp
      have z := fun i hi => (hkr.cell (p := ⟨g, j * 4 + i, none⟩) (.inr hkg)).trans (Hown.out.cell j i (by simpa using hjm) (by rw [hat]; exact hi))
      have z0 := z 0 (by simp [MSeg.cells])
      have z1 := z 1 (by simp [MSeg.cells])
      have z2 := z 2 (by simp [MSeg.cells])
      have z3 := z 3 (by simp [MSeg.cells])
      simp only [hat] at z0 z1 z2 z3
      unfold MSeg.cells at z0 z1 z2 z3
      simp only [List.getElem_cons_zero, List.getElem_cons_succ, Nat.add_zero] at z0 z1 z2 z3
      rw [hlv] at z3
      have d0 := (hkr.cell (p := ⟨L, 0, none⟩) (.inr hkl)).trans c0
      have hn9 := hmo.n
      have henvr := Henv.out.kept hkr (.inl hkn) (.inl hkp)
      generalize (bytesS (ms[j]).s).length = en at *
      generalize (ms[j]).s.n = sn at *
      generalize (ms[j]).s.first = sf at *
      generalize ((ms[j]).vs.map fun v => [v]).length = lvn at *
      have n0 : (0 : Int) ≤ (j : Int) := by omega
      have n1 : (j : Int) < (k : Int) := by omega
      have Hst := Lib.hid hstep
      clear z hstep hsj hm hmo hlv hxr hat hR
      go_upto_region 4 with fail
      generalize hW2 : World.alloc wr _ = w5
      have hb5 : Below wr.heap.size wr w5 := by rw [← hW2]; exact below_new _ _
      have g2 : w5.cell? ⟨wr.heap.size, 2, none⟩ = some (.int .i64 (sn : Int)) := by rw [← hW2]; simp
      have hl5 : wr.heap.size < w5.heap.size := World.block_lt_of_cell? _ _ g2
      clear hW2
      have d5 := bcell hb5 d0
      clear z0 z1 z2 z3
      refine wp_region_held_drew (S := (fun w' => w'.cell? ⟨L, 0, none⟩ = some (.pointer (some ⟨X, 0, none⟩)) ∧ w'.cell? ⟨wr.heap.size, 2, none⟩ = some (.int .i64 (sn : Int)))) (by kernel_rfl) (by exact ⟨d5, g2⟩) (fun hHeld => ?_)
      refine' takeL (v := _) 0 rfl (by kernel_rfl) (by kernel_rfl) (by kernel_rfl) (fun _ _ _ h => h) (by rfl) ?_ (by assumption) ?_; rotate_left 1; (focus (intro w hSw; (try dsimp only at hSw); go_simp; (try with_reducible rfl); done))
      (try simp only [Act.put, List.setIfInBounds_toArray, List.set_cons_zero, List.set_cons_succ])
      refine' takeL (v := _) 1 rfl (by kernel_rfl) (by kernel_rfl) (by kernel_rfl) (fun _ _ _ h => h) (by rfl) ?_ (by assumption) ?_; rotate_left 1; (focus (intro w hSw; (try dsimp only at hSw); go_simp; (try with_reducible rfl); done))
      (try simp only [Act.put, List.setIfInBounds_toArray, List.set_cons_zero, List.set_cons_succ])
      refine' takeL (v := _) 2 rfl (by kernel_rfl) (by kernel_rfl) (by kernel_rfl) (fun _ _ _ h => h) (by rfl) ?_ (by assumption) ?_; rotate_left 1; (focus (intro w hSw; (try dsimp only at hSw); go_simp; (try with_reducible rfl); done))
      (try simp only [Act.put, List.setIfInBounds_toArray, List.set_cons_zero, List.set_cons_succ])
      refine' takeL (v := _) 3 rfl (by kernel_rfl) (by kernel_rfl) (by kernel_rfl) (fun _ _ _ h => h) (by rfl) ?_ (by assumption) ?_; rotate_left 1; (focus (intro w hSw; (try dsimp only at hSw); go_simp; (try with_reducible rfl); done))
      (try simp only [Act.put, List.setIfInBounds_toArray, List.set_cons_zero, List.set_cons_succ])
      refine' takeL (v := _) 4 rfl (by kernel_rfl) (by kernel_rfl) (by kernel_rfl) (fun _ _ _ h => h) (by rfl) ?_ (by assumption) ?_; rotate_left 1; (focus (intro w hSw; (try dsimp only at hSw); go_simp; (try with_reducible rfl); done))
      (try simp only [Act.put, List.setIfInBounds_toArray, List.set_cons_zero, List.set_cons_succ])
      refine' takeL (v := _) 5 rfl (by kernel_rfl) (by kernel_rfl) (by kernel_rfl) (fun _ _ _ h => h) (by rfl) ?_ (by assumption) ?_; rotate_left 1; (focus (intro w hSw; (try dsimp only at hSw); go_simp; (try with_reducible rfl); done))
      (try simp only [Act.put, List.setIfInBounds_toArray, List.set_cons_zero, List.set_cons_succ])
      refine stepL 6 rfl (by kernel_rfl) (fun K hK => ?_)
      go_simp
      go_at_call 8
      refine (name_ok sn hn9 _ (henvr.below (hb5.drew))).mono ?_
      rintro e w6 ⟨rfl, hb6⟩
      have hb56 : Below w5.heap.size w5 w6 := below_trans ((Below.refl _ _).drew) hb6
      have hb06 := below_trans hb5 hb56
      have hs6 := hb56.size
      refine hK.out _ _ (by exact ⟨bcell hb56 d5, bcell hb56 g2⟩) (fun hHeld => ?_)
      clear hK K
      (try simp only [Act.put, List.setIfInBounds_toArray, List.set_cons_zero, List.set_cons_succ])
      refine stepL 7 rfl (by kernel_rfl) (fun K hK => ?_)
      go_simp
      go_at_call 46
      refine (Hst.out w6 hb06).mono ?_
      rintro e w7 ⟨x, rfl, hR7, hk7⟩
      refine hK.out _ _ (by exact ⟨(hk7.cell (p := ⟨L, 0, none⟩) (.inl (.inr hkl))).trans (bcell hb56 d5), (hk7.cell (p := ⟨wr.heap.size, 2, none⟩) (.inr ⟨Nat.le_refl _, Nat.lt_of_lt_of_le hl5 hs6⟩)).trans (bcell hb56 g2)⟩) (fun hHeld => ?_)
      clear hK K
      (try simp only [Act.put, List.setIfInBounds_toArray, List.set_cons_zero, List.set_cons_succ])
      refine wpAnyH_done (by kernel_rfl) ?_ _
      go_wp2_with fail
      go_roundw
      case rel => exact ⟨j + 1, by omega, by go_num, hR7⟩
      case measure => simp [intOf]; omega
    · have hjk : j = k := by omega
      subst hjk
      obtain ⟨now', hxr, hokr, hdokr, hMr, hkr⟩ := hR
      have d0 := (hkr.cell (p := ⟨L, 0, none⟩) (.inr hkl)).trans c0
      have d2 := (hkr.cell (p := ⟨L, 2, none⟩) (.inr hkl)).trans c2
      have Hxr := Lib.hid hxr
      have Hokr := Lib.hid hokr
      have Hdokr := Lib.hid hdokr
      have HMr := Lib.hid hMr
      have m0 : (0 : Int) ≤ (j : Int) := by omega
      have m1 : (j : Int) ≤ (N : Int) := by omega
      have m2 : (j : Int) ≤ (cap : Int) := by omega
      have hbs := hxr.base
      clear hxr hokr hdokr hMr
      have Hend : Hid (∀ (w4 : World) (v4 : Value), OwnR w4 base 72 4 v4 ((ms.drop j).map MSeg.cells) → (∀ g, v4.ownBlock = some g → wr.heap.size ≤ g) → Below wr.heap.size wr w4 →
          w4.heap[L]? = some (.cells #[.pointer (some ⟨X, 0, none⟩), .int .i64 (sz : Int), .slice q N cap] 32 (0, 0)) ∧
          Calls Tryz.prog 47 #[.pointer (some ⟨X, 0, none⟩)] (w4.setCell ⟨L, 2, none⟩ v4) (fun e w' => e = .returned (.int .i64 0) ∧ Kept K w w' ∧ LogS w' K base L X D n sz (E + 1) M (ms.drop j))) := Lib.hid (fun w4 v4 ho hv hb => by
        obtain ⟨hx5, hk5⟩ := forget_row Hxr.out hb ho hv
        have hk05 := (hkr.less (K' := K) fun k hk => .inl hk).trans hk5
        have hbk := hkr.block L (.inr hkl)
        have hok5 : LogOK sz (MSeg.segs (ms.drop j)) now' cur := by
          have h1 := Hokr.out
          simp only [MSeg.segs, List.map_drop] at h1 ⊢
          exact h1
        refine ⟨(hb.block L (Hxr.out.ltL L hkl)).trans (hbk.trans ?_), (forget_save hx5 hok5 Hdokr.out HMr.out (Henv.out.kept hk05 hkn hkp) hkn hkp hsz hlow hep hE).mono ?_⟩
        · rw [HN.out]; exact Hblk.out
        · rintro e w' ⟨he, h1, h2⟩
          exact ⟨he, hk05.trans h1, h2⟩)
      rcases Hforms.out with ⟨rfl, rfl⟩ | ⟨g, rfl⟩
      · have hN0 : N = 0 := by omega
        subst hN0
        have hj0 : j = 0 := by omega
        subst hj0
        have hm0 : ms = [] := List.eq_nil_of_length_eq_zero HN.out.symm
        have hcall := clone_nil wr base 0 rfl
        go_upto_region 7 with (first
          | (go_at_call 75; refine hcall.mono ?_; rintro e w4 ⟨v4, rfl, hown4, hv4, hb4⟩; obtain ⟨q4, n4, c4, hq4⟩ : ∃ q4 n4 c4, v4 = .slice q4 n4 c4 := (by obtain ⟨a, b, hh, -⟩ := hown4.form; exact ⟨a, _, b, hh⟩); subst hq4; obtain ⟨hL4, hsv⟩ := Hend.out w4 _ (by rw [hm0]; exact hown4) hv4 hb4; have f0 : w4.cell? ⟨L, 0, none⟩ = some (.pointer (some ⟨X, 0, none⟩)) := (by rw [block_cell hL4]; rfl); have f2 : w4.cell? ⟨L, 2, none⟩ = some (.slice none 0 0) := (by rw [block_cell hL4]; rfl); have zf := block_free hL4 2; clear hcall)
          | fail)
        go_wp2_with (first | (go_at_call 47; refine hsv.mono ?_; rintro e w5 ⟨rfl, hfin⟩) | fail)
        go_ret
        exact ⟨rfl, hfin.1, hfin.2⟩
      · by_cases hjc : j = cap
        · have hjN : j = N := by omega
          subst hjN
          subst hjc
          have hd0 : ms.drop j = [] := List.drop_eq_nil_of_le (by rw [← HN.out]; omega)
          have hcall := clone_seg wr base hbs ⟨g, 0, none⟩ 0 [] (by simp) (by simp) (fun W _ => Src.ofSlice W Tryz.underlying30 _ 0 0 _ rfl (fun t u hu => by simp at hu) (fun u hu => by simp at hu))
          simp only [List.length_nil] at hcall
          go_upto_region 7 with (first
            | (go_at_call 75; refine hcall.mono ?_; rintro e w4 ⟨v4, rfl, hown4, hv4, hb4⟩; obtain ⟨q4, n4, c4, hq4⟩ : ∃ q4 n4 c4, v4 = .slice q4 n4 c4 := (by obtain ⟨a, b, hh, -⟩ := hown4.form; exact ⟨a, _, b, hh⟩); subst hq4; obtain ⟨hL4, hsv⟩ := Hend.out w4 _ (by rw [hd0]; exact hown4) hv4 hb4; have f0 : w4.cell? ⟨L, 0, none⟩ = some (.pointer (some ⟨X, 0, none⟩)) := (by rw [block_cell hL4]; rfl); have f2 : w4.cell? ⟨L, 2, none⟩ = some (.slice (some ⟨g, 0, none⟩) j j) := (by rw [block_cell hL4]; rfl); have zf := block_free hL4 2; clear hcall)
            | fail)
          go_wp2_with (first | (go_at_call 47; refine hsv.mono ?_; rintro e w5 ⟨rfl, hfin⟩) | fail)
          go_ret
          exact ⟨rfl, hfin.1, hfin.2⟩
        · have hlen : ((ms.drop j).map MSeg.cells).length = N - j := by simp [HN.out]
          have hcall := clone_seg wr base hbs ⟨g, j * 4, none⟩ (cap - j) ((ms.drop j).map MSeg.cells) (by rw [hlen]; omega) (fun c hc => by
            obtain ⟨m, -, rfl⟩ := List.mem_map.1 hc
            rfl) (fun W hb => by
            have ho : OwnR wr base 72 4 (.slice (some ⟨g, 0, none⟩) N cap) (ms.map MSeg.cells) := by
              rw [HN.out]
              exact Hown.out.block fun g' hg' => hkr.block g' (.inr (hsk g' hg'))
            have h1 := row_src (k := j) ho (by rw [List.length_map, ← HN.out]; omega) hb (cap - j) (fun x hx u hu => by
              obtain ⟨m, hm, rfl⟩ := List.mem_map.1 hx
              obtain ⟨p1, p2, hp, -, -⟩ := (Hx.out.mem.each m hm).own.form
              unfold MSeg.cells at hu
              rw [hp] at hu
              simp only [List.mem_cons, List.not_mem_nil, or_false] at hu
              rcases hu with rfl | rfl | rfl | rfl <;> rfl)
            rw [← List.map_drop] at h1
            exact h1)
          rw [hlen] at hcall
          go_upto_region 7 with (first
            | (go_at_call 75; refine hcall.mono ?_; rintro e w4 ⟨v4, rfl, hown4, hv4, hb4⟩; obtain ⟨q4, n4, c4, hq4⟩ : ∃ q4 n4 c4, v4 = .slice q4 n4 c4 := (by obtain ⟨a, b, hh, -⟩ := hown4.form; exact ⟨a, _, b, hh⟩); subst hq4; obtain ⟨hL4, hsv⟩ := Hend.out w4 _ hown4 hv4 hb4; have f0 : w4.cell? ⟨L, 0, none⟩ = some (.pointer (some ⟨X, 0, none⟩)) := (by rw [block_cell hL4]; rfl); have f2 : w4.cell? ⟨L, 2, none⟩ = some (.slice (some ⟨g, 0, none⟩) N cap) := (by rw [block_cell hL4]; rfl); have zf := block_free hL4 2; clear hcall)
            | fail)
          go_wp2_with (first | (go_at_call 47; refine hsv.mono ?_; rintro e w5 ⟨rfl, hfin⟩) | fail)
          go_ret
          exact ⟨rfl, hfin.1, hfin.2⟩
end Go.Proofs.YtlhefifejcoecaaGreatDoor

namespace Go.Proofs.YtlhefifejcoecaaGreatDoor
open Go.RowKit Go.Proofs Go.Shelf
attribute [local go_sem ↓] Go.wp_at_zero Go.wp_at_succ

def ResetOut (w : World) (K : Nat → Prop) (base L X D n sz E M : Nat) (ms : List MSeg) (i : Int) (e : Ending) (w' : World) : Prop :=
  ((i < (nextS (MSeg.segs ms) : Int) ∨ 1099511627776 < i) ∧ e = .returned (.int .i64 2) ∧ Below w.heap.size w w' ∧ LogS w' K base L X D n sz E M ms) ∨
  (∃ f : Nat, i = (f : Int) ∧ nextS (MSeg.segs ms) ≤ f ∧ f ≤ 1099511627776 ∧ ∃ w1, Kept K w w1 ∧ LogS w1 K base L X D n sz (E + 1) M [] ∧ AddOut w1 K base L X D n sz (E + 1) M [] f e w')

set_option maxRecDepth 100000 in
set_option maxHeartbeats 1000000 in
theorem sreset_any (w : World) (K : Nat → Prop) (base L X D n sz E M : Nat) (ms : List MSeg) (h : LogS w K base L X D n sz E M ms) (i : Int) (hi : I64 i) (hE : E + 1 ≤ 1000000) (hms : ms.length ≤ 10000) :
    Calls Tryz.prog 15 #[.pointer (some ⟨L, 0, none⟩), .int .i64 i] w (ResetOut w K base L X D n sz E M ms i) := by
  have hR := h.rd (by omega)
  have hmade := fun W (hb : Below w.heap.size w W) => smade_any W L X sz _ (hR.below hb)
  have hnext := fun W (hb : Below w.heap.size w W) => lnext_any W L X sz _ (hR.below hb)
  have hforget := fun W (hb : Below w.heap.size w W) => sforget_any W K base L X D n sz E M ms (h.below hb) ms.length (Nat.le_refl _) (by omega) hms
  have hdrop : ms.drop ms.length = [] := List.drop_eq_nil_of_le (Nat.le_refl _)
  rw [hdrop] at hforget
  have HS := Lib.hid h
  obtain ⟨q, cap, c0, c1, c2, hL, hlc, hll, hc⟩ := hR.open_
  rw [msegs_len] at c2 hlc hll
  obtain ⟨ni, hni⟩ : ∃ ni : Int, ni = (nextS (MSeg.segs ms) : Int) := ⟨_, rfl⟩
  have Hni := Lib.hid hni
  rw [← hni] at hnext
  have Hnx := Lib.hid hnext
  have Hfo := Lib.hid hforget
  have hm0 := hmade w (Below.refl _ _)
  have hltK := h.ltK
  clear h hR hmade hnext hforget hc hni hdrop
  by_cases h1 : i < ni
  · skip
    go_enter Tryz.func15, Tryz.ntmps15
    go_upto_region 5 with (first
      | (go_at_call 30; refine hm0.mono ?_; rintro e w1 ⟨rfl, hb1⟩; have hx1 := Hnx.out w1 hb1)
      | (go_at_call 17; refine hx1.mono ?_; rintro e w2 ⟨rfl, hb2⟩; have hb02 := below_trans hb1 hb2; have r2 := bcell hb02 c2)
      | fail)
    go_wp2
    go_ret
    exact .inl ⟨.inl (by rw [← Hni.out]; exact h1), rfl, hb02, HS.out.below hb02⟩
  · by_cases h2 : 1099511627776 < i
    · skip
      go_enter Tryz.func15, Tryz.ntmps15
      go_upto_region 5 with (first
        | (go_at_call 30; refine hm0.mono ?_; rintro e w1 ⟨rfl, hb1⟩; have hx1 := Hnx.out w1 hb1)
        | (go_at_call 17; refine hx1.mono ?_; rintro e w2 ⟨rfl, hb2⟩; have hb02 := below_trans hb1 hb2; have r2 := bcell hb02 c2)
        | fail)
      go_wp2
      go_ret
      exact .inl ⟨.inr h2, rfl, hb02, HS.out.below hb02⟩
    · have hn0 : 0 ≤ ni := by have := Hni.out; omega
      obtain ⟨f, rfl⟩ : ∃ f : Nat, i = (f : Int) := ⟨i.toNat, by omega⟩
      go_enter Tryz.func15, Tryz.ntmps15
      go_upto_region 5 with (first
        | (go_at_call 30; refine hm0.mono ?_; rintro e w1 ⟨rfl, hb1⟩; have hx1 := Hnx.out w1 hb1)
        | (go_at_call 17; refine hx1.mono ?_; rintro e w2 ⟨rfl, hb2⟩; have hb02 := below_trans hb1 hb2; have r2 := bcell hb02 c2)
        | fail)
      have hfo := Hfo.out w2 hb02
      have hk02 := kept_of_below hb02 hltK
      go_wp2_with (first
        | (go_at_call 40; refine hfo.mono ?_; rintro e w3 ⟨rfl, hk3, hs3⟩; have hadd := sadd_any w3 K base L X D n sz (E + 1) M [] hs3 f (.inl rfl) (by omega) (by decide) hE (by simp))
        | (go_at_call 37; refine hadd.mono ?_; rintro e w4 ⟨x, rfl, hout⟩)
        | fail)
      go_ret
      exact .inr ⟨f, rfl, by have := Hni.out; omega, by omega, w3, hk02.trans hk3, hs3, ⟨x, rfl, hout⟩⟩
end Go.Proofs.YtlhefifejcoecaaGreatDoor

namespace Go.Proofs.YtlhefifejcoecaaGreatDoor
open Go.RowKit Go.Proofs Go.Shelf
attribute [local go_sem ↓] Go.wp_at_zero Go.wp_at_succ

def AtMost (segs : List Seg) (i : Int) (k : Nat) : Prop := k = 0 ∨ ∃ h : k < segs.length, (segs[k].first : Int) ≤ i

def TruncOut (w : World) (K : Nat → Prop) (base L X D n sz E M : Nat) (ms : List MSeg) (i : Int) (e : Ending) (w' : World) : Prop :=
  ((i < (firstS (MSeg.segs ms) : Int) ∨ (nextS (MSeg.segs ms) : Int) < i) ∧ e = .returned (.int .i64 2) ∧ Below w.heap.size w w' ∧ LogS w' K base L X D n sz E M ms) ∨
  (((firstS (MSeg.segs ms) : Int) ≤ i ∧ i ≤ (nextS (MSeg.segs ms) : Int)) ∧ e = .returned (.int .i64 0) ∧ Kept K w w' ∧ ∃ k, AtMost (MSeg.segs ms) i k ∧ (∀ h : k + 1 < (MSeg.segs ms).length, i < ((MSeg.segs ms)[k + 1].first : Int)) ∧
    ((k = 0 ∧ LogS w' K base L X D n sz E M ms) ∨ (0 < k ∧ LogS w' K base L X D n sz (E + 1) M (ms.drop k))))

set_option maxRecDepth 100000 in
set_option maxHeartbeats 1000000 in
theorem strunc_any (w : World) (K : Nat → Prop) (base L X D n sz E M : Nat) (ms : List MSeg) (h : LogS w K base L X D n sz E M ms) (i : Int) (hi : I64 i) (hE : E ≤ 1000000) (hms : ms.length ≤ 10000) :
    Calls Tryz.prog 14 #[.pointer (some ⟨L, 0, none⟩), .int .i64 i] w (TruncOut w K base L X D n sz E M ms i) := by
  have hR := h.rd (by omega)
  have hmade := fun W (hb : Below w.heap.size w W) => smade_any W L X sz _ (hR.below hb)
  have hfirst := fun W (hb : Below w.heap.size w W) => first_any W L X sz _ (hR.below hb)
  have hnext := fun W (hb : Below w.heap.size w W) => lnext_any W L X sz _ (hR.below hb)
  have HS := Lib.hid h
  obtain ⟨q, cap, c0, c1, c2, hL, hlc, hll, hc⟩ := hR.open_
  have hlen := msegs_len ms
  obtain ⟨ni, hni⟩ : ∃ ni : Int, ni = (nextS (MSeg.segs ms) : Int) := ⟨_, rfl⟩
  obtain ⟨fi, hfi⟩ : ∃ fi : Int, fi = (firstS (MSeg.segs ms) : Int) := ⟨_, rfl⟩
  obtain ⟨N, hN⟩ : ∃ N, N = (MSeg.segs ms).length := ⟨_, rfl⟩
  rw [← hN] at c2 hlc hll hlen
  have HN := Lib.hid hN
  have Hni := Lib.hid hni
  have Hfi := Lib.hid hfi
  rw [← hni] at hnext
  rw [← hfi] at hfirst
  have Hnx := Lib.hid hnext
  have Hfx := Lib.hid hfirst
  have Hc := Lib.hid hc
  have hm0 := hmade w (Below.refl _ _)
  have hltK := h.ltK
  clear h hR hmade hnext hfirst hc hni hfi hN
  by_cases h1 : i < fi
  · skip
    go_enter Tryz.func14, Tryz.ntmps14
    go_upto_region 5 with (first
      | (go_at_call 30; refine hm0.mono ?_; rintro e w1 ⟨rfl, hb1⟩; have hx1 := Hfx.out w1 hb1)
      | (go_at_call 16; refine hx1.mono ?_; rintro e w2 ⟨rfl, hb2⟩; have hb02 := below_trans hb1 hb2; have hx2 := Hnx.out w2 hb02)
      | (go_at_call 17; refine hx2.mono ?_; rintro e w3 ⟨rfl, hb3⟩; have hb03 := below_trans hb02 hb3; have r2 := bcell hb03 c2)
      | fail)
    go_wp2
    go_ret
    exact .inl ⟨.inl (by rw [← Hfi.out]; exact h1), rfl, hb02, HS.out.below hb02⟩
  · by_cases h2 : ni < i
    · skip
      go_enter Tryz.func14, Tryz.ntmps14
      go_upto_region 5 with (first
        | (go_at_call 30; refine hm0.mono ?_; rintro e w1 ⟨rfl, hb1⟩; have hx1 := Hfx.out w1 hb1)
        | (go_at_call 16; refine hx1.mono ?_; rintro e w2 ⟨rfl, hb2⟩; have hb02 := below_trans hb1 hb2; have hx2 := Hnx.out w2 hb02)
        | (go_at_call 17; refine hx2.mono ?_; rintro e w3 ⟨rfl, hb3⟩; have hb03 := below_trans hb02 hb3; have r2 := bcell hb03 c2)
        | fail)
      go_wp2
      go_ret
      exact .inl ⟨.inr (by rw [← Hni.out]; exact h2), rfl, hb03, HS.out.below hb03⟩
    · skip
      go_enter Tryz.func14, Tryz.ntmps14
      go_upto_region 5 with (first
        | (go_at_call 30; refine hm0.mono ?_; rintro e w1 ⟨rfl, hb1⟩; have hx1 := Hfx.out w1 hb1)
        | (go_at_call 16; refine hx1.mono ?_; rintro e w2 ⟨rfl, hb2⟩; have hb02 := below_trans hb1 hb2; have hx2 := Hnx.out w2 hb02)
        | (go_at_call 17; refine hx2.mono ?_; rintro e w3 ⟨rfl, hb3⟩; have hb03 := below_trans hb02 hb3; have r2 := bcell hb03 c2)
        | fail)
      have hk03 := kept_of_below hb03 hltK
      go_upto_region 6 with fail
      go_loopw [5] (fun v wr => ∃ k : Nat, k ≤ N ∧ v = .int .i64 k ∧ Below w.heap.size w wr ∧ AtMost (MSeg.segs ms) i k) (fun v _ => N - (intOf v).toNat)
      case atStart => exact ⟨0, by omega, rfl, hb03, .inl rfl⟩
      case round =>
        obtain ⟨k, hkN, rfl, hbr, hat⟩ := hrel
        have r2 := bcell hbr c2
        have n1 : IntKind.i64.wrap ((k : Int) + 1) = ((k + 1 : Nat) : Int) := by rw [IntWalk.i64_in _ (by omega)]; omega
        have hsr := HS.out.below hbr
        have hkm : k ≤ ms.length := by omega
        have hfo := sforget_any wr K base L X D n sz E M ms hsr k hkm hE hms
        have hkr := kept_of_below hbr hltK
        have h12 : (firstS (MSeg.segs ms) : Int) ≤ i ∧ i ≤ (nextS (MSeg.segs ms) : Int) := by rw [← Hfi.out, ← Hni.out]; omega
        have Hat := Lib.hid hat
        have Hsr := Lib.hid hsr
        have Hfo := Lib.hid hfo
        have H12 := Lib.hid h12
        clear hat hsr hfo h12
        by_cases hk1 : k + 1 < N
        · obtain ⟨b, off, lv, rfl, hok, f0, -⟩ := Hc.out (k + 1) (by rw [← HN.out]; exact hk1)
          have g0 := bcell hbr f0
          have n2 : ((k + 1 : Nat) : Int) < (N : Int) := by omega
          by_cases hle : (((MSeg.segs ms)[k + 1]'(by rw [← HN.out]; exact hk1)).first : Int) ≤ i
          · have hnx : AtMost (MSeg.segs ms) i (k + 1) := .inr ⟨by rw [← HN.out]; exact hk1, hle⟩
            go_wp2_with fail
            go_roundw
            case rel => exact ⟨k + 1, by omega, by go_num, hbr, hnx⟩
            case measure => simp [intOf]; omega
          · have hend : ∀ h : k + 1 < (MSeg.segs ms).length, i < ((MSeg.segs ms)[k + 1].first : Int) := fun h => by omega
            by_cases hk0 : k = 0
            · subst hk0
              go_wp2
              go_ret
              exact .inr ⟨H12.out, rfl, hkr, 0, Hat.out, hend, .inl ⟨rfl, Hsr.out⟩⟩
            · have k0 : ¬ (k : Int) = 0 := by omega
              have hfo := Hfo.out
              go_wp2_with (first | (go_at_call 40; refine hfo.mono ?_; rintro e w5 ⟨rfl, hk5, hs5⟩) | fail)
              go_ret
              exact .inr ⟨H12.out, rfl, hkr.trans hk5, k, Hat.out, hend, .inr ⟨by omega, hs5⟩⟩
        · have n2 : ¬ ((k + 1 : Nat) : Int) < (N : Int) := by omega
          have hend : ∀ h : k + 1 < (MSeg.segs ms).length, i < ((MSeg.segs ms)[k + 1].first : Int) := fun h => absurd h (by rw [← HN.out]; exact hk1)
          by_cases hk0 : k = 0
          · subst hk0
            go_wp2
            go_ret
            exact .inr ⟨H12.out, rfl, hkr, 0, Hat.out, hend, .inl ⟨rfl, Hsr.out⟩⟩
          · have k0 : ¬ (k : Int) = 0 := by omega
            have hfo := Hfo.out
            go_wp2_with (first | (go_at_call 40; refine hfo.mono ?_; rintro e w5 ⟨rfl, hk5, hs5⟩) | fail)
            go_ret
            exact .inr ⟨H12.out, rfl, hkr.trans hk5, k, Hat.out, hend, .inr ⟨by omega, hs5⟩⟩
end Go.Proofs.YtlhefifejcoecaaGreatDoor
