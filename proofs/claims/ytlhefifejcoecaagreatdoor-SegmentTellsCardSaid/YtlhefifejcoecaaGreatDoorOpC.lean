/- Open of a log: behind the last byte string there are noughts already: wipe. -/
import Derived.Test.YtlhefifejcoecaaGreatDoorJOpA
import Derived.Test.YtlhefifejcoecaaGreatDoorJScanF
import Derived.Test.YtlhefifejcoecaaGreatDoorSegJ
import Derived.Laws.EntriesVeiled
namespace Go.Proofs.YtlhefifejcoecaaGreatDoor
open Go.RowKit Go.Proofs Go.Shelf
attribute [local go_sem ↓] Go.wp_at_zero Go.wp_at_succ
attribute [local go_sem] Oper.semAt_some

structure WipeI (w : World) (B2 B8 B9 n₀ : Nat) (pre : List Pz) (W : World) : Prop where
  res : Boxed W B2 40 (.int .i64 0)
  wrote : Boxed W B8 4 (.bool false)
  at_ : ∃ a : Int, Boxed W B9 3 (.int .i64 a)
  below : Below w.heap.size w W
  size : n₀ ≤ W.heap.size

theorem wipeI_calm (w : World) (B2 B8 B9 n₀ : Nat) (hn : w.heap.size ≤ n₀) (pre : List Pz) : Calm n₀ (WipeI w B2 B8 B9 n₀ pre) := by
  rintro W r o o' ⟨h1, h2, ⟨a, h3⟩, h5, h6⟩ hr ho hc
  exact ⟨boxed_put h1 ho hc, boxed_put h2 ho hc, ⟨a, boxed_put h3 ho hc⟩, below_put _ h5 (by omega), by simpa using h6⟩

theorem wipeI_below (w : World) (B2 B8 B9 n₀ : Nat) (pre : List Pz) (A B : World) (h : WipeI w B2 B8 B9 n₀ pre A) (hb : Below A.heap.size A B) : WipeI w B2 B8 B9 n₀ pre B := by
  obtain ⟨h1, h2, ⟨a, h3⟩, h5, h6⟩ := h
  exact ⟨boxed_below h1 hb, boxed_below h2 hb, ⟨a, boxed_below h3 hb⟩, below_trans h5 hb, Nat.le_trans h6 hb.size⟩

theorem others_below {W W' : World} (hb : Below W.heap.size W W') : KeepsOthers W W' := ⟨hb.size, fun k o hk _ => (hb.block k (heap_lt hk)).trans hk⟩

set_option maxRecDepth 100000 in
set_option maxHeartbeats 4000000 in
theorem wipe_any (w : World) (L X D n sz : Nat) (segs : List Seg) (Kp : Nat → Prop) (safe cur : List UInt8) (now saved : Files) (epoch which : Nat) (hR : LogR w L X sz segs) (hd : DirAt w Kp X D n safe cur false now saved epoch which) (hE : Env w)
    (h : LogOK sz segs now cur) (hk : DOK n safe cur now saved epoch which) (hsz : 1 ≤ sz) (hsz2 : sz ≤ 512) (hne : segs ≠ []) : Calls Tryz.prog 48 #[.pointer (some ⟨L, 0, none⟩)] w (Gives w (.int .i64 0)) := by
  obtain ⟨q, cap, c0, c1, c2, hL, hlc, hll, hc⟩ := hR.open_
  obtain ⟨m, hm⟩ : ∃ m, m + 1 = segs.length := ⟨segs.length - 1, by have := List.length_pos_iff.2 hne; omega⟩
  obtain ⟨b, off, lv, rfl, hok, e0, e1, e2, e3, hlv⟩ := hc m (by omega)
  obtain ⟨ql, cl, rfl, -⟩ := hlv
  have hmm : m < segs.length := by omega
  obtain ⟨ex, hex, hes, hin, hseg⟩ := h.get hk (j := m) hmm
  have hfit := h.fit _ (List.getElem_mem hmm)
  have hgn := hk.gnow.in_
  have hsize : ∀ W, Below w.heap.size w W → Calls Tryz.prog 69 #[.pointer (some ⟨X, 0, none⟩), .string (nameS (segs[m]'hmm).n)] W (Gives W (.int .i64 ((32 * sz : Nat) : Int))) := fun W hb => by
    have h1 := dsize_any W Kp X D n safe cur false now saved epoch which (hd.below hb) (nameS (segs[m]'hmm).n)
    rw [hex] at h1
    simpa [hes] using h1
  have hwr : wrS now (nameS (segs[m]'hmm).n) 0 ((32 * sz : Nat) : Int) = some (32 * ex.1) := by
    unfold wrS
    rw [hex]
    dsimp only
    rw [if_pos (by omega)]
    simp
  have hread : ∀ W, Below w.heap.size w W → Calls Tryz.prog 79 #[.pointer (some ⟨X, 0, none⟩), .string (nameS (segs[m]'hmm).n), .int .i64 0, .int .i64 ((32 * sz : Nat) : Int)] W (fun e w' => ∃ v, e = .returned (.tuple #[v, .int .i64 0]) ∧ Below W.heap.size W w' ∧ OwnB w' W.heap.size v (fileS sz (segs[m]'hmm))) := fun W hb => by
    refine (dread_any W Kp X D n safe cur now saved epoch which (hd.below hb) hgn (nameS (segs[m]'hmm).n) 0 ((32 * sz : Nat) : Int) (by omega) (by omega)).mono ?_
    rintro e w' ⟨v, x, rfl, hb', hc⟩
    rw [hwr] at hc
    obtain ⟨rfl, ho⟩ := hc
    refine ⟨v, rfl, hb', ?_⟩
    have e1 : (cur.drop (32 * ex.1)).take ((32 * sz : Nat) : Int).toNat = fileS sz (segs[m]'hmm) := by rw [← hseg]; unfold seg; rw [hes]; rfl
    rw [← e1]; exact ho
  have hfl : (fileS sz (segs[m]'hmm)).length = 32 * sz := by
    unfold fileS zerosB
    rw [List.length_append, List.length_replicate]; omega
  have hfd : (fileS sz (segs[m]'hmm)).drop (bytesS (segs[m]'hmm)).length = zerosB (32 * sz - (bytesS (segs[m]'hmm)).length) := by
    unfold fileS; rw [List.drop_left]
  have hname : ∀ W, Below w.heap.size w W → Calls Tryz.prog 8 #[.int .i64 ((segs[m]'hmm).n : Int)] W (Gives W (.string (nameS (segs[m]'hmm).n))) := fun W hb => name_ok _ hok.n W (hE.below hb)
  clear hc hok hd hE h hk hex hes hin hseg hgn hwr hR
  generalize hsg : segs[m]'hmm = s at *
  obtain ⟨N, hN⟩ : ∃ N, N = segs.length := ⟨_, rfl⟩
  rw [← hN] at c2 hlc hll hm
  generalize hFe : fileS sz s = F at *
  generalize (bytesS s).length = en at *
  generalize s.l.length = k at *
  generalize s.n = sn at *
  generalize s.first = sf at *
  generalize nameS sn = nm at *
  obtain ⟨S32, hS⟩ : ∃ S32, S32 = 32 * sz := ⟨_, rfl⟩
  rw [← hS] at hsize hread hfl hfd hfit
  have hS6 : S32 ≤ 20000 := by omega
  have hS7 : 0 < S32 := by omega
  have n0 : (0 : Int) < (N : Int) := by omega
  have n1 : ¬ (N : Int) = 0 := by omega
  have n2 : IntKind.i64.wrap ((N : Int) - 1) = (m : Int) := by rw [IntWalk.i64_in _ (by omega)]; omega
  have n3 : (m : Int) < (N : Int) := by omega
  have Hsz := Lib.hid hsize
  have Hrd := Lib.hid hread
  have Hnm := Lib.hid hname
  have Hfd := Lib.hid hfd
  clear hsg hN hmm hFe hS hsize hread hname hfd hne hsz hsz2
  refine calls_marks (n := 9) Tryz.func48 rfl ?_
  simp only [Tryz.ntmps48, List.size_toArray, List.length_cons, List.length_nil, Nat.reduceAdd, Nat.reduceSub, Array.replicate_succ, Array.replicate_zero, List.push_toArray, List.append_toArray, List.nil_append, List.cons_append]
  go_upto_region 1 with fail
  generalize hW0 : World.alloc w _ = w1
  have hb1 : Below w.heap.size w w1 := by rw [← hW0]; exact below_new _ _
  have bR : Boxed w1 w.heap.size 40 (.int .i64 0) := by rw [← hW0]; exact Boxed.new _ _ _
  clear hW0
  replace c0 := bcell hb1 c0
  replace c2 := bcell hb1 c2
  replace e0 := bcell hb1 e0
  replace e1 := bcell hb1 e1
  replace e2 := bcell hb1 e2
  replace e3 := bcell hb1 e3
  go_upto_region 3 with fail
  refine wp_region_noPanic ?_
  refine wp_region_held_drew (S := (fun w' => w'.cell? ⟨L, 2, none⟩ = some (.slice (some ⟨b, off, none⟩) N cap) ∧ w'.cell? ⟨b, off + m * 4, none⟩ = some (.int .i64 (sf : Int)) ∧ w'.cell? ⟨b, off + m * 4 + 1, none⟩ = some (.int .i64 (en : Int)) ∧ w'.cell? ⟨b, off + m * 4 + 2, none⟩ = some (.int .i64 (sn : Int)) ∧ w'.cell? ⟨b, off + m * 4 + 3, none⟩ = some (.slice ql k cl))) (by kernel_rfl) (by exact ⟨c2, e0, e1, e2, e3⟩) (fun hHeld => ?_)
  refine' takeL (v := _) 0 rfl (by kernel_rfl) (by kernel_rfl) (by kernel_rfl) (fun _ _ _ h => h) (by rfl) ?_ (by assumption) ?_; rotate_left 1; (focus (intro w hSw; (try dsimp only at hSw); go_simp; (try with_reducible rfl); done))
  (try simp only [Act.put, List.setIfInBounds_toArray, List.set_cons_zero, List.set_cons_succ])
  refine' takeL (v := _) 1 rfl (by kernel_rfl) (by kernel_rfl) (by kernel_rfl) (fun _ _ _ h => h) (by rfl) ?_ (by assumption) ?_; rotate_left 1; (focus (intro w hSw; (try dsimp only at hSw); go_simp; (try with_reducible rfl); done))
  (try simp only [Act.put, List.setIfInBounds_toArray, List.set_cons_zero, List.set_cons_succ])
  refine' takeL (v := _) 2 rfl (by kernel_rfl) (by kernel_rfl) (by kernel_rfl) (fun _ _ _ h => h) (by rfl) ?_ (by assumption) ?_; rotate_left 1; (focus (intro w hSw; (try dsimp only at hSw); go_simp; (try with_reducible rfl); done))
  (try simp only [Act.put, List.setIfInBounds_toArray, List.set_cons_zero, List.set_cons_succ])
  refine' takeL (v := _) 3 rfl (by kernel_rfl) (by kernel_rfl) (by kernel_rfl) (fun _ _ _ h => h) (by rfl) ?_ (by assumption) ?_; rotate_left 1; (focus (intro w hSw; (try dsimp only at hSw); go_simp; (try with_reducible rfl); done))
  (try simp only [Act.put, List.setIfInBounds_toArray, List.set_cons_zero, List.set_cons_succ])
  refine' takeL (v := _) 4 rfl (by kernel_rfl) (by kernel_rfl) (by kernel_rfl) (fun _ _ _ h => h) (by rfl) ?_ (by assumption) ?_; rotate_left 1; (focus (intro w hSw; (try dsimp only at hSw); go_simp; (try with_reducible rfl); done))
  (try simp only [Act.put, List.setIfInBounds_toArray, List.set_cons_zero, List.set_cons_succ])
  refine' takeL (v := _) 5 rfl (by kernel_rfl) (by kernel_rfl) (by kernel_rfl) (fun _ _ _ h => h) (by rfl) ?_ (by assumption) ?_; rotate_left 1; (focus (intro w hSw; (try dsimp only at hSw); go_simp; (try with_reducible rfl); done))
  (try simp only [Act.put, List.setIfInBounds_toArray, List.set_cons_zero, List.set_cons_succ])
  refine' takeL (v := _) 6 rfl (by kernel_rfl) (by kernel_rfl) (by kernel_rfl) (fun _ _ _ h => h) (by rfl) ?_ (by assumption) ?_; rotate_left 1; (focus (intro w hSw; (try dsimp only at hSw); go_simp; (try with_reducible rfl); done))
  (try simp only [Act.put, List.setIfInBounds_toArray, List.set_cons_zero, List.set_cons_succ])
  refine' takeL (v := _) 7 rfl (by kernel_rfl) (by kernel_rfl) (by kernel_rfl) (fun _ _ _ h => h) (by rfl) ?_ (by assumption) ?_; rotate_left 1; (focus (intro w hSw; (try dsimp only at hSw); go_simp; (try with_reducible rfl); done))
  (try simp only [Act.put, List.setIfInBounds_toArray, List.set_cons_zero, List.set_cons_succ])
  refine' takeL (v := _) 8 rfl (by kernel_rfl) (by kernel_rfl) (by kernel_rfl) (fun _ _ _ h => h) (by rfl) ?_ (by assumption) ?_; rotate_left 1; (focus (intro w hSw; (try dsimp only at hSw); go_simp; (try with_reducible rfl); done))
  (try simp only [Act.put, List.setIfInBounds_toArray, List.set_cons_zero, List.set_cons_succ])
  refine' takeL (v := _) 9 rfl (by kernel_rfl) (by kernel_rfl) (by kernel_rfl) (fun _ _ _ h => h) (by rfl) ?_ (by assumption) ?_; rotate_left 1; (focus (intro w hSw; (try dsimp only at hSw); go_simp; (try with_reducible rfl); done))
  (try simp only [Act.put, List.setIfInBounds_toArray, List.set_cons_zero, List.set_cons_succ])
  refine' takeL (v := _) 10 rfl (by kernel_rfl) (by kernel_rfl) (by kernel_rfl) (fun _ _ _ h => h) (by rfl) ?_ (by assumption) ?_; rotate_left 1; (focus (intro w hSw; (try dsimp only at hSw); go_simp; (try with_reducible rfl); done))
  (try simp only [Act.put, List.setIfInBounds_toArray, List.set_cons_zero, List.set_cons_succ])
  refine' takeL (v := _) 11 rfl (by kernel_rfl) (by kernel_rfl) (by kernel_rfl) (fun _ _ _ h => h) (by rfl) ?_ (by assumption) ?_; rotate_left 1; (focus (intro w hSw; (try dsimp only at hSw); go_simp; (try with_reducible rfl); done))
  (try simp only [Act.put, List.setIfInBounds_toArray, List.set_cons_zero, List.set_cons_succ])
  refine stepL 12 rfl (by kernel_rfl) (fun K hK => ?_)
  go_simp
  have hbA : ∀ o, Below w1.heap.size w1 (w1.drew.alloc o) := fun o => below_alloc ((Below.refl _ _).drew) o
  refine hK.out _ _ (by exact ⟨bcell (hbA _) c2, bcell (hbA _) e0, bcell (hbA _) e1, bcell (hbA _) e2, bcell (hbA _) e3⟩) (fun hHeld => ?_)
  clear hK K
  (try simp only [Act.put, List.setIfInBounds_toArray, List.set_cons_zero, List.set_cons_succ])
  refine stepL 13 rfl (by kernel_rfl) (fun K hK => ?_)
  go_simp
  generalize hW2 : World.alloc w1 _ = w5
  have hb5 : Below w1.heap.size w1 w5 := by rw [← hW2]; exact below_new _ _
  have g1 : w5.cell? ⟨w1.heap.size, 1, none⟩ = some (.int .i64 (en : Int)) := by rw [← hW2]; simp
  have g2 : w5.cell? ⟨w1.heap.size, 2, none⟩ = some (.int .i64 (sn : Int)) := by rw [← hW2]; simp
  clear hW2 hbA
  have hb5d := hb5.drew
  refine hK.out _ _ (by exact ⟨bcell hb5d c2, bcell hb5d e0, bcell hb5d e1, bcell hb5d e2, bcell hb5d e3⟩) (fun hHeld => ?_)
  clear hK K
  (try simp only [Act.put, List.setIfInBounds_toArray, List.set_cons_zero, List.set_cons_succ])
  refine wpAnyH_done (by kernel_rfl) ?_ _
  refine NoPanic.normal ?_
  have d0 := bcell hb5d c0
  have hn5 := Hnm.out w5.drew (below_trans hb1 hb5d)
  have g1d : w5.drew.cell? ⟨w1.heap.size, 1, none⟩ = some (.int .i64 (en : Int)) := g1
  have g2d : w5.drew.cell? ⟨w1.heap.size, 2, none⟩ = some (.int .i64 (sn : Int)) := g2
  go_upto_region 5 with (first
    | (go_at_call 8; refine hn5.mono ?_; rintro e w6 ⟨rfl, hb6⟩; have d6 := bcell hb6 d0; have g16 := bcell hb6 g1d)
    | fail)
  generalize hW3 : World.alloc w6 _ = w7
  have hb7 : Below w6.heap.size w6 w7 := by rw [← hW3]; exact below_new _ _
  have k7 : w7.cell? ⟨w6.heap.size, 0, none⟩ = some (.string nm) := by rw [← hW3]; simp
  clear hW3
  have hb17 := below_trans (below_trans hb5d hb6) hb7
  have hb07 := below_trans hb1 hb17
  have d7 := bcell hb7 d6
  have g17 := bcell hb7 g16
  clear d6 g16 g1 g2 g1d g2d hn5 c0 c2 e0 e1 e2 e3
  refine wp_region_noPanic ?_
  refine wp_region_held_drew (S := (fun w' => w'.cell? ⟨L, 0, none⟩ = some (.pointer (some ⟨X, 0, none⟩)) ∧ w'.cell? ⟨w6.heap.size, 0, none⟩ = some (.string nm))) (by kernel_rfl) (by exact ⟨d7, k7⟩) (fun hHeld => ?_)
  refine' takeL (v := _) 0 rfl (by kernel_rfl) (by kernel_rfl) (by kernel_rfl) (fun _ _ _ h => h) (by rfl) ?_ (by assumption) ?_; rotate_left 1; (focus (intro w hSw; (try dsimp only at hSw); go_simp; (try with_reducible rfl); done))
  (try simp only [Act.put, List.setIfInBounds_toArray, List.set_cons_zero, List.set_cons_succ])
  refine' takeL (v := _) 1 rfl (by kernel_rfl) (by kernel_rfl) (by kernel_rfl) (fun _ _ _ h => h) (by rfl) ?_ (by assumption) ?_; rotate_left 1; (focus (intro w hSw; (try dsimp only at hSw); go_simp; (try with_reducible rfl); done))
  (try simp only [Act.put, List.setIfInBounds_toArray, List.set_cons_zero, List.set_cons_succ])
  refine' takeL (v := _) 2 rfl (by kernel_rfl) (by kernel_rfl) (by kernel_rfl) (fun _ _ _ h => h) (by rfl) ?_ (by assumption) ?_; rotate_left 1; (focus (intro w hSw; (try dsimp only at hSw); go_simp; (try with_reducible rfl); done))
  (try simp only [Act.put, List.setIfInBounds_toArray, List.set_cons_zero, List.set_cons_succ])
  refine' takeL (v := _) 3 rfl (by kernel_rfl) (by kernel_rfl) (by kernel_rfl) (fun _ _ _ h => h) (by rfl) ?_ (by assumption) ?_; rotate_left 1; (focus (intro w hSw; (try dsimp only at hSw); go_simp; (try with_reducible rfl); done))
  (try simp only [Act.put, List.setIfInBounds_toArray, List.set_cons_zero, List.set_cons_succ])
  refine' takeL (v := _) 4 rfl (by kernel_rfl) (by kernel_rfl) (by kernel_rfl) (fun _ _ _ h => h) (by rfl) ?_ (by assumption) ?_; rotate_left 1; (focus (intro w hSw; (try dsimp only at hSw); go_simp; (try with_reducible rfl); done))
  (try simp only [Act.put, List.setIfInBounds_toArray, List.set_cons_zero, List.set_cons_succ])
  refine' takeL (v := _) 5 rfl (by kernel_rfl) (by kernel_rfl) (by kernel_rfl) (fun _ _ _ h => h) (by rfl) ?_ (by assumption) ?_; rotate_left 1; (focus (intro w hSw; (try dsimp only at hSw); go_simp; (try with_reducible rfl); done))
  (try simp only [Act.put, List.setIfInBounds_toArray, List.set_cons_zero, List.set_cons_succ])
  refine' takeL (v := _) 6 rfl (by kernel_rfl) (by kernel_rfl) (by kernel_rfl) (fun _ _ _ h => h) (by rfl) ?_ (by assumption) ?_; rotate_left 1; (focus (intro w hSw; (try dsimp only at hSw); go_simp; (try with_reducible rfl); done))
  (try simp only [Act.put, List.setIfInBounds_toArray, List.set_cons_zero, List.set_cons_succ])
  refine' takeL (v := _) 7 rfl (by kernel_rfl) (by kernel_rfl) (by kernel_rfl) (fun _ _ _ h => h) (by rfl) ?_ (by assumption) ?_; rotate_left 1; (focus (intro w hSw; (try dsimp only at hSw); go_simp; (try with_reducible rfl); done))
  (try simp only [Act.put, List.setIfInBounds_toArray, List.set_cons_zero, List.set_cons_succ])
  refine' takeL (v := _) 8 rfl (by kernel_rfl) (by kernel_rfl) (by kernel_rfl) (fun _ _ _ h => h) (by rfl) ?_ (by assumption) ?_; rotate_left 1; (focus (intro w hSw; (try dsimp only at hSw); go_simp; (try with_reducible rfl); done))
  (try simp only [Act.put, List.setIfInBounds_toArray, List.set_cons_zero, List.set_cons_succ])
  refine' takeL (v := _) 9 rfl (by kernel_rfl) (by kernel_rfl) (by kernel_rfl) (fun _ _ _ h => h) (by rfl) ?_ (by assumption) ?_; rotate_left 1; (focus (intro w hSw; (try dsimp only at hSw); go_simp; (try with_reducible rfl); done))
  (try simp only [Act.put, List.setIfInBounds_toArray, List.set_cons_zero, List.set_cons_succ])
  refine stepL 10 rfl (by kernel_rfl) (fun K hK => ?_)
  go_simp
  go_at_call 69
  refine (Hsz.out _ hb07.drew).mono ?_
  rintro e w8 ⟨rfl, hb8'⟩
  have hb8 : Below w7.heap.size w7 w8 := below_trans (Below.refl _ _).drew hb8'
  refine hK.out _ _ (by exact ⟨bcell hb8 d7, bcell hb8 k7⟩) (fun hHeld => ?_)
  clear hK K
  (try simp only [Act.put, List.setIfInBounds_toArray, List.set_cons_zero, List.set_cons_succ])
  refine stepL 11 rfl (by kernel_rfl) (fun K hK => ?_)
  go_simp
  go_at_call 79
  refine (Hrd.out w8 (below_trans hb07 hb8)).mono ?_
  rintro e w9 ⟨v9, rfl, hb9, hown9⟩
  obtain ⟨g9, c9, hq9, -⟩ := own_cells hown9 (by omega)
  subst hq9
  have hb79 := below_trans hb8 hb9
  refine hK.out _ _ (by exact ⟨bcell hb79 d7, bcell hb79 k7⟩) (fun hHeld => ?_)
  clear hK K
  (try simp only [Act.put, List.setIfInBounds_toArray, List.set_cons_zero, List.set_cons_succ])
  refine' takeL (v := _) 12 rfl (by kernel_rfl) (by kernel_rfl) (by kernel_rfl) (fun _ _ _ h => h) (by rfl) ?_ (by assumption) ?_; rotate_left 1; (focus (intro w hSw; (try dsimp only at hSw); go_simp; (try with_reducible rfl); done))
  (try simp only [Act.put, List.setIfInBounds_toArray, List.set_cons_zero, List.set_cons_succ])
  refine' takeL (v := _) 13 rfl (by kernel_rfl) (by kernel_rfl) (by kernel_rfl) (fun _ _ _ h => h) (by rfl) ?_ (by assumption) ?_; rotate_left 1; (focus (intro w hSw; (try dsimp only at hSw); go_simp; (try with_reducible rfl); done))
  (try simp only [Act.put, List.setIfInBounds_toArray, List.set_cons_zero, List.set_cons_succ])
  refine' takeL (v := _) 14 rfl (by kernel_rfl) (by kernel_rfl) (by kernel_rfl) (fun _ _ _ h => h) (by rfl) ?_ (by assumption) ?_; rotate_left 1; (focus (intro w hSw; (try dsimp only at hSw); go_simp; (try with_reducible rfl); done))
  (try simp only [Act.put, List.setIfInBounds_toArray, List.set_cons_zero, List.set_cons_succ])
  refine' takeL (v := _) 15 rfl (by kernel_rfl) (by kernel_rfl) (by kernel_rfl) (fun _ _ _ h => h) (by rfl) ?_ (by assumption) ?_; rotate_left 1; (focus (intro w hSw; (try dsimp only at hSw); go_simp; (try with_reducible rfl); done))
  (try simp only [Act.put, List.setIfInBounds_toArray, List.set_cons_zero, List.set_cons_succ])
  refine' takeL (v := _) 16 rfl (by kernel_rfl) (by kernel_rfl) (by kernel_rfl) (fun _ _ _ h => h) (by rfl) ?_ (by assumption) ?_; rotate_left 1; (focus (intro w hSw; (try dsimp only at hSw); go_simp; (try with_reducible rfl); done))
  (try simp only [Act.put, List.setIfInBounds_toArray, List.set_cons_zero, List.set_cons_succ])
  refine wpAnyH_done (by kernel_rfl) ?_ _
  refine NoPanic.normal ?_
  have d9 := bcell hb79 d7
  have g19 := bcell hb79 g17
  have hslp9 := hown9.at (by omega)
  rw [hfl] at hslp9
  have hcap9 : S32 ≤ c9 := by
    obtain ⟨q', c', e, h, -⟩ := hslp9
    simp only [Value.slice.injEq] at e
    obtain ⟨-, e2, rfl⟩ := e
    omega
  have hz9 := slp_from (k := en) hslp9 (by omega)
  rw [Hfd.out] at hz9
  have hch := fun q m c W => chunk_any q m c W
  have hzb : S32 - en ≤ 20000 := by omega
  have hb09 := below_trans hb07 hb79
  have bR9 := boxed_below bR (below_trans hb17 hb79)
  clear hown9 hslp9 d7 k7 g17
  go_upto_region 10 with fail
  obtain ⟨wa, hwa⟩ : ∃ wa, (w9.alloc (.cells #[.func (.func 38) #[.pointer (some ⟨X, 0, none⟩)] #[]] 76)).alloc (.cells #[.bool false] 4) = wa := ⟨_, rfl⟩
  rw [hwa]
  have hba : Below w9.heap.size w9 wa := by rw [← hwa]; exact below_alloc (below_new _ _) _
  have hsa : wa.heap.size = w9.heap.size + 2 := by rw [← hwa]; simp
  have bWa : Boxed wa (w9.heap.size + 1) 4 (.bool false) := by
    rw [← hwa]
    have h := Boxed.new (w9.alloc (.cells #[.func (.func 38) #[.pointer (some ⟨X, 0, none⟩)] #[]] 76)) 4 (.bool false)
    rwa [World.size_alloc] at h
  have g1a := bcell hba g19
  clear hwa g19
  go_upto_region 11 with fail
  obtain ⟨wb, hwb⟩ : ∃ wb, wa.alloc (.cells #[.int .i64 (en : Int)] 3) = wb := ⟨_, rfl⟩
  rw [hwb]
  have hbb : Below wa.heap.size wa wb := by rw [← hwb]; exact below_new _ _
  have hsb : wb.heap.size = w9.heap.size + 3 := by rw [← hwb]; simp [hsa]
  have bAb : Boxed wb (w9.heap.size + 2) 3 (.int .i64 (en : Int)) := by
    rw [← hwb, ← hsa]; exact Boxed.new _ _ _
  have bWb := boxed_below bWa hbb
  have hb9b := below_trans hba hbb
  have bRb := boxed_below bR9 hb9b
  have cAb := bAb.cell
  clear hwb g1a bWa bR9 d9 hsa hba hbb
  by_cases hce : c9 = en
  · subst hce
    have hS9 : S32 - c9 = 0 := by omega
    rw [if_pos rfl, Nat.sub_self, hS9] at hz9
    clear hS9
    go_wp2_with (first
      | (go_at_call 85; refine (hch _ _ _ _).mono ?_; rintro e w10 ⟨rfl, rfl⟩)
      | fail)
    obtain ⟨wc, hwc⟩ : ∃ wc, (wb.alloc (.cells #[.slice (some ⟨g9, 0, none⟩) 0 0] 25)).alloc (.cells #[.int .i64 32] 3) = wc := ⟨_, rfl⟩
    rw [hwc]
    have hbc : Below wb.heap.size wb wc := by rw [← hwc]; exact below_alloc (below_new _ _) _
    have bS : Boxed wc wb.heap.size 25 (.slice (some ⟨g9, 0, none⟩) 0 0) := by rw [← hwc]; exact (Boxed.new _ _ _).alloc _
    have bN : Boxed wc (wb.heap.size + 1) 3 (.int .i64 32) := by
      rw [← hwc]
      have h := Boxed.new (wb.alloc (.cells #[.slice (some ⟨g9, 0, none⟩) 0 0] 25)) 3 (.int .i64 32)
      rwa [World.size_alloc] at h
    have hsc : wc.heap.size = w9.heap.size + 5 := by rw [← hwc]; simp [hsb]
    rw [hsb] at bS bN
    have bRc := boxed_below bRb hbc
    have bWc := boxed_below bWb hbc
    have bAc := boxed_below bAb hbc
    have hb9c := below_trans hb9b hbc
    have hb0c := below_trans hb09 hb9c
    refine (wpIn_wide (n := 9)).1 ?_
    refine wpIn_hands rfl (by omega) (gf := 117) (lb := #[.pointer (some ⟨w9.heap.size + 3, 0, none⟩), .pointer (some ⟨w9.heap.size + 3 + 1, 0, none⟩)]) rfl trivial (enters_of Tryz.func117 (by kernel_rfl) rfl)
      (chunk_hands 8 (by omega) (w9.heap.size + 3) (w9.heap.size + 3 + 1) g9 0 0 0 w9 wc hz9 (by omega) hb9c bS.cell bN.cell) (Below.refl _ _) (fun _ => rfl)
      (fun x W r o o' h hr hl ho => ⟨slp_put hl ho (fun _ _ h => h) h.1, h.2⟩) (fun h k => ⟨h.1.trans k.1, k.2.1.trans h.2.1, k.2.2.trans h.2.2⟩)
      (fun W r o o' hr h ho => ⟨below_put' W o' (by omega), World.putObj_heap_other (by omega), World.putObj_heap_other (by omega)⟩)
      (WipeI w w.heap.size (w9.heap.size + 1) (w9.heap.size + 2) wc.heap.size) (wipeI_calm w _ _ _ _ hb0c.size) (wipeI_below w _ _ _ _)
      ⟨bRc, bWc, ⟨_, bAc⟩, hb0c, Nat.le_refl _⟩ ?actA ?assignA ?bodyA ?doneA
    case assignA =>
      intro l x W K hK
      unfold Pz.enc
      gi_wp2
      exact hK
    case bodyA =>
      rintro l pre ⟨pv, pn⟩ W ⟨h1, h2, ⟨a, h3⟩, h4, h5⟩ hC hlt
      have hC1 := hC.1
      dsimp only at hC1 ⊢
      have hcn := containszero_any pv pn W hC1
      obtain ⟨pq, pc, rfl, -⟩ := bytes_len hC1
      have hzl : (zerosB pn).length = pn := by simp [zerosB]
      rw [hzl] at hcn ⊢
      clear hzl hC hC1
      gi_wp2_with (first
        | (refine ⟨trivial, ?_⟩; gi_at_call 86; refine (CallsIn.inRound l (callsIn_wide.2 hcn)).mono ?_; rintro e w11 ⟨rfl, hb11⟩; have d3 := (boxed_below h3 hb11).cell; have f3 := (boxed_below h3 hb11).frozen)
        | fail)
      have hnn : w9.heap.size + 2 ≠ w.heap.size := by have := hb09.size; have := bR.lt; have := (below_trans hb17 hb79).size; omega
      obtain ⟨w12, hw12⟩ : ∃ w12, w11.setCell ⟨w9.heap.size + 2, 0, none⟩ (.int .i64 (wrap64 (a + (pn : Int)))) = w12 := ⟨_, rfl⟩
      rw [hw12]
      have hoth : ∀ k, k ≠ w9.heap.size + 2 → k < W.heap.size → w12.heap[k]? = W.heap[k]? := fun k h6 h7 => by
        rw [← hw12, Below.heap_setCell _ _ _ _ h6]; exact hb11.block k h7
      have hb12 : Below w9.heap.size W w12 := by rw [← hw12]; exact (hb11.mono (by omega)).setCell (p := ⟨w9.heap.size + 2, 0, none⟩) (by simp) _
      refine ⟨?_, ⟨hb12, hoth _ (by omega) (by omega), hoth _ (by omega) (by omega)⟩, ⟨?_, ?_, ⟨wrap64 (a + (pn : Int)), ?_⟩, h4.trans (hb12.mono hb09.size), Nat.le_trans h5 hb12.size⟩⟩
      · rw [← hw12]; exact (others_below hb11).trans (KeepsOthers.setCell _ _ _)
      · rw [← hw12]; exact (boxed_below h1 hb11).other (Ne.symm hnn) _
      · rw [← hw12]; exact (boxed_below h2 hb11).other (by omega) _
      · rw [← hw12]; exact (boxed_below h3 hb11).set _
    case doneA =>
      rintro D xs W hD - ⟨h1, h2, ⟨a, h3⟩, h4, h5⟩ hK
      have k1 := h1.cell
      have k2 := h2.cell
      have f1 := h1.frozen
      dsimp only
      go_wp2_with fail
      have hKD := (KeepsOthers.setCell W ⟨w.heap.size, 0, none⟩ (.int .i64 0)).same _ _ hK rfl
      refine ⟨by simp, .inl ⟨_, _, rfl, run_takeDeferred hKD, ?_⟩⟩
      refine ⟨_, results_err rfl _ _ w.heap.size 0 (.int .i64 0) rfl (cell_put hKD rfl (h1.set _).cell), rfl, below_put _ (h4.setCell (p := ⟨w.heap.size, 0, none⟩) (Nat.le_refl _) _) (by have := hb0c.size; omega)⟩
  · rw [if_neg hce, Nat.zero_add] at hz9
    go_wp2_with (first
      | (go_at_call 85; refine (hch _ _ _ _).mono ?_; rintro e w10 ⟨rfl, rfl⟩)
      | fail)
    obtain ⟨wc, hwc⟩ : ∃ wc, (wb.alloc (.cells #[.slice (some ⟨g9, en, none⟩) (S32 - en) (c9 - en)] 25)).alloc (.cells #[.int .i64 32] 3) = wc := ⟨_, rfl⟩
    rw [hwc]
    have hbc : Below wb.heap.size wb wc := by rw [← hwc]; exact below_alloc (below_new _ _) _
    have bS : Boxed wc wb.heap.size 25 (.slice (some ⟨g9, en, none⟩) (S32 - en) (c9 - en)) := by rw [← hwc]; exact (Boxed.new _ _ _).alloc _
    have bN : Boxed wc (wb.heap.size + 1) 3 (.int .i64 32) := by
      rw [← hwc]
      have h := Boxed.new (wb.alloc (.cells #[.slice (some ⟨g9, en, none⟩) (S32 - en) (c9 - en)] 25)) 3 (.int .i64 32)
      rwa [World.size_alloc] at h
    have hsc : wc.heap.size = w9.heap.size + 5 := by rw [← hwc]; simp [hsb]
    rw [hsb] at bS bN
    have bRc := boxed_below bRb hbc
    have bWc := boxed_below bWb hbc
    have bAc := boxed_below bAb hbc
    have hb9c := below_trans hb9b hbc
    have hb0c := below_trans hb09 hb9c
    refine (wpIn_wide (n := 9)).1 ?_
    refine wpIn_hands rfl (by omega) (gf := 117) (lb := #[.pointer (some ⟨w9.heap.size + 3, 0, none⟩), .pointer (some ⟨w9.heap.size + 3 + 1, 0, none⟩)]) rfl trivial (enters_of Tryz.func117 (by kernel_rfl) rfl)
      (chunk_hands 8 (by omega) (w9.heap.size + 3) (w9.heap.size + 3 + 1) g9 en (S32 - en) (c9 - en) w9 wc hz9 (by omega) hb9c bS.cell bN.cell) (Below.refl _ _) (fun _ => rfl)
      (fun x W r o o' h hr hl ho => ⟨slp_put hl ho (fun _ _ h => h) h.1, h.2⟩) (fun h k => ⟨h.1.trans k.1, k.2.1.trans h.2.1, k.2.2.trans h.2.2⟩)
      (fun W r o o' hr h ho => ⟨below_put' W o' (by omega), World.putObj_heap_other (by omega), World.putObj_heap_other (by omega)⟩)
      (WipeI w w.heap.size (w9.heap.size + 1) (w9.heap.size + 2) wc.heap.size) (wipeI_calm w _ _ _ _ hb0c.size) (wipeI_below w _ _ _ _)
      ⟨bRc, bWc, ⟨_, bAc⟩, hb0c, Nat.le_refl _⟩ ?actB ?assignB ?bodyB ?doneB
    case assignB =>
      intro l x W K hK
      unfold Pz.enc
      gi_wp2
      exact hK
    case bodyB =>
      rintro l pre ⟨pv, pn⟩ W ⟨h1, h2, ⟨a, h3⟩, h4, h5⟩ hC hlt
      have hC1 := hC.1
      dsimp only at hC1 ⊢
      have hcn := containszero_any pv pn W hC1
      obtain ⟨pq, pc, rfl, -⟩ := bytes_len hC1
      have hzl : (zerosB pn).length = pn := by simp [zerosB]
      rw [hzl] at hcn ⊢
      clear hzl hC hC1
      gi_wp2_with (first
        | (refine ⟨trivial, ?_⟩; gi_at_call 86; refine (CallsIn.inRound l (callsIn_wide.2 hcn)).mono ?_; rintro e w11 ⟨rfl, hb11⟩; have d3 := (boxed_below h3 hb11).cell; have f3 := (boxed_below h3 hb11).frozen)
        | fail)
      have hnn : w9.heap.size + 2 ≠ w.heap.size := by have := hb09.size; have := bR.lt; have := (below_trans hb17 hb79).size; omega
      obtain ⟨w12, hw12⟩ : ∃ w12, w11.setCell ⟨w9.heap.size + 2, 0, none⟩ (.int .i64 (wrap64 (a + (pn : Int)))) = w12 := ⟨_, rfl⟩
      rw [hw12]
      have hoth : ∀ k, k ≠ w9.heap.size + 2 → k < W.heap.size → w12.heap[k]? = W.heap[k]? := fun k h6 h7 => by
        rw [← hw12, Below.heap_setCell _ _ _ _ h6]; exact hb11.block k h7
      have hb12 : Below w9.heap.size W w12 := by rw [← hw12]; exact (hb11.mono (by omega)).setCell (p := ⟨w9.heap.size + 2, 0, none⟩) (by simp) _
      refine ⟨?_, ⟨hb12, hoth _ (by omega) (by omega), hoth _ (by omega) (by omega)⟩, ⟨?_, ?_, ⟨wrap64 (a + (pn : Int)), ?_⟩, h4.trans (hb12.mono hb09.size), Nat.le_trans h5 hb12.size⟩⟩
      · rw [← hw12]; exact (others_below hb11).trans (KeepsOthers.setCell _ _ _)
      · rw [← hw12]; exact (boxed_below h1 hb11).other (Ne.symm hnn) _
      · rw [← hw12]; exact (boxed_below h2 hb11).other (by omega) _
      · rw [← hw12]; exact (boxed_below h3 hb11).set _
    case doneB =>
      rintro D xs W hD - ⟨h1, h2, ⟨a, h3⟩, h4, h5⟩ hK
      have k1 := h1.cell
      have k2 := h2.cell
      have f1 := h1.frozen
      dsimp only
      go_wp2_with fail
      have hKD := (KeepsOthers.setCell W ⟨w.heap.size, 0, none⟩ (.int .i64 0)).same _ _ hK rfl
      refine ⟨by simp, .inl ⟨_, _, rfl, run_takeDeferred hKD, ?_⟩⟩
      refine ⟨_, results_err rfl _ _ w.heap.size 0 (.int .i64 0) rfl (cell_put hKD rfl (h1.set _).cell), rfl, below_put _ (h4.setCell (p := ⟨w.heap.size, 0, none⟩) (Nat.le_refl _) _) (by have := hb0c.size; omega)⟩
end Go.Proofs.YtlhefifejcoecaaGreatDoor
