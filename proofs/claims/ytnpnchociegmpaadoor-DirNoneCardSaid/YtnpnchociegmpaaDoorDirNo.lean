/- DirNone: a directory that no call made has nothing; walked. -/
import Derived.Test.YtnpnchociegmpaaDoorDirSv
namespace Go.Proofs.YtnpnchociegmpaaDoor
open Go.RowKit Go.Proofs Go.Shelf
attribute [local go_sem ↓] Go.wp_at_zero Go.wp_at_succ

/-- A directory that no call made: nil, or the zero value. -/
def Unm (w : World) (v : Value) : Prop := v = .pointer none ∨ ∃ z, v = .pointer (some ⟨z, 0, none⟩) ∧ w.cell? ⟨z, 0, none⟩ = some (.pointer none)

theorem Unm.below {w w' : World} {v : Value} (h : Unm w v) (hb : Below w.heap.size w w') : Unm w' v := by
  rcases h with h | ⟨z, h, hc⟩
  · exact .inl h
  · exact .inr ⟨z, h, bcell hb hc⟩

set_option maxRecDepth 100000 in
theorem unm_made (w : World) (v : Value) (h : Unm w v) : Calls Tryd.prog 35 #[v] w (Gives w (.bool false)) := by
  rcases h with rfl | ⟨z, rfl, hc⟩
  · exact dmade_nil w
  · have lz := World.block_lt_of_cell? _ _ hc
    go_enter Tryd.func35, Tryd.ntmps35
    go_wp2_with fail
    go_ret
    exact ⟨rfl, Below.refl _ _⟩

section
variable {w : World} {v : Value}

set_option maxRecDepth 100000 in
theorem none_within (h : Unm w v) (s : ByteArray) (a c b : Int) : Calls Tryd.prog 38 #[v, .string s, .int .i64 a, .int .i64 c, .int .i64 b] w (Gives w (.tuple #[.int .i64 0, .int .i64 1])) := by
  have hm := unm_made w v h
  go_enter Tryd.func38, Tryd.ntmps38
  go_wp2_with (first | (go_at_call 35; refine hm.mono ?_; rintro e w1 ⟨rfl, hb1⟩) | fail)
  go_ret2
  exact ⟨rfl, hb1⟩

set_option maxRecDepth 100000 in
theorem none_read (h : Unm w v) (s : ByteArray) (a c : Int) : Calls Tryd.prog 22 #[v, .string s, .int .i64 a, .int .i64 c] w (Gives w (.tuple #[.slice none 0 0, .int .i64 1])) := by
  have hm := none_within h s a c 2
  go_enter Tryd.func22, Tryd.ntmps22
  go_wp2_with (first | (go_at_call 38; refine hm.mono ?_; rintro e w1 ⟨rfl, hb1⟩) | fail)
  go_ret2
  exact ⟨rfl, hb1⟩

set_option maxRecDepth 100000 in
theorem none_make (h : Unm w v) (s : ByteArray) (c : Int) : Calls Tryd.prog 11 #[v, .string s, .int .i64 c] w (Gives w (.int .i64 1)) := by
  have hm := unm_made w v h
  go_enter Tryd.func11, Tryd.ntmps11
  go_wp2_with (first | (go_at_call 35; refine hm.mono ?_; rintro e w1 ⟨rfl, hb1⟩) | fail)
  go_ret
  exact ⟨rfl, hb1⟩

set_option maxRecDepth 100000 in
theorem none_remove (h : Unm w v) (s : ByteArray) : Calls Tryd.prog 12 #[v, .string s] w (Gives w (.int .i64 1)) := by
  have hm := unm_made w v h
  go_enter Tryd.func12, Tryd.ntmps12
  go_wp2_with (first | (go_at_call 35; refine hm.mono ?_; rintro e w1 ⟨rfl, hb1⟩) | fail)
  go_ret
  exact ⟨rfl, hb1⟩

set_option maxRecDepth 100000 in
theorem none_write (h : Unm w v) (s : ByteArray) (a : Int) (q : Option Addr) (n cap : Nat) : Calls Tryd.prog 13 #[v, .string s, .int .i64 a, .slice q n cap] w (Gives w (.int .i64 1)) := by
  have hm := none_within h s a n 6
  go_enter Tryd.func13, Tryd.ntmps13
  go_wp2_with (first | (go_at_call 38; refine hm.mono ?_; rintro e w1 ⟨rfl, hb1⟩) | fail)
  go_ret
  exact ⟨rfl, hb1⟩

set_option maxRecDepth 100000 in
theorem none_sync (h : Unm w v) : Calls Tryd.prog 24 #[v] w (Gives w (.int .i64 1)) := by
  have hm := unm_made w v h
  go_enter Tryd.func24, Tryd.ntmps24
  go_wp2_with (first | (go_at_call 35; refine hm.mono ?_; rintro e w1 ⟨rfl, hb1⟩) | fail)
  go_ret
  exact ⟨rfl, hb1⟩

set_option maxRecDepth 100000 in
theorem none_save (h : Unm w v) (hv : v.oneCell' = true) : Calls Tryd.prog 14 #[v] w (Gives w (.int .i64 1)) := by
  have hm := fun W (hb : Below w.heap.size w W) => unm_made W v (h.below hb)
  rcases h with rfl | ⟨z, rfl, hc⟩
  · go_enter Tryd.func14, Tryd.ntmps14
    go_wp2_with (first | (go_at_call 35; refine (hm _ (below_new _ _)).mono ?_; rintro e w1 ⟨rfl, hb1⟩) | fail)
    go_ret
    exact ⟨rfl, below_trans (below_new _ _) hb1⟩
  · go_enter Tryd.func14, Tryd.ntmps14
    go_wp2_with (first | (go_at_call 35; refine (hm _ (below_new _ _)).mono ?_; rintro e w1 ⟨rfl, hb1⟩) | fail)
    go_ret
    exact ⟨rfl, below_trans (below_new _ _) hb1⟩

set_option maxRecDepth 100000 in
theorem none_names (h : Unm w v) : Calls Tryd.prog 15 #[v] w (Gives w (.slice none 0 0)) := by
  have hm := unm_made w v h
  go_enter Tryd.func15, Tryd.ntmps15
  go_wp2_with (first | (go_at_call 35; refine hm.mono ?_; rintro e w1 ⟨rfl, hb1⟩) | fail)
  go_ret
  exact ⟨rfl, hb1⟩

set_option maxRecDepth 100000 in
theorem none_size (h : Unm w v) (s : ByteArray) : Calls Tryd.prog 23 #[v, .string s] w (Gives w (.int .i64 0)) := by
  have hm := unm_made w v h
  go_enter Tryd.func23, Tryd.ntmps23
  go_wp2_with (first | (go_at_call 35; refine hm.mono ?_; rintro e w1 ⟨rfl, hb1⟩) | fail)
  go_ret
  exact ⟨rfl, hb1⟩

set_option maxRecDepth 100000 in
theorem none_free (h : Unm w v) : Calls Tryd.prog 25 #[v] w (Gives w (.int .i64 0)) := by
  have hm := unm_made w v h
  go_enter Tryd.func25, Tryd.ntmps25
  go_wp2_with (first | (go_at_call 35; refine hm.mono ?_; rintro e w1 ⟨rfl, hb1⟩) | fail)
  go_ret
  exact ⟨rfl, hb1⟩

set_option maxRecDepth 100000 in
theorem none_epoch (h : Unm w v) : Calls Tryd.prog 20 #[v] w (Gives w (.int .i64 0)) := by
  have hm := unm_made w v h
  go_enter Tryd.func20, Tryd.ntmps20
  go_wp2_with (first | (go_at_call 35; refine hm.mono ?_; rintro e w1 ⟨rfl, hb1⟩) | fail)
  go_ret
  exact ⟨rfl, hb1⟩

set_option maxRecDepth 100000 in
theorem none_disk (h : Unm w v) : Calls Tryd.prog 26 #[v] w (Gives w (.pointer none)) := by
  have hm := unm_made w v h
  go_enter Tryd.func26, Tryd.ntmps26
  go_wp2_with (first | (go_at_call 35; refine hm.mono ?_; rintro e w1 ⟨rfl, hb1⟩) | fail)
  go_ret
  exact ⟨rfl, hb1⟩
end

/-- A disk that no call made. -/
def UnmD (w : World) (v : Value) : Prop := v = .pointer none ∨ ∃ z, v = .pointer (some ⟨z, 0, none⟩) ∧ w.cell? ⟨z, 0, none⟩ = some (.slice none 0 0)

theorem UnmD.below {w w' : World} {v : Value} (h : UnmD w v) (hb : Below w.heap.size w w') : UnmD w' v := by
  rcases h with h | ⟨z, h, hc⟩
  · exact .inl h
  · exact .inr ⟨z, h, bcell hb hc⟩

set_option maxRecDepth 100000 in
theorem unmd_made (w : World) (v : Value) (h : UnmD w v) : Calls Tryd.prog 42 #[v] w (Gives w (.bool false)) := by
  rcases h with rfl | ⟨z, rfl, hc⟩
  · go_enter Tryd.func42, Tryd.ntmps42
    go_wp2_with fail
    go_ret
    exact ⟨rfl, Below.refl _ _⟩
  · have lz := World.block_lt_of_cell? _ _ hc
    go_enter Tryd.func42, Tryd.ntmps42
    go_wp2_with fail
    go_ret
    exact ⟨rfl, Below.refl _ _⟩

set_option maxRecDepth 100000 in
theorem none_dsize (w : World) (v : Value) (h : UnmD w v) : Calls Tryd.prog 27 #[v] w (Gives w (.int .i64 0)) := by
  have hm := unmd_made w v h
  go_enter Tryd.func27, Tryd.ntmps27
  go_wp2_with (first | (go_at_call 42; refine hm.mono ?_; rintro e w1 ⟨rfl, hb1⟩) | fail)
  go_ret
  exact ⟨rfl, hb1⟩

set_option maxRecDepth 100000 in
theorem none_format (w : World) : Calls Tryd.prog 8 #[.pointer none] w (Gives w (.tuple #[.pointer none, .int .i64 1])) := by
  have hm := fun W => none_dsize W (.pointer none) (.inl rfl)
  go_enter Tryd.func8, Tryd.ntmps8
  go_wp2_with (first | (go_at_call 27; refine (hm _).mono ?_; rintro e w1 ⟨rfl, hb1⟩) | fail)
  go_ret2
  exact ⟨rfl, below_trans (below_new _ _) hb1⟩

set_option maxRecDepth 100000 in
theorem none_open (w : World) (v : Value) (h : UnmD w v) : Calls Tryd.prog 18 #[v] w (Gives w (.tuple #[.pointer none, .int .i64 1])) := by
  have hm := none_dsize w v h
  go_enter Tryd.func18, Tryd.ntmps18
  go_wp2_with (first | (go_at_call 27; refine hm.mono ?_; rintro e w1 ⟨rfl, hb1⟩) | fail)
  go_ret2
  exact ⟨rfl, hb1⟩

theorem twoP0 (a b : Value) (W : World) : (Instr.index 60 (.agg #[a, b]) (.int .i64 0)).run Tryd.prog W = .ok a W := by kernel_rfl
theorem twoP1 (a b : Value) (W : World) : (Instr.index 60 (.agg #[a, b]) (.int .i64 1)).run Tryd.prog W = .ok b W := by kernel_rfl

set_option maxRecDepth 100000 in
set_option maxHeartbeats 4000000 in
theorem dirNone_any (cs : List Value) (a : Act24) (w : World) (ha : ActE w cs a) (hN : Nib w) : Calls Tryd.prog 6 #[.agg cs.toArray] w (Gives w (.bool true)) := by
  obtain ⟨bv, kv, rfl, -, -, -, -, hbv, hkv⟩ := ha
  obtain ⟨qb, cb, rfl, -⟩ := bytes_len hbv
  obtain ⟨qk, ck, rfl⟩ := int_len hkv
  have hliv := fun W (hb : Below w.heap.size w W) => lives_any W (hN.below hb)
  have Hlv := Lib.hid hliv
  clear hbv hkv hliv hN
  obtain ⟨kd, at_, n, nm, bs, ks⟩ := a
  dsimp only
  generalize bs.length = lb
  generalize ks.length = lk
  go_enter Tryd.func6, Tryd.ntmps6
  go_upto_region 4 with fail
  generalize hW3 : ((w.alloc (.cells #[.int .i64 kd, .int .i64 at_, .int .i64 n, .string nm, .slice qb lb cb, .slice qk lk ck] 35)).alloc (.cells #[.pointer none, .map none, .map none, .int .i64 0, .int .i64 0] 55)).alloc (.cells #[.slice none 0 0, .map none, .slice none 0 0, .bool false, .int .i64 0, .slice none 0 0, .int .i64 0] 59) = w3
  have hb3 : Below w.heap.size w w3 := by rw [← hW3]; exact below_alloc (below_alloc (below_new _ _) _) _
  have f1 : w3.cell? ⟨w.heap.size, 1, none⟩ = some (.int .i64 at_) := by rw [← hW3]; exact bcell (below_new _ _) (bcell (below_new _ _) (by simp))
  have f2 : w3.cell? ⟨w.heap.size, 2, none⟩ = some (.int .i64 n) := by rw [← hW3]; exact bcell (below_new _ _) (bcell (below_new _ _) (by simp))
  have f3 : w3.cell? ⟨w.heap.size, 3, none⟩ = some (.string nm) := by rw [← hW3]; exact bcell (below_new _ _) (bcell (below_new _ _) (by simp))
  have f4 : w3.cell? ⟨w.heap.size, 4, none⟩ = some (.slice qb lb cb) := by rw [← hW3]; exact bcell (below_new _ _) (bcell (below_new _ _) (by simp))
  have hz : w3.cell? ⟨w.heap.size + 1, 0, none⟩ = some (.pointer none) := by rw [← hW3]; exact bcell (below_new _ _) (by rw [← World.size_alloc w (.cells #[.int .i64 kd, .int .i64 at_, .int .i64 n, .string nm, .slice qb lb cb, .slice qk lk ck] 35)]; simp)
  have hdz : w3.cell? ⟨w.heap.size + 1 + 1, 0, none⟩ = some (.slice none 0 0) := by
    rw [← hW3]
    have := heap_alloc_new ((w.alloc (.cells #[.int .i64 kd, .int .i64 at_, .int .i64 n, .string nm, .slice qb lb cb, .slice qk lk ck] 35)).alloc (.cells #[.pointer none, .map none, .map none, .int .i64 0, .int .i64 0] 55)) (.cells #[.slice none 0 0, .map none, .slice none 0 0, .bool false, .int .i64 0, .slice none 0 0, .int .i64 0] 59)
    rw [World.size_alloc, World.size_alloc] at this
    rw [block_cell this]; rfl
  clear hW3
  have hU0 : Unm w3 (.pointer none) := .inl rfl
  have hU1 : Unm w3 (.pointer (some ⟨w.heap.size + 1, 0, none⟩)) := .inr ⟨_, rfl, hz⟩
  have hD : UnmD w3 (.pointer (some ⟨w.heap.size + 1 + 1, 0, none⟩)) := .inr ⟨_, rfl, hdz⟩
  clear hz hdz
  have hi0 := fun W => twoP0 (.pointer none) (.pointer (some ⟨w.heap.size + 1, 0, none⟩)) W
  have hi1 := fun W => twoP1 (.pointer none) (.pointer (some ⟨w.heap.size + 1, 0, none⟩)) W
  generalize hzz : w.heap.size + 1 = z at *
  generalize hdd : z + 1 = dz at *
  have Hzz := Lib.hid hzz
  have Hdd := Lib.hid hdd
  clear hzz hdd
  go_loopw [14, 6, 7, 8] (fun i _ _ _ wr => ∃ k : Nat, k ≤ 2 ∧ i = .int .i64 k ∧ Below w3.heap.size w3 wr) (fun i _ _ _ _ => 2 - (intOf i).toNat)
  case atStart => exact ⟨0, by omega, rfl, Below.refl _ _⟩
  case round =>
    obtain ⟨k, hk, rfl, hb⟩ := hrel
    have g1 := bcell hb f1
    have g2 := bcell hb f2
    have g3 := bcell hb f3
    have g4 := bcell hb f4
    rcases (by omega : k = 0 ∨ k = 1 ∨ k = 2) with rfl | rfl | rfl
    · skip
      have hU := fun W (h : Below wr.heap.size wr W) => hU0.below (below_trans hb h)
      have cR := fun W h => none_read (hU W h) nm at_ n
      have cM := fun W h => none_make (hU W h) nm n
      have cX := fun W h => none_remove (hU W h) nm
      have cW := fun W h => none_write (hU W h) nm at_ qb lb cb
      have cY := fun W h => none_sync (hU W h)
      have cS := fun W h => none_save (hU W h) rfl
      have cN := fun W h => none_names (hU W h)
      have cZ := fun W h => none_size (hU W h) nm
      have cF := fun W h => none_free (hU W h)
      have cE := fun W h => none_epoch (hU W h)
      have cD := fun W h => none_disk (hU W h)
      have hbc := Below.refl wr.heap.size wr
      clear hU0 hU1 hU
      go_upto_region 9 with (first
        | (go_at_call 22; refine (cR _ hbc).mono ?_; rintro e w2 ⟨rfl, hb2⟩; have hbc := below_trans hbc hb2; have g1 := bcell hb2 g1; have g2 := bcell hb2 g2; have g3 := bcell hb2 g3; have g4 := bcell hb2 g4)
        | (go_at_call 11; refine (cM _ hbc).mono ?_; rintro e w2 ⟨rfl, hb2⟩; have hbc := below_trans hbc hb2; have g1 := bcell hb2 g1; have g2 := bcell hb2 g2; have g3 := bcell hb2 g3; have g4 := bcell hb2 g4)
        | (go_at_call 12; refine (cX _ hbc).mono ?_; rintro e w2 ⟨rfl, hb2⟩; have hbc := below_trans hbc hb2; have g1 := bcell hb2 g1; have g2 := bcell hb2 g2; have g3 := bcell hb2 g3; have g4 := bcell hb2 g4)
        | (go_at_call 13; refine (cW _ hbc).mono ?_; rintro e w2 ⟨rfl, hb2⟩; have hbc := below_trans hbc hb2; have g1 := bcell hb2 g1; have g2 := bcell hb2 g2; have g3 := bcell hb2 g3; have g4 := bcell hb2 g4)
        | (go_at_call 24; refine (cY _ hbc).mono ?_; rintro e w2 ⟨rfl, hb2⟩; have hbc := below_trans hbc hb2; have g1 := bcell hb2 g1; have g2 := bcell hb2 g2; have g3 := bcell hb2 g3; have g4 := bcell hb2 g4)
        | (go_at_call 14; refine (cS _ hbc).mono ?_; rintro e w2 ⟨rfl, hb2⟩; have hbc := below_trans hbc hb2; have g1 := bcell hb2 g1; have g2 := bcell hb2 g2; have g3 := bcell hb2 g3; have g4 := bcell hb2 g4)
        | fail)
      have kN := fun s => cN (later w2 s) (below_trans hbc (later_below w2 s))
      have kZ := fun s => cZ (later w2 s) (below_trans hbc (later_below w2 s))
      have kF := fun s => cF (later w2 s) (below_trans hbc (later_below w2 s))
      have kE := fun s => cE (later w2 s) (below_trans hbc (later_below w2 s))
      have kD := fun s => cD (later w2 s) (below_trans hbc (later_below w2 s))
      have d3 := fun s => later_cell g3 s
      clear cR cM cX cW cY cS cN cZ cF cE cD
      refine wp_region_mild (by kernel_rfl) (by kernel_rfl) ?_
      repeat (any_goals (first | go_big_quiet_step ((first | (exact mild_of (kN _)) | (exact mild_of (kZ _)) | (exact mild_of (kF _)) | (exact mild_of (kE _)) | (exact mild_of (kD _)))) | quiet_step ((first | (exact mild_of (kN _)) | (exact mild_of (kZ _)) | (exact mild_of (kF _)) | (exact mild_of (kE _)) | (exact mild_of (kD _)))) | (refine wpQuiet_step (fun K hK => ?_); go_simp; split <;> (refine hK _ ?_; clear hK K))))
      all_goals (refine wpQuiet_nil ?_; intro W hW)
      all_goals
        (go_wp2_with fail
         go_roundw
         case rel => exact ⟨0 + 1, by omega, by go_num, below_trans hb (below_trans hbc hW)⟩
         case measure => simp [intOf])
    · skip
      have hU := fun W (h : Below wr.heap.size wr W) => hU1.below (below_trans hb h)
      have cR := fun W h => none_read (hU W h) nm at_ n
      have cM := fun W h => none_make (hU W h) nm n
      have cX := fun W h => none_remove (hU W h) nm
      have cW := fun W h => none_write (hU W h) nm at_ qb lb cb
      have cY := fun W h => none_sync (hU W h)
      have cS := fun W h => none_save (hU W h) rfl
      have cN := fun W h => none_names (hU W h)
      have cZ := fun W h => none_size (hU W h) nm
      have cF := fun W h => none_free (hU W h)
      have cE := fun W h => none_epoch (hU W h)
      have cD := fun W h => none_disk (hU W h)
      have hbc := Below.refl wr.heap.size wr
      clear hU0 hU1 hU
      go_upto_region 9 with (first
        | (go_at_call 22; refine (cR _ hbc).mono ?_; rintro e w2 ⟨rfl, hb2⟩; have hbc := below_trans hbc hb2; have g1 := bcell hb2 g1; have g2 := bcell hb2 g2; have g3 := bcell hb2 g3; have g4 := bcell hb2 g4)
        | (go_at_call 11; refine (cM _ hbc).mono ?_; rintro e w2 ⟨rfl, hb2⟩; have hbc := below_trans hbc hb2; have g1 := bcell hb2 g1; have g2 := bcell hb2 g2; have g3 := bcell hb2 g3; have g4 := bcell hb2 g4)
        | (go_at_call 12; refine (cX _ hbc).mono ?_; rintro e w2 ⟨rfl, hb2⟩; have hbc := below_trans hbc hb2; have g1 := bcell hb2 g1; have g2 := bcell hb2 g2; have g3 := bcell hb2 g3; have g4 := bcell hb2 g4)
        | (go_at_call 13; refine (cW _ hbc).mono ?_; rintro e w2 ⟨rfl, hb2⟩; have hbc := below_trans hbc hb2; have g1 := bcell hb2 g1; have g2 := bcell hb2 g2; have g3 := bcell hb2 g3; have g4 := bcell hb2 g4)
        | (go_at_call 24; refine (cY _ hbc).mono ?_; rintro e w2 ⟨rfl, hb2⟩; have hbc := below_trans hbc hb2; have g1 := bcell hb2 g1; have g2 := bcell hb2 g2; have g3 := bcell hb2 g3; have g4 := bcell hb2 g4)
        | (go_at_call 14; refine (cS _ hbc).mono ?_; rintro e w2 ⟨rfl, hb2⟩; have hbc := below_trans hbc hb2; have g1 := bcell hb2 g1; have g2 := bcell hb2 g2; have g3 := bcell hb2 g3; have g4 := bcell hb2 g4)
        | fail)
      have kN := fun s => cN (later w2 s) (below_trans hbc (later_below w2 s))
      have kZ := fun s => cZ (later w2 s) (below_trans hbc (later_below w2 s))
      have kF := fun s => cF (later w2 s) (below_trans hbc (later_below w2 s))
      have kE := fun s => cE (later w2 s) (below_trans hbc (later_below w2 s))
      have kD := fun s => cD (later w2 s) (below_trans hbc (later_below w2 s))
      have d3 := fun s => later_cell g3 s
      clear cR cM cX cW cY cS cN cZ cF cE cD
      refine wp_region_mild (by kernel_rfl) (by kernel_rfl) ?_
      repeat (any_goals (first | go_big_quiet_step ((first | (exact mild_of (kN _)) | (exact mild_of (kZ _)) | (exact mild_of (kF _)) | (exact mild_of (kE _)) | (exact mild_of (kD _)))) | quiet_step ((first | (exact mild_of (kN _)) | (exact mild_of (kZ _)) | (exact mild_of (kF _)) | (exact mild_of (kE _)) | (exact mild_of (kD _)))) | (refine wpQuiet_step (fun K hK => ?_); go_simp; split <;> (refine hK _ ?_; clear hK K))))
      all_goals (refine wpQuiet_nil ?_; intro W hW)
      all_goals
        (go_wp2_with fail
         go_roundw
         case rel => exact ⟨1 + 1, by omega, by go_num, below_trans hb (below_trans hbc hW)⟩
         case measure => simp [intOf])
    · have hfm := fun W => none_format W
      have hop := fun W (h : Below w3.heap.size w3 W) => none_open W _ (hD.below h)
      go_wp2_with (first
        | (go_at_call 8; refine (hfm _).mono ?_; rintro e w4 ⟨rfl, hb4⟩)
        | (go_at_call 18; refine (hop _ (below_trans hb hb4)).mono ?_; rintro e w5 ⟨rfl, hb5⟩; have hlv := Hlv.out w5 (below_trans hb3 (below_trans (below_trans hb hb4) hb5)))
        | (go_at_call 10; refine hlv.mono ?_; rintro e w6 ⟨rfl, hb6⟩)
        | fail)
      go_ret
      exact ⟨rfl, below_trans (below_trans hb3 (below_trans (below_trans hb hb4) hb5)) hb6⟩

end Go.Proofs.YtnpnchociegmpaaDoor
