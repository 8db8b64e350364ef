/- SegmentNone: a log that no call made has nothing; walked. -/
import Derived.Test.YtlhefifejcoecaaGreatDoorSegJ
namespace Go.Proofs.YtlhefifejcoecaaGreatDoor
open Go.RowKit Go.Proofs Go.Shelf
attribute [local go_sem ↓] Go.wp_at_zero Go.wp_at_succ

structure Act25 where
  kind : Int
  n : Int
  at_ : Int
  name : ByteArray
  b : List UInt8
  keep : List Int
def Int25 (_ : World) (cs : List Value) (x : Int) : Prop := cs = [.int .i64 x]
def ActE (w : World) (cs : List Value) (a : Act25) : Prop := ∃ bv kv, cs = [.int .i64 a.kind, .int .i64 a.n, .int .i64 a.at_, .string a.name, bv, kv] ∧ I64 a.kind ∧ I64 a.n ∧ I64 a.at_ ∧ a.name.size ≤ 9223372036854775807 ∧ SlP 1 ByteE w bv a.b ∧ SlP 1 Int25 w kv a.keep

theorem int25_len {w : World} {v : Value} {l : List Int} (h : SlP 1 Int25 w v l) : ∃ q cap, v = .slice q l.length cap := by
  obtain ⟨q, cap, h, -⟩ := h
  exact ⟨q, cap, h⟩

/-- A log that no call made: nil, or the zero value. -/
def UnmL (w : World) (v : Value) : Prop := v = .pointer none ∨ ∃ z, v = .pointer (some ⟨z, 0, none⟩) ∧ w.cell? ⟨z, 0, none⟩ = some (.pointer none)

theorem UnmL.below {w w' : World} {v : Value} (h : UnmL w v) (hb : Below w.heap.size w w') : UnmL w' v := by
  rcases h with h | ⟨z, h, hc⟩
  · exact .inl h
  · exact .inr ⟨z, h, bcell hb hc⟩

set_option maxRecDepth 100000 in
theorem unml_made (w : World) (v : Value) (h : UnmL w v) : Calls Tryz.prog 30 #[v] w (Gives w (.bool false)) := by
  rcases h with rfl | ⟨z, rfl, hc⟩
  · exact smade_nil w
  · have lz := World.block_lt_of_cell? _ _ hc
    go_enter Tryz.func30, Tryz.ntmps30
    go_wp2_with fail
    go_ret
    exact ⟨rfl, Below.refl _ _⟩

section
variable {w : World} {v : Value}

set_option maxRecDepth 100000 in
theorem nol_get (h : UnmL w v) (i : Int) : Calls Tryz.prog 11 #[v, .int .i64 i] w (Gives w (.tuple #[.slice none 0 0, .int .i64 1])) := by
  have hm := fun W (hb : Below w.heap.size w W) => unml_made W v (h.below hb)
  have hm1 := hm (w.alloc (.cells #[.int .i64 i] 3)) (below_new _ _)
  clear hm
  go_enter Tryz.func11, Tryz.ntmps11
  go_wp2_with (first | (go_at_call 30; refine hm1.mono ?_; rintro e w1 ⟨rfl, hb1⟩) | fail)
  go_ret2
  exact ⟨rfl, below_trans (below_new _ _) hb1⟩

set_option maxRecDepth 100000 in
theorem nol_append (h : UnmL w v) (q : Option Addr) (n c : Nat) : Calls Tryz.prog 12 #[v, .slice q n c] w (Gives w (.int .i64 1)) := by
  have hm := unml_made w v h
  go_enter Tryz.func12, Tryz.ntmps12
  go_wp2_with (first | (go_at_call 30; refine hm.mono ?_; rintro e w1 ⟨rfl, hb1⟩) | fail)
  go_ret
  exact ⟨rfl, hb1⟩

set_option maxRecDepth 100000 in
theorem nol_sync (h : UnmL w v) : Calls Tryz.prog 13 #[v] w (Gives w (.int .i64 1)) := by
  have hm := unml_made w v h
  go_enter Tryz.func13, Tryz.ntmps13
  go_wp2_with (first | (go_at_call 30; refine hm.mono ?_; rintro e w1 ⟨rfl, hb1⟩) | fail)
  go_ret
  exact ⟨rfl, hb1⟩

set_option maxRecDepth 100000 in
theorem nol_truncate (h : UnmL w v) (i : Int) : Calls Tryz.prog 14 #[v, .int .i64 i] w (Gives w (.int .i64 1)) := by
  have hm := unml_made w v h
  go_enter Tryz.func14, Tryz.ntmps14
  go_wp2_with (first | (go_at_call 30; refine hm.mono ?_; rintro e w1 ⟨rfl, hb1⟩) | fail)
  go_ret
  exact ⟨rfl, hb1⟩

set_option maxRecDepth 100000 in
theorem nol_reset (h : UnmL w v) (i : Int) : Calls Tryz.prog 15 #[v, .int .i64 i] w (Gives w (.int .i64 1)) := by
  have hm := unml_made w v h
  go_enter Tryz.func15, Tryz.ntmps15
  go_wp2_with (first | (go_at_call 30; refine hm.mono ?_; rintro e w1 ⟨rfl, hb1⟩) | fail)
  go_ret
  exact ⟨rfl, hb1⟩

set_option maxRecDepth 100000 in
theorem nol_first (h : UnmL w v) : Calls Tryz.prog 16 #[v] w (Gives w (.int .i64 0)) := by
  have hm := unml_made w v h
  go_enter Tryz.func16, Tryz.ntmps16
  go_wp2_with (first | (go_at_call 30; refine hm.mono ?_; rintro e w1 ⟨rfl, hb1⟩) | fail)
  go_ret
  exact ⟨rfl, hb1⟩

set_option maxRecDepth 100000 in
theorem nol_next (h : UnmL w v) : Calls Tryz.prog 17 #[v] w (Gives w (.int .i64 0)) := by
  have hm := unml_made w v h
  go_enter Tryz.func17, Tryz.ntmps17
  go_wp2_with (first | (go_at_call 30; refine hm.mono ?_; rintro e w1 ⟨rfl, hb1⟩) | fail)
  go_ret
  exact ⟨rfl, hb1⟩

set_option maxRecDepth 100000 in
theorem nol_names (h : UnmL w v) : Calls Tryz.prog 18 #[v] w (Gives w (.slice none 0 0)) := by
  have hm := unml_made w v h
  go_enter Tryz.func18, Tryz.ntmps18
  go_wp2_with (first | (go_at_call 30; refine hm.mono ?_; rintro e w1 ⟨rfl, hb1⟩) | fail)
  go_ret
  exact ⟨rfl, hb1⟩
end

/-- A directory that no call made. -/
def UnmX (w : World) (v : Value) : Prop := v = .pointer none ∨ ∃ z, v = .pointer (some ⟨z, 0, none⟩) ∧ w.cell? ⟨z, 0, none⟩ = some (.pointer none)
theorem UnmX.below {w w' : World} {v : Value} (h : UnmX w v) (hb : Below w.heap.size w w') : UnmX w' v := by
  rcases h with h | ⟨z, h, hc⟩
  · exact .inl h
  · exact .inr ⟨z, h, bcell hb hc⟩

set_option maxRecDepth 100000 in
theorem unmx_made (w : World) (v : Value) (h : UnmX w v) : Calls Tryz.prog 58 #[v] w (Gives w (.bool false)) := by
  rcases h with rfl | ⟨z, rfl, hc⟩
  · exact dmade_nil w
  · have lz := World.block_lt_of_cell? _ _ hc
    go_enter Tryz.func58, Tryz.ntmps58
    go_wp2_with fail
    go_ret
    exact ⟨rfl, Below.refl _ _⟩

set_option maxRecDepth 100000 in
theorem nox_disk {w : World} {v : Value} (h : UnmX w v) : Calls Tryz.prog 41 #[v] w (Gives w (.pointer none)) := by
  have hm := unmx_made w v h
  go_enter Tryz.func41, Tryz.ntmps41
  go_wp2_with (first | (go_at_call 58; refine hm.mono ?_; rintro e w1 ⟨rfl, hb1⟩) | fail)
  go_ret
  exact ⟨rfl, hb1⟩

set_option maxRecDepth 100000 in
theorem nox_open {w : World} {v : Value} (h : UnmX w v) (i : Int) : Calls Tryz.prog 19 #[v, .int .i64 i] w (Gives w (.tuple #[.pointer none, .int .i64 1])) := by
  have hm := nox_disk h
  go_enter Tryz.func19, Tryz.ntmps19
  go_wp2_with (first | (go_at_call 41; refine hm.mono ?_; rintro e w1 ⟨rfl, hb1⟩) | fail)
  go_ret2
  exact ⟨rfl, hb1⟩

theorem twoL0 (a b : Value) (W : World) : (Instr.index 39 (.agg #[a, b]) (.int .i64 0)).run Tryz.prog W = .ok a W := by kernel_rfl
theorem twoL1 (a b : Value) (W : World) : (Instr.index 39 (.agg #[a, b]) (.int .i64 1)).run Tryz.prog W = .ok b W := by kernel_rfl

set_option maxRecDepth 100000 in
set_option maxHeartbeats 1000000 in
theorem segmentNone_any (cs : List Value) (a : Act25) (w : World) (ha : ActE w cs a) (hE : Env w) : Calls Tryz.prog 4 #[.agg cs.toArray] w (Gives w (.bool true)) := by
  obtain ⟨bv, kv, rfl, -, -, -, -, hbv, hkv⟩ := ha
  obtain ⟨qb, cb, rfl, -⟩ := bytes_len hbv
  obtain ⟨qk, ck, rfl⟩ := int25_len hkv
  have hliv := fun W (hb : Below w.heap.size w W) => lives25_any W (hE.below hb)
  have Hlv := Lib.hid hliv
  clear hbv hkv hliv hE
  obtain ⟨kd, n, at_, nm, bs, ks⟩ := a
  dsimp only
  generalize bs.length = lb
  generalize ks.length = lk
  go_enter Tryz.func4, Tryz.ntmps4
  go_upto_region 4 with fail
  generalize hW3 : ((w.alloc (.cells #[.int .i64 kd, .int .i64 n, .int .i64 at_, .string nm, .slice qb lb cb, .slice qk lk ck] 28)).alloc (.cells #[.pointer none, .int .i64 0, .slice none 0 0] 32)).alloc (.cells #[.pointer none, .map none, .map none, .int .i64 0, .int .i64 0] 37) = w3
  have hb3 : Below w.heap.size w w3 := by rw [← hW3]; exact below_alloc (below_alloc (below_new _ _) _) _
  have f1 : w3.cell? ⟨w.heap.size, 1, none⟩ = some (.int .i64 n) := by rw [← hW3]; exact bcell (below_new _ _) (bcell (below_new _ _) (by simp))
  have f4 : w3.cell? ⟨w.heap.size, 4, none⟩ = some (.slice qb lb cb) := by rw [← hW3]; exact bcell (below_new _ _) (bcell (below_new _ _) (by simp))
  have hz : w3.cell? ⟨w.heap.size + 1, 0, none⟩ = some (.pointer none) := by rw [← hW3]; exact bcell (below_new _ _) (by rw [← World.size_alloc w (.cells #[.int .i64 kd, .int .i64 n, .int .i64 at_, .string nm, .slice qb lb cb, .slice qk lk ck] 28)]; simp)
  have hdz : w3.cell? ⟨w.heap.size + 1 + 1, 0, none⟩ = some (.pointer none) := by
    rw [← hW3]
    have := heap_alloc_new ((w.alloc (.cells #[.int .i64 kd, .int .i64 n, .int .i64 at_, .string nm, .slice qb lb cb, .slice qk lk ck] 28)).alloc (.cells #[.pointer none, .int .i64 0, .slice none 0 0] 32)) (.cells #[.pointer none, .map none, .map none, .int .i64 0, .int .i64 0] 37)
    rw [World.size_alloc, World.size_alloc] at this
    rw [block_cell this]; rfl
  clear hW3
  have hU0 : UnmL w3 (.pointer none) := .inl rfl
  have hU1 : UnmL w3 (.pointer (some ⟨w.heap.size + 1, 0, none⟩)) := .inr ⟨_, rfl, hz⟩
  have hD : UnmX w3 (.pointer (some ⟨w.heap.size + 1 + 1, 0, none⟩)) := .inr ⟨_, rfl, hdz⟩
  clear hz hdz
  have hi0 := fun W => twoL0 (.pointer none) (.pointer (some ⟨w.heap.size + 1, 0, none⟩)) W
  have hi1 := fun W => twoL1 (.pointer none) (.pointer (some ⟨w.heap.size + 1, 0, none⟩)) W
  generalize hzz : w.heap.size + 1 = z at *
  generalize hdd : z + 1 = dz at *
  have Hzz := Lib.hid hzz
  have Hdd := Lib.hid hdd
  clear hzz hdd
  go_loopw [14, 6, 7, 8] (fun i _ _ _ wr => ∃ k : Nat, k ≤ 2 ∧ i = .int .i64 k ∧ Below w3.heap.size w3 wr) (fun i _ _ _ _ => 2 - (intOf i).toNat)
  case atStart => exact ⟨0, by omega, rfl, Below.refl _ _⟩
  case round =>
    obtain ⟨k, hk, rfl, hb⟩ := hrel
    have g1 := bcell hb f1
    have g4 := bcell hb f4
    rcases (by omega : k = 0 ∨ k = 1 ∨ k = 2) with rfl | rfl | rfl
    · skip
      have hU := fun W (h : Below wr.heap.size wr W) => hU0.below (below_trans hb h)
      have cG := fun W h => nol_get (hU W h) n
      have cA := fun W h => nol_append (hU W h) qb lb cb
      have cY := fun W h => nol_sync (hU W h)
      have cT := fun W h => nol_truncate (hU W h) n
      have cR := fun W h => nol_reset (hU W h) n
      have cF := fun W h => nol_first (hU W h)
      have cX := fun W h => nol_next (hU W h)
      have cN := fun W h => nol_names (hU W h)
      have hbc := Below.refl wr.heap.size wr
      clear hU0 hU1 hU
      go_wp2_with (first
        | (go_at_call 11; refine (cG _ hbc).mono ?_; rintro e w2 ⟨rfl, hb2⟩; have hbc := below_trans hbc hb2; have g1 := bcell hb2 g1; have g4 := bcell hb2 g4)
        | (go_at_call 12; refine (cA _ hbc).mono ?_; rintro e w2 ⟨rfl, hb2⟩; have hbc := below_trans hbc hb2; have g1 := bcell hb2 g1; have g4 := bcell hb2 g4)
        | (go_at_call 13; refine (cY _ hbc).mono ?_; rintro e w2 ⟨rfl, hb2⟩; have hbc := below_trans hbc hb2; have g1 := bcell hb2 g1; have g4 := bcell hb2 g4)
        | (go_at_call 14; refine (cT _ hbc).mono ?_; rintro e w2 ⟨rfl, hb2⟩; have hbc := below_trans hbc hb2; have g1 := bcell hb2 g1; have g4 := bcell hb2 g4)
        | (go_at_call 15; refine (cR _ hbc).mono ?_; rintro e w2 ⟨rfl, hb2⟩; have hbc := below_trans hbc hb2; have g1 := bcell hb2 g1; have g4 := bcell hb2 g4)
        | (go_at_call 16; refine (cF _ hbc).mono ?_; rintro e w2 ⟨rfl, hb2⟩; have hbc := below_trans hbc hb2; have g1 := bcell hb2 g1; have g4 := bcell hb2 g4)
        | (go_at_call 17; refine (cX _ hbc).mono ?_; rintro e w2 ⟨rfl, hb2⟩; have hbc := below_trans hbc hb2; have g1 := bcell hb2 g1; have g4 := bcell hb2 g4)
        | (go_at_call 18; refine (cN _ hbc).mono ?_; rintro e w2 ⟨rfl, hb2⟩; have hbc := below_trans hbc hb2; have g1 := bcell hb2 g1; have g4 := bcell hb2 g4)
        | fail)
      go_roundw
      case rel => exact ⟨0 + 1, by omega, by go_num, below_trans hb hbc⟩
      case measure => simp [intOf]
    · skip
      have hU := fun W (h : Below wr.heap.size wr W) => hU1.below (below_trans hb h)
      have cG := fun W h => nol_get (hU W h) n
      have cA := fun W h => nol_append (hU W h) qb lb cb
      have cY := fun W h => nol_sync (hU W h)
      have cT := fun W h => nol_truncate (hU W h) n
      have cR := fun W h => nol_reset (hU W h) n
      have cF := fun W h => nol_first (hU W h)
      have cX := fun W h => nol_next (hU W h)
      have cN := fun W h => nol_names (hU W h)
      have hbc := Below.refl wr.heap.size wr
      clear hU0 hU1 hU
      go_wp2_with (first
        | (go_at_call 11; refine (cG _ hbc).mono ?_; rintro e w2 ⟨rfl, hb2⟩; have hbc := below_trans hbc hb2; have g1 := bcell hb2 g1; have g4 := bcell hb2 g4)
        | (go_at_call 12; refine (cA _ hbc).mono ?_; rintro e w2 ⟨rfl, hb2⟩; have hbc := below_trans hbc hb2; have g1 := bcell hb2 g1; have g4 := bcell hb2 g4)
        | (go_at_call 13; refine (cY _ hbc).mono ?_; rintro e w2 ⟨rfl, hb2⟩; have hbc := below_trans hbc hb2; have g1 := bcell hb2 g1; have g4 := bcell hb2 g4)
        | (go_at_call 14; refine (cT _ hbc).mono ?_; rintro e w2 ⟨rfl, hb2⟩; have hbc := below_trans hbc hb2; have g1 := bcell hb2 g1; have g4 := bcell hb2 g4)
        | (go_at_call 15; refine (cR _ hbc).mono ?_; rintro e w2 ⟨rfl, hb2⟩; have hbc := below_trans hbc hb2; have g1 := bcell hb2 g1; have g4 := bcell hb2 g4)
        | (go_at_call 16; refine (cF _ hbc).mono ?_; rintro e w2 ⟨rfl, hb2⟩; have hbc := below_trans hbc hb2; have g1 := bcell hb2 g1; have g4 := bcell hb2 g4)
        | (go_at_call 17; refine (cX _ hbc).mono ?_; rintro e w2 ⟨rfl, hb2⟩; have hbc := below_trans hbc hb2; have g1 := bcell hb2 g1; have g4 := bcell hb2 g4)
        | (go_at_call 18; refine (cN _ hbc).mono ?_; rintro e w2 ⟨rfl, hb2⟩; have hbc := below_trans hbc hb2; have g1 := bcell hb2 g1; have g4 := bcell hb2 g4)
        | fail)
      go_roundw
      case rel => exact ⟨1 + 1, by omega, by go_num, below_trans hb hbc⟩
      case measure => simp [intOf]
    · have ho0 := fun W => nox_open (w := W) (v := .pointer none) (.inl rfl) 4
      have ho1 := fun W (h : Below w3.heap.size w3 W) => nox_open (hD.below h) n
      go_wp2_with (first
        | (go_at_call 19; refine (ho0 _).mono ?_; clear ho0; rintro e w4 ⟨rfl, hb4⟩; have g1 := bcell hb4 g1; have hb34 := below_trans hb hb4; have ho4 := ho1 _ hb34)
        | (go_at_call 19; refine ho4.mono ?_; rintro e w5 ⟨rfl, hb5⟩; have hb05 := below_trans hb3 (below_trans hb34 hb5); have hlv := Hlv.out w5 hb05)
        | (go_at_call 10; refine hlv.mono ?_; rintro e w6 ⟨rfl, hb6⟩)
        | fail)
      go_ret
      exact ⟨rfl, below_trans hb05 hb6⟩
end Go.Proofs.YtlhefifejcoecaaGreatDoor
