/- Plain: what wal's Scan tells of a file that is right. -/
/- Get: a byte string by its place. -/
import Derived.Test.YtlhefifejcoecaaGreatDoorSegL
import Derived.Test.YtlhefifejcoecaaGreatDoorSegJ
namespace Go.Proofs.YtlhefifejcoecaaGreatDoor
open Go.RowKit Go.Proofs Go.Shelf

def upS (n : Nat) : Nat := (n + 31) / 32 * 32

/-- One frame at a place; none: there is none, or behind it is what is not 0. -/
def frameAt (b : List UInt8) (p : Nat) : Option (List UInt8 × Nat) :=
  if (openS (b.drop p)).2.2 = true ∧ upS (p + (openS (b.drop p)).2.1) ≤ b.length ∧ (((b.drop (p + (openS (b.drop p)).2.1)).take (upS (p + (openS (b.drop p)).2.1) - (p + (openS (b.drop p)).2.1))).all (· == 0)) = true
  then some ((openS (b.drop p)).1, upS (p + (openS (b.drop p)).2.1)) else none

/-- Frame behind frame. -/
def scanS : Nat → List UInt8 → Nat → List (List UInt8) × Nat
  | 0, _, p => ([], p)
  | k + 1, b, p => match frameAt b p with
    | none => ([], p)
    | some (x, e) => (x :: (scanS k b e).1, (scanS k b e).2)

theorem crc_zero : crcS 0 [0] ≠ 0 := by decide +kernel

theorem getNum_zero (z : Nat) : getNumS (zerosB (z + 1)) = (0, 1, true) := by
  unfold zerosB
  rw [List.replicate_succ, getNumS_cons, if_pos (by decide)]
  rfl

theorem open_zeros (z : Nat) : (openS (zerosB z)).2.2 = false := by
  cases z with
  | zero => decide +kernel
  | succ z =>
    unfold openS
    rw [getNum_zero]
    by_cases h : (zerosB (z + 1)).length - 1 < 0 + 4
    · rw [if_pos (.inr (.inr h))]
    · rw [if_neg (by rintro (h1 | h1 | h1); exact absurd h1 (by decide); exact absurd h1 (by decide); exact h h1)]
      have hz : 4 ≤ z := by simp [zerosB] at h; omega
      have e1 : (zerosB (z + 1)).take (1 + 0) = [0] := by unfold zerosB; rw [List.replicate_succ]; rfl
      have e2 : ((zerosB (z + 1)).drop (1 + 0)).take 4 = [0, 0, 0, 0] := by
        unfold zerosB
        rw [List.replicate_succ]
        simp only [Nat.add_zero, List.drop_succ_cons, List.drop_zero]
        rw [List.take_replicate, Nat.min_eq_left hz]; rfl
      rw [e1, e2]
      have e3 : valB [0, 0, 0, 0] = 0 := by decide
      rw [e3, if_neg (fun h => crc_zero h.symm)]

theorem padS_pos (b : List UInt8) : 0 < (padS b).length := by
  have h1 := frameS_len b
  unfold padS
  rw [List.length_append]; omega

theorem frameAt_pad (pre x r : List UInt8) (hx : x.length ≤ 8192) (hp : pre.length % 32 = 0) : frameAt (pre ++ (padS x ++ r)) pre.length = some (x, pre.length + (padS x).length) := by
  have hf := frameS_len x
  have hlen : (padS x).length = (frameS x).length + (32 - (frameS x).length % 32) % 32 := by unfold padS; rw [List.length_append, List.length_replicate]
  have hd : (pre ++ (padS x ++ r)).drop pre.length = frameS x ++ (List.replicate ((32 - (frameS x).length % 32) % 32) 0 ++ r) := by
    rw [List.drop_left]
    unfold padS
    rw [List.append_assoc]
  have ho := openS_frame x (List.replicate ((32 - (frameS x).length % 32) % 32) 0 ++ r) hx
  have hup : upS (pre.length + (frameS x).length) = pre.length + (padS x).length := by
    unfold upS; omega
  unfold frameAt
  rw [hd, ho]
  dsimp only
  rw [hup]
  have hz : ((pre ++ (padS x ++ r)).drop (pre.length + (frameS x).length)).take (pre.length + (padS x).length - (pre.length + (frameS x).length)) = List.replicate ((32 - (frameS x).length % 32) % 32) 0 := by
    rw [← List.drop_drop, List.drop_left]
    unfold padS
    rw [List.append_assoc, List.drop_left, List.take_left']
    rw [List.length_replicate, List.length_append, List.length_replicate]; omega
  rw [hz, if_pos]
  refine ⟨rfl, by simp only [List.length_append]; omega, ?_⟩
  rw [List.all_eq_true]
  intro y hy
  rw [List.eq_of_mem_replicate hy]; rfl

theorem scan_pads : ∀ (l : List (List UInt8)) (k : Nat) (pre : List UInt8) (z : Nat), (∀ x ∈ l, x.length ≤ 8192) → pre.length % 32 = 0 → l.length < k →
    scanS k (pre ++ (l.flatMap padS ++ zerosB z)) pre.length = (l, pre.length + (l.flatMap padS).length)
  | [], k + 1, pre, z, _, _, _ => by
    have h1 : frameAt (pre ++ ([].flatMap padS ++ zerosB z)) pre.length = none := by
      unfold frameAt
      rw [List.flatMap_nil, List.nil_append, List.drop_left, if_neg (fun h => by rw [open_zeros] at h; exact absurd h.1 (by decide))]
    unfold scanS
    rw [h1]; simp
  | x :: l, k + 1, pre, z, hl, hp, hk => by
    have e : pre ++ ((x :: l).flatMap padS ++ zerosB z) = pre ++ (padS x ++ (l.flatMap padS ++ zerosB z)) := by simp
    have e2 : pre ++ (padS x ++ (l.flatMap padS ++ zerosB z)) = (pre ++ padS x) ++ (l.flatMap padS ++ zerosB z) := by simp
    have ih := scan_pads l k (pre ++ padS x) z (fun y hy => hl y (by simp [hy])) (by rw [List.length_append]; have := padS_len x; omega) (by simpa using hk)
    rw [List.length_append] at ih
    unfold scanS
    rw [e, frameAt_pad pre x _ (hl x (by simp)) hp]
    dsimp only
    rw [e2, ih]
    simp only [List.flatMap_cons, List.length_append, Prod.mk.injEq, true_and]
    omega
  | [], 0, _, _, _, _, h => by simp at h
  | _ :: _, 0, _, _, _, _, h => by simp at h

/-- A segment's file, scanned: its head, its strings, and where it ends. -/
theorem scan_file {s : Seg} {sz k : Nat} (hok : s.Ok) (hk : s.l.length + 1 < k) : scanS k (fileS sz s) 0 = (numS s.first :: s.l, (bytesS s).length) := by
  have h := scan_pads (numS s.first :: s.l) k [] (32 * sz - (bytesS s).length) (fun x hx => by
    rcases List.mem_cons.1 hx with rfl | h1
    · have := numS_length s.first; omega
    · exact hok.each x h1) rfl (by simpa using hk)
  have e : fileS sz s = [] ++ ((numS s.first :: s.l).flatMap padS ++ zerosB (32 * sz - (bytesS s).length)) := by
    unfold fileS bytesS headS
    simp
  have e2 : (bytesS s).length = ((numS s.first :: s.l).flatMap padS).length := by unfold bytesS headS; simp
  rw [e, e2]
  rw [e2] at h
  simpa using h

theorem num_head {n : Nat} (h : n < 18446744073709551616) : getNumS (numS n) = (n, (numS n).length, true) := by
  have h1 := getNumS_num n [] h
  rwa [List.append_nil] at h1
end Go.Proofs.YtlhefifejcoecaaGreatDoor

namespace Go.Proofs.YtlhefifejcoecaaGreatDoor
open Go.RowKit Go.Proofs Go.Shelf
attribute [local go_sem ↓] Go.wp_at_zero Go.wp_at_succ

theorem idx_spec {α : Type} (p : α → Bool) : ∀ (l : List α) (n : Nat), l.any p = true → ∃ k, ∃ hk : k < l.length, idx p l n = ((n + k : Nat) : Int) ∧ p l[k] = true ∧ ∀ j (hj : j < k), p (l[j]'(by omega)) = false
  | [], _, h => by simp at h
  | x :: r, n, h => by
    cases hx : p x with
    | true => exact ⟨0, by simp, by simp [idx, hx], by simpa using hx, fun j hj => by omega⟩
    | false =>
      obtain ⟨k, hk, h1, h2, h3⟩ := idx_spec p r (n + 1) (by simpa [hx] using h)
      refine ⟨k + 1, by simpa using hk, ?_, by simpa using h2, fun j hj => ?_⟩
      · simp only [idx, hx]
        rw [if_neg (by decide), h1]
        omega
      · cases j with
        | zero => simpa using hx
        | succ j => simpa using h3 j (by omega)

set_option maxRecDepth 100000 in
set_option maxHeartbeats 400000 in
theorem indexFunc_seg (g : Nat) (lb : Array Value) (eg : ∀ args w, (callFunc g args).run Tryz.prog w = .ok (.enter g args) w) (p : Seg → Bool) (l : List Seg) (v : Value) (w : World)
    (hv : SlP 4 SegE w v l) (hp : PredC Tryz.prog g lb SegE p l w) :
    Calls Tryz.prog 31 #[v, .func (.func g) #[] lb] w (Gives w (.int .i64 (idx p l 0))) := by
  obtain ⟨q, cap, rfl, hlc, hcap, _, hcells⟩ := hv
  go_enter Tryz.func31, Tryz.ntmps31
  go_wp2
  go_loopw [8, 5] (fun i _ wr => ∃ k : Nat, k ≤ l.length ∧ i = .int .i64 k ∧ Below w.heap.size w wr ∧ idx p l 0 = idx p (l.drop k) k) (fun i _ _ => l.length - (intOf i).toNat)
  case atStart => exact ⟨0, Nat.zero_le _, rfl, Below.refl _ _, rfl⟩
  case round =>
    obtain ⟨k, hk, rfl, hb, hx⟩ := hrel
    have Hx := Lib.hid hx
    clear hx
    by_cases hlt : k < l.length
    · obtain ⟨b, off, cs, rfl, hcs, he, hc⟩ := hcells k hlt
      match cs, hcs with
      | [c0, c1, c2, c3], _ =>
      have d0 := bcell hb (hc 0 (by simp))
      have d1 := bcell hb (hc 1 (by simp))
      have d2 := bcell hb (hc 2 (by simp))
      have d3 := bcell hb (hc 3 (by simp))
      simp only [List.getElem_cons_zero, List.getElem_cons_succ, Nat.add_zero] at d0 d1 d2 d3
      have hcall := hp l[k] (List.getElem_mem hlt) wr _ hb (SegE.mono.mono hb he)
      have n0 : (0 : Int) ≤ (k : Int) := by omega
      have n1 : (k : Int) < (l.length : Int) := by omega
      cases hpx : p l[k] with
      | false =>
        rw [hpx] at hcall
        have Hpx := Lib.hid hpx
        clear hpx hcells he hc hp
        go_wp2_with (refine hcall.mono ?_; rintro e w1 ⟨rfl, hb1⟩)
        go_roundw
        case rel =>
          refine ⟨k + 1, hlt, by go_num, below_trans hb hb1, ?_⟩
          rw [Hx.out, idx_drop p l k hlt, Hpx.out]; rfl
        case measure => simp [intOf]; omega
      | true =>
        rw [hpx] at hcall
        have Hpx := Lib.hid hpx
        clear hpx hcells he hc hp
        go_wp2_with (refine hcall.mono ?_; rintro e w1 ⟨rfl, hb1⟩)
        go_ret
        refine ⟨?_, below_trans hb hb1⟩
        rw [Hx.out, idx_drop p l k hlt, Hpx.out]; rfl
    · have : k = l.length := by omega
      subst this
      go_wp2
      go_ret
      refine ⟨?_, hb⟩
      rw [Hx.out, List.drop_length]; rfl

set_option maxRecDepth 100000 in
theorem get1_any (w : World) (bx : Nat) (i : Int) (hi : w.cell? ⟨bx, 0, none⟩ = some (.int .i64 i)) (cs : List Value) (s : Seg) (hs : SegE w cs s) (hok : s.Ok) :
    Calls Tryz.prog 32 (#[.agg cs.toArray] ++ #[.pointer (some ⟨bx, 0, none⟩)]) w (Gives w (.bool (decide (i < (lastN s : Int))))) := by
  obtain ⟨lv, rfl, ql, cl, rfl, -⟩ := hs
  obtain ⟨o1, -, o3, -, -⟩ := hok
  unfold lastN
  have hsn := fun W => snext_any W s.first (bytesS s).length s.n s.l.length ql cl o1 o3
  unfold segV at hsn
  generalize (bytesS s).length = en at *
  generalize s.l.length = k at *
  generalize s.first = f at *
  generalize s.n = m at *
  go_enter Tryz.func32, Tryz.ntmps32
  go_upto_region 1 with fail
  generalize hW2 : World.alloc w _ = w5
  have hb5 : Below w.heap.size w w5 := by rw [← hW2]; exact below_new _ _
  have g0 : w5.cell? ⟨w.heap.size, 0, none⟩ = some (.int .i64 (f : Int)) := by rw [← hW2]; simp
  have g1 : w5.cell? ⟨w.heap.size, 1, none⟩ = some (.int .i64 (en : Int)) := by rw [← hW2]; simp
  have g2 : w5.cell? ⟨w.heap.size, 2, none⟩ = some (.int .i64 (m : Int)) := by rw [← hW2]; simp
  have g3 : w5.cell? ⟨w.heap.size, 3, none⟩ = some (.slice ql k cl) := by rw [← hW2]; simp
  clear hW2
  replace hi := fun s => later_cell (bcell hb5 hi) s
  replace g0 := fun s => later_cell g0 s
  replace g1 := fun s => later_cell g1 s
  replace g2 := fun s => later_cell g2 s
  replace g3 := fun s => later_cell g3 s
  refine wp_region_mild (by kernel_rfl) (by kernel_rfl) ?_
  repeat (any_goals (first | go_big_quiet_step ((first | (exact mild_of (hsn _)))) | quiet_step ((first | (exact mild_of (hsn _)))) | (refine wpQuiet_step (fun K hK => ?_); go_simp; split <;> (refine hK _ ?_; clear hK K))))
  all_goals (refine wpQuiet_nil ?_; intro W hW)
  go_wp2
  go_ret
  exact ⟨rfl, below_trans hb5 hW⟩

def Chain (segs : List Seg) : Prop := ∀ j (h : j + 1 < segs.length), segs[j + 1].n = segs[j].n + 1 ∧ segs[j + 1].first = lastN segs[j]

/-- Which segment a place lies in. -/
theorem place_in {segs : List Seg} (hc : Chain segs) {i : Int} (h1 : (firstS segs : Int) ≤ i) (h2 : i < (nextS segs : Int)) :
    ∃ k, ∃ hk : k < segs.length, idx (fun s => decide (i < (lastN s : Int))) segs 0 = (k : Int) ∧ ∃ j, j < segs[k].l.length ∧ i = ((segs[k].first + j : Nat) : Int) := by
  obtain ⟨m, hm⟩ : ∃ m, m + 1 = segs.length := by
    cases segs with
    | nil => simp [nextS] at h2; simp [firstS] at h1; omega
    | cons a r => exact ⟨r.length, rfl⟩
  have hlast := last_of hm
  have hany : segs.any (fun s => decide (i < (lastN s : Int))) = true := by
    rw [List.any_eq_true]
    refine ⟨segs[m]'(by omega), List.getElem_mem _, ?_⟩
    unfold nextS at h2
    rw [hlast] at h2
    simpa using h2
  obtain ⟨k, hk, h3, h4, h5⟩ := idx_spec _ segs 0 hany
  simp only [decide_eq_true_eq] at h4
  refine ⟨k, hk, by rw [h3]; simp, (i - segs[k].first).toNat, ?_⟩
  have h6 : (segs[k].first : Int) ≤ i := by
    cases k with
    | zero =>
      cases segs with
      | nil => simp at hk
      | cons a r => simpa [firstS] using h1
    | succ k =>
      have h7 := h5 k (by omega)
      simp only [decide_eq_false_iff_not] at h7
      have h8 := (hc k hk).2
      omega
  unfold lastN at h4
  exact ⟨by omega, by omega⟩

def GetOut (segs : List Seg) (i : Int) (w : World) (e : Ending) (w' : World) : Prop := ∃ (v : Value) (x : Int), e = .returned (.tuple #[v, .int .i64 x]) ∧ Below w.heap.size w w' ∧
  ((x = 0 ∧ ∃ k, ∃ hk : k < segs.length, ∃ j, ∃ hj : j < segs[k].l.length, i = ((segs[k].first + j : Nat) : Int) ∧ OwnB w' w.heap.size v segs[k].l[j]) ∨ (x = 2 ∧ (i < (firstS segs : Int) ∨ (nextS segs : Int) ≤ i)))

set_option maxRecDepth 100000 in
set_option maxHeartbeats 1000000 in
theorem sget_any (w : World) (L X sz : Nat) (segs : List Seg) (h : LogR w L X sz segs) (hch : Chain segs) (i : Int) (hi : I64 i) : Calls Tryz.prog 11 #[.pointer (some ⟨L, 0, none⟩), .int .i64 i] w (GetOut segs i w) := by
  have hmade := fun W (hb : Below w.heap.size w W) => smade_any W L X sz segs (h.below hb)
  have hfirst := fun W (hb : Below w.heap.size w W) => first_any W L X sz segs (h.below hb)
  have hnext := fun W (hb : Below w.heap.size w W) => lnext_any W L X sz segs (h.below hb)
  have HR := Lib.hid h
  obtain ⟨q, cap, c0, c1, c2, hL, hlc, hll, hc⟩ := h.open_
  obtain ⟨fi, hfi⟩ : ∃ fi : Int, fi = (firstS segs : Int) := ⟨_, rfl⟩
  obtain ⟨ni, hni⟩ : ∃ ni : Int, ni = (nextS segs : Int) := ⟨_, rfl⟩
  rw [← hfi] at hfirst
  rw [← hni] at hnext
  have Hfi := Lib.hid hfi
  have Hni := Lib.hid hni
  have Hfst := Lib.hid hfirst
  have Hnxt := Lib.hid hnext
  have Hc := Lib.hid hc
  obtain ⟨N, hN⟩ : ∃ N, N = segs.length := ⟨_, rfl⟩
  have c2N := c2
  rw [← hN] at c2N hlc hll
  have HN := Lib.hid hN
  have hm0 := hmade (w.alloc (.cells #[.int .i64 i] 3)) (below_new _ _)
  clear h hfi hni hfirst hnext hc hmade hN c2
  by_cases h1 : i < fi
  · skip
    go_enter Tryz.func11, Tryz.ntmps11
    go_upto_region 3 with (first | (go_at_call 30; refine hm0.mono ?_; rintro e w1 ⟨rfl, hb1⟩) | fail)
    have hb01 : Below w.heap.size w w1 := below_trans (below_new _ _) hb1
    have e3 : w1.cell? ⟨w.heap.size, 0, none⟩ = some (.int .i64 i) := bcell hb1 (by simp)
    have hF := fun s => Hfst.out (later w1 s) (below_trans hb01 (later_below _ _))
    have hX := fun s => Hnxt.out (later w1 s) (below_trans hb01 (later_below _ _))
    have d3 := fun s => later_cell e3 s
    refine wp_region_mild (by kernel_rfl) (by kernel_rfl) ?_
    repeat (any_goals (first | go_big_quiet_step ((first | (exact mild_of (hF _)) | (exact mild_of (hX _)))) | quiet_step ((first | (exact mild_of (hF _)) | (exact mild_of (hX _)))) | (refine wpQuiet_step (fun K hK => ?_); go_simp; split <;> (refine hK _ ?_; clear hK K))))
    all_goals (refine wpQuiet_nil ?_; intro W hW)
    all_goals
      (go_wp2
       go_ret2
       exact ⟨_, _, rfl, below_trans hb01 hW, .inr ⟨rfl, .inl (by rw [← Hfi.out]; exact h1)⟩⟩)
  · by_cases h2 : ni ≤ i
    · skip
      go_enter Tryz.func11, Tryz.ntmps11
      go_upto_region 3 with (first | (go_at_call 30; refine hm0.mono ?_; rintro e w1 ⟨rfl, hb1⟩) | fail)
      have hb01 : Below w.heap.size w w1 := below_trans (below_new _ _) hb1
      have e3 : w1.cell? ⟨w.heap.size, 0, none⟩ = some (.int .i64 i) := bcell hb1 (by simp)
      have hF := fun s => Hfst.out (later w1 s) (below_trans hb01 (later_below _ _))
      have hX := fun s => Hnxt.out (later w1 s) (below_trans hb01 (later_below _ _))
      have d3 := fun s => later_cell e3 s
      refine wp_region_mild (by kernel_rfl) (by kernel_rfl) ?_
      repeat (any_goals (first | go_big_quiet_step ((first | (exact mild_of (hF _)) | (exact mild_of (hX _)))) | quiet_step ((first | (exact mild_of (hF _)) | (exact mild_of (hX _)))) | (refine wpQuiet_step (fun K hK => ?_); go_simp; split <;> (refine hK _ ?_; clear hK K))))
      all_goals (refine wpQuiet_nil ?_; intro W hW)
      all_goals
        (go_wp2
         go_ret2
         exact ⟨_, _, rfl, below_trans hb01 hW, .inr ⟨rfl, .inr (by rw [← Hni.out]; exact h2)⟩⟩)
    · obtain ⟨k, hk, hidx, j, hj, hij⟩ := place_in hch (i := i) (by rw [← Hfi.out]; omega) (by rw [← Hni.out]; omega)
      obtain ⟨b, off, lv, rfl, hok, f0, f1, f2, f3, hlv⟩ := Hc.out k hk
      obtain ⟨ql, cl, rfl, hl1, hl2, -, hl3⟩ := hlv
      obtain ⟨bl, ol, cs, rfl, hcs, ⟨vj, rfl, hvj⟩, hcj⟩ := hl3 j hj
      have hcj0 := hcj 0 (by simp)
      simp only [List.getElem_cons_zero, Nat.mul_one, Nat.add_zero] at hcj0
      obtain ⟨qj, cj, rfl, hjl⟩ := bytes_len hvj
      have hj8 := hok.each _ (List.getElem_mem hj)
      have hfb := hok.first
      have hlb := hok.len
      have HRok := Lib.hid HR.out.ok
      have hslp : ∀ W, Below w.heap.size w W → SlP 4 SegE W (.slice (some ⟨b, off, none⟩) N cap) segs := fun W hb => by
        obtain ⟨⟨sv, e1, e2⟩, -⟩ := HR.out.below hb
        have e4 := (bcell hb c2N)
        rw [block_cell e1] at e4
        simp at e4
        rw [← e4]; exact e2
      have Hslp := Lib.hid hslp
      have Hvj := Lib.hid hvj
      have Hkk := Lib.hid hk
      have hkN : (k : Int) < (N : Int) := by have := HN.out; omega
      have hidx' := hidx
      have Hix := Lib.hid hidx
      have Hij := Lib.hid hij
      have Hfin := Lib.hid (show ∀ (v : Value) (w' : World), OwnB w' w.heap.size v (segs[k].l[j]) → ∃ k, ∃ hk : k < segs.length, ∃ j, ∃ hj : j < (segs[k]'hk).l.length, i = (((segs[k]'hk).first + j : Nat) : Int) ∧ OwnB w' w.heap.size v ((segs[k]'hk).l[j]'hj) from fun v w' h => ⟨k, hk, j, hj, hij, h⟩)
      generalize hsk : segs[k] = s at *
      generalize hbj : s.l[j] = bj at *
      generalize (bytesS s).length = en at *
      have n0 : (0 : Int) ≤ (k : Int) := by omega
      have n4 : IntKind.i64.wrap (i - (s.first : Int)) = (j : Int) := by rw [IntWalk.i64_in _ (by omega)]; omega
      have n5 : (j : Int) < (s.l.length : Int) := by omega
      have n6 : (0 : Int) ≤ (j : Int) := by omega
      clear hslp hvj hidx hidx' hij hl3 hcj hok hsk hbj hj hk
      skip
      go_enter Tryz.func11, Tryz.ntmps11
      go_upto_region 3 with (first | (go_at_call 30; refine hm0.mono ?_; rintro e w1 ⟨rfl, hb1⟩) | fail)
      have hb01 : Below w.heap.size w w1 := below_trans (below_new _ _) hb1
      have e3 : w1.cell? ⟨w.heap.size, 0, none⟩ = some (.int .i64 i) := bcell hb1 (by simp)
      have hF := fun s => Hfst.out (later w1 s) (below_trans hb01 (later_below _ _))
      have hX := fun s => Hnxt.out (later w1 s) (below_trans hb01 (later_below _ _))
      have d3 := fun s => later_cell e3 s
      refine wp_region_mild (by kernel_rfl) (by kernel_rfl) ?_
      repeat (any_goals (first | go_big_quiet_step ((first | (exact mild_of (hF _)) | (exact mild_of (hX _)))) | quiet_step ((first | (exact mild_of (hF _)) | (exact mild_of (hX _)))) | (refine wpQuiet_step (fun K hK => ?_); go_simp; split <;> (refine hK _ ?_; clear hK K))))
      all_goals (refine wpQuiet_nil ?_; intro W hW)
      have hWb : Below w.heap.size w W := below_trans hb01 hW
      have eW3 := bcell hW e3
      have c2W := bcell hWb c2N
      have hix := indexFunc_seg 32 #[.pointer (some ⟨w.heap.size, 0, none⟩)] (enters_of Tryz.func32 (by kernel_rfl) rfl) (fun s => decide (i < (lastN s : Int))) segs (.slice (some ⟨b, off, none⟩) N cap) W (Hslp.out W hWb)
        (fun x hx W' cs hb he => get1_any W' w.heap.size i (bcell hb eW3) cs x he (HRok.out x hx))
      rw [Hix.out] at hix
      go_upto_region 6 with (first
        | (go_at_call 31; refine hix.mono ?_; rintro e w2 ⟨rfl, hb2⟩)
        | fail)
      have hb02 := below_trans hWb hb2
      have r2 := bcell hb02 c2N
      have r0 := bcell hb02 f0
      have r1 := bcell hb02 f1
      have r4 := bcell hb02 f2
      have r3 := bcell hb02 f3
      have eI := bcell hb2 eW3
      have hlw := World.block_lt_of_cell? _ _ eI
      clear hix c2W eW3
      go_upto_region 7 with fail
      generalize hW2 : World.alloc w2 _ = w5
      have hb5 : Below w2.heap.size w2 w5 := by rw [← hW2]; exact below_new _ _
      have g0 : w5.cell? ⟨w2.heap.size, 0, none⟩ = some (.int .i64 (s.first : Int)) := by rw [← hW2]; simp
      have g3 : w5.cell? ⟨w2.heap.size, 3, none⟩ = some (.slice (some ⟨bl, ol, none⟩) s.l.length cl) := by rw [← hW2]; simp
      clear hW2
      have hb05 := below_trans hb02 hb5
      have eI5 := bcell hb5 eI
      have hcj5 := bcell hb05 hcj0
      have hcl := clone_bytes (.slice qj bj.length cj) bj w5 (Hvj.out.mono ByteE.mono hb05) (by omega)
      clear r0 r1 r2 r3 r4 eI f0 f1 f2 f3 c2N hcj0
      go_wp2_with (first
        | (go_at_call 34; refine hcl.mono ?_; rintro e w6 ⟨v6, rfl, hown6, hb6⟩)
        | fail)
      go_ret2
      exact ⟨_, 0, rfl, below_trans hb05 hb6, .inl ⟨rfl, Hfin.out _ _ (owns_base hown6 hb05.size)⟩⟩
end Go.Proofs.YtlhefifejcoecaaGreatDoor
