/- The directory: within, Write, Read, Sync. -/
/- The directory: Write, Read, Sync, Names, Size. -/
import Derived.Test.YtlhefifejcoecaaGreatDoorJDirL
import Derived.Test.YtlhefifejcoecaaGreatDoorDirP
namespace Go.Proofs.YtlhefifejcoecaaGreatDoor
open Go.RowKit Go.Proofs Go.Shelf
attribute [local go_sem ↓] Go.wp_at_zero Go.wp_at_succ

theorem FilesAt.look_ok {w : World} {b : Nat} {m : Files} (h : FilesAt w b m) (k : ByteArray) : (Instr.lookup 35 (.map (some b)) (.string k) true).run Tryz.prog w = .ok (.tuple #[extV ((fget m k).getD (0, 0)), .bool (fget m k).isSome]) w := by
  have := h.map.lookup_ok (P := Tryz.prog) (T := 35) extKey Tryz.underlying35 extZero k
  rw [mget_files] at this
  rw [this]
  cases fget m k <;> rfl

/-- Where bytes of a file stand. -/
def wrS (m : Files) (s : ByteArray) (a c : Int) : Option Nat := match fget m s with
  | none => none
  | some e => if 0 ≤ a ∧ 0 ≤ c ∧ a + c ≤ 32 * e.2 then some (32 * e.1 + a.toNat) else none

def WithinOut (m : Files) (s : ByteArray) (a c : Int) (w : World) (e : Ending) (w' : World) : Prop :=
  ∃ p x : Int, e = .returned (.tuple #[.int .i64 p, .int .i64 x]) ∧ (match wrS m s a c with | some q => x = 0 ∧ p = q | none => x ≠ 0 ∧ p = 0) ∧ Below w.heap.size w w'

set_option maxRecDepth 100000 in
set_option maxHeartbeats 4000000 in
theorem within_any (w : World) (K : Nat → Prop) (X D n : Nat) (safe cur : List UInt8) (off : Bool) (now saved : Files) (epoch which : Nat) (h : DirAt w K X D n safe cur off now saved epoch which) (s : ByteArray) (a c bey : Int)
    (ha : -9223372036854775808 ≤ a ∧ a ≤ 9223372036854775807) (hc : -9223372036854775808 ≤ c ∧ c ≤ 9223372036854775807) (hbey : bey ≠ 0) :
    Calls Tryz.prog 72 #[.pointer (some ⟨X, 0, none⟩), .string s, .int .i64 a, .int .i64 c, .int .i64 bey] w (WithinOut now s a c w) := by
  have hmade := dmade_any w K X D n safe cur off now saved epoch which h
  obtain ⟨bn, bs, h⟩ := h
  obtain ⟨-, c1, -, -, -, lX⟩ := h.cells
  have hlk := fun W (hb : Below w.heap.size w W) => (h.now.below hb).look_ok s
  have hsm := fget_small h.now s
  have hq : ∀ r, r = wrS now s a c → r = wrS now s a c := fun _ h => h
  clear h
  unfold wrS at hq
  cases hf : fget now s with
  | none =>
    rw [hf] at hlk
    have hw0 : Hid (wrS now s a c = none) := Lib.hid (by unfold wrS; rw [hf])
    clear hq hf hsm
    have hlk2 : ∀ W, Below w.heap.size w W → (Instr.lookup 35 (.map (some bn)) (.string s) true).run Tryz.prog W = .ok (.tuple #[.agg #[.int .i64 0, .int .i64 0], .bool false]) W := hlk
    clear hlk
    go_enter Tryz.func72, Tryz.ntmps72
    go_wp2_with (first | (go_at_call 58; refine hmade.mono ?_; rintro e w1 ⟨rfl, hb1⟩; have d1 := bcell hb1 c1; have hl1 := hlk2 w1 hb1) | fail)
    go_ret2
    refine ⟨_, _, rfl, by rw [hw0.out]; exact ⟨by decide, rfl⟩, below_trans hb1 (below_new _ _)⟩
  | some e =>
    rw [hf] at hlk hsm
    simp only [Option.getD_some] at hsm
    obtain ⟨sz, hsz⟩ : ∃ sz : Nat, sz = 32 * e.2 := ⟨_, rfl⟩
    obtain ⟨st, hst⟩ : ∃ st : Nat, st = 32 * e.1 := ⟨_, rfl⟩
    have hw0 : wrS now s a c = if 0 ≤ a ∧ 0 ≤ c ∧ a + c ≤ sz then some (st + a.toNat) else none := by unfold wrS; rw [hf, hsz, hst]; simp
    have z1 : IntKind.i64.wrap ((e.2 : Int) * 32) = (sz : Int) := by rw [IntWalk.i64_in _ (by omega)]; omega
    have z2 : IntKind.i64.wrap ((e.1 : Int) * 32) = (st : Int) := by rw [IntWalk.i64_in _ (by omega)]; omega
    have hszb : sz ≤ 32000000000 := by omega
    have hstb : st ≤ 32000000000 := by omega
    have hlk2 : ∀ W, Below w.heap.size w W → (Instr.lookup 35 (.map (some bn)) (.string s) true).run Tryz.prog W = .ok (.tuple #[.agg #[.int .i64 e.1, .int .i64 e.2], .bool true]) W := hlk
    have Hw0 := Lib.hid hw0
    clear hlk hq hf hw0 hsz hst hsm
    generalize e.1 = x1 at *
    generalize e.2 = x2 at *
    clear e
    by_cases h1 : a < 0
    · have Hr : Hid (wrS now s a c = none) := Lib.hid (by rw [Hw0.out, if_neg (by omega)])
      clear Hw0
      go_enter Tryz.func72, Tryz.ntmps72
      go_wp2_with (first | (go_at_call 58; refine hmade.mono ?_; rintro e w1 ⟨rfl, hb1⟩; have d1 := bcell hb1 c1; have hl1 := hlk2 w1 hb1) | fail)
      go_ret2
      refine ⟨_, _, rfl, by rw [Hr.out]; exact ⟨by decide, rfl⟩, below_trans hb1 (below_new _ _)⟩
    · have h1' : 0 ≤ a := by omega
      by_cases h2 : c < 0
      · have Hr : Hid (wrS now s a c = none) := Lib.hid (by rw [Hw0.out, if_neg (by omega)])
        clear Hw0
        go_enter Tryz.func72, Tryz.ntmps72
        go_wp2_with (first | (go_at_call 58; refine hmade.mono ?_; rintro e w1 ⟨rfl, hb1⟩; have d1 := bcell hb1 c1; have hl1 := hlk2 w1 hb1) | fail)
        go_ret2
        refine ⟨_, _, rfl, by rw [Hr.out]; exact ⟨by decide, rfl⟩, below_trans hb1 (below_new _ _)⟩
      · have h2' : 0 ≤ c := by omega
        by_cases h3 : (sz : Int) < a
        · have Hr : Hid (wrS now s a c = none) := Lib.hid (by rw [Hw0.out, if_neg (by omega)])
          clear Hw0
          go_enter Tryz.func72, Tryz.ntmps72
          go_wp2_with (first | (go_at_call 58; refine hmade.mono ?_; rintro e w1 ⟨rfl, hb1⟩; have d1 := bcell hb1 c1; have hl1 := hlk2 w1 hb1) | fail)
          go_ret2
          refine ⟨_, _, rfl, by rw [Hr.out]; exact ⟨hbey, rfl⟩, below_trans hb1 (below_new _ _)⟩
        · have h3' : a ≤ (sz : Int) := by omega
          have z3 : IntKind.i64.wrap ((sz : Int) - a) = (sz : Int) - a := IntWalk.i64_in _ (by omega)
          by_cases h4 : (sz : Int) - a < c
          · have Hr : Hid (wrS now s a c = none) := Lib.hid (by rw [Hw0.out, if_neg (by omega)])
            clear Hw0
            go_enter Tryz.func72, Tryz.ntmps72
            go_wp2_with (first | (go_at_call 58; refine hmade.mono ?_; rintro e w1 ⟨rfl, hb1⟩; have d1 := bcell hb1 c1; have hl1 := hlk2 w1 hb1) | fail)
            go_ret2
            refine ⟨_, _, rfl, by rw [Hr.out]; exact ⟨hbey, rfl⟩, below_trans hb1 (below_new _ _)⟩
          · have h4' : c ≤ (sz : Int) - a := by omega
            have Hr : Hid (wrS now s a c = some (st + a.toNat)) := Lib.hid (by rw [Hw0.out, if_pos (by omega)])
            have z4 : IntKind.i64.wrap ((st : Int) + a) = (st : Int) + a := IntWalk.i64_in _ (by omega)
            clear Hw0
            go_enter Tryz.func72, Tryz.ntmps72
            go_wp2_with (first | (go_at_call 58; refine hmade.mono ?_; rintro e w1 ⟨rfl, hb1⟩; have d1 := bcell hb1 c1; have hl1 := hlk2 w1 hb1) | fail)
            go_ret2
            refine ⟨_, _, rfl, by rw [Hr.out]; exact ⟨rfl, by omega⟩, below_trans hb1 (below_new _ _)⟩

end Go.Proofs.YtlhefifejcoecaaGreatDoor

namespace Go.Proofs.YtlhefifejcoecaaGreatDoor
open Go.RowKit Go.Proofs Go.Shelf
attribute [local go_sem ↓] Go.wp_at_zero Go.wp_at_succ

theorem fget_some {m : Files} {s : ByteArray} {e : Nat × Nat} (h : fget m s = some e) : ∃ x ∈ m, x.1 = s ∧ x.2 = e := by
  unfold fget at h
  cases hf : m.find? fun x => decide (s = x.1) with
  | none => rw [hf] at h; cases h
  | some x =>
    rw [hf] at h
    have h1 := List.mem_of_find?_eq_some hf
    have h2 := List.find?_some hf
    simp only [decide_eq_true_eq] at h2
    exact ⟨x, h1, h2.symm, by simpa using h⟩

theorem wrS_in {m : Files} {n : Nat} (hm : ∀ x ∈ m, x.2.1 + x.2.2 ≤ n) {s : ByteArray} {a c : Int} {q : Nat} (h : wrS m s a c = some q) : (q : Int) + c ≤ 32 * n ∧ 0 ≤ c := by
  unfold wrS at h
  cases hf : fget m s with
  | none => rw [hf] at h; cases h
  | some e =>
    rw [hf] at h
    dsimp only at h
    obtain ⟨x, hx, -, rfl⟩ := fget_some hf
    have := hm x hx
    split at h
    · simp only [Option.some.injEq] at h; omega
    · cases h

def wrCur (cur : List UInt8) (r : Option Nat) (bs : List UInt8) : List UInt8 := match r with
  | some q => splice cur q bs
  | none => cur

theorem SrcK.below {K K' : Nat → Prop} {w w' : World} {v : Value} {bs : List UInt8} (h : SrcK K w v bs) (hb : Below w.heap.size w w') (hK : ∀ k, K k → K' k) : SrcK K' w' v bs :=
  ⟨h.1.mono ByteE.mono hb, fun q n c e a ha => hK _ (h.2 q n c e a ha)⟩

theorem bytes_len {w : World} {v : Value} {bs : List UInt8} (h : SlP 1 ByteE w v bs) : ∃ q cap, v = .slice q bs.length cap ∧ bs.length ≤ 9223372036854775807 := by
  obtain ⟨q, cap, rfl, h1, h2, -⟩ := h
  exact ⟨q, cap, rfl, by omega⟩

set_option maxRecDepth 100000 in
set_option maxHeartbeats 4000000 in
theorem dwrite_any (w : World) (Kp : Nat → Prop) (X D n : Nat) (safe cur : List UInt8) (now saved : Files) (epoch which : Nat) (h : DirAt w Kp X D n safe cur false now saved epoch which) (hKp : ∀ k, Kp k → k < w.heap.size) (hm : ∀ x ∈ now, x.2.1 + x.2.2 ≤ n)
    (s : ByteArray) (a : Int) (ha : -9223372036854775808 ≤ a ∧ a ≤ 9223372036854775807) (v : Value) (bs : List UInt8) (hv : SrcK Kp w v bs) :
    Calls Tryz.prog 38 #[.pointer (some ⟨X, 0, none⟩), .string s, .int .i64 a, v] w (fun e w' => ∃ x : Int, e = .returned (.int .i64 x) ∧ (x = 0 ↔ (wrS now s a bs.length).isSome = true) ∧
      DirAt w' Kp X D n safe (wrCur cur (wrS now s a bs.length) bs) false now saved epoch which ∧ Kept Kp w w') := by
  obtain ⟨q0, cap, rfl, hl⟩ := bytes_len hv.1
  have hwi := within_any w Kp X D n safe cur false now saved epoch which h s a bs.length 6 ha (by omega) (by decide)
  have hin := @wrS_in now n hm s a bs.length
  have Hv := Lib.hid hv
  obtain ⟨bn, bs', hX⟩ := h
  obtain ⟨c0, -, -, -, -, lX⟩ := hX.cells
  have HX := Lib.hid hX
  have hlt : ∀ k, (Kp k ∨ k = X ∨ k = bn ∨ k = bs') → k < w.heap.size := fun k hk => by
    rcases hk with hk | rfl | rfl | rfl
    · exact hKp k hk
    · exact lX
    · exact hX.now.map.lt
    · exact hX.saved.map.lt
  clear hX hv
  unfold WithinOut at hwi
  cases hr : wrS now s a bs.length with
  | none =>
    rw [hr] at hwi
    clear hin
    go_enter Tryz.func38, Tryz.ntmps38
    go_wp2_with (first | (go_at_call 72; refine hwi.mono ?_; rintro e w1 ⟨p, x, rfl, ⟨hx, rfl⟩, hb1⟩; have hx1 : decide (x = 0) = false := decide_eq_false hx) | fail)
    go_ret
    exact ⟨x, rfl, by simp [hx], ⟨bn, bs', HX.out.below hb1⟩, kept_of_below hb1 hKp⟩
  | some q =>
    rw [hr] at hwi
    have hin2 := (hin hr).1
    clear hin hr
    have hwr := fun W (hb : Below w.heap.size w W) => write_any W _ D n safe cur (HX.out.disk.below hb) q _ bs (Hv.out.below hb (fun k hk => .inl hk)) (by omega) (fun k hk => Nat.lt_of_lt_of_le (hlt k hk) hb.size)
    go_enter Tryz.func38, Tryz.ntmps38
    go_wp2_with (first
      | (go_at_call 72; refine hwi.mono ?_; rintro e w1 ⟨p, x, rfl, ⟨rfl, rfl⟩, hb1⟩; have d0 := bcell hb1 c0)
      | (go_at_call 73; refine (hwr w1 hb1).mono ?_; rintro e w2 ⟨rfl, hd2, hk2⟩)
      | fail)
    go_ret
    refine ⟨0, rfl, by simp, ⟨bn, bs', (HX.out.below hb1).kept hk2 hd2⟩, (kept_of_below hb1 hKp).trans (hk2.less fun k hk => .inl hk)⟩

set_option maxRecDepth 100000 in
set_option maxHeartbeats 4000000 in
theorem dread_any (w : World) (Kp : Nat → Prop) (X D n : Nat) (safe cur : List UInt8) (now saved : Files) (epoch which : Nat) (h : DirAt w Kp X D n safe cur false now saved epoch which) (hm : ∀ x ∈ now, x.2.1 + x.2.2 ≤ n)
    (s : ByteArray) (a c : Int) (ha : -9223372036854775808 ≤ a ∧ a ≤ 9223372036854775807) (hc : -9223372036854775808 ≤ c ∧ c ≤ 9223372036854775807) :
    Calls Tryz.prog 79 #[.pointer (some ⟨X, 0, none⟩), .string s, .int .i64 a, .int .i64 c] w (fun e w' => ∃ (v : Value) (x : Int), e = .returned (.tuple #[v, .int .i64 x]) ∧ Below w.heap.size w w' ∧
      match wrS now s a c with | some q => x = 0 ∧ OwnB w' w.heap.size v ((cur.drop q).take c.toNat) | none => x ≠ 0 ∧ v = .slice none 0 0) := by
  have hwi := within_any w Kp X D n safe cur false now saved epoch which h s a c 2 ha hc (by decide)
  have hin := @wrS_in now n hm s a c
  obtain ⟨bn, bs', hX⟩ := h
  obtain ⟨c0, -, -, -, -, lX⟩ := hX.cells
  have HX := Lib.hid hX
  clear hX
  unfold WithinOut at hwi
  cases hr : wrS now s a c with
  | none =>
    rw [hr] at hwi
    clear hin
    go_enter Tryz.func79, Tryz.ntmps79
    go_wp2_with (first | (go_at_call 72; refine hwi.mono ?_; rintro e w1 ⟨p, x, rfl, ⟨hx, rfl⟩, hb1⟩; have hx1 : decide (x = 0) = false := decide_eq_false hx) | fail)
    go_ret2
    exact ⟨_, x, rfl, hb1, hx, rfl⟩
  | some q =>
    rw [hr] at hwi
    have hin2 := hin hr
    obtain ⟨cn, rfl⟩ : ∃ cn : Nat, c = cn := ⟨c.toNat, by omega⟩
    clear hin hr
    have hwr := fun W (hb : Below w.heap.size w W) => read_any W _ D n safe cur (HX.out.disk.below hb) q cn (by omega)
    simp only [Int.toNat_natCast]
    go_enter Tryz.func79, Tryz.ntmps79
    go_wp2_with (first
      | (go_at_call 72; refine hwi.mono ?_; rintro e w1 ⟨p, x, rfl, ⟨rfl, rfl⟩, hb1⟩; have d0 := bcell hb1 c0)
      | (go_at_call 52; refine (hwr w1 hb1).mono ?_; rintro e w2 ⟨v, rfl, hown, hb2⟩)
      | fail)
    go_ret2
    exact ⟨v, 0, rfl, below_trans hb1 hb2, rfl, OwnB.base hown hb1.size⟩

set_option maxRecDepth 100000 in
set_option maxHeartbeats 1000000 in
theorem dsync_any (w : World) (Kp : Nat → Prop) (X D n : Nat) (safe cur : List UInt8) (now saved : Files) (epoch which : Nat) (h : DirAt w Kp X D n safe cur false now saved epoch which) (hKp : ∀ k, Kp k → k < w.heap.size) :
    Calls Tryz.prog 39 #[.pointer (some ⟨X, 0, none⟩)] w (fun e w' => e = .returned (.int .i64 0) ∧ DirAt w' Kp X D n cur cur false now saved epoch which ∧ Kept Kp w w') := by
  have hmade := dmade_any w Kp X D n safe cur false now saved epoch which h
  obtain ⟨bn, bs', hX⟩ := h
  obtain ⟨c0, -, -, -, -, lX⟩ := hX.cells
  have HX := Lib.hid hX
  have hlt : ∀ k, (Kp k ∨ k = X ∨ k = bn ∨ k = bs') → k < w.heap.size := fun k hk => by
    rcases hk with hk | rfl | rfl | rfl
    · exact hKp k hk
    · exact lX
    · exact hX.now.map.lt
    · exact hX.saved.map.lt
  clear hX
  have hwr := fun W (hb : Below w.heap.size w W) => sync_any W _ D n safe cur (HX.out.disk.below hb) (fun k hk => Nat.lt_of_lt_of_le (hlt k hk) hb.size)
  go_enter Tryz.func39, Tryz.ntmps39
  go_wp2_with (first
    | (go_at_call 58; refine hmade.mono ?_; rintro e w1 ⟨rfl, hb1⟩; have d0 := bcell hb1 c0)
    | (go_at_call 74; refine (hwr w1 hb1).mono ?_; rintro e w2 ⟨rfl, hd2, hk2⟩)
    | fail)
  go_ret
  exact ⟨rfl, ⟨bn, bs', (HX.out.below hb1).kept hk2 hd2⟩, (kept_of_below hb1 hKp).trans (hk2.less fun k hk => .inl hk)⟩

set_option maxRecDepth 100000 in
set_option maxHeartbeats 1000000 in
theorem dnames_any (w : World) (Kp : Nat → Prop) (X D n : Nat) (safe cur : List UInt8) (off : Bool) (now saved : Files) (epoch which : Nat) (h : DirAt w Kp X D n safe cur off now saved epoch which) :
    Calls Tryz.prog 42 #[.pointer (some ⟨X, 0, none⟩)] w (fun e w' => ∃ v, e = .returned v ∧ w'.ownsRow w.heap.size 9 1 v (namesS now).length ((namesS now).map encStr) ∧ Below w.heap.size w w') := by
  have hmade := dmade_any w Kp X D n safe cur off now saved epoch which h
  obtain ⟨bn, bs', hX⟩ := h
  obtain ⟨-, c1, -, -, -, lX⟩ := hX.cells
  have hnm := fun W (hb : Below w.heap.size w W) => names_any bn (filesV now) W (hX.now.below hb).map (fun x hx => by
    unfold filesV at hx
    rw [List.mem_map] at hx
    obtain ⟨y, hy, rfl⟩ := hx
    have := (hX.now.small y hy).1
    dsimp only
    unfold maxLen; omega) (by have := hX.now.few; unfold filesV; rw [List.length_map]; omega)
  have Hnm := Lib.hid hnm
  clear hX hnm
  go_enter Tryz.func42, Tryz.ntmps42
  go_wp2_with (first
    | (go_at_call 58; refine hmade.mono ?_; rintro e w1 ⟨rfl, hb1⟩; have d1 := bcell hb1 c1)
    | (go_at_call 76; refine (Hnm.out w1 hb1).mono ?_; rintro e w2 ⟨v, ss, rfl, hperm, hrow, hb2⟩)
    | fail)
  go_ret
  have hp2 : ss.Perm (now.map fun x => x.1.data.toList) := by
    have e : ((filesV now).map fun x => x.1.data.toList) = now.map fun x => x.1.data.toList := by unfold filesV; rw [List.map_map]; rfl
    rw [← e]; exact hperm
  have hn := namesS_perm hp2
  have hln : ss.length = (namesS now).length := by rw [← hn, List.length_mergeSort]
  rw [hn, hln] at hrow
  exact ⟨v, rfl, ownsRow_base_a hrow hb1.size, below_trans hb1 hb2⟩

set_option maxRecDepth 100000 in
set_option maxHeartbeats 1000000 in
theorem dsize_any (w : World) (Kp : Nat → Prop) (X D n : Nat) (safe cur : List UInt8) (off : Bool) (now saved : Files) (epoch which : Nat) (h : DirAt w Kp X D n safe cur off now saved epoch which) (s : ByteArray) :
    Calls Tryz.prog 69 #[.pointer (some ⟨X, 0, none⟩), .string s] w (Gives w (.int .i64 (32 * ((fget now s).getD (0, 0)).2 : Nat))) := by
  have hmade := dmade_any w Kp X D n safe cur off now saved epoch which h
  obtain ⟨bn, bs', hX⟩ := h
  obtain ⟨-, c1, -, -, -, lX⟩ := hX.cells
  have hlk := fun W (hb : Below w.heap.size w W) => (hX.now.below hb).look s
  have hsm := fget_small hX.now s
  clear hX
  generalize (fget now s).getD (0, 0) = e at *
  obtain ⟨sz, hsz⟩ : ∃ sz : Nat, sz = 32 * e.2 := ⟨_, rfl⟩
  have z1 : IntKind.i64.wrap ((e.2 : Int) * 32) = (sz : Int) := by rw [IntWalk.i64_in _ (by omega)]; omega
  rw [← hsz]
  have hlk2 : ∀ W, Below w.heap.size w W → (Instr.lookup 35 (.map (some bn)) (.string s) false).run Tryz.prog W = .ok (.agg #[.int .i64 e.1, .int .i64 e.2]) W := hlk
  have hfl := fun W => field1 e.1 e.2 W
  clear hlk hsz hsm
  generalize e.1 = x1 at *
  generalize e.2 = x2 at *
  go_enter Tryz.func69, Tryz.ntmps69
  go_wp2_with (first
    | (go_at_call 58; refine hmade.mono ?_; rintro e w1 ⟨rfl, hb1⟩; have d1 := bcell hb1 c1; have hl1 := hlk2 w1 hb1)
    | fail)
  go_ret
  exact ⟨rfl, hb1⟩

end Go.Proofs.YtlhefifejcoecaaGreatDoor
