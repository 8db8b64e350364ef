/- The directory: within, Write, Read, Sync. -/
import Derived.Test.YtnpnchociegmpaaDoorDirM
import Derived.Test.YtnpnchociegmpaaDoorDirP
namespace Go.Proofs.YtnpnchociegmpaaDoor
open Go.RowKit Go.Proofs Go.Shelf
attribute [local go_sem ↓] Go.wp_at_zero Go.wp_at_succ

theorem FilesAt.look_ok {w : World} {b : Nat} {m : Files} (h : FilesAt w b m) (k : ByteArray) : (Instr.lookup 53 (.map (some b)) (.string k) true).run Tryd.prog w = .ok (.tuple #[extV ((fget m k).getD (0, 0)), .bool (fget m k).isSome]) w := by
  have := h.map.lookup_ok (P := Tryd.prog) (T := 53) extKey Tryd.underlying53 extZero k
  rw [mget_files] at this
  rw [this]
  cases fget m k <;> rfl

/-- Where bytes of a file stand. -/
def wrS (m : Files) (s : ByteArray) (a c : Int) : Option Nat := match fget m s with
  | none => none
  | some e => if 0 ≤ a ∧ 0 ≤ c ∧ a + c ≤ 32 * e.2 then some (32 * e.1 + a.toNat) else none

def WithinOut (m : Files) (s : ByteArray) (a c : Int) (w : World) (e : Ending) (w' : World) : Prop :=
  ∃ p x : Int, e = .returned (.tuple #[.int .i64 p, .int .i64 x]) ∧ (match wrS m s a c with | some q => x = 0 ∧ p = q | none => x ≠ 0 ∧ p = 0) ∧ Below w.heap.size w w'

set_option maxRecDepth 100000 in
set_option maxHeartbeats 4000000 in
theorem within_any (w : World) (K : Nat → Prop) (X D n : Nat) (safe cur : List UInt8) (off : Bool) (now saved : Files) (epoch which : Nat) (h : DirAt w K X D n safe cur off now saved epoch which) (s : ByteArray) (a c bey : Int)
    (ha : -9223372036854775808 ≤ a ∧ a ≤ 9223372036854775807) (hc : -9223372036854775808 ≤ c ∧ c ≤ 9223372036854775807) (hbey : bey ≠ 0) :
    Calls Tryd.prog 38 #[.pointer (some ⟨X, 0, none⟩), .string s, .int .i64 a, .int .i64 c, .int .i64 bey] w (WithinOut now s a c w) := by
  have hmade := dmade_any w K X D n safe cur off now saved epoch which h
  obtain ⟨bn, bs, h⟩ := h
  obtain ⟨-, c1, -, -, -, lX⟩ := h.cells
  have hlk := fun W (hb : Below w.heap.size w W) => (h.now.below hb).look_ok s
  have hsm := fget_small h.now s
  have hq : ∀ r, r = wrS now s a c → r = wrS now s a c := fun _ h => h
  clear h
  unfold wrS at hq
  cases hf : fget now s with
  | none =>
    rw [hf] at hlk
    have hw0 : Hid (wrS now s a c = none) := Lib.hid (by unfold wrS; rw [hf])
    clear hq hf hsm
    have hlk2 : ∀ W, Below w.heap.size w W → (Instr.lookup 53 (.map (some bn)) (.string s) true).run Tryd.prog W = .ok (.tuple #[.agg #[.int .i64 0, .int .i64 0], .bool false]) W := hlk
    clear hlk
    go_enter Tryd.func38, Tryd.ntmps38
    go_wp2_with (first | (go_at_call 35; refine hmade.mono ?_; rintro e w1 ⟨rfl, hb1⟩; have d1 := bcell hb1 c1; have hl1 := hlk2 w1 hb1) | fail)
    go_ret2
    refine ⟨_, _, rfl, by rw [hw0.out]; exact ⟨by decide, rfl⟩, below_trans hb1 (below_new _ _)⟩
  | some e =>
    rw [hf] at hlk hsm
    simp only [Option.getD_some] at hsm
    obtain ⟨sz, hsz⟩ : ∃ sz : Nat, sz = 32 * e.2 := ⟨_, rfl⟩
    obtain ⟨st, hst⟩ : ∃ st : Nat, st = 32 * e.1 := ⟨_, rfl⟩
    have hw0 : wrS now s a c = if 0 ≤ a ∧ 0 ≤ c ∧ a + c ≤ sz then some (st + a.toNat) else none := by unfold wrS; rw [hf, hsz, hst]; simp
    have z1 : IntKind.i64.wrap ((e.2 : Int) * 32) = (sz : Int) := by rw [IntWalk.i64_in _ (by omega)]; omega
    have z2 : IntKind.i64.wrap ((e.1 : Int) * 32) = (st : Int) := by rw [IntWalk.i64_in _ (by omega)]; omega
    have hszb : sz ≤ 32000000000 := by omega
    have hstb : st ≤ 32000000000 := by omega
    have hlk2 : ∀ W, Below w.heap.size w W → (Instr.lookup 53 (.map (some bn)) (.string s) true).run Tryd.prog W = .ok (.tuple #[.agg #[.int .i64 e.1, .int .i64 e.2], .bool true]) W := hlk
    have Hw0 := Lib.hid hw0
    clear hlk hq hf hw0 hsz hst hsm
    generalize e.1 = x1 at *
    generalize e.2 = x2 at *
    clear e
    by_cases h1 : a < 0
    · have Hr : Hid (wrS now s a c = none) := Lib.hid (by rw [Hw0.out, if_neg (by omega)])
      clear Hw0
      go_enter Tryd.func38, Tryd.ntmps38
      go_wp2_with (first | (go_at_call 35; refine hmade.mono ?_; rintro e w1 ⟨rfl, hb1⟩; have d1 := bcell hb1 c1; have hl1 := hlk2 w1 hb1) | fail)
      go_ret2
      refine ⟨_, _, rfl, by rw [Hr.out]; exact ⟨by decide, rfl⟩, below_trans hb1 (below_new _ _)⟩
    · have h1' : 0 ≤ a := by omega
      by_cases h2 : c < 0
      · have Hr : Hid (wrS now s a c = none) := Lib.hid (by rw [Hw0.out, if_neg (by omega)])
        clear Hw0
        go_enter Tryd.func38, Tryd.ntmps38
        go_wp2_with (first | (go_at_call 35; refine hmade.mono ?_; rintro e w1 ⟨rfl, hb1⟩; have d1 := bcell hb1 c1; have hl1 := hlk2 w1 hb1) | fail)
        go_ret2
        refine ⟨_, _, rfl, by rw [Hr.out]; exact ⟨by decide, rfl⟩, below_trans hb1 (below_new _ _)⟩
      · have h2' : 0 ≤ c := by omega
        by_cases h3 : (sz : Int) < a
        · have Hr : Hid (wrS now s a c = none) := Lib.hid (by rw [Hw0.out, if_neg (by omega)])
          clear Hw0
          go_enter Tryd.func38, Tryd.ntmps38
          go_wp2_with (first | (go_at_call 35; refine hmade.mono ?_; rintro e w1 ⟨rfl, hb1⟩; have d1 := bcell hb1 c1; have hl1 := hlk2 w1 hb1) | fail)
          go_ret2
          refine ⟨_, _, rfl, by rw [Hr.out]; exact ⟨hbey, rfl⟩, below_trans hb1 (below_new _ _)⟩
        · have h3' : a ≤ (sz : Int) := by omega
          have z3 : IntKind.i64.wrap ((sz : Int) - a) = (sz : Int) - a := IntWalk.i64_in _ (by omega)
          by_cases h4 : (sz : Int) - a < c
          · have Hr : Hid (wrS now s a c = none) := Lib.hid (by rw [Hw0.out, if_neg (by omega)])
            clear Hw0
            go_enter Tryd.func38, Tryd.ntmps38
            go_wp2_with (first | (go_at_call 35; refine hmade.mono ?_; rintro e w1 ⟨rfl, hb1⟩; have d1 := bcell hb1 c1; have hl1 := hlk2 w1 hb1) | fail)
            go_ret2
            refine ⟨_, _, rfl, by rw [Hr.out]; exact ⟨hbey, rfl⟩, below_trans hb1 (below_new _ _)⟩
          · have h4' : c ≤ (sz : Int) - a := by omega
            have Hr : Hid (wrS now s a c = some (st + a.toNat)) := Lib.hid (by rw [Hw0.out, if_pos (by omega)])
            have z4 : IntKind.i64.wrap ((st : Int) + a) = (st : Int) + a := IntWalk.i64_in _ (by omega)
            clear Hw0
            go_enter Tryd.func38, Tryd.ntmps38
            go_wp2_with (first | (go_at_call 35; refine hmade.mono ?_; rintro e w1 ⟨rfl, hb1⟩; have d1 := bcell hb1 c1; have hl1 := hlk2 w1 hb1) | fail)
            go_ret2
            refine ⟨_, _, rfl, by rw [Hr.out]; exact ⟨rfl, by omega⟩, below_trans hb1 (below_new _ _)⟩

end Go.Proofs.YtnpnchociegmpaaDoor
