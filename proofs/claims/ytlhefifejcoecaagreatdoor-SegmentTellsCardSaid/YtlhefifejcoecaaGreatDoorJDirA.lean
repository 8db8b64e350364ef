/- The directory: extents, names. -/
/- The directory: which names may be; made, Epoch. -/
import Derived.Test.YtlhefifejcoecaaGreatDoorJDskE
import Derived.Test.YtlhefifejcoecaaGreatDoorOpenF
namespace Go.Proofs.YtlhefifejcoecaaGreatDoor
open Go.RowKit Go.Proofs Go.Shelf
attribute [local go_sem ↓] Go.wp_at_zero Go.wp_at_succ

def extV (e : Nat × Nat) : Value := .agg #[.int .i64 e.1, .int .i64 e.2]
def meetsS (a b : Nat × Nat) : Bool := decide (a.1 < b.1 + b.2) && decide (b.1 < a.1 + a.2)

set_option maxRecDepth 100000 in
theorem end_any (b c : Nat) (w : World) (hb : b ≤ 1000000000) (hc : c ≤ 1000000000) : Calls Tryz.prog 141 #[.agg #[.int .i64 b, .int .i64 c]] w (Gives w (.int .i64 (b + c : Nat))) := by
  have hs : IntKind.i64.wrap ((b : Int) + (c : Int)) = ((b + c : Nat) : Int) := by rw [IntWalk.i64_in _ (by omega)]; omega
  go_enter Tryz.func141, Tryz.ntmps141
  go_wp2_with fail
  go_ret
  refine ⟨?_, below_new _ _⟩
  simp

set_option maxRecDepth 100000 in
set_option maxHeartbeats 1000000 in
theorem meets_any (a b : Nat × Nat) (w : World) (h1 : a.1 ≤ 1000000000) (h2 : a.2 ≤ 1000000000) (h3 : b.1 ≤ 1000000000) (h4 : b.2 ≤ 1000000000) :
    Calls Tryz.prog 120 #[extV a, extV b] w (Gives w (.bool (meetsS a b))) := by
  obtain ⟨a1, a2⟩ := a
  obtain ⟨b1, b2⟩ := b
  dsimp only at *
  have hq : meetsS (a1, a2) (b1, b2) = (decide (a1 < b1 + b2) && decide (b1 < a1 + a2)) := rfl
  rw [hq]
  show Calls _ _ #[.agg #[.int .i64 a1, .int .i64 a2], .agg #[.int .i64 b1, .int .i64 b2]] w _
  have hea := fun W => end_any a1 a2 W h1 h2
  have heb := fun W => end_any b1 b2 W h3 h4
  have hab := below_alloc (below_new w (.cells #[.int .i64 a1, .int .i64 a2] 90)) (.cells #[.int .i64 b1, .int .i64 b2] 90)
  go_enter Tryz.func120, Tryz.ntmps120
  go_upto_region 1 with fail
  generalize hW0 : (w.alloc (.cells #[.int .i64 a1, .int .i64 a2] 90)).alloc (.cells #[.int .i64 b1, .int .i64 b2] 90) = W0
  have hb0 : Below w.heap.size w W0 := by rw [← hW0]; exact hab
  have c0 : W0.cell? ⟨w.heap.size, 0, none⟩ = some (.int .i64 a1) := by rw [← hW0]; simp
  have c1 : W0.cell? ⟨w.heap.size, 1, none⟩ = some (.int .i64 a2) := by rw [← hW0]; simp
  have c2 : W0.cell? ⟨w.heap.size + 1, 0, none⟩ = some (.int .i64 b1) := by rw [← hW0]; simp
  have c3 : W0.cell? ⟨w.heap.size + 1, 1, none⟩ = some (.int .i64 b2) := by rw [← hW0]; simp
  clear hW0 hab hq
  have d0 := fun s' => later_cell c0 s'
  have d1 := fun s' => later_cell c1 s'
  have d2 := fun s' => later_cell c2 s'
  have d3 := fun s' => later_cell c3 s'
  have hA := fun s' => hea (later W0 s')
  have hB := fun s' => heb (later W0 s')
  have s1 : ((b1 : Int) + (b2 : Int)) = ((b1 + b2 : Nat) : Int) := by omega
  have s2 : ((a1 : Int) + (a2 : Int)) = ((a1 + a2 : Nat) : Int) := by omega
  generalize b1 + b2 = B at *
  generalize a1 + a2 = A at *
  clear s1 s2
  refine wp_region_mild (by kernel_rfl) (by kernel_rfl) ?_
  repeat (any_goals (first | go_big_quiet_step ((first | (exact mild_of (hB _)) | (exact mild_of (hA _)))) | quiet_step ((first | (exact mild_of (hB _)) | (exact mild_of (hA _)))) | (refine wpQuiet_step (fun K hK => ?_); go_simp; split <;> (refine hK _ ?_; clear hK K))))
  all_goals (refine wpQuiet_nil ?_; intro W hW)
  all_goals
    (go_wp2
     go_ret
     refine ⟨?_, below_trans hb0 hW⟩
     first
       | (rw [decide_eq_true (by omega : a1 < B)]; rfl)
       | (rw [decide_eq_false (by omega : ¬ a1 < B)]; rfl))

def goodChar (c : UInt8) : Bool := (decide (97 ≤ c.toNat) && decide (c.toNat ≤ 122)) || (decide (48 ≤ c.toNat) && decide (c.toNat ≤ 57))
def goodNameS (s : ByteArray) : Bool := s.toList.all goodChar && decide (1 ≤ s.size) && decide (s.size ≤ 8)

set_option maxRecDepth 100000 in
theorem sectors_any (w : World) (K : Nat → Prop) (D n : Nat) (safe cur : List UInt8) (off : Bool) (h : DiskAt w K D n safe cur off) : Calls Tryz.prog 54 #[.pointer (some ⟨D, 0, none⟩)] w (Gives w (.int .i64 n)) := by
  have hsize := size_any w K D n safe cur off h
  obtain ⟨-, -, hn1, hn2⟩ := h.lens
  have hd : (((32 * n : Nat) : Int)) / 32 = (n : Int) := by omega
  clear h
  generalize 32 * n = N at *
  go_enter Tryz.func54, Tryz.ntmps54
  go_wp2_with (first | (go_at_call 51; refine hsize.mono ?_; rintro e w1 ⟨rfl, hb1⟩) | fail)
  go_ret
  exact ⟨rfl, hb1⟩

end Go.Proofs.YtlhefifejcoecaaGreatDoor

namespace Go.Proofs.YtlhefifejcoecaaGreatDoor
open Go.RowKit Go.Proofs Go.Shelf
attribute [local go_sem ↓] Go.wp_at_zero Go.wp_at_succ

set_option maxRecDepth 100000 in
set_option maxHeartbeats 1000000 in
theorem goodname_any (s : ByteArray) (w : World) (hs : s.size ≤ 9223372036854775807) : Calls Tryz.prog 107 #[.string s] w (Gives w (.bool (goodNameS s))) := by
  have hl : s.data.toList.length = s.size := by simp
  have hq : goodNameS s = (s.data.toList.all goodChar && decide (1 ≤ s.size) && decide (s.size ≤ 8)) := by unfold goodNameS; rw [ByteArray.toList_eq]
  have Hq := Lib.hid hq
  clear hq
  go_enter Tryz.func107, Tryz.ntmps107
  go_wp2_with fail
  go_loopw [7] (fun j wr => ∃ k : Nat, k ≤ s.size ∧ j = .int .i64 k ∧ Below w.heap.size w wr ∧ Hid (∀ t, (ht : t < s.data.toList.length) → t < k → goodChar s.data.toList[t] = true)) (fun j _ => s.size - (intOf j).toNat)
  case atStart => exact ⟨0, Nat.zero_le _, rfl, Below.refl _ _, Lib.hid fun t _ h => by omega⟩
  case round =>
    obtain ⟨k, hk, rfl, hb, hall⟩ := hrel
    by_cases hlt : k < s.size
    · have n0 : (0 : Int) ≤ (k : Int) := by omega
      have n1 : (k : Int) < (s.size : Int) := by omega
      have hkl : k < s.data.toList.length := by omega
      have hsk : s[k] = s.data.toList[k] := by
        rw [Array.getElem_toList]; rfl
      obtain ⟨cn, hcn⟩ : ∃ cn, s[k].toNat = cn := ⟨_, rfl⟩
      have Hg : Hid (goodChar s.data.toList[k] = ((decide (97 ≤ cn) && decide (cn ≤ 122)) || (decide (48 ≤ cn) && decide (cn ≤ 57)))) := Lib.hid (by rw [← hcn, hsk]; rfl)
      have Hg2 : Hid (goodChar s.data.toList[k] = ((decide ((97 : Int) ≤ (cn : Int)) && decide ((cn : Int) ≤ 122)) || (decide ((48 : Int) ≤ (cn : Int)) && decide ((cn : Int) ≤ 57)))) := Lib.hid (by
        rw [Hg.out, decide_eq_decide.2 (show 97 ≤ cn ↔ (97 : Int) ≤ (cn : Int) by omega), decide_eq_decide.2 (show cn ≤ 122 ↔ (cn : Int) ≤ 122 by omega), decide_eq_decide.2 (show 48 ≤ cn ↔ (48 : Int) ≤ (cn : Int) by omega), decide_eq_decide.2 (show cn ≤ 57 ↔ (cn : Int) ≤ 57 by omega)])
      clear Hg
      have Hbad : Hid (goodChar s.data.toList[k] = false → s.data.toList.all goodChar = false) := Lib.hid fun h => by
        rw [List.all_eq_false]
        exact ⟨_, List.getElem_mem hkl, by rw [h]; decide⟩
      have Hall2 : Hid (goodChar s.data.toList[k] = true → ∀ t, (ht : t < s.data.toList.length) → t < k + 1 → goodChar s.data.toList[t] = true) := Lib.hid fun h t ht htk => by
        by_cases e : t = k
        · subst e; exact h
        · exact hall.out t ht (by omega)
      clear hsk
      by_cases a1 : (97 : Int) ≤ (cn : Int) <;> by_cases a2 : (cn : Int) ≤ 122 <;> by_cases a3 : (48 : Int) ≤ (cn : Int) <;> by_cases a4 : (cn : Int) ≤ 57 <;>
      first
        | (exfalso; omega)
        | (have hgd : goodChar s.data.toList[k] = true := by rw [Hg2.out]; simp only [a1, a2, a3, a4, decide_true, decide_false, Bool.and_true, Bool.true_and, Bool.and_false, Bool.false_and, Bool.or_true, Bool.true_or, Bool.or_false, Bool.false_or]
           have hA := Lib.hid (Hall2.out hgd)
           clear hgd
           go_wp2_with fail
           go_roundw
           case rel => exact ⟨k + 1, hlt, by go_num, hb, hA⟩
           case measure => simp [intOf]; omega)
        | (have hgd : goodChar s.data.toList[k] = false := by rw [Hg2.out]; simp only [a1, a2, a3, a4, decide_true, decide_false, Bool.and_true, Bool.true_and, Bool.and_false, Bool.false_and, Bool.or_true, Bool.true_or, Bool.or_false, Bool.false_or]
           have hA := Lib.hid (Hbad.out hgd)
           clear hgd
           go_wp2_with fail
           go_ret
           exact ⟨by rw [Hq.out, hA.out]; rfl, hb⟩)
    · have hke : k = s.size := by omega
      subst hke
      have hA : s.data.toList.all goodChar = true := by
        rw [List.all_eq_true]
        intro x hx
        obtain ⟨t, ht, rfl⟩ := List.getElem_of_mem hx
        exact hall.out t ht (by omega)
      have HA := Lib.hid hA
      clear hA hall
      have hte : s.toList.length = s.size := by rw [ByteArray.toList_eq]; exact hl
      have Hte := Lib.hid hte
      clear hte
      go_wp2_with fail
      · have h0 : s.toList = [] := by assumption
        have hz : s.size = 0 := by rw [← Hte.out, h0]; rfl
        have Hz : Hid (goodNameS s = false) := Lib.hid (by rw [Hq.out, hz]; cases s.data.toList.all goodChar <;> rfl)
        clear hz h0
        go_ret
        exact ⟨by rw [Hz.out]; rfl, hb⟩
      · have h0 : ¬ s.toList = [] := by assumption
        have hz : 1 ≤ s.size := by
          rcases Nat.eq_zero_or_pos s.size with h | h
          · exact absurd (List.eq_nil_of_length_eq_zero (Hte.out.trans h)) h0
          · exact h
        have Hz : Hid (goodNameS s = (!s.toList.isEmpty && decide ((s.size : Int) ≤ 8))) := Lib.hid (by
          have h2 : s.toList.isEmpty = false := by
            cases h3 : s.toList with
            | nil => exact absurd h3 h0
            | cons x l => rfl
          rw [Hq.out, HA.out, h2, decide_eq_true hz, decide_eq_decide.2 (show s.size ≤ 8 ↔ (s.size : Int) ≤ 8 by omega)]; rfl)
        clear hz h0
        go_ret
        exact ⟨by rw [Hz.out]; rfl, hb⟩

end Go.Proofs.YtlhefifejcoecaaGreatDoor
