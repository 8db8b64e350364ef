/- The directory: which names may be; made, Epoch. -/
import Derived.Test.YtnpnchociegmpaaDoorDirA
namespace Go.Proofs.YtnpnchociegmpaaDoor
open Go.RowKit Go.Proofs Go.Shelf
attribute [local go_sem ↓] Go.wp_at_zero Go.wp_at_succ

set_option maxRecDepth 100000 in
set_option maxHeartbeats 1000000 in
theorem goodname_any (s : ByteArray) (w : World) (hs : s.size ≤ 9223372036854775807) : Calls Tryd.prog 36 #[.string s] w (Gives w (.bool (goodNameS s))) := by
  have hl : s.data.toList.length = s.size := by simp
  have hq : goodNameS s = (s.data.toList.all goodChar && decide (1 ≤ s.size) && decide (s.size ≤ 8)) := by unfold goodNameS; rw [ByteArray.toList_eq]
  have Hq := Lib.hid hq
  clear hq
  go_enter Tryd.func36, Tryd.ntmps36
  go_wp2_with fail
  go_loopw [7] (fun j wr => ∃ k : Nat, k ≤ s.size ∧ j = .int .i64 k ∧ Below w.heap.size w wr ∧ Hid (∀ t, (ht : t < s.data.toList.length) → t < k → goodChar s.data.toList[t] = true)) (fun j _ => s.size - (intOf j).toNat)
  case atStart => exact ⟨0, Nat.zero_le _, rfl, Below.refl _ _, Lib.hid fun t _ h => by omega⟩
  case round =>
    obtain ⟨k, hk, rfl, hb, hall⟩ := hrel
    by_cases hlt : k < s.size
    · have n0 : (0 : Int) ≤ (k : Int) := by omega
      have n1 : (k : Int) < (s.size : Int) := by omega
      have hkl : k < s.data.toList.length := by omega
      have hsk : s[k] = s.data.toList[k] := by
        rw [Array.getElem_toList]; rfl
      obtain ⟨cn, hcn⟩ : ∃ cn, s[k].toNat = cn := ⟨_, rfl⟩
      have Hg : Hid (goodChar s.data.toList[k] = ((decide (97 ≤ cn) && decide (cn ≤ 122)) || (decide (48 ≤ cn) && decide (cn ≤ 57)))) := Lib.hid (by rw [← hcn, hsk]; rfl)
      have Hg2 : Hid (goodChar s.data.toList[k] = ((decide ((97 : Int) ≤ (cn : Int)) && decide ((cn : Int) ≤ 122)) || (decide ((48 : Int) ≤ (cn : Int)) && decide ((cn : Int) ≤ 57)))) := Lib.hid (by
        rw [Hg.out, decide_eq_decide.2 (show 97 ≤ cn ↔ (97 : Int) ≤ (cn : Int) by omega), decide_eq_decide.2 (show cn ≤ 122 ↔ (cn : Int) ≤ 122 by omega), decide_eq_decide.2 (show 48 ≤ cn ↔ (48 : Int) ≤ (cn : Int) by omega), decide_eq_decide.2 (show cn ≤ 57 ↔ (cn : Int) ≤ 57 by omega)])
      clear Hg
      have Hbad : Hid (goodChar s.data.toList[k] = false → s.data.toList.all goodChar = false) := Lib.hid fun h => by
        rw [List.all_eq_false]
        exact ⟨_, List.getElem_mem hkl, by rw [h]; decide⟩
      have Hall2 : Hid (goodChar s.data.toList[k] = true → ∀ t, (ht : t < s.data.toList.length) → t < k + 1 → goodChar s.data.toList[t] = true) := Lib.hid fun h t ht htk => by
        by_cases e : t = k
        · subst e; exact h
        · exact hall.out t ht (by omega)
      clear hsk
      by_cases a1 : (97 : Int) ≤ (cn : Int) <;> by_cases a2 : (cn : Int) ≤ 122 <;> by_cases a3 : (48 : Int) ≤ (cn : Int) <;> by_cases a4 : (cn : Int) ≤ 57 <;>
      first
        | (exfalso; omega)
        | (have hgd : goodChar s.data.toList[k] = true := by rw [Hg2.out]; simp only [a1, a2, a3, a4, decide_true, decide_false, Bool.and_true, Bool.true_and, Bool.and_false, Bool.false_and, Bool.or_true, Bool.true_or, Bool.or_false, Bool.false_or]
           have hA := Lib.hid (Hall2.out hgd)
           clear hgd
           go_wp2_with fail
           go_roundw
           case rel => exact ⟨k + 1, hlt, by go_num, hb, hA⟩
           case measure => simp [intOf]; omega)
        | (have hgd : goodChar s.data.toList[k] = false := by rw [Hg2.out]; simp only [a1, a2, a3, a4, decide_true, decide_false, Bool.and_true, Bool.true_and, Bool.and_false, Bool.false_and, Bool.or_true, Bool.true_or, Bool.or_false, Bool.false_or]
           have hA := Lib.hid (Hbad.out hgd)
           clear hgd
           go_wp2_with fail
           go_ret
           exact ⟨by rw [Hq.out, hA.out]; rfl, hb⟩)
    · have hke : k = s.size := by omega
      subst hke
      have hA : s.data.toList.all goodChar = true := by
        rw [List.all_eq_true]
        intro x hx
        obtain ⟨t, ht, rfl⟩ := List.getElem_of_mem hx
        exact hall.out t ht (by omega)
      have HA := Lib.hid hA
      clear hA hall
      have hte : s.toList.length = s.size := by rw [ByteArray.toList_eq]; exact hl
      have Hte := Lib.hid hte
      clear hte
      go_wp2_with fail
      · have h0 : s.toList = [] := by assumption
        have hz : s.size = 0 := by rw [← Hte.out, h0]; rfl
        have Hz : Hid (goodNameS s = false) := Lib.hid (by rw [Hq.out, hz]; cases s.data.toList.all goodChar <;> rfl)
        clear hz h0
        go_ret
        exact ⟨by rw [Hz.out]; rfl, hb⟩
      · have h0 : ¬ s.toList = [] := by assumption
        have hz : 1 ≤ s.size := by
          rcases Nat.eq_zero_or_pos s.size with h | h
          · exact absurd (List.eq_nil_of_length_eq_zero (Hte.out.trans h)) h0
          · exact h
        have Hz : Hid (goodNameS s = (!s.toList.isEmpty && decide ((s.size : Int) ≤ 8))) := Lib.hid (by
          have h2 : s.toList.isEmpty = false := by
            cases h3 : s.toList with
            | nil => exact absurd h3 h0
            | cons x l => rfl
          rw [Hq.out, HA.out, h2, decide_eq_true hz, decide_eq_decide.2 (show s.size ≤ 8 ↔ (s.size : Int) ≤ 8 by omega)]; rfl)
        clear hz h0
        go_ret
        exact ⟨by rw [Hz.out]; rfl, hb⟩

end Go.Proofs.YtnpnchociegmpaaDoor
