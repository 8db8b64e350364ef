/- Package record: numbers and texts behind bytes. -/
import Derived.Test.YtgmcpfcpdmnebaaGreatRec2
import Derived.Test.YtgmcpfcpdmnebaaGreatPack2
namespace Go.Proofs.YtgmcpfcpdmnebaaGreat
open Go.RowKit Go.Proofs Go.Shelf

def NatE (_ : World) (cs : List Value) (n : Nat) : Prop := cs = [.int .i64 n] ∧ n ≤ 9000000000000000000
def StrE (_ : World) (cs : List Value) (s : ByteArray) : Prop := cs = [.string s] ∧ s.size ≤ 100000000
theorem NatE.mono : Mono NatE := ⟨fun _ h => h⟩
theorem StrE.mono : Mono StrE := ⟨fun _ h => h⟩

def strS (s : ByteArray) : List UInt8 := numS s.size ++ s.data.toList
theorem strS_length (s : ByteArray) : (strS s).length ≤ s.size + 9 := by
  have := numS_length s.size
  unfold strS
  rw [List.length_append, Array.length_toList]
  show (numS s.size).length + s.size ≤ _
  omega

theorem flatMap_le {α β : Type} (f : α → List β) (c : Nat) : ∀ (l : List α), (∀ x ∈ l, (f x).length ≤ c) → (l.flatMap f).length ≤ c * l.length
  | [], _ => by simp
  | x :: l, h => by
    have ih := flatMap_le f c l (fun y hy => h y (by simp [hy]))
    have hx := h x (by simp)
    simp only [List.flatMap_cons, List.length_append, List.length_cons, Nat.mul_add, Nat.mul_one]
    omega

theorem take_flatMap {α β : Type} (f : α → List β) (l : List α) (k : Nat) (hk : k < l.length) : (l.take (k + 1)).flatMap f = (l.take k).flatMap f ++ f l[k] := by
  rw [List.take_succ_eq_append_getElem hk, List.flatMap_append]; simp

set_option maxHeartbeats 800000 in
set_option maxRecDepth 100000 in
theorem nums_any (v : Value) (bs : List UInt8) (lv : Value) (ns : List Nat) (w : World) (hv : SlP 1 ByteE w v bs) (hlv : SlP 1 NatE w lv ns) (hn : 0 < ns.length) (hl : bs.length + 9 * ns.length ≤ 1000000000) :
    Calls Tryz.prog 58 #[v, lv] w (OutB w (bs ++ ns.flatMap numS)) := by
  obtain ⟨q, cap, rfl, hlc, hcap, -, hcells⟩ := hlv
  go_enter Tryz.func58, Tryz.ntmps58
  go_wp2
  go_loopw [0, 9] (fun b i wr => ∃ k : Nat, k ≤ ns.length ∧ i = .int .i64 k ∧ Below w.heap.size w wr ∧ SlP 1 ByteE wr b (bs ++ (ns.take k).flatMap numS) ∧ (0 < k → OwnB wr w.heap.size b (bs ++ (ns.take k).flatMap numS))) (fun _ i _ => ns.length - (intOf i).toNat)
  case atStart => exact ⟨0, Nat.zero_le _, rfl, Below.refl _ _, by simpa using hv, fun h => by omega⟩
  case round =>
    obtain ⟨k, hk, rfl, hb, hs, ho⟩ := hrel
    by_cases hlt : k < ns.length
    · obtain ⟨b', off, cs, rfl, hcs, ⟨rfl, hnk⟩, hc⟩ := hcells k hlt
      have d0 := bcell hb (hc 0 (by simp))
      simp only [List.getElem_cons_zero, Nat.add_zero, Nat.mul_one] at d0
      have hlen : ((ns.take k).flatMap numS).length ≤ 9 * (ns.take k).length := flatMap_le numS 9 _ fun x _ => numS_length x
      have htk : (ns.take k).length = k := by rw [List.length_take]; omega
      have hcall := num_any _ _ ns[k] wr hs (by rw [List.length_append]; omega) (by unfold U64; omega)
      have hlen2 := numS_length ns[k]
      have hlast : (bs ++ (ns.take k).flatMap numS ++ numS ns[k]).length ≤ 9223372036854775807 := by simp only [List.length_append]; omega
      rw [List.append_assoc, ← take_flatMap numS ns k hlt] at hcall hlast
      have n0 : (0 : Int) ≤ (ns[k] : Int) := by omega
      have n1 : (ns[k] : Int) ≤ 9000000000000000000 := by omega
      clear hcells hc ho hs
      go_wp2_with (first
        | (go_at_call 90; refine hcall.mono ?_; rintro e w1 ⟨v1, rfl, hown, hb1⟩))
      go_roundw
      case rel => exact ⟨k + 1, hlt, by go_num, below_trans hb hb1, hown.at hlast, fun _ => hown.base hb.size⟩
      case measure => simp [intOf]; omega
    · have : k = ns.length := by omega
      subst this
      rw [List.take_length] at ho
      clear hcells hs
      have ho := ho hn
      go_wp2
      go_ret
      exact ⟨_, rfl, ho, hb⟩

set_option maxHeartbeats 800000 in
set_option maxRecDepth 100000 in
theorem texts_any (v : Value) (bs : List UInt8) (lv : Value) (ss : List ByteArray) (w : World) (hv : SlP 1 ByteE w v bs) (hlv : SlP 1 StrE w lv ss) (hn : 0 < ss.length) (hl : bs.length + 200000000 * ss.length ≤ 1000000000) :
    Calls Tryz.prog 59 #[v, lv] w (OutB w (bs ++ ss.flatMap strS)) := by
  obtain ⟨q, cap, rfl, hlc, hcap, -, hcells⟩ := hlv
  have hsz : ∀ x ∈ ss, x.size ≤ 100000000 := fun x hx => by
    obtain ⟨i, hi, rfl⟩ := List.getElem_of_mem hx
    obtain ⟨_, _, _, _, _, ⟨_, h⟩, _⟩ := hcells i hi
    exact h
  go_enter Tryz.func59, Tryz.ntmps59
  go_wp2
  go_loopw [0, 9] (fun b i wr => ∃ k : Nat, k ≤ ss.length ∧ i = .int .i64 k ∧ Below w.heap.size w wr ∧ SlP 1 ByteE wr b (bs ++ (ss.take k).flatMap strS) ∧ (0 < k → OwnB wr w.heap.size b (bs ++ (ss.take k).flatMap strS))) (fun _ i _ => ss.length - (intOf i).toNat)
  case atStart => exact ⟨0, Nat.zero_le _, rfl, Below.refl _ _, by simpa using hv, fun h => by omega⟩
  case round =>
    obtain ⟨k, hk, rfl, hb, hs, ho⟩ := hrel
    by_cases hlt : k < ss.length
    · obtain ⟨b', off, cs, rfl, hcs, ⟨rfl, hnk⟩, hc⟩ := hcells k hlt
      have d0 := bcell hb (hc 0 (by simp))
      simp only [List.getElem_cons_zero, Nat.add_zero, Nat.mul_one] at d0
      have hlen : ((ss.take k).flatMap strS).length ≤ 100000009 * (ss.take k).length := flatMap_le strS 100000009 _ fun x hx => by
        have := strS_length x
        have := hsz x (List.mem_of_mem_take hx)
        omega
      have htk : (ss.take k).length = k := by rw [List.length_take]; omega
      have hcall := str_any _ _ ss[k] wr hs (by rw [List.length_append]; omega) (by omega)
      rw [List.append_assoc] at hcall
      change Calls _ _ _ _ (OutB wr (bs ++ (ss.take k).flatMap strS ++ strS ss[k])) at hcall
      have hlen2 := strS_length ss[k]
      have hlast : (bs ++ (ss.take k).flatMap strS ++ strS ss[k]).length ≤ 9223372036854775807 := by simp only [List.length_append]; omega
      rw [List.append_assoc, ← take_flatMap strS ss k hlt] at hcall hlast
      clear hcells hc ho hs hsz
      go_wp2_with (first
        | (go_at_call 91; refine hcall.mono ?_; rintro e w1 ⟨v1, rfl, hown, hb1⟩))
      go_roundw
      case rel => exact ⟨k + 1, hlt, by go_num, below_trans hb hb1, hown.at hlast, fun _ => hown.base hb.size⟩
      case measure => simp [intOf]; omega
    · have : k = ss.length := by omega
      subst this
      rw [List.take_length] at ho
      clear hcells hs
      have ho := ho hn
      go_wp2
      go_ret
      exact ⟨_, rfl, ho, hb⟩

end Go.Proofs.YtgmcpfcpdmnebaaGreat
