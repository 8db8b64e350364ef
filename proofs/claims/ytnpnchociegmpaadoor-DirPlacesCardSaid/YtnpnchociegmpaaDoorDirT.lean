/- The directory: bytes.Equal; what parse's list fits. -/
import Derived.Test.YtnpnchociegmpaaDoorDirS
import Derived.Shelf.Bytes.SlSmallAll
namespace Go.Proofs.YtnpnchociegmpaaDoor
open Go.RowKit Go.Proofs Go.Shelf
attribute [local go_sem ↓] Go.wp_at_zero Go.wp_at_succ

theorem conv_bytes {w : World} {v : Value} {l : List UInt8} (h : SlP 1 ByteE w v l) : (convert 32 9 v).run Tryd.prog w = .ok (.string ⟨l.toArray⟩) w := by
  obtain ⟨q, cap, rfl, h1, h2, h0, h3⟩ := h
  cases l with
  | nil => exact run_convert_bytes_zero (P := Tryd.prog) w 32 5 Tryd.underlying32 Tryd.underlying5 q cap 9 Tryd.underlying9
  | cons x r =>
    obtain ⟨b, off, cs, rfl, -⟩ := h3 0 (by simp)
    refine run_convert_bytes_back (P := Tryd.prog) w 32 9 5 ⟨b, off, none⟩ cap (x :: r) Tryd.underlying32 Tryd.underlying5 Tryd.underlying9 (fun j hj => ?_)
    obtain ⟨b', off', cs, e, hl, he, hc⟩ := h3 j hj
    simp only [Option.some.injEq, Addr.mk.injEq] at e
    obtain ⟨rfl, rfl, -⟩ := e
    unfold ByteE at he
    subst he
    have := hc 0 (by simp)
    rw [Addr.add_lit]
    simpa [u8] using this

theorem bytes_eq (a b : List UInt8) : decide ((⟨a.toArray⟩ : ByteArray) = ⟨b.toArray⟩) = decide (a = b) := decide_eq_decide.2 ⟨fun h => by
  have := congrArg (fun x : ByteArray => x.data.toList) h
  simpa using this, fun h => by rw [h]⟩

set_option maxRecDepth 100000 in
theorem beq_any (u v : Value) (a b : List UInt8) (w : World) (hu : SlP 1 ByteE w u a) (hv : SlP 1 ByteE w v b) : Calls Tryd.prog 63 #[u, v] w (Gives w (.bool (decide (a = b)))) := by
  have c1 := conv_bytes hu
  have c2 := conv_bytes hv
  have hq2 : ((⟨a.toArray⟩ : ByteArray).toList == (⟨b.toArray⟩ : ByteArray).toList) = decide (a = b) := by
    rw [ByteArray.toList_eq, ByteArray.toList_eq]
    exact Bool.eq_iff_iff.2 (by simp)
  have Hq2 := Lib.hid hq2
  clear hq2 hu hv
  generalize (⟨a.toArray⟩ : ByteArray) = x at *
  generalize (⟨b.toArray⟩ : ByteArray) = y at *
  go_enter Tryd.func63, Tryd.ntmps63
  go_wp2_with fail
  go_ret
  refine ⟨?_, Below.refl _ _⟩
  rw [← Hq2.out]
  rfl

theorem fext_le {m : Files} {B : Nat} (h : ∀ x ∈ m, x.2.1 ≤ B ∧ x.2.2 ≤ B) (s : List UInt8) : (fext m s).1 ≤ B ∧ (fext m s).2 ≤ B := by
  unfold fext fget
  cases hf : m.find? fun x => decide ((⟨s.toArray⟩ : ByteArray) = x.1) with
  | none => simp
  | some x => exact h x (List.mem_of_find?_eq_some hf)

theorem fits_of {m : Files} (h1 : m.length ≤ 10) (h2 : ∀ x ∈ m, x.1.size ≤ 8 ∧ x.2.1 ≤ 1048576 ∧ x.2.2 ≤ 1048576) {epoch : Nat} (he : epoch ≤ 1099511627776) : Fits epoch m := by
  have hl : (namesS m).length = m.length := by rw [(names_perm m).length_eq, List.length_map]
  have hx := fun s => fext_le (fun x hx => (h2 x hx).2) s
  have hent : ∀ s ∈ namesS m, (entryS m s).length ≤ 17 := by
    intro s hs
    obtain ⟨x, hxm, e⟩ := names_mem hs
    have hsz := (h2 x hxm).1
    rw [e] at hsz
    have hs8 : s.length ≤ 8 := by simpa [ByteArray.size] using hsz
    have hxs := hx s
    unfold entryS
    unfold fext at hxs
    simp only [List.length_append]
    have k1 := numS_len_small (n := s.length) (by omega)
    have k2 := numS_len_lt (n := ((fget m ⟨s.toArray⟩).getD (0, 0)).1) (k := 3) (by omega)
    have k3 := numS_len_lt (n := ((fget m ⟨s.toArray⟩).getD (0, 0)).2) (k := 3) (by omega)
    omega
  have hb : (bodyS epoch m (namesS m)).length ≤ 178 := by
    unfold bodyS
    simp only [List.length_append]
    have k1 := numS_len_lt (n := epoch) (k := 6) (by omega)
    have k2 := numS_len_small (n := m.length) (by omega)
    have := flat_len _ hent
    omega
  refine ⟨?_, by omega, by omega⟩
  unfold frameS sumB
  simp only [List.length_append, List.length_cons, List.length_nil]
  have := numS_len_small (n := (bodyS epoch m (namesS m)).length) (by omega)
  omega

theorem numP_le (mo : Nat) (x : List UInt8) (bad : Bool) : (numP mo x bad).1 ≤ mo ∧ (numP mo x bad).2.1.length ≤ x.length := by
  unfold numP
  split
  · exact ⟨Nat.zero_le _, Nat.le_refl _⟩
  · rename_i h
    refine ⟨?_, by rw [List.length_drop]; omega⟩
    dsimp only
    rcases Nat.lt_or_ge mo (getNumS x).1 with h1 | h1
    · exact absurd (.inr (.inr h1)) h
    · exact h1

theorem fset_len (m : Files) (k : ByteArray) (e : Nat × Nat) : (fset m k e).length ≤ m.length + 1 := by
  unfold fset
  split <;> simp

theorem fset_mem {m : Files} {k : ByteArray} {e : Nat × Nat} {x : ByteArray × Nat × Nat} (h : x ∈ fset m k e) : x ∈ m ∨ x = (k, e) := by
  unfold fset at h
  split at h
  · exact List.mem_or_eq_of_mem_set h
  · rcases List.mem_append.1 h with h | h
    · exact .inl h
    · exact .inr (by simpa using h)

theorem getStrS_ok (b : List UInt8) (mo : Nat) (h : (getStrS b mo).2.2 = true) : (getStrS b mo).1.size ≤ mo ∧ (getStrS b mo).2.1 ≤ b.length ∧ 0 < b.length := by
  unfold getStrS at h ⊢
  split at h
  · cases h
  · rename_i hc
    rw [if_neg hc]
    have hok := getNumS_ok b
    have h1 : (getNumS b).2.2 = true := by
      cases h2 : (getNumS b).2.2 with
      | true => rfl
      | false => exact absurd (.inl h2) hc
    have h2 := hok.2.1 h1
    refine ⟨?_, ?_, by omega⟩
    · dsimp only
      simp only [ByteArray.size, List.size_toArray, List.length_take, List.length_drop]
      have h3 : ¬ mo < (getNumS b).1 := fun h3 => hc (.inr (.inl h3))
      omega
    · dsimp only
      have h3 : ¬ b.length - (getNumS b).2.1 < (getNumS b).1 := fun h3 => hc (.inr (.inr h3))
      omega

end Go.Proofs.YtnpnchociegmpaaDoor
