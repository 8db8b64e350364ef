/- slices.IndexFunc and slices.ContainsFunc at pairs, reads and records: where the first is of which a predicate holds, and whether there is one. -/
import Derived.Test.YtgmcpfcpdmnebaaGreatB2
namespace Go.Proofs.YtgmcpfcpdmnebaaGreat
open Go.RowKit Go.Proofs

theorem idx_drop {α : Type} (p : α → Bool) (l : List α) (k : Nat) (hk : k < l.length) : idx p (l.drop k) k = if p l[k] then (k : Int) else idx p (l.drop (k + 1)) (k + 1) := by
  rw [List.drop_eq_getElem_cons hk]; rfl

theorem idx_lower {α : Type} (p : α → Bool) : ∀ (l : List α) (n : Nat), (l.any p = true → (n : Int) ≤ idx p l n) ∧ (l.any p = false → idx p l n = -1)
  | [], n => ⟨fun h => by simp at h, fun _ => rfl⟩
  | x :: r, n => by
    have ih := idx_lower p r (n + 1)
    cases hx : p x with
    | true => exact ⟨fun _ => by simp [idx, hx], fun h => by simp [hx] at h⟩
    | false =>
      refine ⟨fun h => ?_, fun h => ?_⟩
      · have h1 := ih.1 (by simpa [hx] using h)
        simp only [idx, hx]; simp; omega
      · have h1 := ih.2 (by simpa [hx] using h)
        simpa [idx, hx] using h1

theorem idx_any {α : Type} (p : α → Bool) (l : List α) : decide (0 ≤ idx p l 0) = l.any p := by
  obtain ⟨h1, h2⟩ := idx_lower p l 0
  cases h : l.any p with
  | true => simpa using h1 h
  | false => rw [h2 h]; rfl

set_option maxHeartbeats 400000 in
theorem indexFunc_pair (g : Nat) (lb : Array Value) (eg : ∀ args w, (callFunc g args).run Tryz.prog w = .ok (.enter g args) w) (p : Pair → Bool) (l : List Pair) (v : Value) (w : World)
    (hv : SlP 3 PairE w v l) (hp : PredC Tryz.prog g lb PairE p l w) :
    Calls Tryz.prog 92 #[v, .func (.func g) #[] lb] w (Gives w (.int .i64 (idx p l 0))) := by
  obtain ⟨q, cap, rfl, hlc, hcap, _, hcells⟩ := hv
  go_enter Tryz.func92, Tryz.ntmps92
  go_wp2
  go_loopw [8, 5] (fun i _ wr => ∃ k : Nat, k ≤ l.length ∧ i = .int .i64 k ∧ Below w.heap.size w wr ∧ idx p l 0 = idx p (l.drop k) k) (fun i _ _ => l.length - (intOf i).toNat)
  case atStart => exact ⟨0, Nat.zero_le _, rfl, Below.refl _ _, rfl⟩
  case round =>
    obtain ⟨k, hk, rfl, hb, hx⟩ := hrel
    have Hx := Lib.hid hx
    clear hx
    by_cases hlt : k < l.length
    · obtain ⟨b, off, cs, rfl, hcs, he, hc⟩ := hcells k hlt
      match cs, hcs with
      | [c0, c1, c2], _ =>
      have d0 := bcell hb (hc 0 (by simp))
      have d1 := bcell hb (hc 1 (by simp))
      have d2 := bcell hb (hc 2 (by simp))
      simp only [List.getElem_cons_zero, List.getElem_cons_succ, Nat.add_zero] at d0 d1 d2
      have hcall := hp l[k] (List.getElem_mem hlt) wr _ hb (PairE.mono.mono hb he)
      cases hpx : p l[k] with
      | false =>
        rw [hpx] at hcall
        have Hpx := Lib.hid hpx
        clear hpx hcells he hc hp
        go_wp2_with (refine hcall.mono ?_; rintro e w1 ⟨rfl, hb1⟩)
        go_roundw
        case rel => exact ⟨k + 1, hlt, by go_num, hb.trans (hb1.mono hb.size), by rw [Hx.out, idx_drop p l k hlt, Hpx.out]; rfl⟩
        case measure => simp [intOf]; omega
      | true =>
        rw [hpx] at hcall
        have Hpx := Lib.hid hpx
        clear hpx hcells he hc hp
        go_wp2_with (refine hcall.mono ?_; rintro e w1 ⟨rfl, hb1⟩)
        go_ret
        exact ⟨by rw [Hx.out, idx_drop p l k hlt, Hpx.out]; rfl, hb.trans (hb1.mono hb.size)⟩
    · have : k = l.length := by omega
      subst this
      go_wp2
      go_ret
      exact ⟨by rw [Hx.out]; simp [idx], hb⟩

theorem containsFunc_pair (g : Nat) (lb : Array Value) (eg : ∀ args w, (callFunc g args).run Tryz.prog w = .ok (.enter g args) w) (p : Pair → Bool) (l : List Pair) (v : Value) (w : World)
    (hv : SlP 3 PairE w v l) (hp : PredC Tryz.prog g lb PairE p l w) :
    Calls Tryz.prog 64 #[v, .func (.func g) #[] lb] w (Gives w (.bool (l.any p))) := by
  go_enter Tryz.func64, Tryz.ntmps64
  have h := indexFunc_pair g lb eg p l v w hv hp
  have hi := idx_any p l
  generalize idx p l 0 = r at h hi
  generalize l.any p = q at hi ⊢
  have Hi := Lib.hid hi
  clear hi eg hv hp
  go_wp2_with (refine h.mono ?_; rintro e w1 ⟨rfl, hb1⟩)
  go_ret
  exact ⟨by rw [← Hi.out]; rfl, hb1⟩

set_option maxHeartbeats 400000 in
theorem indexFunc_read (g : Nat) (lb : Array Value) (eg : ∀ args w, (callFunc g args).run Tryz.prog w = .ok (.enter g args) w) (p : Rd → Bool) (l : List Rd) (v : Value) (w : World)
    (hv : SlP 4 RdE w v l) (hp : PredC Tryz.prog g lb RdE p l w) :
    Calls Tryz.prog 60 #[v, .func (.func g) #[] lb] w (Gives w (.int .i64 (idx p l 0))) := by
  obtain ⟨q, cap, rfl, hlc, hcap, _, hcells⟩ := hv
  go_enter Tryz.func60, Tryz.ntmps60
  go_wp2
  go_loopw [8, 5] (fun i _ wr => ∃ k : Nat, k ≤ l.length ∧ i = .int .i64 k ∧ Below w.heap.size w wr ∧ idx p l 0 = idx p (l.drop k) k) (fun i _ _ => l.length - (intOf i).toNat)
  case atStart => exact ⟨0, Nat.zero_le _, rfl, Below.refl _ _, rfl⟩
  case round =>
    obtain ⟨k, hk, rfl, hb, hx⟩ := hrel
    have Hx := Lib.hid hx
    clear hx
    by_cases hlt : k < l.length
    · obtain ⟨b, off, cs, rfl, hcs, he, hc⟩ := hcells k hlt
      match cs, hcs with
      | [c0, c1, c2, c3], _ =>
      have d0 := bcell hb (hc 0 (by simp))
      have d1 := bcell hb (hc 1 (by simp))
      have d2 := bcell hb (hc 2 (by simp))
      have d3 := bcell hb (hc 3 (by simp))
      simp only [List.getElem_cons_zero, List.getElem_cons_succ, Nat.add_zero] at d0 d1 d2 d3
      have hcall := hp l[k] (List.getElem_mem hlt) wr _ hb (RdE.mono.mono hb he)
      cases hpx : p l[k] with
      | false =>
        rw [hpx] at hcall
        have Hpx := Lib.hid hpx
        clear hpx hcells he hc hp
        go_wp2_with (refine hcall.mono ?_; rintro e w1 ⟨rfl, hb1⟩)
        go_roundw
        case rel => exact ⟨k + 1, hlt, by go_num, hb.trans (hb1.mono hb.size), by rw [Hx.out, idx_drop p l k hlt, Hpx.out]; rfl⟩
        case measure => simp [intOf]; omega
      | true =>
        rw [hpx] at hcall
        have Hpx := Lib.hid hpx
        clear hpx hcells he hc hp
        go_wp2_with (refine hcall.mono ?_; rintro e w1 ⟨rfl, hb1⟩)
        go_ret
        exact ⟨by rw [Hx.out, idx_drop p l k hlt, Hpx.out]; rfl, hb.trans (hb1.mono hb.size)⟩
    · have : k = l.length := by omega
      subst this
      go_wp2
      go_ret
      exact ⟨by rw [Hx.out]; simp [idx], hb⟩

theorem containsFunc_read (g : Nat) (lb : Array Value) (eg : ∀ args w, (callFunc g args).run Tryz.prog w = .ok (.enter g args) w) (p : Rd → Bool) (l : List Rd) (v : Value) (w : World)
    (hv : SlP 4 RdE w v l) (hp : PredC Tryz.prog g lb RdE p l w) :
    Calls Tryz.prog 40 #[v, .func (.func g) #[] lb] w (Gives w (.bool (l.any p))) := by
  go_enter Tryz.func40, Tryz.ntmps40
  have h := indexFunc_read g lb eg p l v w hv hp
  have hi := idx_any p l
  generalize idx p l 0 = r at h hi
  generalize l.any p = q at hi ⊢
  have Hi := Lib.hid hi
  clear hi eg hv hp
  go_wp2_with (refine h.mono ?_; rintro e w1 ⟨rfl, hb1⟩)
  go_ret
  exact ⟨by rw [← Hi.out]; rfl, hb1⟩

set_option maxHeartbeats 400000 in
theorem indexFunc_record (g : Nat) (lb : Array Value) (eg : ∀ args w, (callFunc g args).run Tryz.prog w = .ok (.enter g args) w) (p : Rec → Bool) (l : List Rec) (v : Value) (w : World)
    (hv : SlP 5 RecE w v l) (hp : PredC Tryz.prog g lb RecE p l w) :
    Calls Tryz.prog 50 #[v, .func (.func g) #[] lb] w (Gives w (.int .i64 (idx p l 0))) := by
  obtain ⟨q, cap, rfl, hlc, hcap, _, hcells⟩ := hv
  go_enter Tryz.func50, Tryz.ntmps50
  go_wp2
  go_loopw [8, 5] (fun i _ wr => ∃ k : Nat, k ≤ l.length ∧ i = .int .i64 k ∧ Below w.heap.size w wr ∧ idx p l 0 = idx p (l.drop k) k) (fun i _ _ => l.length - (intOf i).toNat)
  case atStart => exact ⟨0, Nat.zero_le _, rfl, Below.refl _ _, rfl⟩
  case round =>
    obtain ⟨k, hk, rfl, hb, hx⟩ := hrel
    have Hx := Lib.hid hx
    clear hx
    by_cases hlt : k < l.length
    · obtain ⟨b, off, cs, rfl, hcs, he, hc⟩ := hcells k hlt
      match cs, hcs with
      | [c0, c1, c2, c3, c4], _ =>
      have d0 := bcell hb (hc 0 (by simp))
      have d1 := bcell hb (hc 1 (by simp))
      have d2 := bcell hb (hc 2 (by simp))
      have d3 := bcell hb (hc 3 (by simp))
      have d4 := bcell hb (hc 4 (by simp))
      simp only [List.getElem_cons_zero, List.getElem_cons_succ, Nat.add_zero] at d0 d1 d2 d3 d4
      have hcall := hp l[k] (List.getElem_mem hlt) wr _ hb (RecE.mono.mono hb he)
      cases hpx : p l[k] with
      | false =>
        rw [hpx] at hcall
        have Hpx := Lib.hid hpx
        clear hpx hcells he hc hp
        go_wp2_with (refine hcall.mono ?_; rintro e w1 ⟨rfl, hb1⟩)
        go_roundw
        case rel => exact ⟨k + 1, hlt, by go_num, hb.trans (hb1.mono hb.size), by rw [Hx.out, idx_drop p l k hlt, Hpx.out]; rfl⟩
        case measure => simp [intOf]; omega
      | true =>
        rw [hpx] at hcall
        have Hpx := Lib.hid hpx
        clear hpx hcells he hc hp
        go_wp2_with (refine hcall.mono ?_; rintro e w1 ⟨rfl, hb1⟩)
        go_ret
        exact ⟨by rw [Hx.out, idx_drop p l k hlt, Hpx.out]; rfl, hb.trans (hb1.mono hb.size)⟩
    · have : k = l.length := by omega
      subst this
      go_wp2
      go_ret
      exact ⟨by rw [Hx.out]; simp [idx], hb⟩

theorem containsFunc_record (g : Nat) (lb : Array Value) (eg : ∀ args w, (callFunc g args).run Tryz.prog w = .ok (.enter g args) w) (p : Rec → Bool) (l : List Rec) (v : Value) (w : World)
    (hv : SlP 5 RecE w v l) (hp : PredC Tryz.prog g lb RecE p l w) :
    Calls Tryz.prog 30 #[v, .func (.func g) #[] lb] w (Gives w (.bool (l.any p))) := by
  go_enter Tryz.func30, Tryz.ntmps30
  have h := indexFunc_record g lb eg p l v w hv hp
  have hi := idx_any p l
  generalize idx p l 0 = r at h hi
  generalize l.any p = q at hi ⊢
  have Hi := Lib.hid hi
  clear hi eg hv hp
  go_wp2_with (refine h.mono ?_; rintro e w1 ⟨rfl, hb1⟩)
  go_ret
  exact ⟨by rw [← Hi.out]; rfl, hb1⟩

end Go.Proofs.YtgmcpfcpdmnebaaGreat
