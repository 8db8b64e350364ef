/- Package audit: which records are serial, the first that is not legal, and strict ones. -/
import Derived.Test.YtgmcpfcpdmnebaaGreatLegal
namespace Go.Proofs.YtgmcpfcpdmnebaaGreat
open Go.RowKit Go.Proofs Go.Shelf

noncomputable def serialAt (l : List Rec) (k : Nat) (r : Rec) : Bool := behindOK (l.take k) && bearsS (stateS (l.take k)) r
noncomputable def serialS (l : List Rec) (i : Int) : Bool := if h : 0 ≤ i ∧ i.toNat < l.length then serialAt l i.toNat l[i.toNat] else false

set_option maxRecDepth 100000 in
set_option maxHeartbeats 2000000 in
theorem serial_in (l : List Rec) (v : Value) (k : Nat) (hk : k < l.length) (w : World) (hv : SlP 5 RecE w v l) (hN : writesN l ≤ 1000000) : Calls Tryz.prog 13 #[v, .int .i64 k] w (Gives w (.bool (serialAt l k l[k]))) := by
  obtain ⟨q, cap, rfl, hlc, hcap, -, hcells⟩ := hv.recsAt
  obtain ⟨b, off, rq, rc, wq, wc, rfl, he, hrd, hw, c0, c1, c2, c3, c4⟩ := hcells k hk
  have hq : serialAt l k l[k] = (behindOK (l.take k) && bearsS (stateS (l.take k)) l[k]) := rfl
  have hvt := hv.take k (Nat.le_of_lt hk)
  generalize serialAt l k l[k] = Q at hq ⊢
  generalize l[k] = r at *
  clear hcells
  have hkcap : ¬ (cap = 0) := by omega
  have n0 : (0 : Int) ≤ (k : Int) := by omega
  have n1 : (k : Int) < (l.length : Int) := by omega
  cases hok : behindOK (l.take k) with
  | false =>
    have hbeh := fun W hb => behind_no _ _ W (hvt.mono RecE.mono (w' := W) hb) (Nat.le_trans (writesN_take l k) hN) hok
    rw [hok] at hq
    have Hq := Lib.hid hq
    clear hq hrd hw he hv hvt hok
    go_enter Tryz.func13, Tryz.ntmps13
    go_wp2_with (first
      | (go_at_call 18; refine (hbeh _ (Below.refl _ _)).mono ?_; rintro e w2 ⟨rfl, hb2⟩)
      | fail)
    go_ret
    exact ⟨by rw [Hq.out]; rfl, hb2⟩
  | true =>
    have hbeh := fun W hb => behind_yes _ _ W (hvt.mono RecE.mono (w' := W) hb) (Nat.le_trans (writesN_take l k) hN) hok
    have hbears := fun b2 m2 W hst hb => bears_any b2 m2 (stateS (l.take k)) _ _ W hst (RecE.mono.mono (w' := W) hb he)
    rw [hok] at hq
    generalize bearsS (stateS (l.take k)) r = B at *
    generalize stateS (l.take k) = F at *
    have Hq := Lib.hid hq
    clear hq hrd hw he hv hvt hok
    go_enter Tryz.func13, Tryz.ntmps13
    go_wp2_with (first
      | (go_at_call 18; refine (hbeh _ (Below.refl _ _)).mono ?_; clear hbeh; rintro e w2 ⟨b2, m2, rfl, hst2, hb2⟩; replace c0 := bcell hb2 c0; replace c1 := bcell hb2 c1; replace c2 := bcell hb2 c2; replace c3 := bcell hb2 c3; replace c4 := bcell hb2 c4)
      | (go_at_call 25; refine (hbears b2 m2 _ hst2 hb2).mono ?_; rintro e w3 ⟨rfl, hb3⟩)
      | fail)
    go_ret
    exact ⟨by rw [Hq.out]; rfl, below_trans hb2 hb3⟩

set_option maxRecDepth 100000 in
/-- Serial -/
theorem serial_any (l : List Rec) (v : Value) (i : Int) (w : World) (hv : SlP 5 RecE w v l) (hN : writesN l ≤ 1000000) : Calls Tryz.prog 13 #[v, .int .i64 i] w (Gives w (.bool (serialS l i))) := by
  by_cases h : 0 ≤ i ∧ i.toNat < l.length
  · obtain ⟨k, rfl⟩ : ∃ k : Nat, i = (k : Int) := ⟨i.toNat, by omega⟩
    have h1 := h.2
    rw [Int.toNat_natCast] at h1
    have := serial_in l v k h1 w hv hN
    have e : serialS l (k : Int) = serialAt l k l[k] := by unfold serialS; rw [dif_pos h]; simp
    rw [e]; exact this
  · have e : serialS l i = false := by unfold serialS; rw [dif_neg h]
    rw [e]
    obtain ⟨q, cap, rfl, -, -, -, -⟩ := hv
    clear e hN
    by_cases h0 : i < 0
    · clear h
      go_enter Tryz.func13, Tryz.ntmps13
      go_wp2_with fail
      go_ret
      exact ⟨rfl, Below.refl _ _⟩
    · have h1 : (l.length : Int) ≤ i := by omega
      clear h
      go_enter Tryz.func13, Tryz.ntmps13
      go_wp2_with fail
      go_ret
      exact ⟨rfl, Below.refl _ _⟩

noncomputable def firstS (l : List Rec) : Int := match (List.range l.length).find? (fun k : Nat => !legalS l (k : Int)) with | some k => (k : Int) | none => -1

theorem firstS_none {l : List Rec} (h : ∀ j, j < l.length → legalS l (j : Int) = true) : firstS l = -1 := by
  unfold firstS
  have e : (List.range l.length).find? (fun k : Nat => !legalS l (k : Int)) = none := by
    rw [List.find?_eq_none]
    intro j hj
    rw [h j (List.mem_range.1 hj)]; decide
  rw [e]

theorem firstS_some {l : List Rec} (k : Nat) (hk : k < l.length) (h : ∀ j, j < k → legalS l (j : Int) = true) (hn : legalS l (k : Int) = false) : firstS l = k := by
  unfold firstS
  have e : (List.range l.length).find? (fun k : Nat => !legalS l (k : Int)) = some k := by
    rw [List.find?_range_eq_some]
    exact ⟨by rw [hn]; rfl, List.mem_range.2 hk, fun j hj => by rw [h j hj]; rfl⟩
  rw [e]

set_option maxRecDepth 100000 in
set_option maxHeartbeats 1000000 in
/-- First -/
theorem first_any (l : List Rec) (v : Value) (w : World) (hv : SlP 5 RecE w v l) (hN : writesN l ≤ 1000000) : Calls Tryz.prog 11 #[v] w (Gives w (.int .i64 (firstS l))) := by
  have hcall := fun W (hb : Below w.heap.size w W) (i : Int) => legal_any l v i W (hv.mono RecE.mono hb) hN
  have hnone := @firstS_none l
  have hsome := @firstS_some l
  obtain ⟨q, cap, rfl, hlc, hcap, -, -⟩ := hv
  generalize firstS l = Q at *
  have Hn := Lib.hid hnone
  have Hs := Lib.hid hsome
  clear hnone hsome
  go_enter Tryz.func11, Tryz.ntmps11
  go_wp2_with fail
  go_loopg [6] l.length (fun n i wr => ∃ k : Nat, k ≤ l.length ∧ n + k = l.length ∧ i = .int .i64 k ∧ Below w.heap.size w wr ∧ ∀ j : Nat, j < k → legalS l (j : Int) = true)
  case atStart => exact ⟨0, Nat.zero_le _, rfl, rfl, Below.refl _ _, fun j hj => by omega⟩
  case round =>
    obtain ⟨k, hk, hgk, rfl, hb, hall⟩ := hrel
    by_cases hlt : k < l.length
    · replace hcall := hcall wr hb k
      cases hg : legalS l (k : Int) with
      | false =>
        have Hr := Lib.hid (Hs.out k hlt hall hg)
        rw [hg] at hcall
        clear hall hg
        go_wp2_with (first
          | (go_at_call 9; refine hcall.mono ?_; rintro e w1 ⟨rfl, hb1⟩)
          | fail)
        go_ret
        exact ⟨by rw [Hr.out]; rfl, below_trans hb hb1⟩
      | true =>
        rw [hg] at hcall
        have hall' : ∀ j : Nat, j < k + 1 → legalS l (j : Int) = true := fun j hj => by
          rcases Nat.lt_succ_iff_lt_or_eq.1 hj with h | h
          · exact hall j h
          · rw [h]; exact hg
        have Hr := Lib.hid hall'
        clear hall hg hall'
        go_wp2_with (first
          | (go_at_call 9; refine hcall.mono ?_; rintro e w1 ⟨rfl, hb1⟩)
          | fail)
        go_roundg (l.length - (k + 1))
        case measure => omega
        case rel => exact ⟨k + 1, hlt, by omega, rfl, below_trans hb hb1, Hr.out⟩
    · have hke : k = l.length := by omega
      subst hke
      have Hr := Lib.hid (Hn.out hall)
      clear hall hcall
      go_wp2_with fail
      go_ret
      exact ⟨by rw [Hr.out]; rfl, hb⟩

def strictS (l : List Rec) : Bool := !(l.any fun r => !r.strict)

theorem strict1 (r : Rec) (cs : List Value) (w : World) (hr : RecE w cs r) : Calls Tryz.prog 31 #[.agg cs.toArray] w (Gives w (.bool (!r.strict))) := by
  obtain ⟨rv, wv, rfl, -, -, -, -⟩ := hr
  go_enter Tryz.func31, Tryz.ntmps31
  go_wp2_with fail
  go_ret
  exact ⟨rfl, below_new _ _⟩

/-- Strict -/
theorem strict_any (l : List Rec) (v : Value) (w : World) (hv : SlP 5 RecE w v l) : Calls Tryz.prog 15 #[v] w (Gives w (.bool (strictS l))) := by
  have eg : ∀ args w, (callFunc 31 args).run Tryz.prog w = .ok (.enter 31 args) w := enters_of Tryz.func31 (by kernel_rfl) rfl
  have hcall := containsFunc_record 31 #[] eg (fun r => !r.strict) l v w hv (fun r _ W cs' hb he => strict1 r cs' W he)
  change Calls _ _ _ _ _ at hcall
  have hq : strictS l = !(l.any fun r => !r.strict) := rfl
  generalize (l.any fun r => !r.strict) = q at hcall hq
  rw [hq]
  clear hq
  go_enter Tryz.func15, Tryz.ntmps15
  go_wp2_with (refine hcall.mono ?_; rintro e w1 ⟨rfl, hb1⟩)
  go_ret
  exact ⟨rfl, hb1⟩

end Go.Proofs.YtgmcpfcpdmnebaaGreat
