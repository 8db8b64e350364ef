/- The law AuditSerial: the walk. -/
import Derived.Test.YthfndicmkdmkfaaLight
import Derived.Test.YthfndicmkdmkfaaSerP
import Derived.Test.YthfndicmkdmkfaaRows2
import Derived.Test.YthfndicmkdmkfaaLives
import Derived.Outline
namespace Go.Proofs.Ythfndicmkdmkfaa
open Go.RowKit Go.Proofs Go.Shelf

theorem recElt : Elt Try.prog 30 5 72 := by
  have h : (Try.prog.info? 30).map (fun i => (i.zero, i.size, i.bytes)) = some (some (.agg #[.int .i64 0, .int .i64 0, .bool false, .slice none 0 0, .slice none 0 0]), 5, 72) := by kernel_rfl
  obtain ⟨i0, hi, hz0, hz1, hz2⟩ := info_parts h
  exact ⟨⟨i0, _, hi, hz0, hz1, hz2, rfl⟩, by decide⟩

theorem recOne : ∀ w cs x, RecE w cs x → ∀ u ∈ cs, u.oneCell' = true := by
  rintro w cs x ⟨rv, wv, rfl, -, -, ⟨p, c, rfl, -⟩, ⟨p', c', rfl, -⟩⟩ u hu
  simp only [List.mem_cons, List.not_mem_nil, or_false] at hu
  rcases hu with rfl | rfl | rfl | rfl | rfl <;> rfl

def strictR (r : Rec) : Rec := { r with strict := true }
theorem strict_rec {w : World} {cs : List Value} {r : Rec} (h : RecE w cs r) : RecE w (cs.set 2 (.bool true)) (strictR r) := by
  obtain ⟨rv, wv, rfl, h1, h2, h3, h4⟩ := h
  exact ⟨rv, wv, rfl, h1, h2, h3, h4⟩

set_option maxRecDepth 100000 in
set_option maxHeartbeats 4000000 in
theorem serial_law (l : List Rec) (v : Value) (w : World) (hv : SlP 5 RecE w v l) : Calls Try.prog 4 #[v] w (Gives w (.bool true)) := by
  have hlight := light_law l v w hv
  have hlv := lives_any
  have Hv := Lib.hid hv
  obtain ⟨q, cap, rfl, hlc, hcap, -, -⟩ := hv
  go_enter Try.func4, Try.ntmps4
  go_upto_region 3 with (first
    | (go_at_call 8; refine hlight.mono ?_; rintro e w1 ⟨b, rfl, hfew, hb1⟩)
    | (go_at_call 5; refine (hlv _).mono ?_; rintro e w2 ⟨rfl, hb2⟩)
    | fail)
  all_goals first
    | (go_ret; exact ⟨rfl, below_trans hb1 hb2⟩)
    | skip
  have hb : (!b) = false := by assumption
  have hfew' := hfew (by cases b <;> simp_all)
  have h25 := hfew'.1
  clear hfew hb hlight
  obtain ⟨css, hcl, hck, hcE, hsrc⟩ := src_rows (P := Try.prog) (tx := 31) Try.underlying31 recOne (by decide) Hv.out (below_trans hb1 (below_new w1 (.cells #[] 30)))
  go_wp2_with (at_builtin; refine wpList_app (v := .slice (some ⟨w1.heap.size, 0, none⟩) 0 0) rfl _ _ 31 31 rfl w1.heap.size 30 5 72 recElt Try.underlying31 0 [] rfl (OwnR.made w1 w1.heap.size 30 5 (Nat.le_refl _)).row rfl _ _ hsrc (by unfold maxLen; omega) (by omega) (by simp) ?_; intro v' w3 hown3 hg3 _; have ho : OwnR w3 w1.heap.size 30 5 v' css := ⟨by simpa [hcl] using hown3, hck⟩; obtain ⟨p3, cap3, rfl, hp4, hp3⟩ := ho.form; have hcl' := hcl; rw [hcl] at hp3 hp4 ho; rw [hcl])
  have hb3 : Below w.heap.size w w3 := grown_below (below_alloc hb1 _) hg3 (by simp; have := hb1.size; omega) (by simp [Value.ownBlock]; exact hb1.size)
  have hw1 : w.heap.size ≤ w1.heap.size := hb1.size
  clear hown3 hg3 hsrc hcl
  go_loopw [17] (fun i wr => ∃ (k : Nat) (cs : List (List Value)), k ≤ l.length ∧ i = .int .i64 k ∧ Hid (cs.length = l.length) ∧ OwnR wr w1.heap.size 30 5 (.slice p3 l.length cap3) cs ∧
    Hid (∀ j (h1 : j < cs.length) (h2 : j < l.length), RecE w cs[j] (if j < k then strictR l[j] else l[j])) ∧ Below w.heap.size w wr) (fun i _ => l.length - (intOf i).toNat)
  case atStart => exact ⟨0, css, Nat.zero_le _, rfl, Lib.hid hcl', ho, Lib.hid (fun j h1 h2 => by simpa using hcE j h1 h2), hb3⟩
  case round =>
    obtain ⟨k, cs, hk, rfl, hcl, ho, hE, hb⟩ := hrel
    by_cases hlt : k < l.length
    · obtain ⟨g, rfl, hg1, hg2⟩ := hp3 (by omega)
      have hkc : k < cs.length := by rw [hcl.out]; exact hlt
      have hl5 : cs[k].length = 5 := ho.len _ (List.getElem_mem hkc)
      have hcell := ho.cell k 2 hkc (by omega)
      have hfr := ho.frozen (k * 5 + 2)
      generalize cs[k][2] = u at *
      have n0 : (0 : Int) ≤ (k : Int) := by omega
      have n1 : (k : Int) < (l.length : Int) := by omega
      clear hcE
      go_wp2_with fail
      go_roundw
      case rel =>
        refine ⟨k + 1, cs.set k (cs[k].set 2 (.bool true)), hlt, by go_num, Lib.hid (by rw [List.length_set]; exact hcl.out), ho.stored k 2 hkc (by omega) _, Lib.hid fun j h1 h2 => ?_, hb.setCell (by show w.heap.size ≤ g; omega) _⟩
        rw [List.getElem_set]
        have hEk := hE.out k hkc hlt
        rw [if_neg (Nat.lt_irrefl k)] at hEk
        by_cases hjk : k = j
        · subst hjk
          rw [if_pos rfl, if_pos (by omega)]
          exact strict_rec hEk
        · rw [if_neg hjk]
          have := hE.out j (by rwa [List.length_set] at h1) h2
          by_cases hj2 : j < k
          · rw [if_pos hj2] at this; rw [if_pos (by omega)]; exact this
          · rw [if_neg hj2] at this; rw [if_neg (by omega)]; exact this
      case measure => simp [intOf]; omega
    · have hke : k = l.length := by omega
      subst hke
      have hs1 : SlP 5 RecE wr (.slice p3 l.length cap3) (l.map strictR) := ho.slp (by rw [List.length_map]; exact hcl.out) (by rw [List.length_map]; omega) fun j h1 h2 => by
        have h3 : j < l.length := by simpa using h2
        have := hE.out j h1 h3
        rw [if_pos h3] at this
        rw [List.getElem_map]
        exact RecE.mono.mono hb this
      have hs0 := Hv.out.mono RecE.mono hb
      clear hE ho hcl hp3 hcE
      go_wp2_with fail
      obtain ⟨wo, hwo⟩ : ∃ wo : World, wo = wr := ⟨_, rfl⟩
      subst hwo
      have hFew1 : writesN (l.map strictR) ≤ 1000000 := by
        have e : writesN (l.map strictR) = writesN l := by unfold writesN; rw [List.map_map]; rfl
        rw [e]; exact hfew'.writes
      have hFew0 := hfew'.writes
      have hbn := below_new wo (.cells #[.slice q l.length cap, .slice p3 l.length cap3] 31)
      have hcells : ∀ k, k < 2 → ∃ xv L, (wo.alloc (.cells #[.slice q l.length cap, .slice p3 l.length cap3] 31)).cell? ⟨wo.heap.size, k, none⟩ = some xv ∧ SlP 5 RecE wo xv L ∧ writesN L ≤ 1000000 := by
        intro k hk
        match k, hk with
        | 0, _ => exact ⟨_, l, by simp, hs0, hFew0⟩
        | 1, _ => exact ⟨_, l.map strictR, by simp, hs1, hFew1⟩
      clear hs1 hs0 hFew0 hFew1
      go_loopw [29] (fun i wr2 => ∃ k : Nat, k ≤ 2 ∧ i = .int .i64 k ∧ Below (wo.heap.size + 1) (wo.alloc (.cells #[.slice q l.length cap, .slice p3 l.length cap3] 31)) wr2) (fun i _ => 2 - (intOf i).toNat)
      case atStart => exact ⟨0, by omega, rfl, Below.refl _ _⟩
      case round =>
        obtain ⟨k, hk, rfl, hb2⟩ := hrel
        have hb3 : Below wo.heap.size wo wr := below_trans hbn (hb2.mono (by simp))
        by_cases hlt : k < 2
        · obtain ⟨xv, L, hxc, hxs, hxN⟩ := hcells k hlt
          have hxc' : wr.cell? ⟨wo.heap.size, k, none⟩ = some xv := (hb2.cell (p := ⟨wo.heap.size, k, none⟩) (by simp)).trans hxc
          have hbW : Below w.heap.size w wr := below_trans hb hb3
          replace hxs := hxs.mono RecE.mono hb3
          have Hb2 : Hid (∀ {W : World}, Below wr.heap.size wr W → Below (wo.heap.size + 1) (wo.alloc (.cells #[.slice q l.length cap, .slice p3 l.length cap3] 31)) W) := Lib.hid fun h => hb2.trans (h.mono (by have := hb2.size; simpa using this))
          clear hcells hxc hb2 hbn
          go_upto_region 12 with fail
          have hfirst := fun W hb => first_any L xv W (hxs.mono RecE.mono (w' := W) hb) hxN
          have hstrict := fun W hb => strict_any L xv W (hxs.mono RecE.mono (w' := W) hb)
          have hser := fun W hb (j : Nat) => serial_any L xv (j : Int) W (hxs.mono RecE.mono (w' := W) hb) hxN
          by_cases hF : firstS L = -1
          · rw [hF] at hfirst
            cases hS : strictS L with
            | false =>
              rw [hS] at hstrict
              clear hF hS hser hxs
              go_wp2_with (first
                | (go_at_call 9; refine (hfirst _ (Below.refl _ _)).mono ?_; rintro e w4 ⟨rfl, hb4⟩)
                | (go_at_call 10; refine (hstrict _ hb4).mono ?_; rintro e w5 ⟨rfl, hb5⟩)
                | fail)
              go_roundw
              case rel => exact ⟨k + 1, hlt, by go_num, Hb2.out (below_trans hb4 hb5)⟩
              case measure => simp [intOf]; omega
            | true =>
              rw [hS] at hstrict
              have hall : ∀ j : Nat, j < L.length → serialS L (j : Int) = true := fun j hj => legal_serial hS j hj (first_all hF j hj)
              have Hall := Lib.hid hall
              clear hF hS hall
              obtain ⟨q5, cap5, rfl, hc5, hl5, -, -⟩ := hxs
              go_wp2_with (first
                | (go_at_call 9; refine (hfirst _ (Below.refl _ _)).mono ?_; rintro e w4 ⟨rfl, hb4⟩)
                | (go_at_call 10; refine (hstrict _ hb4).mono ?_; rintro e w5 ⟨rfl, hb5⟩)
                | fail)
              have hb6 := below_trans hb4 hb5
              clear hfirst hstrict hb4 hb5
              obtain ⟨w6, hw6⟩ : ∃ w6 : World, w6 = w5 := ⟨_, rfl⟩
              subst hw6
              go_loopw [43] (fun i wr2 => ∃ j : Nat, j ≤ L.length ∧ i = .int .i64 j ∧ Below w6.heap.size w6 wr2) (fun i _ => L.length - (intOf i).toNat)
              case atStart => exact ⟨0, by omega, rfl, Below.refl _ _⟩
              case round =>
                obtain ⟨j, hj, rfl, hb7⟩ := hrel
                have hb8 := below_trans hb6 hb7
                by_cases hlt2 : j < L.length
                · have hser' := fun W hb => hser W hb j
                  rw [Hall.out j hlt2] at hser'
                  clear hser
                  go_wp2_with (go_at_call 7; refine (hser' _ hb8).mono ?_; rintro e w7 ⟨rfl, hb9⟩)
                  go_roundw
                  case rel => exact ⟨j + 1, hlt2, by go_num, below_trans hb7 hb9⟩
                  case measure => simp [intOf]; omega
                · have hje : j = L.length := by omega
                  subst hje
                  clear hser
                  go_wp2_with fail
                  go_roundw
                  case rel => exact ⟨k + 1, hlt, by go_num, Hb2.out hb8⟩
                  case measure => simp [intOf]; omega
          · generalize firstS L = F at *
            have hF' : decide (F = -1) = false := by simpa using hF
            clear hser hxs
            go_wp2_with (first
              | (go_at_call 9; refine (hfirst _ (Below.refl _ _)).mono ?_; rintro e w4 ⟨rfl, hb4⟩)
              | fail)
            go_roundw
            case rel => exact ⟨k + 1, hlt, by go_num, Hb2.out hb4⟩
            case measure => simp [intOf]; omega
        · have : k = 2 := by omega
          subst this
          clear hcells hbn
          go_wp2_with (go_at_call 5; refine (hlv _).mono ?_; rintro e w2 ⟨rfl, hb2⟩)
          go_ret
          exact ⟨rfl, below_trans (below_trans hb hb3) hb2⟩

end Go.Proofs.Ythfndicmkdmkfaa
