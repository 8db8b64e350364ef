/- The references of layers 16 and 19: Good; what reads tell. -/
import Derived.Test.YtgmcpfcpdmnebaaGreatRefG
import Derived.Test.YtgmcpfcpdmnebaaGreatGood
import Derived.Test.YtgmcpfcpdmnebaaGreatAud3
namespace Go.Proofs.YtgmcpfcpdmnebaaGreat
open Go.RowKit Go.Proofs Go.Shelf

set_option maxRecDepth 100000 in
set_option maxHeartbeats 1000000 in
/-- Good -/
theorem rrecGood_any (r : Rec) (cs : List Value) (w : World) (hr : RecE w cs r) : Calls Tryz.prog 27 #[.agg cs.toArray] w (Gives w (.bool (recGoodS r))) := by
  have hE := hr
  obtain ⟨rv, wv, rfl, -, -, -, -⟩ := hr
  have hright := fun W hb => rright_any r _ W (RecE.mono.mono (w' := W) hb hE)
  have hwritten := fun hs W hb => rbytes_any r _ W (RecE.mono.mono (w' := W) hb hE) hs
  have hq : recGoodS r = (rightS r && decide ((bytesS r).length ≤ 8192)) := rfl
  have hlen := fun h : rightS r = true => bytesS_length (rightS_small h)
  generalize recGoodS r = q at hq ⊢
  cases hb : rightS r with
  | false =>
    rw [hb] at hright hq
    have Hq := Lib.hid hq
    clear hq hE hwritten hlen hb
    go_enter Tryz.func27, Tryz.ntmps27
    go_wp2_with (first
      | (go_at_call 45; refine (hright _ (below_new _ _)).mono ?_; rintro e w1 ⟨rfl, hb1⟩)
      | fail)
    go_ret
    exact ⟨by rw [Hq.out]; rfl, below_trans (below_new _ _) hb1⟩
  | true =>
    have hlen := hlen hb
    replace hwritten := hwritten (rightS_small hb)
    rw [hb] at hright hq
    generalize bytesS r = bs at *
    have Hq := Lib.hid hq
    clear hq hE hb
    by_cases hle : (bs.length : Int) ≤ 8192
    all_goals
      go_enter Tryz.func27, Tryz.ntmps27
      go_wp2_with (first
        | (go_at_call 45; refine (hright _ (below_new _ _)).mono ?_; rintro e w1 ⟨rfl, hb1⟩; have c0 := bcell hb1 (a := ⟨w.heap.size, 0, none⟩) (v := .int .i64 r.session) (by simp); have c1 := bcell hb1 (a := ⟨w.heap.size, 1, none⟩) (v := .int .i64 r.snap) (by simp); have c2 := bcell hb1 (a := ⟨w.heap.size, 2, none⟩) (v := .bool r.strict) (by simp); have c3 := bcell hb1 (a := ⟨w.heap.size, 3, none⟩) (v := rv) (by simp); have c4 := bcell hb1 (a := ⟨w.heap.size, 4, none⟩) (v := wv) (by simp))
        | (go_at_call 46; refine (hwritten _ (below_trans (below_new _ _) hb1)).mono ?_; rintro e w2 ⟨v2, rfl, hown2, hb2⟩; obtain ⟨qx, cx, rfl, hx1, hx2, -⟩ := hown2.at (by omega))
        | fail)
      go_ret
      exact ⟨by rw [Hq.out]; simp; omega, below_trans (below_trans (below_new _ _) hb1) hb2⟩


theorem isPairs_filter {f : St} {s : List Pair} (h : IsPairs f (fun _ => true) s) (x : Rd) : IsPairs f (soS x) (s.filter fun p => soS x p.key) := by
  refine ⟨fun y => ?_, ?_, ?_⟩
  · rw [List.mem_filter, h.mem]; simp [and_assoc]
  · have hp := h.pairwise
    have h2 := hp.filter (fun p => soS x p.key)
    intro i j hij hj hi
    rw [List.pairwise_iff_getElem] at h2
    exact ltB_asymm (h2 i j hi hj hij)
  · exact (List.filter_sublist.map _).nodup h.nodup

theorem take_filter_succ {α : Type} (p : α → Bool) (l : List α) (k : Nat) (hk : k < l.length) : (l.take (k + 1)).filter p = (l.take k).filter p ++ (if p l[k] then [l[k]] else []) := by
  rw [List.take_succ_eq_append_getElem hk, List.filter_append]
  congr 1
  simp [List.filter_cons]

theorem src_pair' (w1 : World) (x : Pair) : Src Tryz.prog 3 26 (.slice (some ⟨w1.heap.size, 0, none⟩) 1 1) 1 (pairCells x) (w1.alloc (.cells #[.string x.key, .string x.val, .bool x.dead] 35)) :=
  Src.ofSlice _ Tryz.underlying26 _ _ _ _ rfl (fun j u hj => by
    rw [Addr.add_lit, Nat.zero_add, World.cell?_alloc_at _ _ _ _ rfl]
    match j, hj with
    | 0, hj => exact hj
    | 1, hj => exact hj
    | 2, hj => exact hj) (fun u hu => by simp [pairCells] at hu; rcases hu with rfl | rfl | rfl <;> rfl)

set_option maxRecDepth 100000 in
set_option maxHeartbeats 4000000 in
theorem rtells_any (s : List Pair) (sv : Value) (f : St) (x : Rd) (cs : List Value) (w : World) (hs : SlP 3 PairE w sv s) (hf : IsPairs f (fun _ => true) s) (hn : s.length ≤ 1000000) (hx : RdE w cs x) :
    Calls Tryz.prog 47 #[sv, .agg cs.toArray] w (Gives w (.bool (tellsS f x))) := by
  obtain ⟨pv, rfl, hxk, hxt, hpv⟩ := hx
  have Hte := Lib.hid (tellsS_eq (isPairs_filter hf x))
  obtain ⟨q, cap, rfl, hsc, hsl, hcells⟩ := hs.pairs
  have hsm : ∀ p ∈ s, p.key.size ≤ 9223372036854775807 ∧ p.val.size ≤ 9223372036854775807 := fun p hp => by
    obtain ⟨j, hj, rfl⟩ := List.getElem_of_mem hp
    obtain ⟨_, _, _, h, _⟩ := hcells j hj
    exact h
  have Hsm := Lib.hid hsm
  have Hpv := Lib.hid hpv
  clear hsm hf hs hpv
  go_enter Tryz.func47, Tryz.ntmps47
  go_wp2_with fail
  generalize hB0 : w.alloc (.cells #[.bool x.scan, .string x.key, .string x.to, pv] 37) = W0
  have hW : Below w.heap.size w W0 := by rw [← hB0]; exact below_new _ _
  have d0 : W0.cell? ⟨w.heap.size, 0, none⟩ = some (.bool x.scan) := by rw [← hB0]; simp
  have d1 : W0.cell? ⟨w.heap.size, 1, none⟩ = some (.string x.key) := by rw [← hB0]; simp
  have d2 : W0.cell? ⟨w.heap.size, 2, none⟩ = some (.string x.to) := by rw [← hB0]; simp
  have d3 : W0.cell? ⟨w.heap.size, 3, none⟩ = some pv := by rw [← hB0]; simp
  clear hB0
  go_loopw [5, 10] (fun l i wr => ∃ k : Nat, k ≤ s.length ∧ i = .int .i64 k ∧ OwnP wr W0.heap.size l ((s.take k).filter fun p => soS x p.key) ∧ Below W0.heap.size W0 wr) (fun _ i _ => s.length - (intOf i).toNat)
  case atStart => exact ⟨0, Nat.zero_le _, rfl, World.ownsRow_nil _ _ _ _, Below.refl _ _⟩
  case round =>
    obtain ⟨k, hk, rfl, hown, hb⟩ := hrel
    have hbr := below_trans hW hb
    replace d0 := bcell hb d0
    replace d1 := bcell hb d1
    replace d2 := bcell hb d2
    replace d3 := bcell hb d3
    have l0 := World.block_lt_of_cell? _ _ d0
    by_cases hlt : k < s.length
    · obtain ⟨b, off, rfl, ⟨z1, z2⟩, c0, c1, c2⟩ := hcells k hlt
      replace c0 := bcell hbr c0
      replace c1 := bcell hbr c1
      replace c2 := bcell hbr c2
      have n0 : (0 : Int) ≤ (k : Int) := by omega
      have n1 : (k : Int) < (s.length : Int) := by omega
      have Hst := Lib.hid (take_filter_succ (fun p : Pair => soS x p.key) s k hlt)
      have hfl : ((s.take k).filter fun p => soS x p.key).length ≤ 1000000 := Nat.le_trans (List.length_filter_le _ _) (by rw [List.length_take]; omega)
      have hszb := hb.size
      have hlt5 := hown.lt
      clear hcells hW
      generalize hA : ((s.take k).filter fun p => soS x p.key) = A at *
      have HA := Lib.hid hA
      generalize hpp : s[k] = p at *
      clear hA hpp
      have hsrc := src_pair' (wr.alloc (.cells #[.string p.key, .string p.val, .bool p.dead] 35)) p
      rw [World.size_alloc] at hsrc
      have HT : Hid (soS x p.key = (if x.scan then (!Op.bytesLess p.key.toList x.key.toList && Op.bytesLess p.key.toList x.to.toList) else (p.key.toList == x.key.toList))) := Lib.hid rfl
      cases hs : x.scan <;> cases h1 : Op.bytesLess p.key.toList x.key.toList <;> cases h2 : Op.bytesLess p.key.toList x.to.toList <;> cases h3 : (p.key.toList == x.key.toList) <;>
        (rw [hs] at d0
         go_wp2_with (at_builtin; refine wpList_app (v := u5) rfl _ _ 26 26 rfl W0.heap.size 35 3 40 pairElt Tryz.underlying26 A.length _ rfl (World.ownsRow.alloc (World.ownsRow.alloc hown _) _) rfl 1 _ hsrc (by unfold maxLen; omega) (by omega) (by simp; omega) ?_; intro v2 w2 hown2 hg2 _)
         first
           | (have hb2 : Below W0.heap.size W0 w2 := grown_below (below_alloc (below_alloc hb _) _) hg2 (by simp; omega) (fun k hk => (hlt5 k hk).1)
              go_roundw
              case rel =>
                go_light
                refine ⟨k + 1, hlt, by go_num, ?_, hb2⟩
                rw [Hst.out, if_pos (by rw [HT.out]; simp [*])]
                simpa [OwnP] using hown2
              case measure => go_light; simp [intOf]; omega)
           | (go_roundw
              case rel =>
                go_light
                refine ⟨k + 1, hlt, by go_num, ?_, below_trans hb (below_new _ _)⟩
                rw [Hst.out, if_neg (by rw [HT.out]; simp [*]), List.append_nil]
                exact World.ownsRow.alloc hown _
              case measure => go_light; simp [intOf]; omega))
    · have hke : k = s.length := by omega
      subst hke
      rw [List.take_length] at hown
      have hfl : (s.filter fun p => soS x p.key).length ≤ 1000000 := Nat.le_trans (List.length_filter_le _ _) hn
      have hL := hown.at (by omega) (fun p hp => Hsm.out p (List.mem_filter.1 hp).1)
      have hP := Hpv.out.mono PairE.mono hbr
      have hq := Hte.out
      have hcall := rsame_any _ _ _ _ _ hL hP
      obtain ⟨p3, c3, hv3, -⟩ := hL
      generalize (s.filter fun p => soS x p.key) = L at *
      subst hv3
      have Hq := Lib.hid hq
      clear hq hcells hown
      by_cases h200 : (L.length : Int) ≤ 200
      all_goals
        go_wp2_with (first | (go_at_call 6; refine hcall.mono ?_; rintro e w5 ⟨rfl, hb5⟩) | fail)
      · go_ret
        exact ⟨by rw [Hq.out, decide_eq_true (by omega : L.length ≤ 200)]; rfl, below_trans hbr hb5⟩
      · go_ret
        exact ⟨by rw [Hq.out, decide_eq_false (by omega : ¬ L.length ≤ 200)]; rfl, hbr⟩

set_option maxRecDepth 100000 in
set_option maxHeartbeats 2000000 in
theorem rreads_any (s : List Pair) (sv : Value) (f : St) (r : Rec) (cs : List Value) (w : World) (hs : SlP 3 PairE w sv s) (hf : IsPairs f (fun _ => true) s) (hn : s.length ≤ 1000000) (hr : RecE w cs r) :
    Calls Tryz.prog 28 #[sv, .agg cs.toArray] w (Gives w (.bool (bearsS f r))) := by
  obtain ⟨rv, wv, rfl, -, -, hrd, -⟩ := hr
  obtain ⟨q, cap, rfl, hwc, hwl, hcells⟩ := hrd.readsAt
  have hq : bearsS f r = !(r.reads.any fun x => !tellsS f x) := rfl
  go_enter Tryz.func28, Tryz.ntmps28
  go_wp2_with fail
  generalize hB0 : w.alloc (.cells #[.int .i64 r.session, .int .i64 r.snap, .bool r.strict, .slice q r.reads.length cap, wv] 32) = W0
  have hW : Below w.heap.size w W0 := by rw [← hB0]; exact below_new _ _
  clear hB0
  go_loopw [10] (fun i wr => ∃ k : Nat, k ≤ r.reads.length ∧ i = .int .i64 k ∧ Below W0.heap.size W0 wr ∧ Hid (NoneTo (fun x => !tellsS f x) r.reads k)) (fun i _ => r.reads.length - (intOf i).toNat)
  case atStart => exact ⟨0, Nat.zero_le _, rfl, Below.refl _ _, Lib.hid (NoneTo.zero _ _)⟩
  case round =>
    obtain ⟨k, hk, rfl, hb, hn2⟩ := hrel
    have hbr := below_trans hW hb
    by_cases hlt : k < r.reads.length
    · obtain ⟨b, off, pq, pn, pc, rfl, hxe, c0, c1, c2, c3⟩ := hcells k hlt
      replace c0 := bcell hbr c0
      replace c1 := bcell hbr c1
      replace c2 := bcell hbr c2
      replace c3 := bcell hbr c3
      have n0 : (0 : Int) ≤ (k : Int) := by omega
      have n1 : (k : Int) < (r.reads.length : Int) := by omega
      have hcall := fun W hb => rtells_any s sv f r.reads[k] _ W (hs.mono PairE.mono (w' := W) hb) hf hn (RdE.mono.mono hb hxe)
      have Hs := Lib.hid (hn2.out.succ hlt)
      have Ha := Lib.hid (any_at (p := fun x => !tellsS f x) hlt)
      have Hq := Lib.hid hq
      clear hcells hW hrd hxe hf hs hq
      generalize r.reads[k] = x at *
      cases ht : tellsS f x with
      | false =>
        have Hp := Lib.hid (Ha.out (by simp [ht]))
        rw [ht] at hcall
        clear ht
        go_wp2_with (first | (go_at_call 47; refine (hcall _ (below_trans hbr (below_new _ _))).mono ?_; rintro e w5 ⟨rfl, hb5⟩) | fail)
        go_ret
        exact ⟨by rw [Hq.out, Hp.out]; rfl, below_trans (below_trans hbr (below_new _ _)) hb5⟩
      | true =>
        have Hp := Lib.hid (Hs.out (by simp [ht]))
        rw [ht] at hcall
        clear ht
        go_wp2_with (first | (go_at_call 47; refine (hcall _ (below_trans hbr (below_new _ _))).mono ?_; rintro e w5 ⟨rfl, hb5⟩) | fail)
        go_roundw
        case rel => exact ⟨k + 1, hlt, by go_num, below_trans (below_trans hb (below_new _ _)) hb5, Hp⟩
        case measure => simp [intOf]; omega
    · have hke : k = r.reads.length := by omega
      subst hke
      clear hcells
      go_wp2_with fail
      go_ret
      exact ⟨by rw [hq, hn2.out.any]; rfl, hbr⟩

end Go.Proofs.YtgmcpfcpdmnebaaGreat
