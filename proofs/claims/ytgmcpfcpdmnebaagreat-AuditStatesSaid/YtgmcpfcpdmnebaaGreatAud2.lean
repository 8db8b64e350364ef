/- Package audit: whether reads tell what there is. -/
import Derived.Test.YtgmcpfcpdmnebaaGreatAud
import Derived.Test.YtgmcpfcpdmnebaaGreatRec4
namespace Go.Proofs.YtgmcpfcpdmnebaaGreat
open Go.RowKit Go.Proofs Go.Shelf

theorem uniq : ∀ L L' : List Pair, L.Pairwise (fun a b => ltB a.key b.key = true) → L'.Pairwise (fun a b => ltB a.key b.key = true) → (∀ x, x ∈ L ↔ x ∈ L') → L = L'
  | [], [], _, _, _ => rfl
  | [], y :: l', _, _, h => by have := (h y).2 (by simp); simp at this
  | x :: l, [], _, _, h => by have := (h x).1 (by simp); simp at this
  | x :: l, y :: l', h1, h2, h => by
    rw [List.pairwise_cons] at h1 h2
    have hxy : x = y := by
      rcases List.mem_cons.1 ((h x).1 (by simp)) with e | hx
      · exact e
      · rcases List.mem_cons.1 ((h y).2 (by simp)) with e | hy
        · exact e.symm
        · have a1 := h2.1 x hx
          have a2 := h1.1 y hy
          rw [ltB_asymm a1] at a2; simp at a2
    subst hxy
    have hl : ∀ z, z ∈ l ↔ z ∈ l' := fun z => by
      constructor
      · intro hz
        rcases List.mem_cons.1 ((h z).1 (List.mem_cons_of_mem _ hz)) with e | hz'
        · subst e; have := h1.1 z hz; rw [ltB_irrefl] at this; simp at this
        · exact hz'
      · intro hz
        rcases List.mem_cons.1 ((h z).2 (List.mem_cons_of_mem _ hz)) with e | hz'
        · subst e; have := h2.1 z hz; rw [ltB_irrefl] at this; simp at this
        · exact hz'
    rw [uniq l l' h1.2 h2.2 hl]

theorem IsPairs.pairwise {f : St} {p : ByteArray → Bool} {L : List Pair} (h : IsPairs f p L) : L.Pairwise (fun a b => ltB a.key b.key = true) := by
  rw [List.pairwise_iff_getElem]
  intro i j hi hj hij
  have h1 := h.sorted i j hij hj hi
  cases h2 : ltB L[i].key L[j].key with
  | true => rfl
  | false =>
    have h3 := eqB_eq.1 (ltB_antisymm h2 h1)
    have h4 := (List.nodup_iff_pairwise_ne.1 h.nodup)
    rw [List.pairwise_iff_getElem] at h4
    have := h4 i j (by simpa using hi) (by simpa using hj) hij
    simp only [List.getElem_map] at this
    exact absurd h3 this

theorem IsPairs.uniq {f : St} {p : ByteArray → Bool} {L L' : List Pair} (h : IsPairs f p L) (h' : IsPairs f p L') : L = L' :=
  Ythuniq (fun x => by rw [h.mem, h'.mem]) h.pairwise h'.pairwise
where Ythuniq {L L' : List Pair} (hm : ∀ x, x ∈ L ↔ x ∈ L') (h : L.Pairwise (fun a b => ltB a.key b.key = true)) (h' : L'.Pairwise (fun a b => ltB a.key b.key = true)) : L = L' := _root_.Go.Proofs.YtgmcpfcpdmnebaaGreat.uniq L L' h h' hm

/-- Which keys a read asks. -/
def soS (x : Rd) (k : ByteArray) : Bool := if x.scan then inRange k x.key x.to else eqB k x.key

/-- Does a read tell what there is? -/
noncomputable def tellsS (f : St) (x : Rd) : Bool := @decide (IsPairs f (soS x) x.pairs ∧ x.pairs.length ≤ 200) (Classical.propDecidable _)
noncomputable def bearsS (f : St) (r : Rec) : Bool := !(r.reads.any fun x => !tellsS f x)

theorem tellsS_eq {f : St} {x : Rd} {L : List Pair} (h : IsPairs f (soS x) L) : tellsS f x = (decide (L.length ≤ 200) && samePairs L x.pairs) := by
  have h0 : tellsS f x = true ↔ (IsPairs f (soS x) x.pairs ∧ x.pairs.length ≤ 200) := by unfold tellsS; exact @decide_eq_true_iff _ (Classical.propDecidable _)
  rw [Bool.eq_iff_iff, Bool.and_eq_true, h0, decide_eq_true_eq, samePairs_iff]
  constructor
  · rintro ⟨h1, h2⟩
    have := h.uniq h1
    subst this
    exact ⟨h2, rfl⟩
  · rintro ⟨h1, rfl⟩
    exact ⟨h, h1⟩

/-- tells$1 -/
theorem tells1 (k : ByteArray) (x : Rd) (B : Nat) (w : World) (hB : BoxP RdE w B x) : Calls Tryz.prog 61 #[.string k, .pointer (some ⟨B, 0, none⟩)] w (Gives w (.bool (soS x k))) := by
  obtain ⟨pv, -, c0, c1, c2, c3⟩ := box_read hB
  have hq : soS x k = if x.scan then inRange k x.key x.to else eqB k x.key := rfl
  generalize soS x k = q at hq ⊢
  generalize x.scan = sc at hq c0
  cases sc with
  | true =>
    simp only [if_true] at hq
    unfold inRange ltB at hq
    have Hq := Lib.hid hq
    clear hq
    cases h1 : Op.bytesLess k.toList x.key.toList <;> (go_enter Tryz.func61, Tryz.ntmps61; go_wp2; go_ret; exact ⟨by rw [Hq.out]; simp [h1], Below.refl _ _⟩)
  | false =>
    simp only [Bool.false_eq_true, if_false] at hq
    unfold eqB at hq
    have Hq := Lib.hid hq
    clear hq
    go_enter Tryz.func61, Tryz.ntmps61
    go_wp2
    go_ret
    exact ⟨by rw [Hq.out]; rfl, Below.refl _ _⟩

theorem IsSt.below {w w' : World} {b : Nat} {m : List (ByteArray × Value)} {f : St} (h : IsSt w b m f) (hb : Below w.heap.size w w') : IsSt w' b m f := ⟨h.map.below hb, h.get, h.small, h.few⟩

set_option maxRecDepth 100000 in
set_option maxHeartbeats 400000 in
/-- tells -/
theorem tells_any (b : Nat) (m : List (ByteArray × Value)) (f : St) (x : Rd) (cs : List Value) (w : World) (hst : IsSt w b m f) (hx : RdE w cs x) : Calls Tryz.prog 42 #[.map (some b), .agg cs.toArray] w (Gives w (.bool (tellsS f x))) := by
  have hE := hx
  obtain ⟨pv, rfl, hk, ht, hpv⟩ := hx
  have eg : ∀ args w, (callFunc 61 args).run Tryz.prog w = .ok (.enter 61 args) w := enters_of Tryz.func61 (by kernel_rfl) rfl
  have hbx := box_new RdE.mono w _ 37 hE
  have hcall := pairs_any b m f 61 #[.pointer (some ⟨w.heap.size, 0, none⟩)] eg (soS x) _ (hst.below (below_new w (.cells #[.bool x.scan, .string x.key, .string x.to, pv] 37)))
    (fun k W hb => tells1 k x w.heap.size W (hbx.mono RdE.mono hb))
  have hsm := hst.small
  have hte := fun L (h : IsPairs f (soS x) L) => tellsS_eq h
  have hin : ∀ L, IsPairs f (soS x) L → ∀ p ∈ L, p.key.size ≤ 9223372036854775807 ∧ p.val.size ≤ 9223372036854775807 := fun L h p hp => hsm _ _ ((h.mem p).1 hp).2.1
  generalize tellsS f x = q at hte ⊢
  have Hte := Lib.hid hte
  have Hin := Lib.hid hin
  have Hsm := Lib.hid hsm
  obtain ⟨pq, pc, rfl, hlc, hcap, -, -⟩ := id hpv
  clear hte hin hsm hst hbx hE
  generalize hsc : x.scan = sc at *
  generalize hxk : x.key = xk at *
  generalize hxt : x.to = xt at *
  generalize hxp : x.pairs = xp at *
  clear hsc hxk hxt
  have Hxp := Lib.hid hxp
  clear hxp
  go_enter Tryz.func42, Tryz.ntmps42
  go_wp2_with (first
    | (go_at_call 19; refine hcall.mono ?_; rintro e w1 ⟨v, L, rfl, hown, hip, hl, hb1⟩; have hL := hown.at (by omega) (Hin.out L hip); have hfin := Lib.hid (Hte.out L hip); have c3 := bcell hb1 (a := ⟨w.heap.size, 3, none⟩) (v := .slice pq xp.length pc) (by simp); have hpw := hpv.mono PairE.mono (below_trans (below_new _ _) hb1); clear hown hip; obtain ⟨vp, vc, hve, hvl, hvc, -, -⟩ := id hL; rw [hve]; rw [hve] at hL; clear hve)
    | (go_at_call 62; refine (equal_pairs L xp _ _ _ hL hpw).mono ?_; rintro e w2 ⟨rfl, hb2⟩))
  · go_ret
    have h200 : (L.length : Int) ≤ 200 := by assumption
    exact ⟨by rw [hfin.out, decide_eq_true (by omega : L.length ≤ 200)]; rfl, below_trans (below_trans (below_new _ _) hb1) hb2⟩
  · go_ret
    have h200 : 200 < (L.length : Int) := by assumption
    exact ⟨by rw [hfin.out, decide_eq_false (by omega : ¬ L.length ≤ 200)]; rfl, below_trans (below_new _ _) hb1⟩

/-- bears$1 -/
theorem bears1 (b : Nat) (m : List (ByteArray × Value)) (f : St) (x : Rd) (cs : List Value) (B : Nat) (w : World) (hst : IsSt w b m f) (hx : RdE w cs x) (hB : w.cell? ⟨B, 0, none⟩ = some (.map (some b))) :
    Calls Tryz.prog 41 #[.agg cs.toArray, .pointer (some ⟨B, 0, none⟩)] w (Gives w (.bool (!tellsS f x))) := by
  have hE := hx
  obtain ⟨pv, rfl, -, -, -⟩ := hx
  have hBl := World.block_lt_of_cell? w _ hB
  have hcall := tells_any b m f x _ _ (hst.below (below_new w (.cells #[.bool x.scan, .string x.key, .string x.to, pv] 37))) (RdE.mono.mono (below_new _ _) hE)
  generalize tellsS f x = q at hcall ⊢
  go_enter Tryz.func41, Tryz.ntmps41
  go_wp2_with (refine hcall.mono ?_; rintro e w1 ⟨rfl, hb1⟩)
  go_ret
  exact ⟨rfl, below_trans (below_new _ _) hb1⟩

/-- bears -/
theorem bears_any (b : Nat) (m : List (ByteArray × Value)) (f : St) (r : Rec) (cs : List Value) (w : World) (hst : IsSt w b m f) (hr : RecE w cs r) : Calls Tryz.prog 25 #[.map (some b), .agg cs.toArray] w (Gives w (.bool (bearsS f r))) := by
  obtain ⟨rv, wv, rfl, -, -, hrd, -⟩ := hr
  have eg : ∀ args w, (callFunc 41 args).run Tryz.prog w = .ok (.enter 41 args) w := enters_of Tryz.func41 (by kernel_rfl) rfl
  have hb2 := below_alloc (below_new w (.cells #[.map (some b)] 39)) (.cells #[.int .i64 r.session, .int .i64 r.snap, .bool r.strict, rv, wv] 32)
  have hcall := containsFunc_read 41 #[.pointer (some ⟨w.heap.size, 0, none⟩)] eg (fun x => !tellsS f x) r.reads _ _ (hrd.mono RdE.mono hb2)
    (fun x _ W cs' hb he => bears1 b m f x cs' w.heap.size W (hst.below (below_trans hb2 hb)) he (bcell hb (by simp)))
  change Calls _ _ _ _ _ at hcall
  have hq : bearsS f r = !(r.reads.any fun x => !tellsS f x) := rfl
  generalize (r.reads.any fun x => !tellsS f x) = q at hcall hq
  rw [hq]
  clear hq
  go_enter Tryz.func25, Tryz.ntmps25
  go_wp2_with (refine hcall.mono ?_; rintro e w1 ⟨rfl, hb1⟩)
  go_ret
  exact ⟨rfl, below_trans hb2 hb1⟩

end Go.Proofs.YtgmcpfcpdmnebaaGreat
