/- The reference of layer 18: the state behind records. -/
import Derived.Test.YtgmcpfcpdmnebaaGreatStoD
import Derived.Test.YtgmcpfcpdmnebaaGreatRefI
namespace Go.Proofs.YtgmcpfcpdmnebaaGreat
open Go.RowKit Go.Proofs Go.Shelf

theorem Few.writes2 {l : List Rec} (h : Few l) : ∀ k, k ≤ l.length → writesN (l.take k) ≤ 100 * k
  | 0, _ => by simp [writesN]
  | k + 1, hk => by
    have := Few.writes2 h k (by omega)
    have := h.2 l[k] (List.getElem_mem (by omega))
    rw [writesN_snoc l k (by omega)]; omega

theorem sto_new (w : World) : StoP (w.alloc (.cells #[.slice none 0 0, .int .i64 0, .int .i64 0] 59)) w.heap.size w.heap.size [] 0 :=
  ⟨.slice none 0 0, [], heap_alloc_new _ _, Nat.le_refl _, ⟨World.ownsRow_nil _ _ _ _, by simp⟩, rfl, by simp, fun j h => by simp at h⟩

/-- A key of a store, as it lies. -/
theorem StoAt.key {w : World} {base b n : Nat} {S : List KeyS} {Lv : Value} {css : List (List Value)} (h : StoAt w base b S n Lv css) (hne : ∀ x ∈ S, x.vers ≠ []) : ∃ q cap, Lv = .slice q S.length cap ∧ S.length ≤ cap ∧ S.length ≤ 100000 ∧
    ∀ j, (hj : j < S.length) → ∃ g g2 c2, q = some ⟨g, 0, none⟩ ∧ w.cell? ⟨g, j * 2, none⟩ = some (.string S[j].name) ∧ w.cell? ⟨g, j * 2 + 1, none⟩ = some (.slice (some ⟨g2, 0, none⟩) S[j].vers.length c2) ∧ 0 < S[j].vers.length ∧ S[j].vers.length ≤ 100000 ∧ S[j].vers.length ≤ c2 ∧
      S[j].name.size ≤ 9223372036854775807 ∧ ∃ v, S[j].vers.getLast? = some v ∧ v.val.size ≤ 9223372036854775807 ∧ w.cell? ⟨g2, (S[j].vers.length - 1) * 3, none⟩ = some (.int .i64 v.pl) ∧ w.cell? ⟨g2, (S[j].vers.length - 1) * 3 + 1, none⟩ = some (.string v.val) ∧ w.cell? ⟨g2, (S[j].vers.length - 1) * 3 + 2, none⟩ = some (.bool v.dead) := by
  have hl := h.len
  obtain ⟨q, cap, rfl, hlc, hq⟩ := h.own.form
  rw [hl] at hlc hq ⊢
  refine ⟨q, cap, rfl, hlc, h.few, fun j hj => ?_⟩
  obtain ⟨g, rfl, -, -⟩ := hq (by omega)
  obtain ⟨cv, e1, e2, e3⟩ := h.each j (by omega) hj
  have hx0 := h.own.cell j 0 (by omega) (by rw [e1]; simp)
  have hx1 := h.own.cell j 1 (by omega) (by rw [e1]; simp)
  simp only [e1, Nat.add_zero] at hx0 hx1
  have hpos : 0 < S[j].vers.length := by
    rcases Nat.eq_zero_or_pos S[j].vers.length with h0 | h0
    · exact absurd (List.eq_nil_of_length_eq_zero h0) (hne _ (List.getElem_mem hj))
    · exact h0
  obtain ⟨q2, c2, hcv, hlc2, hq2⟩ := e3.own.form
  rw [List.length_map] at hcv hlc2 hq2
  subst hcv
  obtain ⟨g2, rfl, -, -⟩ := hq2 hpos
  obtain ⟨_, _, hv, -, -, hc⟩ := e3.slp.vers
  simp only [Value.slice.injEq] at hv
  obtain ⟨rfl, -, rfl⟩ := hv
  obtain ⟨b3, off, h3, ⟨z1, z2⟩, y0, y1, y2⟩ := hc (S[j].vers.length - 1) (by omega)
  simp only [Option.some.injEq, Addr.mk.injEq] at h3
  obtain ⟨rfl, rfl, -⟩ := h3
  simp only [Nat.zero_add] at y0 y1 y2
  refine ⟨g, g2, c2, rfl, hx0, hx1, hpos, e3.small.1, hlc2, e2, S[j].vers[S[j].vers.length - 1], ?_, z2, y0, y1, y2⟩
  rw [List.getLast?_eq_getElem?, List.getElem?_eq_getElem (by omega)]

theorem outS_snoc (S : List KeyS) (k : Nat) (hk : k < S.length) : outS (S.take (k + 1)) = outS (S.take k) ++ (match outK S[k] with | some p => [p] | none => []) := by
  unfold outS
  rw [List.take_succ_eq_append_getElem hk, List.filterMap_append]
  cases h : outK S[k] <;> simp [List.filterMap_cons, h]

theorem outS_len (S : List KeyS) : (outS S).length ≤ S.length := List.length_filterMap_le _ _

theorem outS_small {S : List KeyS} (h : ∀ x ∈ S, x.name.size ≤ 9223372036854775807 ∧ ∀ v, x.vers.getLast? = some v → v.val.size ≤ 9223372036854775807) : ∀ p ∈ outS S, p.key.size ≤ 9223372036854775807 ∧ p.val.size ≤ 9223372036854775807 := by
  intro p hp
  obtain ⟨x, hx, hxp⟩ := List.mem_filterMap.1 hp
  obtain ⟨h1, -, v, h2, -, h3⟩ := outK_key hxp
  rw [h1, h3]
  exact ⟨(h x hx).1, (h x hx).2 v h2⟩

set_option maxRecDepth 100000 in
set_option maxHeartbeats 8000000 in
theorem stateLaid : StateLaid := by
  intro l v w hv hok hF
  have hN := fun k hk => hF.writes2 k hk
  have Hinv := Lib.hid (fun k hk => stoS_inv l hok k hk)
  have h25 := hF.1
  have Hgood := Lib.hid (fun k (hk : k < l.length) => show goodS l[k].writes = true from List.all_eq_true.1 hok _ (List.getElem_mem hk))
  have Hfew := Lib.hid (fun k (hk : k < l.length) => (hF.2 l[k] (List.getElem_mem hk)).2)
  have HN := Lib.hid hN
  obtain ⟨q, cap, rfl, hlc, hcap, -, hcells⟩ := hv.recsAt
  clear hok hF hN hv
  go_enter Tryz.func23, Tryz.ntmps23
  go_upto_block 0 with fail
  generalize hB0 : w.alloc (.cells #[.slice none 0 0, .int .i64 0, .int .i64 0] 59) = W0
  have hW : Below w.heap.size w W0 := by rw [← hB0]; exact below_new _ _
  have Hst0 : Hid (StoP W0 w.heap.size w.heap.size [] 0) := Lib.hid (by rw [← hB0]; exact sto_new w)
  clear hB0
  go_cut [14] (fun _ wc => Hid (StoP wc w.heap.size w.heap.size (stoS l) l.length) ∧ Below w.heap.size w wc)
  case first => as_aux_lemma =>
    go_wp2_with fail
    go_loopw [14] (fun i wr => ∃ k : Nat, k ≤ l.length ∧ i = .int .i64 k ∧ Hid (StoP wr w.heap.size w.heap.size (stoS (l.take k)) k) ∧ Below w.heap.size w wr) (fun i _ => l.length - (intOf i).toNat)
    case atStart => exact ⟨0, Nat.zero_le _, rfl, Hst0, hW⟩
    case round =>
      obtain ⟨k, hk, rfl, Hst, hb⟩ := hrel
      by_cases hlt : k < l.length
      · obtain ⟨b, off, rq, rc, wq, wc, rfl, -, -, hvw, c0, c1, c2, c3, c4⟩ := hcells k hlt
        replace c0 := bcell hb c0
        replace c1 := bcell hb c1
        replace c2 := bcell hb c2
        replace c3 := bcell hb c3
        replace c4 := bcell hb c4
        have n0 : (0 : Int) ≤ (k : Int) := by omega
        have n1 : (k : Int) < (l.length : Int) := by omega
        obtain ⟨at_, hat⟩ : ∃ a : Nat, a = k + 1 := ⟨_, rfl⟩
        have hwr : IntKind.i64.wrap ((k : Int) + 1) = (at_ : Int) := by rw [IntWalk.i64_in _ (by omega)]; omega
        have hinst : ∀ W, Below wr.heap.size wr W → Calls Tryz.prog 37 #[.pointer (some ⟨w.heap.size, 0, none⟩), .int .i64 at_, .slice wq l[k].writes.length wc] W (InstOut w w.heap.size (stoS (l.take (k + 1))) at_) := fun W hbW => by
          rw [stoS_snoc l k hlt, ← hat]
          have := HN.out k hk
          have := Hfew.out k hlt
          exact rinstall_any w w.heap.size k _ (stoS (l.take k)) (stateS (l.take k)) l[k].writes _ at_ W (below_trans hb hbW) (Hst.out.below hbW) hvw (Hgood.out k hlt) (Hinv.out k hk) (by omega) (by omega) hat
        have Hat := Lib.hid hat
        clear hcells hat hvw
        generalize l[k] = r at *
        go_wp2_with (first | (go_at_call 37; refine (hinst _ (below_new _ _)).mono ?_; rintro e w2 ⟨rfl, hst2, hb2⟩) | fail)
        go_roundw
        case rel => exact ⟨k + 1, hlt, by rw [Hat.out], Lib.hid (by rw [← Hat.out]; rw [← Hat.out] at hst2; exact hst2), hb2⟩
        case measure => have := Hat.out; simp [intOf]; omega
      · have hke : k = l.length := by omega
        subst hke
        rw [List.take_length] at Hst
        clear hcells
        go_wp2_with fail
        go_meet
        case rel => exact ⟨Hst, hb⟩
  case rest => as_aux_lemma =>
    obtain ⟨Hst1, hb1⟩ := hcut
    obtain ⟨w1, rfl⟩ : ∃ w1 : World, w1 = wc := ⟨_, rfl⟩
    clear Hst0
    have hinv := Hinv.out l.length (Nat.le_refl _)
    rw [List.take_length] at hinv
    have hNl := HN.out l.length (Nat.le_refl _)
    rw [List.take_length] at hNl
    have Hpairs := Lib.hid (outS_pairs hinv)
    obtain ⟨Lv, css, hst⟩ := Hst1.out
    have hkey := hst.key fun x hx => (hinv.each x hx).1
    have hS100 : (stoS l).length ≤ 100000 := hst.few
    have hy0 : w1.cell? ⟨w.heap.size, 0, none⟩ = some Lv := by rw [block_cell' hst.block]; rfl
    clear hst Hst1 hinv hNl HN Hfew Hgood Hinv hcells css
    generalize stoS l = S at *
    obtain ⟨q3, cap3, rfl, hlc3, hS1, hk3⟩ := hkey
    have Hsm := Lib.hid (outS_small (S := S) fun x hx => by
      obtain ⟨j, hj, rfl⟩ := List.getElem_of_mem hx
      obtain ⟨_, _, _, -, -, -, -, -, -, z1, v, z2, z3, -⟩ := hk3 j hj
      exact ⟨z1, fun v' hv' => by rw [z2] at hv'; cases hv'; exact z3⟩)
    go_wp2_with fail
    go_loopw [6, 31] (fun out i wr => ∃ k : Nat, k ≤ S.length ∧ i = .int .i64 k ∧ OwnP wr w1.heap.size out (outS (S.take k)) ∧ Below w1.heap.size w1 wr) (fun _ i _ => S.length - (intOf i).toNat)
    case atStart => exact ⟨0, Nat.zero_le _, rfl, World.ownsRow_nil _ _ _ _, Below.refl _ _⟩
    case round =>
      obtain ⟨k, hk, rfl, hown, hb⟩ := hrel
      by_cases hlt : k < S.length
      · obtain ⟨g, g2, cc2, rfl, a0, a1, hpos, h100, hcc, z1, v, z2, z3, y0, y1, y2⟩ := hk3 k hlt
        replace a0 := bcell hb a0
        replace a1 := bcell hb a1
        replace y0 := bcell hb y0
        replace y1 := bcell hb y1
        replace y2 := bcell hb y2
        have l2 := World.block_lt_of_cell? _ _ y0
        have l1 := World.block_lt_of_cell? _ _ a1
        have n0 : (0 : Int) ≤ (k : Int) := by omega
        have n1 : (k : Int) < (S.length : Int) := by omega
        have Hst := Lib.hid (outS_snoc S k hlt)
        have hfl : (outS (S.take k)).length ≤ 1000000 := Nat.le_trans (outS_len _) (by rw [List.length_take]; omega)
        have hszb := hb.size
        have hlt5 := hown.lt
        have HoK : Hid (outK S[k] = if v.dead then none else some ⟨S[k].name, v.val, false⟩) := Lib.hid (by unfold outK; rw [z2])
        clear hk3 z2
        generalize outS (S.take k) = A at *
        generalize hm : S[k].vers.length = m at *
        generalize outK S[k] = oK at *
        generalize S[k].name = nm at *
        clear hm
        have m1 : IntKind.i64.wrap ((m : Int) - 1) = ((m - 1 : Nat) : Int) := by rw [IntWalk.i64_in _ (by omega)]; omega
        have m2 : ((m : Int) - 1).toNat = m - 1 := by omega
        have m3 : ((m - 1 : Nat) : Int) < (m : Int) := by omega
        have hsrc := src_pair' ((wr.alloc (.cells #[.string nm, .slice (some ⟨g2, 0, none⟩) m cc2] 63)).alloc (.cells #[.int .i64 v.pl, .string v.val, .bool v.dead] 65)) ⟨nm, v.val, false⟩
        rw [World.size_alloc, World.size_alloc] at hsrc
        cases hd : v.dead with
        | true =>
          rw [hd] at y2
          go_wp2_with fail
          go_roundw
          case rel =>
            go_light
            refine ⟨k + 1, hlt, by go_num, ?_, (below_alloc (below_alloc hb _) _)⟩
            rw [Hst.out, HoK.out, hd]
            simp only [if_true, List.append_nil]
            exact World.ownsRow.alloc (World.ownsRow.alloc hown _) _
          case measure => go_light; simp [intOf]; omega
        | false =>
          rw [hd] at y2 hsrc
          go_wp2_with (at_builtin; refine wpList_app (v := u6) rfl _ _ 26 26 rfl w1.heap.size 35 3 40 pairElt Tryz.underlying26 A.length _ rfl (World.ownsRow.alloc (World.ownsRow.alloc (World.ownsRow.alloc hown _) _) _) rfl 1 _ hsrc (by unfold maxLen; omega) (by omega) (by simp; omega) ?_; intro v2 w2 hown2 hg2 _)
          have hb2 : Below w1.heap.size w1 w2 := grown_below (below_alloc (below_alloc (below_alloc hb _) _) _) hg2 (by simp; omega) (fun k hk => (hlt5 k hk).1)
          go_roundw
          case rel =>
            go_light
            refine ⟨k + 1, hlt, by go_num, ?_, hb2⟩
            rw [Hst.out, HoK.out, hd]
            simpa [OwnP, pairCells] using hown2
          case measure => go_light; simp [intOf]; omega
      · have hke : k = S.length := by omega
        subst hke
        rw [List.take_length] at hown
        have hfl := outS_len S
        have hL := hown.at (by omega) Hsm.out
        clear hk3
        go_wp2_with fail
        go_ret
        exact ⟨_, outS S, rfl, hL, Hpairs.out, by omega, below_trans hb1 hb⟩

end Go.Proofs.YtgmcpfcpdmnebaaGreat
