/- The directory: right. -/
import Derived.Test.YtlhefifejcoecaaGreatDoorDirP
import Derived.Test.YtlhefifejcoecaaGreatDoorDirD
namespace Go.Proofs.YtlhefifejcoecaaGreatDoor
open Go.RowKit Go.Proofs Go.Shelf
attribute [local go_sem ↓] Go.wp_at_zero Go.wp_at_succ

theorem idx_drop {α : Type} (p : α → Bool) (l : List α) (k : Nat) (hk : k < l.length) : idx p (l.drop k) k = if p l[k] then (k : Int) else idx p (l.drop (k + 1)) (k + 1) := by
  rw [List.drop_eq_getElem_cons hk]; rfl

theorem idx_lower {α : Type} (p : α → Bool) : ∀ (l : List α) (n : Nat), (l.any p = true → (n : Int) ≤ idx p l n) ∧ (l.any p = false → idx p l n = -1)
  | [], n => ⟨fun h => by simp at h, fun _ => rfl⟩
  | x :: r, n => by
    have ih := idx_lower p r (n + 1)
    cases hx : p x with
    | true => exact ⟨fun _ => by simp [idx, hx], fun h => by simp [hx] at h⟩
    | false =>
      refine ⟨fun h => ?_, fun h => ?_⟩
      · have h1 := ih.1 (by simpa [hx] using h)
        simp only [idx, hx]; simp; omega
      · have h1 := ih.2 (by simpa [hx] using h)
        simpa [idx, hx] using h1

theorem idx_any {α : Type} (p : α → Bool) (l : List α) : decide (0 ≤ idx p l 0) = l.any p := by
  obtain ⟨h1, h2⟩ := idx_lower p l 0
  cases h : l.any p with
  | true => simpa using h1 h
  | false => rw [h2 h]; rfl

def ExtE (_ : World) (cs : List Value) (x : Nat × Nat) : Prop := cs = [.int .i64 x.1, .int .i64 x.2] ∧ x.1 ≤ 1000000000 ∧ x.2 ≤ 1000000000
theorem ExtE.mono : Mono ExtE := ⟨fun _ h => h⟩

set_option maxHeartbeats 400000 in
theorem indexFunc_ext (e : Nat × Nat) (he1 : e.1 ≤ 1000000000) (he2 : e.2 ≤ 1000000000) (l : List (Nat × Nat)) (v : Value) (w : World) (hv : SlP 2 ExtE w v l) :
    Calls Tryz.prog 140 #[v, .func (.func 120) #[extV e] #[]] w (Gives w (.int .i64 (idx (meetsS e) l 0))) := by
  obtain ⟨q, cap, rfl, hlc, hcap, _, hcells⟩ := hv
  have hp : ∀ (o : Nat × Nat) W, o.1 ≤ 1000000000 → o.2 ≤ 1000000000 → Calls Tryz.prog 120 #[extV e, .agg #[.int .i64 o.1, .int .i64 o.2]] W (Gives W (.bool (meetsS e o))) := fun o W h3 h4 => meets_any e o W he1 he2 h3 h4
  have Hp := Lib.hid hp
  have eg : ∀ args w, (callFunc 120 args).run Tryz.prog w = .ok (.enter 120 args) w := enters_of Tryz.func120 (by kernel_rfl) rfl
  generalize extV e = ev at *
  clear hp
  go_enter Tryz.func140, Tryz.ntmps140
  go_wp2
  go_loopw [8, 5] (fun i _ wr => ∃ k : Nat, k ≤ l.length ∧ i = .int .i64 k ∧ Below w.heap.size w wr ∧ idx (meetsS e) l 0 = idx (meetsS e) (l.drop k) k) (fun i _ _ => l.length - (intOf i).toNat)
  case atStart => exact ⟨0, Nat.zero_le _, rfl, Below.refl _ _, rfl⟩
  case round =>
    obtain ⟨k, hk, rfl, hb, hx⟩ := hrel
    have Hx := Lib.hid hx
    clear hx
    by_cases hlt : k < l.length
    · obtain ⟨b, off, cs, rfl, hcs, he, hc⟩ := hcells k hlt
      obtain ⟨rfl, hs1, hs2⟩ := he
      have d0 := bcell hb (hc 0 (by simp))
      have d1 := bcell hb (hc 1 (by simp))
      simp only [List.getElem_cons_zero, List.getElem_cons_succ, Nat.add_zero] at d0 d1
      have hcall := Hp.out l[k] wr hs1 hs2
      cases hpx : meetsS e l[k] with
      | false =>
        rw [hpx] at hcall
        have Hpx := Lib.hid hpx
        clear hpx hcells hc
        generalize l[k].1 = x1 at *
        generalize l[k].2 = x2 at *
        go_wp2_with (refine hcall.mono ?_; rintro e w1 ⟨rfl, hb1⟩)
        go_roundw
        case rel => exact ⟨k + 1, hlt, by go_num, hb.trans (hb1.mono hb.size), by rw [Hx.out, idx_drop _ l k hlt, Hpx.out]; rfl⟩
        case measure => simp [intOf]; omega
      | true =>
        rw [hpx] at hcall
        have Hpx := Lib.hid hpx
        clear hpx hcells hc
        generalize l[k].1 = x1 at *
        generalize l[k].2 = x2 at *
        go_wp2_with (refine hcall.mono ?_; rintro e w1 ⟨rfl, hb1⟩)
        go_ret
        exact ⟨by rw [Hx.out, idx_drop _ l k hlt, Hpx.out]; rfl, hb.trans (hb1.mono hb.size)⟩
    · have : k = l.length := by omega
      subst this
      go_wp2
      go_ret
      exact ⟨by rw [Hx.out]; simp [idx], hb⟩

theorem containsFunc_ext (e : Nat × Nat) (he1 : e.1 ≤ 1000000000) (he2 : e.2 ≤ 1000000000) (l : List (Nat × Nat)) (v : Value) (w : World) (hv : SlP 2 ExtE w v l) :
    Calls Tryz.prog 119 #[v, .func (.func 120) #[extV e] #[]] w (Gives w (.bool (l.any (meetsS e)))) := by
  go_enter Tryz.func119, Tryz.ntmps119
  have h := indexFunc_ext e he1 he2 l v w hv
  have hi := idx_any (meetsS e) l
  generalize idx (meetsS e) l 0 = r at h hi
  generalize l.any (meetsS e) = q at hi ⊢
  generalize extV e = ev at *
  have Hi := Lib.hid hi
  clear hi hv
  go_wp2_with (refine h.mono ?_; rintro e w1 ⟨rfl, hb1⟩)
  go_ret
  exact ⟨by rw [← Hi.out]; rfl, hb1⟩

def extC (e : Nat × Nat) : List Value := [.int .i64 e.1, .int .i64 e.2]

theorem extElt : Elt Tryz.prog 90 2 16 := by
  have h : (Tryz.prog.info? 90).map (fun i => (i.zero, i.size, i.bytes)) = some (some (.agg #[.int .i64 0, .int .i64 0]), 2, 16) := by kernel_rfl
  cases hi : Tryz.prog.info? 90 with
  | none => rw [hi] at h; cases h
  | some i =>
    rw [hi] at h
    simp only [Option.map_some, Option.some.injEq, Prod.mk.injEq] at h
    exact ⟨⟨i, _, hi, h.1, h.2.1, h.2.2, rfl⟩, by decide⟩

theorem src_ext (w1 : World) (a b : Nat) : Src Tryz.prog 2 170 (.slice (some ⟨w1.heap.size, 0, none⟩) 1 1) 1 [.int .i64 a, .int .i64 b] (w1.alloc (.cells #[.int .i64 a, .int .i64 b] 90)) :=
  Src.ofSlice _ Tryz.underlying170 _ _ _ _ rfl (fun j u hj => by
    match j with
    | 0 => simp at hj; subst hj; simp [Addr.add]
    | 1 => simp at hj; subst hj; simp [Addr.add]
    | (k + 2) => simp at hj) (by simp [Value.oneCell'])

theorem fnames_any (b : Nat) (m : Files) (w : World) (h : FilesAt w b m) :
    Calls Tryz.prog 76 #[.map (some b)] w fun e w' => ∃ q cap, e = .returned (.slice q (namesS m).length cap) ∧ Below w.heap.size w w' ∧ ∀ j, (hj : j < (namesS m).length) → ∃ g, q = some ⟨g, 0, none⟩ ∧ w'.cell? ⟨g, j, none⟩ = some (.string ⟨(namesS m)[j].toArray⟩) := by
  refine (names_any b (filesV m) w h.map (fun x hx => by
    obtain ⟨y, hy, rfl⟩ := List.mem_map.1 hx
    have := (h.small y hy).1; unfold maxLen; simp; omega) (by have := h.few; unfold filesV; rw [List.length_map]; omega)).mono ?_
  rintro e w2 ⟨v, ss, rfl, hperm, hrow, hb2⟩
  have hp2 : ss.Perm (m.map fun x => x.1.data.toList) := by simpa [filesV, List.map_map, Function.comp_def] using hperm
  have hn := namesS_perm hp2
  have hln : ss.length = (namesS m).length := by rw [← hn, List.length_mergeSort]
  rw [hn, hln] at hrow
  obtain ⟨q, cap, rfl⟩ := own_slice hrow
  refine ⟨q, cap, rfl, hb2, fun j hj => ?_⟩
  rcases hrow.2 with ⟨h1, hn⟩ | ⟨g, cap', cur, h1, hrest⟩
  · omega
  · simp only [Value.slice.injEq] at h1
    obtain ⟨rfl, -, rfl⟩ := h1
    refine ⟨g, rfl, ?_⟩
    have := hrow.cells (g := g) rfl j (.string ⟨(namesS m)[j].toArray⟩) (by simp [hj])
    rw [Addr.add_lit, Nat.zero_add] at this
    exact this

theorem FilesAt.len' {w : World} {b : Nat} {m : Files} (h : FilesAt w b m) : (Builtin.len_ #[35] 3 #[.map (some b)]).run Tryz.prog w = .ok (goInt m.length) w := by
  obtain ⟨⟨es, clock, h1, h2, -⟩, -, -⟩ := h
  rw [maplen h1]
  have := congrArg List.length h2
  simp [filesV] at this
  rw [this]

theorem names_small {w : World} {b : Nat} {m : Files} (h : FilesAt w b m) : (namesS m).length = m.length ∧ ∀ s ∈ namesS m, s.length ≤ 1000 := by
  refine ⟨by rw [(names_perm m).length_eq, List.length_map], fun s hs => ?_⟩
  obtain ⟨x, hx, e⟩ := names_mem hs
  have := (h.small x hx).1
  rw [e] at this
  simpa [ByteArray.size] using this

set_option maxRecDepth 100000 in
set_option maxHeartbeats 8000000 in
theorem right_any (b : Nat) (m : Files) (n : Nat) (w : World) (h : FilesAt w b m) (hn : n ≤ 1000000) : Calls Tryz.prog 96 #[.map (some b), .int .i64 n] w (Gives w (.bool (rightS m n))) := by
  have hln := h.len'
  obtain ⟨hnl, hns⟩ := names_small h
  have hfew := h.few
  by_cases h10 : (10 : Int) < (m.length : Int)
  · have Hr : Hid (rightS m n = false) := Lib.hid (by unfold rightS; rw [decide_eq_false (by omega)]; rfl)
    clear h
    go_enter Tryz.func96, Tryz.ntmps96
    go_wp2_with fail
    go_ret
    exact ⟨by rw [Hr.out]; rfl, Below.refl _ _⟩
  · have Hr : Hid (rightS m n = rightL m n (namesS m) []) := Lib.hid (by unfold rightS; rw [decide_eq_true (by omega)]; rfl)
    have hnm := fnames_any b m w h
    have Hf := Lib.hid h
    have Hns := Lib.hid hns
    have hsm := fun s => fget_small h ⟨List.toArray s⟩
    have Hsm : Hid (∀ s, (fext m s).1 ≤ 1000000000 ∧ (fext m s).2 ≤ 1000000000) := Lib.hid hsm
    clear h hns hsm
    go_enter Tryz.func96, Tryz.ntmps96
    go_upto_region 5 with (first | (go_at_call 76; refine hnm.mono ?_; rintro e w1 ⟨q, cap, rfl, hb1, hnc⟩) | fail)
    have Hnc := Lib.hid hnc
    have hf1 := Hf.out.below hb1
    have Hf1 := Lib.hid hf1
    clear hnm hnc hf1
    generalize hNSe : namesS m = NS at *
    go_loopw [5, 15, 7, 8] (fun sv j _ _ wr => ∃ k : Nat, k ≤ NS.length ∧ j = .int .i64 k ∧ OwnR wr w1.heap.size 90 2 sv (((NS.take k).map (fext m)).map extC) ∧ Below w1.heap.size w1 wr ∧ Hid (rightL m n NS [] = rightL m n (NS.drop k) ((NS.take k).map (fext m)))) (fun _ j _ _ _ => NS.length - (intOf j).toNat)
    case atStart => exact ⟨0, Nat.zero_le _, rfl, ⟨World.ownsRow_nil _ _ _ _, by simp⟩, Below.refl _ _, Lib.hid rfl⟩
    case round =>
      obtain ⟨k, hk, rfl, hown, hb, hpast⟩ := hrel
      have hbw := below_trans hb1 hb
      by_cases hlt : k < NS.length
      · obtain ⟨g, rfl, c0⟩ := Hnc.out k hlt
        replace c0 := bcell hb c0
        have n0 : (0 : Int) ≤ (k : Int) := by omega
        have n1 : (k : Int) < (NS.length : Int) := by omega
        have hlk0 := (Hf1.out.below hb).look ⟨NS[k].toArray⟩
        have hsz := Hns.out NS[k] (List.getElem_mem hlt)
        have hsm := Hsm.out NS[k]
        have hgd := fun W => goodname_any ⟨NS[k].toArray⟩ W (by simp [ByteArray.size]; omega)
        have hstep : rightL m n (NS.drop k) ((NS.take k).map (fext m)) = (okE NS[k] (fext m NS[k]) n && !(((NS.take k).map (fext m)).any fun o => meetsS (fext m NS[k]) o) && rightL m n (NS.drop (k + 1)) ((NS.take (k + 1)).map (fext m))) := by
          rw [List.drop_eq_getElem_cons hlt, List.take_succ_eq_append_getElem hlt, List.map_append]
          rfl
        have hok : okE NS[k] (fext m NS[k]) n = (goodNameS ⟨NS[k].toArray⟩ && decide (16 ≤ (fext m NS[k]).1) && decide (1 ≤ (fext m NS[k]).2) && decide ((fext m NS[k]).1 ≤ n) && decide ((fext m NS[k]).2 ≤ n - (fext m NS[k]).1)) := rfl
        have htk : ((NS.take (k + 1)).map (fext m)).map extC = ((NS.take k).map (fext m)).map extC ++ [extC (fext m NS[k])] := by
          rw [List.take_succ_eq_append_getElem hlt, List.map_append, List.map_append]; rfl
        have hslen : ((NS.take k).map (fext m)).length = k := by rw [List.length_map, List.length_take]; omega
        have hsmall : ∀ e ∈ (NS.take k).map (fext m), e.1 ≤ 1000000000 ∧ e.2 ≤ 1000000000 := fun e he => by
          obtain ⟨s, -, rfl⟩ := List.mem_map.1 he
          exact Hsm.out s
        have hlk1 : (Instr.lookup 35 (.map (some b)) (.string ⟨NS[k].toArray⟩) false).run Tryz.prog wr = .ok (extV (fext m NS[k])) wr := hlk0
        have Hstep := Lib.hid hstep
        have Htk := Lib.hid htk
        clear hlk0 hstep htk
        generalize hSeen : (NS.take k).map (fext m) = seen at *
        generalize hex : fext m NS[k] = ex at *
        obtain ⟨x1, x2⟩ := ex
        have hlk : (Instr.lookup 35 (.map (some b)) (.string ⟨NS[k].toArray⟩) false).run Tryz.prog wr = .ok (.agg #[.int .i64 x1, .int .i64 x2]) wr := hlk1
        dsimp only at hsm hok
        obtain ⟨hx1, hx2⟩ := hsm
        have Hok := Lib.hid hok
        have Hsmall := Lib.hid hsmall
        clear hlk1 hok hSeen hex hsmall
        generalize (⟨NS[k].toArray⟩ : ByteArray) = nm at *
        go_upto_region 8 with fail
        generalize hW2 : World.alloc wr _ = w2
        have hb2 : Below wr.heap.size wr w2 := by rw [← hW2]; exact below_new _ _
        have f0 : w2.cell? ⟨wr.heap.size, 0, none⟩ = some (.int .i64 x1) := by rw [← hW2]; simp
        have f1 : w2.cell? ⟨wr.heap.size, 1, none⟩ = some (.int .i64 x2) := by rw [← hW2]; simp
        clear hW2
        have hown2 := hown.below hb2
        have e1 : IntKind.i64.wrap ((n : Int) - (x1 : Int)) = (n : Int) - (x1 : Int) := IntWalk.i64_in _ (by omega)
        have hbw2 := below_trans hbw hb2
        cases hg : goodNameS nm with
        | false =>
          rw [hg] at hgd
          have Hbad : Hid (rightS m n = false) := Lib.hid (by rw [Hr.out, hpast.out, Hstep.out, Hok.out, hg]; simp)
          clear Hr hpast Hstep Hok Htk
          go_wp2_with (first | (go_at_call 107; refine (hgd _).mono ?_; rintro e w3 ⟨rfl, hb3⟩; have f03 := bcell hb3 f0; have f13 := bcell hb3 f1) | fail)
          go_ret
          exact ⟨by rw [Hbad.out]; rfl, below_trans hbw2 hb3⟩
        | true =>
          rw [hg] at hgd
          by_cases ha : (x1 : Int) < 16
          · skip
            have Hbad : Hid (rightS m n = false) := Lib.hid (by rw [Hr.out, hpast.out, Hstep.out, Hok.out, decide_eq_false (show ¬ 16 ≤ x1 by omega)]; simp)
            clear Hr hpast Hstep Hok Htk
            go_wp2_with (first | (go_at_call 107; refine (hgd _).mono ?_; rintro e w3 ⟨rfl, hb3⟩; have f03 := bcell hb3 f0; have f13 := bcell hb3 f1) | fail)
            go_ret
            exact ⟨by rw [Hbad.out]; rfl, below_trans hbw2 hb3⟩
          · by_cases hb' : (x2 : Int) < 1
            · skip
              have Hbad : Hid (rightS m n = false) := Lib.hid (by rw [Hr.out, hpast.out, Hstep.out, Hok.out, decide_eq_false (show ¬ 1 ≤ x2 by omega)]; simp)
              clear Hr hpast Hstep Hok Htk
              go_wp2_with (first | (go_at_call 107; refine (hgd _).mono ?_; rintro e w3 ⟨rfl, hb3⟩; have f03 := bcell hb3 f0; have f13 := bcell hb3 f1) | fail)
              go_ret
              exact ⟨by rw [Hbad.out]; rfl, below_trans hbw2 hb3⟩
            · by_cases hc : (n : Int) < (x1 : Int)
              · skip
                have Hbad : Hid (rightS m n = false) := Lib.hid (by rw [Hr.out, hpast.out, Hstep.out, Hok.out, decide_eq_false (show ¬ x1 ≤ n by omega)]; simp)
                clear Hr hpast Hstep Hok Htk
                go_wp2_with (first | (go_at_call 107; refine (hgd _).mono ?_; rintro e w3 ⟨rfl, hb3⟩; have f03 := bcell hb3 f0; have f13 := bcell hb3 f1) | fail)
                go_ret
                exact ⟨by rw [Hbad.out]; rfl, below_trans hbw2 hb3⟩
              · by_cases hd : (n : Int) - (x1 : Int) < (x2 : Int)
                · skip
                  have Hbad : Hid (rightS m n = false) := Lib.hid (by rw [Hr.out, hpast.out, Hstep.out, Hok.out, decide_eq_false (show ¬ x2 ≤ n - x1 by omega)]; simp)
                  clear Hr hpast Hstep Hok Htk
                  go_wp2_with (first | (go_at_call 107; refine (hgd _).mono ?_; rintro e w3 ⟨rfl, hb3⟩; have f03 := bcell hb3 f0; have f13 := bcell hb3 f1) | fail)
                  go_ret
                  exact ⟨by rw [Hbad.out]; rfl, below_trans hbw2 hb3⟩
                · have Hok2 : Hid (okE NS[k] (x1, x2) n = true) := Lib.hid (by rw [Hok.out, hg, decide_eq_true (show 16 ≤ x1 by omega), decide_eq_true (show 1 ≤ x2 by omega), decide_eq_true (show x1 ≤ n by omega), decide_eq_true (show x2 ≤ n - x1 by omega)]; rfl)
                  go_upto_region 10 with (first | (go_at_call 107; refine (hgd _).mono ?_; rintro e w3 ⟨rfl, hb3⟩; have f03 := bcell hb3 f0; have f13 := bcell hb3 f1) | fail)
                  have hown3 := hown2.below hb3
                  have hbw3 := below_trans hbw2 hb3
                  have hslp : SlP 2 ExtE w3 u5 seen := hown3.slp (by rw [List.length_map]) (by omega) (fun j h1 h2 => by
                    rw [List.getElem_map]
                    have := Hsmall.out seen[j] (List.getElem_mem h2)
                    exact ⟨rfl, this.1, this.2⟩)
                  have hcf : Calls Tryz.prog 119 #[u5, .func (.func 120) #[.agg #[.int .i64 x1, .int .i64 x2]] #[]] w3 (Gives w3 (.bool (seen.any (meetsS (x1, x2))))) := containsFunc_ext (x1, x2) hx1 hx2 seen u5 w3 hslp
                  cases hany : seen.any (meetsS (x1, x2)) with
                  | true =>
                    rw [hany] at hcf
                    have Hbad : Hid (rightS m n = false) := Lib.hid (by
                      have h2 : (seen.any fun o => meetsS (x1, x2) o) = true := hany
                      rw [Hr.out, hpast.out, Hstep.out, h2]; simp)
                    clear Hr hpast Hstep Hok Htk hany
                    go_wp2_with (first | (go_at_call 119; refine hcf.mono ?_; rintro e w4 ⟨rfl, hb4⟩) | fail)
                    go_ret
                    exact ⟨by rw [Hbad.out]; rfl, below_trans hbw3 hb4⟩
                  | false =>
                    rw [hany] at hcf
                    have Hnext : Hid (rightL m n NS [] = rightL m n (NS.drop (k + 1)) ((NS.take (k + 1)).map (fext m))) := Lib.hid (by
                      have h2 : (seen.any fun o => meetsS (x1, x2) o) = false := hany
                      rw [hpast.out, Hstep.out, h2, Hok2.out]; simp)
                    clear Hr hpast Hstep Hok Hok2 hany
                    have hsr := fun W => src_ext W x1 x2
                    have hnlk : (seen.map extC).length = k := by rw [List.length_map, hslen]
                    have hrow3 := hown3.row
                    rw [hnlk] at hrow3
                    have hk1000 : k ≤ 1000 := by omega
                    go_wp2_with (first
                      | (go_at_call 119; refine hcf.mono ?_; rintro e w4 ⟨rfl, hb4⟩; have f04 := bcell hb4 f03; have f14 := bcell hb4 f13; have hrow4 := ownsRow_below hrow3 hb4; have hsz4 := (below_trans hb (below_trans hb2 (below_trans hb3 hb4))).size)
                      | (at_builtin; refine wpList_app (v := u5) rfl _ _ 170 170 rfl w1.heap.size 90 2 16 extElt Tryz.underlying170 _ _ rfl (hrow4.alloc _) rfl 1 _ (hsr _) (by unfold maxLen; omega) (by omega) (by simp; omega) ?_; intro v' w5 hown5 hg5 _)
                      | fail)
                    go_roundw
                    case rel =>
                      have hb15 : Below w1.heap.size w1 w5 := grown_below (below_alloc (below_trans hb (below_trans hb2 (below_trans hb3 hb4))) _) hg5 (by simp; omega) (fun g hg => (hrow4.lt g hg).1)
                      have hO : OwnR w5 w1.heap.size 90 2 v' (seen.map extC ++ [extC (x1, x2)]) := by
                        refine ⟨?_, fun c hc => ?_⟩
                        · have e1 : (seen.map extC ++ [extC (x1, x2)]).length = k + 1 := by rw [List.length_append, hnlk]; rfl
                          have e2 : (seen.map extC ++ [extC (x1, x2)]).flatten = (seen.map extC).flatten ++ [.int .i64 x1, .int .i64 x2] := by simp [extC]
                          rw [e1, e2]
                          exact hown5
                        · rcases List.mem_append.1 hc with hc | hc
                          · exact hown.len c hc
                          · simp only [List.mem_cons, List.not_mem_nil, or_false] at hc
                            subst hc; rfl
                      exact ⟨k + 1, hlt, by go_num, by rw [Htk.out]; exact hO, hb15, Hnext⟩
                    case measure => simp [intOf]; omega
      · have hke : k = NS.length := by omega
        subst hke
        have Hfin : Hid (rightS m n = true) := Lib.hid (by rw [Hr.out, hpast.out, List.drop_length]; rfl)
        go_wp2_with fail
        go_ret
        exact ⟨by rw [Hfin.out]; rfl, hbw⟩

end Go.Proofs.YtlhefifejcoecaaGreatDoor
