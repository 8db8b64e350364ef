/- Package certify, and sort.Search on which it leans. -/
import Derived.Test.YtgmcpfcpdmnebaaGreatCert
namespace Go.Proofs.YtgmcpfcpdmnebaaGreat
open Go.RowKit Go.Proofs Go.Shelf

/-- A number is the first at which p holds, p being false ahead of it and true behind. -/
def FirstAt (p : Nat → Bool) (n : Nat) (w : World) (e : Ending) (w' : World) : Prop :=
  ∃ k : Nat, e = .returned (.int .i64 k) ∧ k ≤ n ∧ (∀ t, t < k → p t = false) ∧ (k < n → p k = true) ∧ Below w.heap.size w w'

theorem mid_eq (a b : Nat) (ha : a ≤ 9223372036854775807) (hb : b ≤ 9223372036854775807) : wrap64 (IntKind.u64.wrap (wrap64 ((a : Int) + (b : Int))) / 2) = ((a : Int) + (b : Int)) / 2 := by
  simp only [wrap64, IntKind.wrap, IntKind.bits, IntKind.signed]
  simp
  omega

set_option maxHeartbeats 400000 in
theorem search_any (n : Nat) (g : Nat) (lb : Array Value) (eg : ∀ args w, (callFunc g args).run Tryz.prog w = .ok (.enter g args) w) (p : Nat → Bool) (w : World) (hn : n ≤ 9223372036854775807)
    (hp : ∀ i : Nat, i < n → ∀ W, Below w.heap.size w W → Calls Tryz.prog g (#[.int .i64 i] ++ lb) W (Gives W (.bool (p i)))) (hm : ∀ a b, a ≤ b → b < n → p a = true → p b = true) :
    Calls Tryz.prog 109 #[.int .i64 n, .func (.func g) #[] lb] w (FirstAt p n w) := by
  go_enter Tryz.func109, Tryz.ntmps109
  go_wp2
  go_loopw [5, 6] (fun i j wr => ∃ a b : Nat, a ≤ b ∧ b ≤ n ∧ i = .int .i64 a ∧ j = .int .i64 b ∧ Below w.heap.size w wr ∧ Hid ((∀ t, t < a → p t = false) ∧ (b < n → p b = true))) (fun i j _ => (intOf j - intOf i).toNat)
  case atStart => exact ⟨0, n, by omega, by omega, rfl, rfl, Below.refl _ _, Lib.hid ⟨fun t h => by omega, fun h => by omega⟩⟩
  case round =>
    obtain ⟨a, b, hab, hbn, rfl, rfl, hb, hx⟩ := hrel
    by_cases hlt : a < b
    · have hcall := hp ((a + b) / 2) (by omega) wr hb
      have hmid := mid_eq a b (by omega) (by omega)
      rw [show (((a + b) / 2 : Nat) : Int) = ((a : Int) + (b : Int)) / 2 from by omega] at hcall
      cases hpx : p ((a + b) / 2) with
      | false =>
        rw [hpx] at hcall
        have Hpx := Lib.hid hpx
        have Hm := Lib.hid hm
        clear hpx hp hm
        go_wp2_with (refine hcall.mono ?_; rintro e w1 ⟨rfl, hb1⟩)
        go_roundw
        case rel => exact ⟨(a + b) / 2 + 1, b, by omega, by omega, by go_num, rfl, hb.trans (hb1.mono hb.size), Lib.hid ⟨fun t ht => by
          cases h : p t with
          | false => rfl
          | true => have := Hm.out t ((a + b) / 2) (by omega) (by omega) h; rw [Hpx.out] at this; exact this.symm, hx.out.2⟩⟩
        case measure => simp [intOf]; omega
      | true =>
        rw [hpx] at hcall
        have Hpx := Lib.hid hpx
        have Hm := Lib.hid hm
        clear hpx hp hm
        go_wp2_with (refine hcall.mono ?_; rintro e w1 ⟨rfl, hb1⟩)
        go_roundw
        case rel => exact ⟨a, (a + b) / 2, by omega, by omega, rfl, by go_num, hb.trans (hb1.mono hb.size), Lib.hid ⟨hx.out.1, fun _ => Hpx.out⟩⟩
        case measure => simp [intOf]; omega
    · have : a = b := by omega
      subst this
      clear hp hm
      go_wp2
      go_ret
      exact ⟨a, rfl, hbn, hx.out.1, hx.out.2, hb⟩

/-- from$1: is the i-th key not below one? -/
theorem from1 (r : Rec) (key : ByteArray) (B C : Nat) (i : Nat) (hi : i < r.writes.length) (w : World) (hB : BoxP RecE w B r) (hC : w.cell? ⟨C, 0, none⟩ = some (.string key)) :
    Calls Tryz.prog 110 #[.int .i64 i, .pointer (some ⟨B, 0, none⟩), .pointer (some ⟨C, 0, none⟩)] w (Gives w (.bool (!ltB r.writes[i].key key))) := by
  obtain ⟨rv, wv, -, hw, -, -, -, -, c4⟩ := box_rec hB
  obtain ⟨q, cap, rfl, hlc, hcap, hcells⟩ := hw.pairs
  obtain ⟨b, off, rfl, s1, d0, d1, d2⟩ := hcells i hi
  replace d0 := fun s => later_cell d0 s
  replace c4 := fun s => later_cell c4 s
  replace hC := fun s => later_cell hC s
  have n0 : (0 : Int) ≤ (i : Int) := by omega
  have n1 : (i : Int) < (r.writes.length : Int) := by omega
  unfold ltB
  go_enter Tryz.func110, Tryz.ntmps110
  go_wp2
  refine wp_region_mild (by kernel_rfl) (by kernel_rfl) ?_
  repeat (go_big_quiet_step (fail))
  refine wpQuiet_nil ?_
  intro W hW
  go_wp2
  go_ret
  exact ⟨rfl, hW⟩

theorem PairE.inv {w : World} {cs : List Value} {x : Pair} (h : PairE w cs x) : cs = [.string x.key, .string x.val, .bool x.dead] := h.1

/-- rises -/
theorem rises_any (r : Rec) (cs : List Value) (w : World) (hr : RecE w cs r) : Calls Tryz.prog 103 #[.agg cs.toArray] w (Gives w (.bool (risesS r.writes))) := by
  obtain ⟨rv, wv, rfl, -, -, -, hw⟩ := hr
  have hs := fun W hb => isSorted_pair r.writes wv W (hw.mono PairE.mono (w' := W) hb)
  go_enter Tryz.func103, Tryz.ntmps103
  go_wp2_with (refine (hs _ ((Below.refl _ _).alloc (Nat.le_refl _) _)).mono ?_; rintro e w1 ⟨rfl, hb1⟩)
  go_ret
  exact ⟨rfl, ((Below.refl _ _).alloc (Nat.le_refl _) _).trans (hb1.mono (by simp))⟩

/-- from: how many keys there are ahead of one. -/
theorem from_any (r : Rec) (key : ByteArray) (cs : List Value) (w : World) (hr : RecE w cs r) (hm : ∀ a b (ha : a < r.writes.length) (hb : b < r.writes.length), a ≤ b → ltB r.writes[a].key key = false → ltB r.writes[b].key key = false) :
    Calls Tryz.prog 104 #[.agg cs.toArray, .string key] w (FirstAt (fun i => !ltB (r.writes[i]?.getD ⟨.empty, .empty, false⟩).key key) r.writes.length w) := by
  have hE := hr
  obtain ⟨rv, wv, rfl, -, -, -, hw⟩ := hr
  obtain ⟨q, cap, rfl, hlc, hcap, hcells⟩ := hw.pairs
  have eg : ∀ args w, (callFunc 110 args).run Tryz.prog w = .ok (.enter 110 args) w := enters_of Tryz.func110 (by kernel_rfl) rfl
  have hs := fun W hb => search_any r.writes.length 110 #[.pointer (some ⟨w.heap.size, 0, none⟩), .pointer (some ⟨w.heap.size + 1, 0, none⟩)] eg (fun i => !ltB (r.writes[i]?.getD ⟨.empty, .empty, false⟩).key key) W (by omega) hb
    (fun a b hab hb h => by
      simp only [List.getElem?_eq_getElem hb, List.getElem?_eq_getElem (Nat.lt_of_le_of_lt hab hb), Option.getD_some, Bool.not_eq_true'] at h ⊢
      exact hm a b (Nat.lt_of_le_of_lt hab hb) hb hab h)
  have h1 : Below w.heap.size w (w.alloc (.cells #[.int .i64 r.session, .int .i64 r.snap, .bool r.strict, rv, .slice q r.writes.length cap] 32)) := (Below.refl _ _).alloc (Nat.le_refl _) _
  have h2 := h1.alloc (by simp) (.cells #[.string key] 9)
  have b1 := (box_new RecE.mono w _ 32 hE)
  have hcall := hs ((w.alloc (.cells #[.int .i64 r.session, .int .i64 r.snap, .bool r.strict, rv, .slice q r.writes.length cap] 32)).alloc (.cells #[.string key] 9))
    (fun i hi W hb => by
      rw [List.getElem?_eq_getElem hi]
      exact from1 r key _ _ i hi W (b1.mono RecE.mono (below_trans (below_new _ _) hb)) (bcell hb (by simp)))
  clear hs hm hcells
  go_enter Tryz.func104, Tryz.ntmps104
  go_wp2_with (refine hcall.mono ?_; rintro e w1 ⟨k, rfl, hk, h3, h4, hb1⟩)
  go_ret
  exact ⟨k, rfl, hk, h3, h4, h2.trans (hb1.mono (by simp; omega))⟩


/-- A test of keys, as a function value. -/
def KeyC (P : Program) (g : Nat) (lb : Array Value) (p : ByteArray → Bool) (w : World) : Prop :=
  ∀ (k : ByteArray) (W : World), Below w.heap.size w W → Calls P g (#[.string k] ++ lb) W (Gives W (.bool (p k)))

/-- within$1 -/
theorem within1 (g : Nat) (lb : Array Value) (eg : ∀ args w, (callFunc g args).run Tryz.prog w = .ok (.enter g args) w) (p : ByteArray → Bool) (x : Pair) (cs : List Value) (B : Nat) (w : World) (hx : PairE w cs x)
    (hB : w.cell? ⟨B, 0, none⟩ = some (.func (.func g) #[] lb)) (hp : KeyC Tryz.prog g lb p w) :
    Calls Tryz.prog 105 #[.agg cs.toArray, .pointer (some ⟨B, 0, none⟩)] w (Gives w (.bool (p x.key))) := by
  obtain ⟨rfl, -, -⟩ := hx
  have hBl := World.block_lt_of_cell? w _ hB
  have hcall := hp x.key _ (below_new w (.cells #[.string x.key, .string x.val, .bool x.dead] 35))
  generalize p x.key = q at hcall ⊢
  clear hp
  go_enter Tryz.func105, Tryz.ntmps105
  go_wp2_with (refine hcall.mono ?_; rintro e w1 ⟨rfl, hb1⟩)
  go_ret
  exact ⟨rfl, below_trans (below_new _ _) hb1⟩

theorem ltB_eq (a b : ByteArray) : ltB a b = decide (a.toList < b.toList) := bytesLess_eq _ _

theorem ltB_ge_trans {a b c : ByteArray} (h : ltB a b = false) (k : ltB b c = false) : ltB a c = false := by
  rw [ltB_eq] at *
  simp only [decide_eq_false_iff_not, List.not_lt] at *
  exact List.le_trans k h

theorem ltB_irrefl (a : ByteArray) : ltB a a = false := by
  rw [ltB_eq, decide_eq_false_iff_not]; exact List.lt_irrefl _

theorem eqB_iff {a b : ByteArray} : eqB a b = true ↔ a.toList = b.toList := by unfold eqB; simp

theorem ltB_antisymm {a b : ByteArray} (h : ltB a b = false) (k : ltB b a = false) : eqB a b = true := by
  rw [ltB_eq] at *
  simp only [decide_eq_false_iff_not, List.not_lt] at *
  exact eqB_iff.2 (List.le_antisymm k h)

theorem ltB_asymm {a b : ByteArray} (h : ltB a b = true) : ltB b a = false := by
  rw [ltB_eq] at *
  simp only [decide_eq_true_eq, decide_eq_false_iff_not] at *
  exact List.lt_asymm h

theorem ltB_lt_of_ge {a b c : ByteArray} (h : ltB b a = false) (k : ltB b c = true) : ltB a c = true := by
  rw [ltB_eq] at *
  simp only [decide_eq_true_eq, decide_eq_false_iff_not, List.not_lt] at *
  exact List.lt_of_le_of_lt h k

/-- Keys that rise: one further behind is not below. -/
theorem rises_le {l : List Pair} (h : risesS l = true) : ∀ (b a : Nat) (ha : a < l.length) (hb : b < l.length), a ≤ b → ltB l[b].key l[a].key = false := by
  intro b
  induction b with
  | zero => intro a ha hb hab; have : a = 0 := by omega
            subst this; exact ltB_irrefl _
  | succ b ih =>
    intro a ha hb hab
    by_cases e : a = b + 1
    · subst e; exact ltB_irrefl _
    · have h1 := ih a ha (by omega) (by omega)
      have h2 := (adj_iff _ l).1 h b hb
      simp only [Bool.not_eq_true'] at h2
      exact ltB_ge_trans h2 h1

/-- What 'within' says where keys rise. -/
theorem any_of_first {l : List Pair} (hr : risesS l = true) (p : ByteArray → Bool) (lo : ByteArray) (hlo : ∀ k, p k = true → ltB k lo = false)
    (hdown : ∀ a b, ltB a lo = false → ltB b a = false → p b = true → p a = true) (k : Nat) (hk : k ≤ l.length)
    (h3 : ∀ t, t < k → (fun i => !ltB (l[i]?.getD ⟨.empty, .empty, false⟩).key lo) t = false) (h4 : k < l.length → (fun i => !ltB (l[i]?.getD ⟨.empty, .empty, false⟩).key lo) k = true) :
    (l.any fun x => p x.key) = if h : k < l.length then p l[k].key else false := by
  split
  · rename_i h
    cases hp : p l[k].key with
    | true => exact List.any_eq_true.2 ⟨l[k], List.getElem_mem h, hp⟩
    | false =>
      rw [List.any_eq_false]
      intro x hx hpx
      obtain ⟨j, hj, rfl⟩ := List.getElem_of_mem hx
      have h5 := hlo _ hpx
      have hjk : k ≤ j := by
        rcases Nat.lt_or_ge j k with h6 | h6
        · have := h3 j h6
          simp only [List.getElem?_eq_getElem hj, Option.getD_some, Bool.not_eq_false'] at this
          rw [h5] at this; simp at this
        · exact h6
      have h6 := h4 h
      simp only [List.getElem?_eq_getElem h, Option.getD_some, Bool.not_eq_true'] at h6
      have := hdown _ _ h6 (rises_le hr j k h hj hjk) hpx
      rw [hp] at this; simp at this
  · rename_i h
    rw [List.any_eq_false]
    intro x hx hpx
    obtain ⟨j, hj, rfl⟩ := List.getElem_of_mem hx
    have := h3 j (by omega)
    simp only [List.getElem?_eq_getElem hj, Option.getD_some, Bool.not_eq_false'] at this
    rw [hlo _ hpx] at this; simp at this

theorem from_mono {l : List Pair} (hr : risesS l = true) (lo : ByteArray) : ∀ a b (ha : a < l.length) (hb : b < l.length), a ≤ b → ltB l[a].key lo = false → ltB l[b].key lo = false :=
  fun a b ha hb hab h => ltB_ge_trans (rises_le hr b a ha hb hab) h

set_option maxHeartbeats 1000000 in
/-- within: is there a write of which a test holds? -/
theorem within_any (r : Rec) (cs : List Value) (g : Nat) (lb : Array Value) (eg : ∀ args w, (callFunc g args).run Tryz.prog w = .ok (.enter g args) w) (p : ByteArray → Bool) (lo : ByteArray) (w : World) (hr : RecE w cs r)
    (hp : KeyC Tryz.prog g lb p w) (hlo : ∀ k, p k = true → ltB k lo = false) (hdown : ∀ a b, ltB a lo = false → ltB b a = false → p b = true → p a = true) :
    Calls Tryz.prog 93 #[.agg cs.toArray, .func (.func g) #[] lb, .string lo] w (Gives w (.bool (r.writes.any fun x => p x.key))) := by
  have hE := hr
  obtain ⟨rv, wv, rfl, -, -, -, hw⟩ := hr
  have hw0 := hw
  obtain ⟨q, cap, rfl, hlc, hcap, hcells⟩ := hw.pairs
  have hrise := fun W hb => rises_any r _ W (RecE.mono.mono (w' := W) hb hE)
  have hrun := @any_of_first r.writes
  cases hq : risesS r.writes with
  | true =>
    rw [hq] at hrise
    have hfrom := fun W hb => from_any r lo _ W (RecE.mono.mono (w' := W) hb hE) (from_mono hq lo)
    have Hrun := Lib.hid (hrun hq p lo hlo hdown)
    clear hrun hq hlo hdown
    go_enter Tryz.func93, Tryz.ntmps93
    go_wp2_with (first
      | (go_at_call 103; refine (hrise _ (below_alloc (below_new _ _) _)).mono ?_; rintro e w1 ⟨rfl, hb1⟩; have c0 := bcell hb1 (a := ⟨w.heap.size, 0, none⟩) (v := .int .i64 r.session) (by simp); have c1 := bcell hb1 (a := ⟨w.heap.size, 1, none⟩) (v := .int .i64 r.snap) (by simp); have c2 := bcell hb1 (a := ⟨w.heap.size, 2, none⟩) (v := .bool r.strict) (by simp); have c3 := bcell hb1 (a := ⟨w.heap.size, 3, none⟩) (v := rv) (by simp); have c4 := bcell hb1 (a := ⟨w.heap.size, 4, none⟩) (v := .slice q r.writes.length cap) (by simp); have c5 := bcell hb1 (a := ⟨w.heap.size + 1, 0, none⟩) (v := .func (.func g) #[] lb) (by simp); have hb1' := below_trans (below_alloc (below_new _ _) _) hb1; clear hb1)
      | (go_at_call 104; refine (hfrom _ (by assumption)).mono ?_; rintro e w2 ⟨k, rfl, hk, h3, h4, hb2⟩))
    have Hr := Hrun.out k hk h3 h4
    clear h3 h4 Hrun hfrom hrise
    have hw2 := below_trans hb1' hb2
    replace c4 := fun s => later_cell (bcell hb2 c4) s
    replace c5 := fun s => later_cell (bcell hb2 c5) s
    by_cases hkl : k < r.writes.length
    · rw [dif_pos hkl] at Hr
      have Hr2 := Lib.hid Hr
      clear Hr
      obtain ⟨b, off, rfl, s1, d0, -, -⟩ := hcells k hkl
      replace d0 := fun s => later_cell (bcell hw2 d0) s
      have n0 : (0 : Int) ≤ (k : Int) := by omega
      have n1 : (k : Int) < (r.writes.length : Int) := by omega
      have hcall := fun s => hp r.writes[k].key (later w2 s) (below_trans hw2 (later_below w2 s))
      generalize p r.writes[k].key = q1 at hcall Hr2
      clear hp hcells
      refine wp_region_mild (by kernel_rfl) (by kernel_rfl) ?_
      repeat (go_big_quiet_step ((exact mild_of (hcall _))))
      refine wpQuiet_nil ?_
      intro W hW
      go_wp2
      go_ret
      exact ⟨by rw [Hr2.out]; rfl, below_trans hw2 hW⟩
    · rw [dif_neg hkl] at Hr
      have Hr2 := Lib.hid Hr
      clear Hr hp hcells
      have n1 : decide ((k : Int) < (r.writes.length : Int)) = false := by simp; omega
      refine wp_region_mild (by kernel_rfl) (by kernel_rfl) ?_
      repeat (go_big_quiet_step (fail))
      refine wpQuiet_nil ?_
      intro W hW
      go_wp2
      go_ret
      exact ⟨by rw [Hr2.out]; rfl, below_trans hw2 hW⟩
  | false =>
    rw [hq] at hrise
    have eg1 : ∀ args w, (callFunc 105 args).run Tryz.prog w = .ok (.enter 105 args) w := enters_of Tryz.func105 (by kernel_rfl) rfl
    have hany := fun W hb hB => containsFunc_pair 105 #[.pointer (some ⟨w.heap.size + 1, 0, none⟩)] eg1 (fun x => p x.key) r.writes _ W (hw0.mono PairE.mono hb) (fun x _ W' cs' hb' he' =>
      within1 g lb eg p x cs' (w.heap.size + 1) W' he' (bcell hb' hB) (fun k W'' hb'' => hp k W'' (below_trans (below_trans hb hb') hb'')))
    generalize (r.writes.any fun x => p x.key) = q1 at hany ⊢
    clear hrun hq hlo hdown hp hcells
    go_enter Tryz.func93, Tryz.ntmps93
    go_wp2_with (first
      | (go_at_call 103; refine (hrise _ (below_alloc (below_new _ _) _)).mono ?_; rintro e w1 ⟨rfl, hb1⟩; have c4 := bcell hb1 (a := ⟨w.heap.size, 4, none⟩) (v := .slice q r.writes.length cap) (by simp); have c5 := bcell hb1 (a := ⟨w.heap.size + 1, 0, none⟩) (v := .func (.func g) #[] lb) (by simp); have hb1' := below_trans (below_alloc (below_new _ _) _) hb1; clear hb1)
      | (go_at_call 64; refine (hany _ (by assumption) (by assumption)).mono ?_; rintro e w2 ⟨rfl, hb2⟩))
    go_ret
    exact ⟨rfl, below_trans hb1' hb2⟩

end Go.Proofs.YtgmcpfcpdmnebaaGreat
