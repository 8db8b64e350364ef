/- Packages store and record: which pairs, reads and records may be. -/
import Derived.Test.YtgmcpfcpdmnebaaGreatCert3
import Derived.Test.YtgmcpfcpdmnebaaGreatMap
namespace Go.Proofs.YtgmcpfcpdmnebaaGreat
open Go.RowKit Go.Proofs Go.Shelf

def emp (s : ByteArray) : Bool := s.toList.isEmpty
def goodPairS (p : Pair) : Bool := !emp p.key && decide (p.key.size ≤ 64) && decide (p.val.size ≤ 256) && (!p.dead || emp p.val)
def goodS (l : List Pair) : Bool := l.all goodPairS && adj (fun a b => ltB a.key b.key) l
def inS (x : Rd) (p : Pair) : Bool := !p.dead && (if x.scan then inRange p.key x.key x.to else eqB p.key x.key)
def goodReadS (x : Rd) : Bool :=
  decide (x.key.size ≤ 64) && decide (x.to.size ≤ 64) && decide (x.pairs.length ≤ 200) && goodS x.pairs && (x.scan || (!emp x.key && emp x.to && decide (x.pairs.length ≤ 1))) && x.pairs.all (inS x)

set_option maxHeartbeats 400000 in
theorem goodPair_any (p : Pair) (cs : List Value) (w : World) (hp : PairE w cs p) : Calls Tryz.prog 51 #[.agg cs.toArray] w (Gives w (.bool (goodPairS p))) := by
  obtain ⟨rfl, h1, h2⟩ := hp
  unfold goodPairS emp
  have h3 : p.key.size ≤ 9223372036854775807 := by omega
  have h4 : p.val.size ≤ 9223372036854775807 := by omega
  obtain ⟨k, v, d⟩ := p
  dsimp only at h1 h2 h3 h4 ⊢
  by_cases a1 : k.toList = []
  · go_enter Tryz.func51, Tryz.ntmps51
    go_wp2
    go_ret
    exact ⟨by simp [a1], below_new _ _⟩
  · by_cases a2 : k.size ≤ 64
    · have a2' : (k.size : Int) ≤ 64 := by omega
      by_cases a3 : v.size ≤ 256
      · have a3' : (v.size : Int) ≤ 256 := by omega
        cases d <;> (go_enter Tryz.func51, Tryz.ntmps51; go_wp2; go_ret; exact ⟨by simp [a1, a2, a3], below_new _ _⟩)
      · have a3' : ¬ (v.size : Int) ≤ 256 := by omega
        go_enter Tryz.func51, Tryz.ntmps51
        go_wp2
        go_ret
        exact ⟨by simp [a1, a2, a3], below_new _ _⟩
    · have a2' : ¬ (k.size : Int) ≤ 64 := by omega
      go_enter Tryz.func51, Tryz.ntmps51
      go_wp2
      go_ret
      exact ⟨by simp [a1, a2], below_new _ _⟩

/-- Where the pairs up to place k are good. -/
def goodUpTo (l : List Pair) (k : Nat) : Prop := ∀ i, i < k → (h : i < l.length) → goodPairS l[i] = true ∧ ∀ j, j + 1 = i → (hj : j < l.length) → ltB l[j].key l[i].key = true

theorem goodS_iff (l : List Pair) : goodS l = true ↔ goodUpTo l l.length := by
  unfold goodS goodUpTo
  rw [Bool.and_eq_true, adj_iff, List.all_eq_true]
  constructor
  · rintro ⟨h1, h2⟩ i _ hi
    refine ⟨h1 _ (List.getElem_mem hi), fun j e hj => ?_⟩
    subst e
    exact h2 j hi
  · intro h
    refine ⟨fun x hx => ?_, fun i hi => (h (i + 1) hi hi).2 i rfl (by omega)⟩
    obtain ⟨i, hi, rfl⟩ := List.getElem_of_mem hx
    exact (h i hi hi).1

set_option maxHeartbeats 1000000 in
theorem good_any (l : List Pair) (v : Value) (w : World) (hv : SlP 3 PairE w v l) : Calls Tryz.prog 32 #[v] w (Gives w (.bool (goodS l))) := by
  obtain ⟨q, cap, rfl, hlc, hcap, hcells⟩ := hv.pairs
  go_enter Tryz.func32, Tryz.ntmps32
  go_wp2
  go_loopw [7, 3, 4] (fun i _ _ wr => ∃ k : Nat, k ≤ l.length ∧ i = .int .i64 k ∧ Below w.heap.size w wr ∧ Hid (goodUpTo l k)) (fun i _ _ _ => l.length - (intOf i).toNat)
  case atStart => exact ⟨0, Nat.zero_le _, rfl, Below.refl _ _, Lib.hid (fun i h => by omega)⟩
  case round =>
    obtain ⟨k, hk, rfl, hb, hg⟩ := hrel
    by_cases hlt : k < l.length
    · obtain ⟨b, off, rfl, s1, c0, c1, c2⟩ := hcells k hlt
      replace c0 := bcell hb c0
      replace c1 := bcell hb c1
      replace c2 := bcell hb c2
      have hcall := fun W => goodPair_any l[k] _ W ⟨rfl, s1⟩
      have hfalse : goodPairS l[k] = false → goodS l = false := fun h => by
        cases hq : goodS l with
        | false => rfl
        | true => have := ((goodS_iff l).1 hq k hlt hlt).1; rw [h] at this; simp at this
      have hstep : goodPairS l[k] = true → (∀ j, j + 1 = k → (hj : j < l.length) → ltB l[j].key l[k].key = true) → goodUpTo l (k + 1) := fun h1 h2 i hi hil => by
        by_cases e : i = k
        · subst e; exact ⟨h1, h2⟩
        · exact hg.out i (by omega) hil
      have Hfalse := Lib.hid hfalse
      have Hstep := Lib.hid hstep
      clear hfalse hstep
      cases hgp : goodPairS l[k] with
      | false =>
        rw [hgp] at hcall
        have Hgp := Lib.hid hgp
        clear hgp hcells
        go_wp2
        have e0 := later_cell (w := wr.alloc (.cells #[.string l[k].key, .string l[k].val, .bool l[k].dead] 35)) (a := ⟨wr.heap.size, 0, none⟩) (v := .string l[k].key) (by simp)
        have e1 := later_cell (w := wr.alloc (.cells #[.string l[k].key, .string l[k].val, .bool l[k].dead] 35)) (a := ⟨wr.heap.size, 1, none⟩) (v := .string l[k].val) (by simp)
        have e2 := later_cell (w := wr.alloc (.cells #[.string l[k].key, .string l[k].val, .bool l[k].dead] 35)) (a := ⟨wr.heap.size, 2, none⟩) (v := .bool l[k].dead) (by simp)
        refine wp_region_mild (by kernel_rfl) (by kernel_rfl) ?_
        repeat (go_big_quiet_step ((exact mild_of (hcall _))))
        refine wpQuiet_nil ?_
        intro W hW
        go_wp2
        go_ret
        exact ⟨by rw [Hfalse.out Hgp.out]; rfl, below_trans (below_alloc hb _) hW⟩
      | true =>
        rw [hgp] at hcall
        have Hgp := Lib.hid hgp
        clear hgp
        by_cases hk0 : 0 < k
        · obtain ⟨m, rfl⟩ : ∃ m, k = m + 1 := ⟨k - 1, by omega⟩
          obtain ⟨b', off', hp', s2, f0, -, -⟩ := hcells m (by omega)
          simp only [Option.some.injEq, Addr.mk.injEq, and_true] at hp'
          obtain ⟨rfl, rfl⟩ := hp'
          replace f0 := bcell hb f0
          have hfb := World.block_lt_of_cell? wr _ f0
          cases hlk : ltB l[m].key l[m + 1].key with
          | true =>
            have Hlk := Lib.hid hlk
            unfold ltB at hlk
            clear hcells
            go_wp2
            have e0 := later_cell (w := wr.alloc (.cells #[.string l[m + 1].key, .string l[m + 1].val, .bool l[m + 1].dead] 35)) (a := ⟨wr.heap.size, 0, none⟩) (v := .string l[m + 1].key) (by simp)
            have e1 := later_cell (w := wr.alloc (.cells #[.string l[m + 1].key, .string l[m + 1].val, .bool l[m + 1].dead] 35)) (a := ⟨wr.heap.size, 1, none⟩) (v := .string l[m + 1].val) (by simp)
            have e2 := later_cell (w := wr.alloc (.cells #[.string l[m + 1].key, .string l[m + 1].val, .bool l[m + 1].dead] 35)) (a := ⟨wr.heap.size, 2, none⟩) (v := .bool l[m + 1].dead) (by simp)
            have e3 := later_cell (w := wr.alloc (.cells #[.string l[m + 1].key, .string l[m + 1].val, .bool l[m + 1].dead] 35)) (a := ⟨b, off + m * 3, none⟩) (v := .string l[m].key) (by simpa using bcell (below_new _ _) f0)
            have n2 : (0 : Int) ≤ (m : Int) := by omega
            have n3 : (m : Int) < (l.length : Int) := by omega
            have n5 : IntKind.i64.wrap ((m : Int) + 1 - 1) = (m : Int) := by rw [IntWalk.i64_in _ (by omega)]; omega
            have n6 : (0 : Int) < (m : Int) + 1 := by omega
            refine wp_region_mild (by kernel_rfl) (by kernel_rfl) ?_
            repeat (go_big_quiet_step ((exact mild_of (hcall _))))
            refine wpQuiet_nil ?_
            intro W hW
            clear n5
            go_wp2
            go_roundw
            case rel => exact ⟨m + 2, by omega, by go_num, below_trans (below_alloc hb _) hW, Lib.hid (Hstep.out Hgp.out fun j hj _ => by
              have : j = m := by omega
              subst this; exact Hlk.out)⟩
            case measure => simp [intOf]; omega
          | false =>
            have Hq : Hid (goodS l = false) := Lib.hid (by
              cases hq : goodS l with
              | false => rfl
              | true => have := ((goodS_iff l).1 hq (m + 1) hlt hlt).2 m rfl (by omega); rw [hlk] at this; simp at this)
            unfold ltB at hlk
            clear hcells
            go_wp2
            have e0 := later_cell (w := wr.alloc (.cells #[.string l[m + 1].key, .string l[m + 1].val, .bool l[m + 1].dead] 35)) (a := ⟨wr.heap.size, 0, none⟩) (v := .string l[m + 1].key) (by simp)
            have e1 := later_cell (w := wr.alloc (.cells #[.string l[m + 1].key, .string l[m + 1].val, .bool l[m + 1].dead] 35)) (a := ⟨wr.heap.size, 1, none⟩) (v := .string l[m + 1].val) (by simp)
            have e2 := later_cell (w := wr.alloc (.cells #[.string l[m + 1].key, .string l[m + 1].val, .bool l[m + 1].dead] 35)) (a := ⟨wr.heap.size, 2, none⟩) (v := .bool l[m + 1].dead) (by simp)
            have e3 := later_cell (w := wr.alloc (.cells #[.string l[m + 1].key, .string l[m + 1].val, .bool l[m + 1].dead] 35)) (a := ⟨b, off + m * 3, none⟩) (v := .string l[m].key) (by simpa using bcell (below_new _ _) f0)
            have n2 : (0 : Int) ≤ (m : Int) := by omega
            have n3 : (m : Int) < (l.length : Int) := by omega
            have n5 : IntKind.i64.wrap ((m : Int) + 1 - 1) = (m : Int) := by rw [IntWalk.i64_in _ (by omega)]; omega
            have n6 : (0 : Int) < (m : Int) + 1 := by omega
            refine wp_region_mild (by kernel_rfl) (by kernel_rfl) ?_
            repeat (go_big_quiet_step ((exact mild_of (hcall _))))
            refine wpQuiet_nil ?_
            intro W hW
            go_wp2
            go_ret
            exact ⟨by rw [Hq.out]; rfl, below_trans (below_alloc hb _) hW⟩
        · have : k = 0 := by omega
          subst this
          clear hcells
          simp only [Nat.zero_mul, Nat.add_zero] at c0 c1 c2
          go_wp2
          have e0 := later_cell (w := wr.alloc (.cells #[.string l[0].key, .string l[0].val, .bool l[0].dead] 35)) (a := ⟨wr.heap.size, 0, none⟩) (v := .string l[0].key) (by simp)
          have e1 := later_cell (w := wr.alloc (.cells #[.string l[0].key, .string l[0].val, .bool l[0].dead] 35)) (a := ⟨wr.heap.size, 1, none⟩) (v := .string l[0].val) (by simp)
          have e2 := later_cell (w := wr.alloc (.cells #[.string l[0].key, .string l[0].val, .bool l[0].dead] 35)) (a := ⟨wr.heap.size, 2, none⟩) (v := .bool l[0].dead) (by simp)
          refine wp_region_mild (by kernel_rfl) (by kernel_rfl) ?_
          repeat (go_big_quiet_step ((exact mild_of (hcall _))))
          refine wpQuiet_nil ?_
          intro W hW
          go_wp2
          go_roundw
          case rel => exact ⟨1, by omega, by go_num, below_trans (below_alloc hb _) hW, Lib.hid (Hstep.out Hgp.out fun j hj _ => by omega)⟩
          case measure => simp [intOf]; omega
    · have : k = l.length := by omega
      subst this
      go_wp2
      go_ret
      exact ⟨by rw [(goodS_iff l).2 hg.out]; rfl, hb⟩

/-- in -/
theorem in_any (x : Rd) (p : Pair) (cs ds : List Value) (w : World) (hx : RdE w cs x) (hp : PairE w ds p) : Calls Tryz.prog 88 #[.agg cs.toArray, .agg ds.toArray] w (Gives w (.bool (inS x p))) := by
  obtain ⟨pv, rfl, -, -, -⟩ := hx
  obtain ⟨rfl, -, -⟩ := hp
  have hq : inS x p = (!p.dead && (if x.scan then inRange p.key x.key x.to else eqB p.key x.key)) := rfl
  generalize inS x p = q at hq ⊢
  have h2 := below_alloc (below_new w (.cells #[.bool x.scan, .string x.key, .string x.to, pv] 37)) (.cells #[.string p.key, .string p.val, .bool p.dead] 35)
  cases hd : p.dead with
  | true =>
    rw [hd] at hq h2
    have Hq := Lib.hid hq
    clear hq
    go_enter Tryz.func88, Tryz.ntmps88
    go_wp2
    go_ret
    exact ⟨by rw [Hq.out]; rfl, h2⟩
  | false =>
    rw [hd] at hq h2
    cases hs : x.scan with
    | true =>
      rw [hs] at hq h2
      simp only [Bool.not_false, Bool.true_and, if_true] at hq
      unfold inRange ltB at hq
      have Hq := Lib.hid hq
      clear hq
      cases h1 : Op.bytesLess p.key.toList x.key.toList <;> (go_enter Tryz.func88, Tryz.ntmps88; go_wp2; go_ret; exact ⟨by rw [Hq.out]; simp [h1], h2⟩)
    | false =>
      rw [hs] at hq h2
      simp only [Bool.not_false, Bool.true_and, Bool.false_eq_true, if_false] at hq
      unfold eqB at hq
      have Hq := Lib.hid hq
      clear hq
      go_enter Tryz.func88, Tryz.ntmps88
      go_wp2
      go_ret
      exact ⟨by rw [Hq.out]; rfl, h2⟩

/-- goodRead$1 -/
theorem goodRead1 (x : Rd) (p : Pair) (ds : List Value) (B : Nat) (w : World) (hp : PairE w ds p) (hB : BoxP RdE w B x) : Calls Tryz.prog 87 #[.agg ds.toArray, .pointer (some ⟨B, 0, none⟩)] w (Gives w (.bool (!inS x p))) := by
  have hP := hp
  obtain ⟨rfl, -, -⟩ := hp
  obtain ⟨cs, hE, hc⟩ := hB
  have hE0 := hE
  obtain ⟨pv, rfl, -, -, -⟩ := hE
  have c0 := hc 0 (by simp)
  have c1 := hc 1 (by simp)
  have c2 := hc 2 (by simp)
  have c3 := hc 3 (by simp)
  simp only [List.getElem_cons_zero, List.getElem_cons_succ] at c0 c1 c2 c3
  have hBl := World.block_lt_of_cell? w _ c0
  have hcall := fun W hb => in_any x p _ _ W (RdE.mono.mono (w' := W) hb hE0) (PairE.mono.mono hb hP)
  generalize inS x p = q at hcall ⊢
  clear hc
  go_enter Tryz.func87, Tryz.ntmps87
  go_wp2_with (refine (hcall _ (below_new _ _)).mono ?_; rintro e w1 ⟨rfl, hb1⟩)
  go_ret
  exact ⟨rfl, below_trans (below_new _ _) hb1⟩

set_option maxHeartbeats 2000000 in
/-- goodRead -/
theorem goodRead_any (x : Rd) (cs : List Value) (w : World) (hx : RdE w cs x) : Calls Tryz.prog 56 #[.agg cs.toArray] w (Gives w (.bool (goodReadS x))) := by
  have hE := hx
  obtain ⟨pv, rfl, hk, ht, hpv⟩ := hx
  have hgood := fun W hb => good_any x.pairs pv W (hpv.mono PairE.mono (w' := W) hb)
  have hbx := box_new RdE.mono w _ 37 hE
  have eg : ∀ args w, (callFunc 87 args).run Tryz.prog w = .ok (.enter 87 args) w := enters_of Tryz.func87 (by kernel_rfl) rfl
  have hany := fun W (hb : Below (w.alloc (.cells [.bool x.scan, .string x.key, .string x.to, pv].toArray 37)).heap.size (w.alloc (.cells [.bool x.scan, .string x.key, .string x.to, pv].toArray 37)) W) =>
    containsFunc_pair 87 #[.pointer (some ⟨w.heap.size, 0, none⟩)] eg (fun p => !inS x p) x.pairs pv W (hpv.mono PairE.mono (below_trans (below_new _ _) hb))
      (fun p _ W' ds hb' he => goodRead1 x p ds w.heap.size W' he (hbx.mono RdE.mono (below_trans hb hb')))
  have hq : goodReadS x = (decide (x.key.size ≤ 64) && decide (x.to.size ≤ 64) && decide (x.pairs.length ≤ 200) && goodS x.pairs && (x.scan || (!emp x.key && emp x.to && decide (x.pairs.length ≤ 1))) && x.pairs.all (inS x)) := rfl
  have hall : x.pairs.all (inS x) = !(x.pairs.any fun p => !inS x p) := by simp [List.all_eq_not_any_not]
  rw [hall] at hq
  generalize (x.pairs.any fun p => !inS x p) = anyq at hq hany
  generalize goodS x.pairs = gq at hq hgood
  generalize goodReadS x = q at hq ⊢
  obtain ⟨pp, cap, rfl, hlc, hcap, -, -⟩ := hpv
  obtain ⟨sc, k, t, ps⟩ := x
  dsimp only at *
  generalize ps.length = n at *
  clear hall hE hbx
  have Hq := Lib.hid hq
  clear hq
  by_cases a1 : k.size ≤ 64
  · have a1' : (k.size : Int) ≤ 64 := by omega
    by_cases a2 : t.size ≤ 64
    · have a2' : (t.size : Int) ≤ 64 := by omega
      by_cases a3 : n ≤ 200
      · have a3' : (n : Int) ≤ 200 := by omega
        cases gq with
        | false =>
          go_enter Tryz.func56, Tryz.ntmps56
          go_wp2_with (first
            | (go_at_call 32; refine (hgood _ (below_new _ _)).mono ?_; rintro e w1 ⟨rfl, hb1⟩))
          go_ret
          exact ⟨by rw [Hq.out]; simp, below_trans (below_new _ _) hb1⟩
        | true =>
          cases sc with
          | true =>
            go_enter Tryz.func56, Tryz.ntmps56
            go_wp2_with (first
              | (go_at_call 32; refine (hgood _ (below_new _ _)).mono ?_; rintro e w1 ⟨rfl, hb1⟩; have c0 := bcell hb1 (a := ⟨w.heap.size, 0, none⟩) (v := .bool true) (by simp); have c1 := bcell hb1 (a := ⟨w.heap.size, 1, none⟩) (v := .string k) (by simp); have c2 := bcell hb1 (a := ⟨w.heap.size, 2, none⟩) (v := .string t) (by simp); have c3 := bcell hb1 (a := ⟨w.heap.size, 3, none⟩) (v := .slice pp n cap) (by simp))
              | (go_at_call 64; refine (hany _ hb1).mono ?_; rintro e w2 ⟨rfl, hb2⟩))
            go_ret
            exact ⟨by rw [Hq.out]; simp_all [emp], below_trans (below_trans (below_new _ _) hb1) hb2⟩
          | false =>
            by_cases b1 : k.toList = []
            · go_enter Tryz.func56, Tryz.ntmps56
              go_wp2_with (first
                | (go_at_call 32; refine (hgood _ (below_new _ _)).mono ?_; rintro e w1 ⟨rfl, hb1⟩; have c0 := bcell hb1 (a := ⟨w.heap.size, 0, none⟩) (v := .bool false) (by simp); have c1 := bcell hb1 (a := ⟨w.heap.size, 1, none⟩) (v := .string k) (by simp); have c2 := bcell hb1 (a := ⟨w.heap.size, 2, none⟩) (v := .string t) (by simp); have c3 := bcell hb1 (a := ⟨w.heap.size, 3, none⟩) (v := .slice pp n cap) (by simp)))
              go_ret
              exact ⟨by rw [Hq.out]; simp_all [emp], below_trans (below_new _ _) hb1⟩
            · by_cases b2 : t.toList = []
              · by_cases b3 : n ≤ 1
                · have b3' : decide ((1 : Int) < (n : Int)) = false := by simp; omega
                  have b2' : (!t.toList.isEmpty) = false := by simp [b2]
                  have b1' : k.toList.isEmpty = false := by simp [b1]
                  go_enter Tryz.func56, Tryz.ntmps56
                  go_wp2_with (first
                    | (go_at_call 32; refine (hgood _ (below_new _ _)).mono ?_; rintro e w1 ⟨rfl, hb1⟩; have c0 := bcell hb1 (a := ⟨w.heap.size, 0, none⟩) (v := .bool false) (by simp); have c1 := bcell hb1 (a := ⟨w.heap.size, 1, none⟩) (v := .string k) (by simp); have c2 := bcell hb1 (a := ⟨w.heap.size, 2, none⟩) (v := .string t) (by simp); have c3 := bcell hb1 (a := ⟨w.heap.size, 3, none⟩) (v := .slice pp n cap) (by simp))
                    | (go_at_call 64; refine (hany _ hb1).mono ?_; rintro e w2 ⟨rfl, hb2⟩))
                  go_ret
                  exact ⟨by rw [Hq.out]; simp_all [emp], below_trans (below_trans (below_new _ _) hb1) hb2⟩
                · have b3' : decide ((1 : Int) < (n : Int)) = true := by simp; omega
                  have b2' : (!t.toList.isEmpty) = false := by simp [b2]
                  have b1' : k.toList.isEmpty = false := by simp [b1]
                  go_enter Tryz.func56, Tryz.ntmps56
                  go_wp2_with (first
                    | (go_at_call 32; refine (hgood _ (below_new _ _)).mono ?_; rintro e w1 ⟨rfl, hb1⟩; have c0 := bcell hb1 (a := ⟨w.heap.size, 0, none⟩) (v := .bool false) (by simp); have c1 := bcell hb1 (a := ⟨w.heap.size, 1, none⟩) (v := .string k) (by simp); have c2 := bcell hb1 (a := ⟨w.heap.size, 2, none⟩) (v := .string t) (by simp); have c3 := bcell hb1 (a := ⟨w.heap.size, 3, none⟩) (v := .slice pp n cap) (by simp)))
                  go_ret
                  exact ⟨by rw [Hq.out]; simp [b3], below_trans (below_new _ _) hb1⟩
              · go_enter Tryz.func56, Tryz.ntmps56
                go_wp2_with (first
                  | (go_at_call 32; refine (hgood _ (below_new _ _)).mono ?_; rintro e w1 ⟨rfl, hb1⟩; have c0 := bcell hb1 (a := ⟨w.heap.size, 0, none⟩) (v := .bool false) (by simp); have c1 := bcell hb1 (a := ⟨w.heap.size, 1, none⟩) (v := .string k) (by simp); have c2 := bcell hb1 (a := ⟨w.heap.size, 2, none⟩) (v := .string t) (by simp); have c3 := bcell hb1 (a := ⟨w.heap.size, 3, none⟩) (v := .slice pp n cap) (by simp)))
                go_ret
                exact ⟨by rw [Hq.out]; simp_all [emp], below_trans (below_new _ _) hb1⟩
      · have a3' : ¬ (n : Int) ≤ 200 := by omega
        go_enter Tryz.func56, Tryz.ntmps56
        go_wp2
        go_ret
        exact ⟨by rw [Hq.out]; simp [a3], below_new _ _⟩
    · have a2' : ¬ (t.size : Int) ≤ 64 := by omega
      go_enter Tryz.func56, Tryz.ntmps56
      go_wp2
      go_ret
      exact ⟨by rw [Hq.out]; simp [a2], below_new _ _⟩
  · have a1' : ¬ (k.size : Int) ≤ 64 := by omega
    go_enter Tryz.func56, Tryz.ntmps56
    go_wp2
    go_ret
    exact ⟨by rw [Hq.out]; simp [a1], below_new _ _⟩

end Go.Proofs.YtgmcpfcpdmnebaaGreat
