/- The law's package: lives. -/
import Derived.Test.YtgmcpfcpdmnebaaGreatSerial
namespace Go.Proofs.YtgmcpfcpdmnebaaGreat
open Go.RowKit Go.Proofs Go.Shelf

/-- A slice that was built just now. -/
theorem slp_at {α : Type} {k : Nat} {E : World → List Value → α → Prop} (w : World) (T : TypeId) (vs : Array Value) (l : List α) (hl : l.length ≤ 1000)
    (h : ∀ j, (hj : j < l.length) → ∃ cs, cs.length = k ∧ E (w.alloc (.cells vs T)) cs l[j] ∧ ∀ i (hi : i < cs.length), vs[j * k + i]? = some cs[i]) :
    SlP k E (w.alloc (.cells vs T)) (.slice (some ⟨w.heap.size, 0, none⟩) l.length l.length) l := by
  refine ⟨_, _, rfl, Nat.le_refl _, by omega, fun h => by simp at h, fun j hj => ?_⟩
  obtain ⟨cs, h1, h2, h3⟩ := h j hj
  refine ⟨w.heap.size, 0, cs, rfl, h1, h2, fun i hi => ?_⟩
  rw [World.cell?_alloc_at _ _ _ _ rfl, Nat.zero_add]
  exact h3 i hi

def smallB (k : ByteArray) : Prop := k.size ≤ 9223372036854775807

/-- A slice of one pair. -/
theorem one_pair (w : World) (k v : ByteArray) (d : Bool) (T : TypeId) (hk : smallB k) (hv : smallB v) : SlP 3 PairE (w.alloc (.cells #[.string k, .string v, .bool d] T)) (.slice (some ⟨w.heap.size, 0, none⟩) 1 1) [⟨k, v, d⟩] :=
  slp_at w T _ ([⟨k, v, d⟩] : List Pair) (by simp) fun j hj => by
    match j, hj with
    | 0, _ =>
      refine ⟨[.string k, .string v, .bool d], rfl, ⟨rfl, hk, hv⟩, fun i hi => ?_⟩
      match i, hi with
      | 0, _ => rfl
      | 1, _ => rfl
      | 2, _ => rfl

/-- A slice of one read. -/
theorem one_read (w : World) (s : Bool) (k t : ByteArray) (pv : Value) (ps : List Pair) (T : TypeId) (hk : smallB k) (ht : smallB t) (hp : SlP 3 PairE w pv ps) : SlP 4 RdE (w.alloc (.cells #[.bool s, .string k, .string t, pv] T)) (.slice (some ⟨w.heap.size, 0, none⟩) 1 1) [⟨s, k, t, ps⟩] :=
  slp_at w T _ ([⟨s, k, t, ps⟩] : List Rd) (by simp) fun j hj => by
    match j, hj with
    | 0, _ =>
      refine ⟨[.bool s, .string k, .string t, pv], rfl, ⟨pv, rfl, hk, ht, hp.mono PairE.mono (below_new _ _)⟩, fun i hi => ?_⟩
      match i, hi with
      | 0, _ => rfl
      | 1, _ => rfl
      | 2, _ => rfl
      | 3, _ => rfl

/-- A slice of two records. -/
theorem two_recs (w : World) (r s : Rec) (rr rw' sr sw : Value) (T : TypeId) (h1 : I64 r.session) (h2 : I64 r.snap) (h3 : I64 s.session) (h4 : I64 s.snap)
    (a1 : SlP 4 RdE w rr r.reads) (a2 : SlP 3 PairE w rw' r.writes) (a3 : SlP 4 RdE w sr s.reads) (a4 : SlP 3 PairE w sw s.writes) :
    SlP 5 RecE (w.alloc (.cells #[.int .i64 r.session, .int .i64 r.snap, .bool r.strict, rr, rw', .int .i64 s.session, .int .i64 s.snap, .bool s.strict, sr, sw] T)) (.slice (some ⟨w.heap.size, 0, none⟩) 2 2) [r, s] :=
  slp_at w T _ [r, s] (by simp) fun j hj => by
    match j, hj with
    | 0, _ =>
      refine ⟨[.int .i64 r.session, .int .i64 r.snap, .bool r.strict, rr, rw'], rfl, ⟨rr, rw', rfl, h1, h2, a1.mono RdE.mono (below_new _ _), a2.mono PairE.mono (below_new _ _)⟩, fun i hi => ?_⟩
      match i, hi with
      | 0, _ => rfl
      | 1, _ => rfl
      | 2, _ => rfl
      | 3, _ => rfl
      | 4, _ => rfl
    | 1, _ =>
      refine ⟨[.int .i64 s.session, .int .i64 s.snap, .bool s.strict, sr, sw], rfl, ⟨sr, sw, rfl, h3, h4, a3.mono RdE.mono (below_new _ _), a4.mono PairE.mono (below_new _ _)⟩, fun i hi => ?_⟩
      match i, hi with
      | 0, _ => rfl
      | 1, _ => rfl
      | 2, _ => rfl
      | 3, _ => rfl
      | 4, _ => rfl

theorem none_slp {α : Type} {k : Nat} {E : World → List Value → α → Prop} (w : World) : SlP k E w (.slice none 0 0) ([] : List α) := ⟨none, 0, rfl, by simp, by simp, fun _ => rfl, fun j hj => by simp at hj⟩

def kA : ByteArray := ⟨#[97]⟩
def v1 : ByteArray := ⟨#[49]⟩
def v2 : ByteArray := ⟨#[50]⟩
def e0 : ByteArray := ⟨#[]⟩

/-- The two records that lives tries. -/
def livesL : List Rec := [⟨1, 0, false, [], [⟨kA, v2, false⟩]⟩, ⟨1, 1, false, [⟨false, kA, e0, [⟨kA, v1, false⟩]⟩], []⟩]

def LivesOK : Prop := legalS livesL 0 = true ∧ legalS livesL 1 = false ∧ firstS livesL = 1

theorem i64_small (n : Int) (h0 : 0 ≤ n) (h1 : n ≤ 1000) : I64 n := by unfold I64; omega

set_option maxRecDepth 100000 in
set_option maxHeartbeats 2000000 in
theorem lives_walk (hok : LivesOK) (w : World) : Calls Tryz.prog 5 #[] w (Gives w (.bool true)) := by
  obtain ⟨hA, hB, hC⟩ := hok
  have hN : writesN livesL ≤ 1000000 := by decide
  have s1 : smallB kA := by unfold smallB kA; decide
  have s2 : smallB v1 := by unfold smallB v1; decide
  have s3 : smallB v2 := by unfold smallB v2; decide
  have s4 : smallB e0 := by unfold smallB e0; decide
  have p1 := one_pair w kA v2 false 35 s1 s3
  obtain ⟨w1, hw1⟩ : ∃ w1, w1 = w.alloc (.cells #[.string kA, .string v2, .bool false] 35) := ⟨_, rfl⟩
  rw [← hw1] at p1
  have p2 := one_pair w1 kA v1 false 35 s1 s2
  obtain ⟨w2, hw2⟩ : ∃ w2, w2 = w1.alloc (.cells #[.string kA, .string v1, .bool false] 35) := ⟨_, rfl⟩
  rw [← hw2] at p2
  have b2 : Below w1.heap.size w1 w2 := hw2 ▸ below_new _ _
  have p3 := one_read w2 false kA e0 _ _ 37 s1 s4 p2
  obtain ⟨w3, hw3⟩ : ∃ w3, w3 = w2.alloc (.cells #[.bool false, .string kA, .string e0, .slice (some ⟨w1.heap.size, 0, none⟩) 1 1] 37) := ⟨_, rfl⟩
  rw [← hw3] at p3
  have b3 : Below w2.heap.size w2 w3 := hw3 ▸ below_new _ _
  have p4 := two_recs w3 ⟨1, 0, false, [], [⟨kA, v2, false⟩]⟩ ⟨1, 1, false, [⟨false, kA, e0, [⟨kA, v1, false⟩]⟩], []⟩ _ _ _ _ 32 (i64_small 1 (by omega) (by omega)) (i64_small 0 (by omega) (by omega)) (i64_small 1 (by omega) (by omega)) (i64_small 1 (by omega) (by omega))
    (none_slp w3) ((p1.mono PairE.mono b2).mono PairE.mono b3) p3 (none_slp w3)
  change SlP 5 RecE _ _ livesL at p4
  have hl0 := fun W hb => legal_any livesL _ 0 W (p4.mono RecE.mono (w' := W) hb) hN
  have hl1 := fun W hb => legal_any livesL _ 1 W (p4.mono RecE.mono (w' := W) hb) hN
  have hf := fun W hb => first_any livesL _ W (p4.mono RecE.mono (w' := W) hb) hN
  rw [hA] at hl0
  rw [hB] at hl1
  rw [hC] at hf
  have bw : Below w.heap.size w w3 := below_trans (below_trans (hw1 ▸ below_new _ _) b2) b3
  have bw' := below_alloc bw (.cells #[.int .i64 1, .int .i64 0, .bool false, .slice none 0 0, .slice (some ⟨w.heap.size, 0, none⟩) 1 1, .int .i64 1, .int .i64 1, .bool false, .slice (some ⟨w2.heap.size, 0, none⟩) 1 1, .slice none 0 0] 32)
  clear p1 p2 p3 p4 b2 b3 bw
  subst hw3 hw2 hw1
  simp only [World.size_alloc, kA, v1, v2, e0] at hl0 hl1 hf bw'
  clear hA hB hC hN s1 s2 s3 s4
  go_enter Tryz.func5, Tryz.ntmps5
  go_wp2_with (first
    | (go_at_call 9; refine (hl0 _ (Below.refl _ _)).mono ?_; clear hl0; rintro e w4 ⟨rfl, hb4⟩; have hb4' := hb4; rw [World.size_alloc, World.size_alloc, World.size_alloc, World.size_alloc] at hb4')
    | (go_at_call 9; refine (hl1 _ hb4').mono ?_; clear hl1; rintro e w5 ⟨rfl, hb5⟩; have hb5' := below_trans hb4 hb5; rw [World.size_alloc, World.size_alloc, World.size_alloc, World.size_alloc] at hb5')
    | (go_at_call 11; refine (hf _ hb5').mono ?_; clear hf; rintro e w6 ⟨rfl, hb6⟩)
    | fail)
  go_ret
  exact ⟨rfl, below_trans bw' (below_trans (below_trans hb4 hb5) hb6)⟩

end Go.Proofs.YtgmcpfcpdmnebaaGreat
