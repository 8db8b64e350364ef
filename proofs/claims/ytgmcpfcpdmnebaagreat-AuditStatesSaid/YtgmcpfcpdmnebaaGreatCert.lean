/- Package certify: what may be committed behind others. -/
import Derived.Test.YtgmcpfcpdmnebaaGreatSlc
import Derived.Sort.Walk0
import Derived.Shelf.Abstract
namespace Go.Proofs.YtgmcpfcpdmnebaaGreat
open Go.RowKit Go.Proofs Go.Shelf

def ltB (a b : ByteArray) : Bool := Op.bytesLess a.toList b.toList
def eqB (a b : ByteArray) : Bool := a.toList == b.toList
def inRange (k lo hi : ByteArray) : Bool := !ltB k lo && ltB k hi
def wroteS (r : Rec) (k : ByteArray) : Bool := r.writes.any fun p => eqB p.key k
def touchesS (r : Rec) (x : Rd) : Bool := r.writes.any fun p => if x.scan then inRange p.key x.key x.to else eqB p.key x.key
def clashS (r : Rec) (later : List Rec) : Int := idx (fun o => r.writes.any fun p => wroteS o p.key) later 0
def staleS (r : Rec) (later : List Rec) : Int := idx (fun o => r.reads.any fun x => touchesS o x) later 0
def mayS (r : Rec) (later : List Rec) : Int := if decide (0 ≤ clashS r later) || r.strict && decide (0 ≤ staleS r later) then 10 else 0

theorem box_pair {w : World} {B : Nat} {x : Pair} (h : BoxP PairE w B x) : w.cell? ⟨B, 0, none⟩ = some (.string x.key) ∧ w.cell? ⟨B, 1, none⟩ = some (.string x.val) ∧ w.cell? ⟨B, 2, none⟩ = some (.bool x.dead) := by
  obtain ⟨cs, he, hc⟩ := h
  obtain ⟨rfl, -, -⟩ := he
  exact ⟨hc 0 (by simp), hc 1 (by simp), hc 2 (by simp)⟩

theorem box_read {w : World} {B : Nat} {x : Rd} (h : BoxP RdE w B x) : ∃ pv, SlP 3 PairE w pv x.pairs ∧ w.cell? ⟨B, 0, none⟩ = some (.bool x.scan) ∧ w.cell? ⟨B, 1, none⟩ = some (.string x.key) ∧ w.cell? ⟨B, 2, none⟩ = some (.string x.to) ∧ w.cell? ⟨B, 3, none⟩ = some pv := by
  obtain ⟨cs, he, hc⟩ := h
  obtain ⟨pv, rfl, -, -, hp⟩ := he
  exact ⟨pv, hp, hc 0 (by simp), hc 1 (by simp), hc 2 (by simp), hc 3 (by simp)⟩

theorem box_rec {w : World} {B : Nat} {x : Rec} (h : BoxP RecE w B x) : ∃ rv wv, SlP 4 RdE w rv x.reads ∧ SlP 3 PairE w wv x.writes ∧ w.cell? ⟨B, 0, none⟩ = some (.int .i64 x.session) ∧ w.cell? ⟨B, 1, none⟩ = some (.int .i64 x.snap) ∧
    w.cell? ⟨B, 2, none⟩ = some (.bool x.strict) ∧ w.cell? ⟨B, 3, none⟩ = some rv ∧ w.cell? ⟨B, 4, none⟩ = some wv := by
  obtain ⟨cs, he, hc⟩ := h
  obtain ⟨rv, wv, rfl, -, -, hr, hw⟩ := he
  exact ⟨rv, wv, hr, hw, hc 0 (by simp), hc 1 (by simp), hc 2 (by simp), hc 3 (by simp), hc 4 (by simp)⟩

/-- What was boxed just now. -/
theorem box_new {α : Type} {E : World → List Value → α → Prop} (hE : Mono E) (w : World) (cs : List Value) (t : TypeId) {x : α} (h : E w cs x) : BoxP E (w.alloc (.cells cs.toArray t)) w.heap.size x :=
  ⟨cs, hE.mono ((Below.refl _ _).alloc (Nat.le_refl _) _) h, fun i hi => by rw [World.cell?_alloc_at _ _ _ _ rfl]; simp [hi]⟩

theorem Gives.later {w w1 w2 : World} {v : Value} {e : Ending} (hb : Below w.heap.size w w1) (h : Gives w1 v e w2) : Gives w v e w2 :=
  ⟨h.1, hb.trans (h.2.mono hb.size)⟩

/-- Wrote$1: is a key that one? -/
theorem wrote1 (k key : ByteArray) (B : Nat) (w : World) (hc : w.cell? ⟨B, 0, none⟩ = some (.string key)) :
    Calls Tryz.prog 94 #[.string k, .pointer (some ⟨B, 0, none⟩)] w (Gives w (.bool (eqB k key))) := by
  go_enter Tryz.func94, Tryz.ntmps94
  go_wp2
  go_ret
  exact ⟨rfl, Below.refl _ _⟩

/-- Touches$1: is a key in the range? -/
theorem touches1 (k : ByteArray) (x : Rd) (B : Nat) (w : World) (hx : BoxP RdE w B x) :
    Calls Tryz.prog 95 #[.string k, .pointer (some ⟨B, 0, none⟩)] w (Gives w (.bool (inRange k x.key x.to))) := by
  obtain ⟨pv, -, c0, c1, c2, c3⟩ := box_read hx
  unfold inRange ltB
  go_enter Tryz.func95, Tryz.ntmps95
  cases h1 : Op.bytesLess k.toList x.key.toList <;> go_wp2 <;> go_ret <;> exact ⟨by simp, Below.refl _ _⟩

/-- rises$1 -/
theorem rises1 (a b : Pair) (ca cb : List Value) (w : World) (ha : PairE w ca a) (hb : PairE w cb b) :
    Calls Tryz.prog 108 #[.agg ca.toArray, .agg cb.toArray] w (Gives w (.int .i64 (if ltB a.key b.key then -1 else 1))) := by
  obtain ⟨rfl, -, -⟩ := ha
  obtain ⟨rfl, -, -⟩ := hb
  unfold ltB
  go_enter Tryz.func108, Tryz.ntmps108
  cases h1 : Op.bytesLess a.key.toList b.key.toList <;> go_wp2 <;> go_ret <;> exact ⟨by simp, ((Below.refl _ _).alloc (Nat.le_refl _) _).alloc (by simp) _⟩

def adj {α : Type} (q : α → α → Bool) : List α → Bool
  | [] => true
  | [_] => true
  | x :: y :: r => q x y && adj q (y :: r)

theorem adj_iff {α : Type} (q : α → α → Bool) : ∀ (l : List α), adj q l = true ↔ ∀ i, (h : i + 1 < l.length) → q l[i] l[i + 1] = true
  | [] => by simp [adj]
  | [_] => by simp [adj]
  | x :: y :: r => by
    have ih := adj_iff q (y :: r)
    simp only [adj, Bool.and_eq_true, ih]
    constructor
    · rintro ⟨h1, h2⟩ i h
      cases i with
      | zero => exact h1
      | succ i => exact h2 i (by simpa using h)
    · intro h
      exact ⟨h 0 (by simp), fun i hi => h (i + 1) (by simpa using hi)⟩

def risesS (l : List Pair) : Bool := adj (fun a b => !ltB b.key a.key) l

set_option maxHeartbeats 400000 in
theorem isSorted_pair (l : List Pair) (v : Value) (w : World) (hv : SlP 3 PairE w v l) :
    Calls Tryz.prog 107 #[v, .func (.func 108) #[] #[]] w (Gives w (.bool (risesS l))) := by
  obtain ⟨q, cap, rfl, hlc, hcap, hcells⟩ := hv.pairs
  have eg : ∀ args w, (callFunc 108 args).run Tryz.prog w = .ok (.enter 108 args) w := enters_of Tryz.func108 (by kernel_rfl) rfl
  go_enter Tryz.func107, Tryz.ntmps107
  go_wp2
  go_loopw [5] (fun i wr => ∃ k : Int, (k < l.length ∨ l.length = 0 ∧ k = -1) ∧ -1 ≤ k ∧ (k = -1 → l.length = 0) ∧ i = .int .i64 k ∧ Below w.heap.size w wr ∧ Hid (∀ j : Nat, k ≤ (j : Int) → (h : j + 1 < l.length) → ltB l[j + 1].key l[j].key = false)) (fun i _ => (1 + intOf i).toNat)
  case atStart => exact ⟨(l.length : Int) - 1, by omega, by omega, by omega, by rfl, Below.refl _ _, Lib.hid (fun j h h2 => by omega)⟩
  case round =>
    obtain ⟨k, hk, hk1, hk0, rfl, hb, hx⟩ := hrel
    by_cases hlt : 0 < k
    · obtain ⟨m, rfl⟩ : ∃ m : Nat, k = m + 1 := ⟨(k - 1).toNat, by omega⟩
      have hm : m + 1 < l.length := by omega
      obtain ⟨b, off, rfl, s1, c0, c1, c2⟩ := hcells (m + 1) (by omega)
      obtain ⟨b', off', hp', s2, f0, f1, f2⟩ := hcells m (by omega)
      simp only [Option.some.injEq, Addr.mk.injEq, and_true] at hp'
      obtain ⟨rfl, rfl⟩ := hp'
      have hcall := fun W => rises1 l[m + 1] l[m] _ _ W ⟨rfl, s1⟩ ⟨rfl, s2⟩
      replace c0 := fun s => later_cell (bcell hb c0) s
      replace c1 := fun s => later_cell (bcell hb c1) s
      replace c2 := fun s => later_cell (bcell hb c2) s
      replace f0 := fun s => later_cell (bcell hb f0) s
      replace f1 := fun s => later_cell (bcell hb f1) s
      replace f2 := fun s => later_cell (bcell hb f2) s
      cases hlt1 : ltB l[m + 1].key l[m].key with
      | true =>
        rw [hlt1] at hcall
        have Hlt1 := Lib.hid hlt1
        clear hcells hlt1
        go_wp2
        have n0 : (0 : Int) ≤ (m : Int) + 1 := by omega
        have n1 : (m : Int) + 1 < (l.length : Int) := by omega
        have n2 : (0 : Int) ≤ (m : Int) := by omega
        have n3 : (m : Int) < (l.length : Int) := by omega
        have n4 : ((m : Int) + 1).toNat = m + 1 := by omega
        have n5 : IntKind.i64.wrap ((m : Int) + 1 - 1) = (m : Int) := by rw [IntWalk.i64_in _ (by omega)]; omega
        refine wp_region_mild (by kernel_rfl) (by kernel_rfl) ?_
        repeat (go_big_quiet_step ((exact mild_of (hcall _))))
        refine wpQuiet_nil ?_
        intro W hW
        go_wp2
        go_ret
        refine ⟨?_, hb.trans (hW.mono hb.size)⟩
        have : risesS l = false := by
          cases hr : risesS l with
          | false => rfl
          | true => have := (adj_iff _ l).1 hr m hm; rw [Hlt1.out] at this; simp at this
        rw [this]; rfl
      | false =>
        rw [hlt1] at hcall
        have Hlt1 := Lib.hid hlt1
        clear hcells hlt1
        go_wp2
        have n0 : (0 : Int) ≤ (m : Int) + 1 := by omega
        have n1 : (m : Int) + 1 < (l.length : Int) := by omega
        have n2 : (0 : Int) ≤ (m : Int) := by omega
        have n3 : (m : Int) < (l.length : Int) := by omega
        have n4 : ((m : Int) + 1).toNat = m + 1 := by omega
        have n5 : IntKind.i64.wrap ((m : Int) + 1 - 1) = (m : Int) := by rw [IntWalk.i64_in _ (by omega)]; omega
        refine wp_region_mild (by kernel_rfl) (by kernel_rfl) ?_
        repeat (go_big_quiet_step ((exact mild_of (hcall _))))
        refine wpQuiet_nil ?_
        intro W hW
        go_wp2
        go_roundw
        case rel => exact ⟨m, by omega, by omega, by omega, by go_num, hb.trans (hW.mono hb.size), Lib.hid (fun j hj h => by
          by_cases e : j = m
          · subst e; exact Hlt1.out
          · exact hx.out j (by omega) h)⟩
        case measure => simp [intOf]; omega
    · go_wp2
      go_ret
      refine ⟨?_, hb⟩
      have : risesS l = true := (adj_iff _ l).2 fun i hi => by rw [hx.out i (by omega) hi]; rfl
      rw [this]; rfl

end Go.Proofs.YtgmcpfcpdmnebaaGreat
