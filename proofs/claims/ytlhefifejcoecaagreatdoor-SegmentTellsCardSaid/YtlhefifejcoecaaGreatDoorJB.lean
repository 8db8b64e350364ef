/- A base of lemmas for walks: regions that draw their order and whose operations read, or call what lays blocks of its own. -/
/- The data of records, and how they lie in memory. -/
import Derived.Test.YtlhefifejcoecaaGreatDoorProg
import Derived.WalkKit
import Derived.WalkLawsBesides
import Derived.Deep.QuietTactic
import Derived.BigQuiet
import Derived.Deep.RegionHeld3
import Derived.Deep.DrawnRows
import Derived.Lib.Hide
import Derived.WalkSpells
namespace Go.Proofs.YtlhefifejcoecaaGreatDoor
open Go.RowKit Go.Proofs

/-- Worlds in which all that lay in w lies as it lay. -/
structure After (w : World) where
  W : World
  below : Below w.heap.size w W

instance (w : World) : Nonempty (After w) := ⟨⟨w, Below.refl _ _⟩⟩

theorem below_trans {a b c : World} (h : Below a.heap.size a b) (k : Below b.heap.size b c) : Below a.heap.size a c := h.trans (k.mono h.size)
theorem below_alloc {a b : World} (h : Below a.heap.size a b) (o : Obj) : Below a.heap.size a (b.alloc o) := h.alloc h.size o
theorem below_new (a : World) (o : Obj) : Below a.heap.size a (a.alloc o) := (Below.refl _ _).alloc (Nat.le_refl _) o

theorem grown_below {w0 w w' : World} {row : Option Nat} {B : Nat} (h : Below B w0 w) (hg : w.grownBy w' row) (hB : B ≤ w.heap.size) (hr : ∀ k, row = some k → B ≤ k) : Below B w0 w' := h.grown hg hB hr

/-- The world of such a thing, behind a name that simp does not open. -/
@[irreducible] def later (w : World) (s : After w) : World := s.W

theorem later_below (w : World) (s : After w) : Below w.heap.size w (later w s) := by unfold later; exact s.below

theorem bcell {W w1 : World} (hb : Below W.heap.size W w1) {a : Addr} {v : Value} (h : W.cell? a = some v) : w1.cell? a = some v :=
  (hb.cell (World.block_lt_of_cell? W a h)).trans h

theorem later_cell {w : World} {a : Addr} {v : Value} (h : w.cell? a = some v) (s : After w) : (later w s).cell? a = some v :=
  bcell (later_below w s) h

theorem later_mk {w w' : World} (h : Below w.heap.size w w') : ∃ s, w' = later w s := ⟨⟨w', h⟩, by unfold later; rfl⟩

theorem wp_region_mild {P : Program} {id : Nat} {Q : Exit → Act → World → Prop} {a : Act} {w : World} {l : List Oper} (hm : P.follows .mixedOrders = true) (hB : Region.lexB .any l.toArray = true)
    (h : wpQuiet P l.toArray (fun w' => ∃ s, w' = later w s) (fun a' => ∀ w', Below w.heap.size w w' → Q .normal a' w') l a) : (Code.region id l.toArray true).wp P Q a w := by
  have hE : (fun a' => ∀ w', Below w.heap.size w w' → Q .normal a' w') = (fun a' => ∀ w', (∃ s, w' = later w s) → Q .normal a' w') := by
    funext a'
    apply propext
    constructor
    · rintro h w' ⟨s, rfl⟩; exact h _ (later_below w s)
    · intro h w' hb; exact h w' (later_mk hb)
  rw [hE] at h
  exact wp_region_quiet (C := fun w' => ∃ s, w' = later w s) hm hB (later_mk ((Below.refl _ w).drew)) (by simpa using h)

theorem mild_of {P : Program} {f : FuncId} {args : Array Value} {w : World} {s : After w} {v : Value}
    (h : Calls P f args (later w s) fun e w' => e = .returned v ∧ Below (later w s).heap.size (later w s) w') : Calls P f args (later w s) fun e w'' => e = .returned v ∧ ∃ s', w'' = later w s' :=
  h.mono fun _ _ ⟨he, hb⟩ => ⟨he, later_mk ((later_below w s).trans (hb.mono (later_below w s).size))⟩

end Go.Proofs.YtlhefifejcoecaaGreatDoor

namespace Go.Proofs.YtlhefifejcoecaaGreatDoor
open Go.RowKit Go.Proofs

/-- A slice value v holds the list l: each element in k cells, as E says. -/
def SlP {α : Type} (k : Nat) (E : World → List Value → α → Prop) (w : World) (v : Value) (l : List α) : Prop :=
  ∃ p cap, v = .slice p l.length cap ∧ l.length ≤ cap ∧ l.length ≤ 9223372036854775807 ∧ (p = none → cap = 0) ∧
    ∀ j, (h : j < l.length) → ∃ b off cs, p = some ⟨b, off, none⟩ ∧ cs.length = k ∧ E w cs l[j] ∧ ∀ i (hi : i < cs.length), w.cell? ⟨b, off + j * k + i, none⟩ = some cs[i]

structure Mono {α : Type} (E : World → List Value → α → Prop) : Prop where
  mono : ∀ {w w' : World} {cs : List Value} {x : α}, Below w.heap.size w w' → E w cs x → E w' cs x

theorem SlP.mono {α : Type} {k : Nat} {E : World → List Value → α → Prop} (hE : Mono E) {w w' : World} {v : Value} {l : List α} (hb : Below w.heap.size w w') (h : SlP k E w v l) : SlP k E w' v l := by
  obtain ⟨p, cap, hv, h1, h2, h0, h3⟩ := h
  refine ⟨p, cap, hv, h1, h2, h0, fun j hj => ?_⟩
  obtain ⟨b, off, cs, hp, hk, he, hc⟩ := h3 j hj
  exact ⟨b, off, cs, hp, hk, hE.mono hb he, fun i hi => bcell hb (hc i hi)⟩

structure Pair where
  key : ByteArray
  val : ByteArray
  dead : Bool

structure Rd where
  scan : Bool
  key : ByteArray
  to : ByteArray
  pairs : List Pair

structure Rec where
  session : Int
  snap : Int
  strict : Bool
  reads : List Rd
  writes : List Pair

def I64 (n : Int) : Prop := -9223372036854775808 ≤ n ∧ n ≤ 9223372036854775807

def PairE (_ : World) (cs : List Value) (x : Pair) : Prop := cs = [.string x.key, .string x.val, .bool x.dead] ∧ x.key.size ≤ 9223372036854775807 ∧ x.val.size ≤ 9223372036854775807
def RdE (w : World) (cs : List Value) (x : Rd) : Prop := ∃ pv, cs = [.bool x.scan, .string x.key, .string x.to, pv] ∧ x.key.size ≤ 9223372036854775807 ∧ x.to.size ≤ 9223372036854775807 ∧ SlP 3 PairE w pv x.pairs
def RecE (w : World) (cs : List Value) (x : Rec) : Prop := ∃ rv wv, cs = [.int .i64 x.session, .int .i64 x.snap, .bool x.strict, rv, wv] ∧ I64 x.session ∧ I64 x.snap ∧ SlP 4 RdE w rv x.reads ∧ SlP 3 PairE w wv x.writes

theorem PairE.mono : Mono PairE := ⟨fun _ h => h⟩
theorem RdE.mono : Mono RdE := ⟨fun hb ⟨pv, h, h1, h2, h3⟩ => ⟨pv, h, h1, h2, h3.mono PairE.mono hb⟩⟩
theorem RecE.mono : Mono RecE := ⟨fun hb ⟨rv, wv, h, h1, h2, h3, h4⟩ => ⟨rv, wv, h, h1, h2, h3.mono RdE.mono hb, h4.mono PairE.mono hb⟩⟩

/-- A slice of pairs, opened. -/
theorem SlP.pairs {w : World} {v : Value} {l : List Pair} (h : SlP 3 PairE w v l) : ∃ q cap, v = .slice q l.length cap ∧ l.length ≤ cap ∧ l.length ≤ 9223372036854775807 ∧
    ∀ j, (h : j < l.length) → ∃ b off, q = some ⟨b, off, none⟩ ∧ (l[j].key.size ≤ 9223372036854775807 ∧ l[j].val.size ≤ 9223372036854775807) ∧
      w.cell? ⟨b, off + j * 3, none⟩ = some (.string l[j].key) ∧ w.cell? ⟨b, off + j * 3 + 1, none⟩ = some (.string l[j].val) ∧ w.cell? ⟨b, off + j * 3 + 2, none⟩ = some (.bool l[j].dead) := by
  obtain ⟨q, cap, hv, h1, h2, _, h3⟩ := h
  refine ⟨q, cap, hv, h1, h2, fun j hj => ?_⟩
  obtain ⟨b, off, cs, hp, hk, ⟨rfl, hs⟩, hc⟩ := h3 j hj
  exact ⟨b, off, hp, hs, hc 0 (by simp), hc 1 (by simp), hc 2 (by simp)⟩

/-- What is captured or taken by value lies in a block of its own. -/
def BoxP {α : Type} (E : World → List Value → α → Prop) (w : World) (b : Nat) (x : α) : Prop :=
  ∃ cs, E w cs x ∧ ∀ i (hi : i < cs.length), w.cell? ⟨b, i, none⟩ = some cs[i]

theorem BoxP.mono {α : Type} {E : World → List Value → α → Prop} (hE : Mono E) {w w' : World} {b : Nat} {x : α} (hb : Below w.heap.size w w') (h : BoxP E w b x) : BoxP E w' b x := by
  obtain ⟨cs, he, hc⟩ := h
  exact ⟨cs, hE.mono hb he, fun i hi => bcell hb (hc i hi)⟩

/-- The post of a call that hands back v and lays but blocks of its own. -/
def Gives (w : World) (v : Value) (e : Ending) (w' : World) : Prop := e = .returned v ∧ Below w.heap.size w w'

/-- A predicate, as a function value. -/
def PredC {α : Type} (P : Program) (g : Nat) (lb : Array Value) (E : World → List Value → α → Prop) (p : α → Bool) (l : List α) (w : World) : Prop :=
  ∀ x ∈ l, ∀ W cs, Below w.heap.size w W → E W cs x → Calls P g (#[.agg cs.toArray] ++ lb) W (Gives W (.bool (p x)))

/-- Where the first is. -/
def idx {α : Type} (p : α → Bool) : List α → Nat → Int
  | [], _ => -1
  | x :: r, n => if p x then n else idx p r (n + 1)

end Go.Proofs.YtlhefifejcoecaaGreatDoor
