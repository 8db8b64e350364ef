/- A base of lemmas for walks: regions that draw their order and whose operations read, or call what lays blocks of its own. -/
import Derived.Test.YtnpnchociegmpaaDoorProg
import Derived.WalkKit
import Derived.WalkLawsBesides
import Derived.Deep.QuietTactic
import Derived.BigQuiet
import Derived.Deep.RegionHeld3
import Derived.Deep.DrawnRows
import Derived.Lib.Hide
import Derived.WalkSpells
namespace Go.Proofs.YtnpnchociegmpaaDoor
open Go.RowKit Go.Proofs

/-- Worlds in which all that lay in w lies as it lay. -/
structure After (w : World) where
  W : World
  below : Below w.heap.size w W

instance (w : World) : Nonempty (After w) := ⟨⟨w, Below.refl _ _⟩⟩

theorem below_trans {a b c : World} (h : Below a.heap.size a b) (k : Below b.heap.size b c) : Below a.heap.size a c := h.trans (k.mono h.size)
theorem below_alloc {a b : World} (h : Below a.heap.size a b) (o : Obj) : Below a.heap.size a (b.alloc o) := h.alloc h.size o
theorem below_new (a : World) (o : Obj) : Below a.heap.size a (a.alloc o) := (Below.refl _ _).alloc (Nat.le_refl _) o

theorem grown_below {w0 w w' : World} {row : Option Nat} {B : Nat} (h : Below B w0 w) (hg : w.grownBy w' row) (hB : B ≤ w.heap.size) (hr : ∀ k, row = some k → B ≤ k) : Below B w0 w' := h.grown hg hB hr

/-- The world of such a thing, behind a name that simp does not open. -/
@[irreducible] def later (w : World) (s : After w) : World := s.W

theorem later_below (w : World) (s : After w) : Below w.heap.size w (later w s) := by unfold later; exact s.below

theorem bcell {W w1 : World} (hb : Below W.heap.size W w1) {a : Addr} {v : Value} (h : W.cell? a = some v) : w1.cell? a = some v :=
  (hb.cell (World.block_lt_of_cell? W a h)).trans h

theorem later_cell {w : World} {a : Addr} {v : Value} (h : w.cell? a = some v) (s : After w) : (later w s).cell? a = some v :=
  bcell (later_below w s) h

theorem later_mk {w w' : World} (h : Below w.heap.size w w') : ∃ s, w' = later w s := ⟨⟨w', h⟩, by unfold later; rfl⟩

theorem wp_region_mild {P : Program} {id : Nat} {Q : Exit → Act → World → Prop} {a : Act} {w : World} {l : List Oper} (hm : P.follows .mixedOrders = true) (hB : Region.lexB .any l.toArray = true)
    (h : wpQuiet P l.toArray (fun w' => ∃ s, w' = later w s) (fun a' => ∀ w', Below w.heap.size w w' → Q .normal a' w') l a) : (Code.region id l.toArray true).wp P Q a w := by
  have hE : (fun a' => ∀ w', Below w.heap.size w w' → Q .normal a' w') = (fun a' => ∀ w', (∃ s, w' = later w s) → Q .normal a' w') := by
    funext a'
    apply propext
    constructor
    · rintro h w' ⟨s, rfl⟩; exact h _ (later_below w s)
    · intro h w' hb; exact h w' (later_mk hb)
  rw [hE] at h
  exact wp_region_quiet (C := fun w' => ∃ s, w' = later w s) hm hB (later_mk ((Below.refl _ w).drew)) (by simpa using h)

theorem mild_of {P : Program} {f : FuncId} {args : Array Value} {w : World} {s : After w} {v : Value}
    (h : Calls P f args (later w s) fun e w' => e = .returned v ∧ Below (later w s).heap.size (later w s) w') : Calls P f args (later w s) fun e w'' => e = .returned v ∧ ∃ s', w'' = later w s' :=
  h.mono fun _ _ ⟨he, hb⟩ => ⟨he, later_mk ((later_below w s).trans (hb.mono (later_below w s).size))⟩

end Go.Proofs.YtnpnchociegmpaaDoor
