/- A range over a function whose rounds are handed what the function has just laid: a law of mine over wpIn_rangeFunc, for bodies that are left at their end alone. -/
/- wal's Scan: frame behind frame, over a range over a function. -/
import Derived.Test.YtlhefifejcoecaaGreatDoorJB
import Derived.RangeFuncNested
import Derived.RangeFuncBound
import Derived.RangeFuncCalls
import Derived.RangeFuncLeaves
import Derived.Shelf.Abstract
import Derived.Shelf.RegionOpen
import Derived.OwnWalkIn
import Derived.TacticsInMore
import Derived.LoopNIn
import Derived.LoopIn
import Derived.Test.YtlhefifejcoecaaGreatDoorJSegS
namespace Go.Proofs.YtlhefifejcoecaaGreatDoor
open Go.RowKit Go.Proofs Go.Shelf

/-- g hands x after x to its rounds; where x is handed, C x holds; Kp is what a round keeps; S: what has come in the end. -/
def Hands {α : Type} (F : Fence) (n : Nat) (P : Program) (g : Nat) (lb : Array Value) (enc : α → Array Value) (C : α → World → Prop) (Kp : World → World → Prop) (S : List α → Prop) (N : Nat) (w : World) : Prop :=
  ∀ (l : Nat) (J : List α → World → Prop) (W : World), Below w.heap.size w W → (∀ s A B, J s A → Below A.heap.size A B → J s B) →
    (∀ pre x W1, J pre W1 → C x W1 → pre.length < N → YieldAt F (n - 1) P l (enc x) W1 fun e W' => e = .returned (.bool true) ∧ J (pre ++ [x]) W' ∧ Kp W1 W') →
    J [] W → CallsIn F n P g (#[.func (.yield l) #[] #[]] ++ lb) W fun e W' => (∃ v, e = .returned v) ∧ ∃ xs, S xs ∧ J xs W'

/-- What a block that holds no cells, from B on, may turn without felling it. -/
def Calm (B : Nat) (I : World → Prop) : Prop := ∀ W r o o', I W → B ≤ r → W.heap[r]? = some o → o.isCells = false → I (W.putObj r o')

variable {F : Fence} {n : Nat} {P : Program}

def handsPost {α : Type} (Kp : World → World → Prop) (I : List α → World → Prop) (xs : List α) (W : World) : Exit → Act → World → Prop
  | .normal, _, W' => KeepsOthers W W' ∧ Kp W W' ∧ I xs W'
  | _, _, _ => False

theorem wpIn_hands {α : Type} {g : Operand} {ps : Array Tmp} {assign body : Code} {Q : Exit → Act → World → Prop} {a : Act} {w : World}
    (hro : F.round = none) (h1 : 1 ≤ n) {gf : Nat} {lb : Array Value} (hg : a.eval g = .func (.func gf) #[] lb) (hF : F.fn gf) (eg : ∀ args w, (callFunc gf args).run P w = .ok (.enter gf args) w)
    {enc : α → Array Value} {C : α → World → Prop} {Kp : World → World → Prop} {S : List α → Prop} {N : Nat} {w0 : World} (hseq : Hands F (n - 1) P gf lb enc C Kp S N w0) (hb0 : Below w0.heap.size w0 w) (hps : ∀ x, (enc x).size = ps.size)
    (hC : ∀ x, Calm w.heap.size (C x)) (hKt : ∀ {A B D : World}, Kp A B → Kp B D → Kp A D) (hKb : ∀ (W : World) r o o', w.heap.size ≤ r → W.heap[r]? = some o → o.isCells = false → Kp W (W.putObj r o'))
    (I : List α → World → Prop) (hI : ∀ s, Calm w.heap.size (I s)) (hI2 : ∀ s A B, I s A → Below A.heap.size A B → I s B) (h0 : I [] w) (a₁ : α → Act)
    (hassign : ∀ (l : Nat) (x : α) (W : World) (K : Act → World → Prop), K (a₁ x) W →
      assign.wpIn (F.inRound l) (n - 1 - 1) P (Exit.then K (fun _ _ _ => False)) { tmps := (ps.zip (enc x)).foldl (fun t (p, v) => t.setIfInBounds p v) a.tmps, defers := [] } W)
    (hbody : ∀ (l : Nat) (pre : List α) (x : α) (W : World), I pre W → C x W → pre.length < N → body.wpIn (F.inRound l) (n - 1 - 1) P (handsPost Kp I (pre ++ [x]) W) (a₁ x) W)
    (hdone : ∀ (D : Nat) (xs : List α) (W : World), w.heap.size ≤ D → S xs → I xs W → W.heap[D]? = some (.deferred (some [])) → Q .normal { a with defers := { target := .collected D, args := #[] } :: a.defers } W) :
    (Code.rangeFunc g ps assign body).wpIn F n P Q a w := by
  refine wpIn_rangeFunc fun fn hfn => ?_
  rw [hro]
  -- the loop's record, the block of the rounds' deferred calls
  generalize hrec : (fun (st : LoopState) => ({ state := st, pending := none, fn, tmps := a.tmps, params := ps, assign, body, defers := w.heap.size } : Loop)) = rec
  have hr0 : ∀ st, rec st = { state := st, pending := none, fn, tmps := a.tmps, params := ps, assign, body, defers := w.heap.size } := fun st => by rw [← hrec]
  clear hrec
  have hent := run_enterLoop_outer (P := P) (w := w) fn a.tmps ps assign body
  rw [← hr0] at hent
  obtain ⟨V, hV⟩ : ∃ V, (w.alloc (.deferred (some []))).alloc (.loop (rec .ready)) = V := ⟨_, rfl⟩
  rw [hV] at hent
  have hwV : Below w.heap.size w V := by rw [← hV]; exact below_alloc (below_new _ _) _
  have hVl : V.heap[w.heap.size + 1]? = some (.loop (rec .ready)) := by
    rw [← hV]
    have h := World.alloc_heap_new (w.alloc (.deferred (some []))) (.loop (rec .ready))
    rwa [World.size_alloc] at h
  have hVd : V.heap[w.heap.size]? = some (.deferred (some [])) := by
    rw [← hV]; exact (Below.heap_alloc _ _ _ (by simp)).trans (World.alloc_heap_new w _)
  refine ⟨w.heap.size + 1, [{ target := .collected w.heap.size, args := #[] }], V, { target := .fn (.func gf) lb, args := #[.func (.yield (w.heap.size + 1)) #[] #[]] }, V, gf,
    #[.func (.yield (w.heap.size + 1)) #[] #[]] ++ lb, V, hent, ?_, ?_, ?_, fun _ => h1, ?_⟩
  · simp only [resolve, hg]
    simp [go_sem]
  · intro f' hf'; simp [Target.leads] at hf'; subst hf'; exact hF
  · simp [invoke, go_sem, eg]
  · refine (hseq (w.heap.size + 1) (fun pre W => I pre W ∧ W.heap[w.heap.size + 1]? = some (.loop (rec .ready)) ∧ W.heap[w.heap.size]? = some (.deferred (some []))) V (hb0.trans (hwV.mono hb0.size)) ?_ ?_ ⟨hI2 _ _ _ h0 hwV, hVl, hVd⟩).mono ?_
    · rintro s A B ⟨hi, hl, hd⟩ hb
      exact ⟨hI2 _ _ _ hi hb, (hb.block _ (Array.getElem?_eq_some_iff.1 hl).1).trans hl, (hb.block _ (Array.getElem?_eq_some_iff.1 hd).1).trans hd⟩
    · rintro pre x W ⟨hi, hl, hd⟩ hc hN
      have hlt : w.heap.size + 1 < W.heap.size := (Array.getElem?_eq_some_iff.1 hl).1
      have hy := run_yield (P := P) (args := enc x) hl (by rw [hr0]; exact hps x)
      rw [hr0] at hy
      refine ⟨fn, _, assign, body, hy, roundIn_of_wpIn hfn (hassign _ x W _ ⟨_, run_beginRound hl (by rw [hr0]), ?_⟩)⟩
      have ebusy : ({ rec .ready with state := .busy } : Loop) = rec .busy := by rw [hr0, hr0]
      rw [ebusy]
      have hl2 : (W.putObj (w.heap.size + 1) (.loop (rec .busy))).heap[w.heap.size + 1]? = some (.loop (rec .busy)) := World.putObj_heap_same hlt
      have hd2 : (W.putObj (w.heap.size + 1) (.loop (rec .busy))).heap[w.heap.size]? = some (.deferred (some [])) := (World.putObj_heap_other (by omega)).trans hd
      have hk2 := hKb W _ _ (.loop (rec .busy)) (by omega) hl rfl
      refine wpIn_mono (hbody _ pre x _ (hI _ _ _ _ _ hi (by omega) hl rfl) (hC _ _ _ _ _ hc (by omega) hl rfl) hN) ?_
      rintro e a3 W3 hp
      cases e with
      | normal =>
        obtain ⟨hko, hkp, hi3⟩ := hp
        have hl3 := hko.same _ _ hl2 rfl
        have hd3 := hko.same _ _ hd2 rfl
        have hend := run_endRound (P := P) none hl3
        have eready : ({ rec .busy with state := if (none : Option Code).isNone then .ready else .done, pending := none } : Loop) = rec .ready := by rw [hr0, hr0]; rfl
        rw [eready] at hend
        exact ⟨_, _, hend, rfl, ⟨hI _ _ _ _ _ hi3 (by omega) hl3 rfl, World.putObj_heap_same (Array.getElem?_eq_some_iff.1 hl3).1, (World.putObj_heap_other (by omega)).trans hd3⟩, hKt (hKt hk2 hkp) (hKb _ _ _ _ (by omega) hl3 rfl)⟩
      | ret => exact hp.elim
      | exit id => exact hp.elim
      | goto t => exact hp.elim
      | panic ch => exact hp.elim
      | outgrown => exact hp.elim
    · rintro e W ⟨⟨v, rfl⟩, xs, hS, hi, hl, hd⟩
      have hend := run_endLoop (P := P) hl (by rw [hr0]; simp)
      exact ⟨_, _, hend, by rw [hr0]; exact hdone _ xs _ (Nat.le_refl _) hS (hI _ _ _ _ _ hi (by omega) hl rfl) ((World.putObj_heap_other (by omega)).trans hd)⟩

/-- What speaks of cells and of old blocks abides such a turn. -/
theorem cell_put {W : World} {r : Nat} {o o' : Obj} (h : W.heap[r]? = some o) (ho : o.isCells = false) {p : Addr} {v : Value} (hc : W.cell? p = some v) : (W.putObj r o').cell? p = some v := by
  have hne : p.block ≠ r := fun e => by
    unfold World.cell? at hc
    rw [e, h] at hc
    cases o <;> simp_all [Obj.isCells]
  unfold World.cell? at hc ⊢
  rw [World.putObj_heap_other hne]; exact hc

theorem slp_put {α : Type} {k : Nat} {E : World → List Value → α → Prop} {W : World} {r : Nat} {o o' : Obj} (h : W.heap[r]? = some o) (ho : o.isCells = false) {v : Value} {l : List α} (hE : ∀ cs x, E W cs x → E (W.putObj r o') cs x) (hv : SlP k E W v l) : SlP k E (W.putObj r o') v l := by
  obtain ⟨p, cap, hv, h1, h2, h0, h3⟩ := hv
  refine ⟨p, cap, hv, h1, h2, h0, fun j hj => ?_⟩
  obtain ⟨b, off, cs, hp, hk, he, hc⟩ := h3 j hj
  exact ⟨b, off, cs, hp, hk, hE _ _ he, fun i hi => cell_put h ho (hc i hi)⟩
end Go.Proofs.YtlhefifejcoecaaGreatDoor

namespace Go.Proofs.YtlhefifejcoecaaGreatDoor
open Go.RowKit Go.Proofs Go.Shelf
attribute [local go_sem ↓] Go.wp_at_zero Go.wp_at_succ

theorem upS_le (n : Nat) : n ≤ upS n ∧ upS n ≤ n + 31 := by unfold upS; omega

set_option maxRecDepth 100000 in
theorem up_any (n : Nat) (hn : n ≤ 1000000000) (w : World) : Calls Tryz.prog 138 #[.int .i64 (n : Int)] w (Gives w (.int .i64 (upS n : Nat))) := by
  obtain ⟨a, ha⟩ : ∃ a, a = n + 32 := ⟨_, rfl⟩
  obtain ⟨b, hb⟩ : ∃ b, b = n + 31 := ⟨_, rfl⟩
  obtain ⟨c, hc⟩ : ∃ c, c = b / 32 := ⟨_, rfl⟩
  have h1 : IntKind.i64.wrap ((n : Int) + 32) = (a : Int) := by rw [IntWalk.i64_in _ (by omega)]; omega
  have h2 : IntKind.i64.wrap ((a : Int) - 1) = (b : Int) := by rw [IntWalk.i64_in _ (by omega)]; omega
  have h3 : (b : Int) / 32 = (c : Int) := by omega
  have h5 : IntKind.i64.wrap ((c : Int)) = (c : Int) := by rw [IntWalk.i64_in _ (by omega)]
  have h4 : IntKind.i64.wrap ((c : Int) * 32) = ((upS n : Nat) : Int) := by rw [IntWalk.i64_in _ (by omega)]; unfold upS; rw [← hb, ← hc]; omega
  have hbb : b ≤ 2000000000 := by omega
  have hcc : c ≤ 2000000000 := by omega
  generalize upS n = r at *
  clear ha hb hc
  go_enter Tryz.func138, Tryz.ntmps138
  go_wp2_with fail
  go_ret
  exact ⟨rfl, Below.refl _ _⟩

theorem all_split (bs : List UInt8) (k : Nat) : bs.all (· == 0) = ((bs.take k).all (· == 0) && (bs.drop k).all (· == 0)) := by
  rw [← List.all_append, List.take_append_drop]

def ZPre (bs : List UInt8) (k : Nat) : Prop := (bs.take k).all (· == 0) = true

set_option maxRecDepth 100000 in
theorem noughts_any (v : Value) (bs : List UInt8) (w : World) (hv : SlP 1 ByteE w v bs) : Calls Tryz.prog 139 #[v] w (Gives w (.bool (bs.all (· == 0)))) := by
  obtain ⟨q, cap, rfl, hlc, hll, hcell⟩ := hv.bytesAt
  have Hc := Lib.hid hcell
  have Hall : ∀ k, Hid (bs.all (· == 0) = ((bs.take k).all (· == 0) && (bs.drop k).all (· == 0))) := fun k => Lib.hid (all_split bs k)
  clear hcell hv
  go_enter Tryz.func139, Tryz.ntmps139
  go_wp2_with fail
  go_loopw [4, 7] (fun _ i wr => ∃ k : Nat, k ≤ bs.length ∧ i = .int .i64 k ∧ ZPre bs k ∧ wr = w) (fun _ i _ => bs.length - (intOf i).toNat)
  case atStart => exact ⟨0, Nat.zero_le _, rfl, by simp [ZPre], rfl⟩
  case round =>
    obtain ⟨k, hk, rfl, hall, rfl⟩ := hrel
    by_cases hlt : k < bs.length
    · obtain ⟨g, o, rfl, c0⟩ := Hc.out k hlt
      have n0 : (0 : Int) ≤ (k : Int) := by omega
      have n1 : (k : Int) < (bs.length : Int) := by omega
      unfold YtlhefifejcoecaaGreatDoor.u8 at c0
      have htk : (bs.take (k + 1)).all (· == 0) = (bs[k] == 0) := by rw [List.take_succ_eq_append_getElem hlt, List.all_append, show (bs.take k).all (· == 0) = true from hall]; simp
      have hbr : bs.all (· == 0) = ((bs[k] == 0) && (bs.drop (k + 1)).all (· == 0)) := by rw [(Hall (k + 1)).out, htk]
      have Htk := Lib.hid htk
      have Hbr := Lib.hid hbr
      clear htk hbr
      generalize bs[k] = z at *
      by_cases hz : z = 0
      · subst hz
        go_wp2_with fail
        go_roundw
        case rel => exact ⟨k + 1, hlt, by go_num, by unfold ZPre; rw [Htk.out]; rfl, trivial⟩
        case measure => simp [intOf]; omega
      · have hz' : ¬ (z.toNat : Int) = 0 := by
          intro h
          exact hz (UInt8.toNat_inj.1 (by simpa using h))
        go_wp2_with fail
        go_ret
        refine ⟨by rw [Hbr.out]; simp [hz], Below.refl _ _⟩
    · have hke : k = bs.length := by omega
      subst hke
      unfold ZPre at hall
      rw [List.take_length] at hall
      have Ha := Lib.hid hall
      clear hall
      go_wp2_with fail
      go_ret
      exact ⟨congrArg (fun z => Ending.returned (Value.bool z)) Ha.out.symm, Below.refl _ _⟩

structure Fr where
  v : Value
  b : List UInt8
  e : Nat

def Fr.enc (x : Fr) : Array Value := #[x.v, .int .i64 (x.e : Int)]
def FrC (base : Nat) (x : Fr) (W : World) : Prop := OwnB W base x.v x.b
def FrS (b : List UInt8) (xs : List Fr) : Prop := scanS (b.length + 1) b 0 = (xs.map (·.b), match xs.getLast? with | none => 0 | some x => x.e)
def FrK (n₀ Bb : Nat) (A B : World) : Prop := Below n₀ A B ∧ B.heap[Bb]? = A.heap[Bb]?

/-- Frames from a place on: what lies behind a slice there. -/
theorem slp_from {α : Type} {E : World → List Value → α → Prop} {w : World} {g o n cap k : Nat} {l : List α} (h : SlP 1 E w (.slice (some ⟨g, o, none⟩) n cap) l) (hk : k ≤ l.length) : SlP 1 E w (.slice (some (if cap = k then ⟨g, o, none⟩ else ⟨g, o + k, none⟩)) (n - k) (cap - k)) (l.drop k) := by
  obtain ⟨q', cap', hv, h1, h2, h0, h3⟩ := h
  cases hv
  have hl : (l.drop k).length = l.length - k := List.length_drop
  refine ⟨_, _, by rw [hl], by omega, by omega, fun h => by split at h <;> simp at h, fun j hj => ?_⟩
  obtain ⟨b, off, cs, hp, hk2, he, hc⟩ := h3 (k + j) (by omega)
  simp only [Option.some.injEq, Addr.mk.injEq] at hp
  obtain ⟨rfl, rfl, -⟩ := hp
  rw [if_neg (by omega)]
  refine ⟨_, _, cs, rfl, hk2, by rw [List.getElem_drop]; exact he, fun i hi => ?_⟩
  rw [← hc i hi]
  congr 2; omega

theorem cell_same {w w' : World} {b o : Nat} {v : Value} (h : w'.heap[b]? = w.heap[b]?) (hc : w.cell? ⟨b, o, none⟩ = some v) : w'.cell? ⟨b, o, none⟩ = some v := by
  unfold World.cell? at hc ⊢
  dsimp only at hc ⊢
  rw [h]; exact hc

theorem scanS_none {k p : Nat} {b : List UInt8} (h : frameAt b p = none) : scanS k b p = ([], p) := by
  cases k with
  | zero => rfl
  | succ k => unfold scanS; rw [h]

theorem scanS_some {k p e : Nat} {b x : List UInt8} (h : frameAt b p = some (x, e)) : scanS (k + 1) b p = (x :: (scanS k b e).1, (scanS k b e).2) := by
  conv => lhs; unfold scanS
  rw [h]

theorem openS_pos {b : List UInt8} (h : (openS b).2.2 = true) : 0 < (openS b).2.1 := by
  unfold openS at h ⊢
  split at h
  · cases h
  · rw [if_neg (by assumption)]
    split at h
    · rw [if_pos (by assumption)]; dsimp only; omega
    · cases h

theorem openS_in (b : List UInt8) : (openS b).2.1 ≤ b.length := by
  unfold openS
  split
  · simp
  · rename_i h
    split
    · dsimp only; omega
    · simp

def lastE (xs : List Fr) : Nat := match xs.getLast? with | none => 0 | some x => x.e
theorem lastE_snoc (xs : List Fr) (x : Fr) : lastE (xs ++ [x]) = x.e := by simp [lastE]

/-- How far the frames have come. -/
structure FrR (b : List UInt8) (p : Nat) (pre : List Fr) : Prop where
  le : p ≤ b.length
  far : ∃ k, b.length ≤ p + k ∧ scanS (b.length + 1) b 0 = (pre.map (·.b) ++ (scanS (k + 1) b p).1, (scanS (k + 1) b p).2)
  last : p = lastE pre
  few : pre.length ≤ p

theorem FrR.nil (b : List UInt8) : FrR b 0 [] := ⟨Nat.zero_le _, ⟨b.length, by omega, by simp⟩, rfl, Nat.le_refl _⟩
theorem FrR.done {b : List UInt8} {p : Nat} {pre : List Fr} (h : FrR b p pre) (hf : frameAt b p = none) : FrS b pre := by
  obtain ⟨k, -, hk⟩ := h.far
  rw [scanS_none hf] at hk
  have hl := h.last
  unfold FrS
  rw [hk, hl]
  simp [lastE]
theorem FrR.more {b x : List UInt8} {p e : Nat} {pre : List Fr} {v : Value} (h : FrR b p pre) (hf : frameAt b p = some (x, e)) (h1 : p < e) (h2 : e ≤ b.length) : FrR b e (pre ++ [⟨v, x, e⟩]) := by
  obtain ⟨k, hk1, hk⟩ := h.far
  obtain ⟨k', rfl⟩ : ∃ k', k = k' + 1 := ⟨k - 1, by omega⟩
  rw [scanS_some hf] at hk
  refine ⟨h2, ⟨k', by omega, ?_⟩, by rw [lastE_snoc], by have := h.few; simp; omega⟩
  rw [hk]
  simp

theorem slice_from (g o len cap p : Nat) (hp : p ≤ len) (hl : len ≤ cap) (W : World) : ∃ q, (Instr.slice 25 (.slice (some ⟨g, o, none⟩) len cap) (some (.int .i64 (p : Int))) none none).run Tryz.prog W = .ok (.slice q (len - p) (cap - p)) W ∧ q = some (if cap = p then ⟨g, o, none⟩ else ⟨g, o + p, none⟩) := by
  refine ⟨_, ?_, rfl⟩
  have h1 : (Go.sizeOf 5).run Tryz.prog W = .ok 1 W := by kernel_rfl
  have h2 : (underlying 25).run Tryz.prog W = .ok (.slice 5) W := by kernel_rfl
  have h0 : (0 : Int) ≤ (p : Int) := by omega
  have h3 : (p : Int) ≤ (len : Int) := by omega
  by_cases hc : cap = p
  · simp [Instr.slice, Instr.sliceBounds, Instr.sliceBound, h1, h2, go_sem, hc, h3]
    intro h; omega
  · simp [Instr.slice, Instr.sliceBounds, Instr.sliceBound, h1, h2, go_sem, hc, h3]
    intro h; omega

theorem slice_mid (g o len cap p h : Nat) (hp : p ≤ h) (hl : h ≤ cap) (W : World) : ∃ q, (Instr.slice 25 (.slice (some ⟨g, o, none⟩) len cap) (some (.int .i64 (p : Int))) (some (.int .i64 (h : Int))) none).run Tryz.prog W = .ok (.slice q (h - p) (cap - p)) W ∧ q = some (if cap = p then ⟨g, o, none⟩ else ⟨g, o + p, none⟩) := by
  refine ⟨_, ?_, rfl⟩
  have h1 : (Go.sizeOf 5).run Tryz.prog W = .ok 1 W := by kernel_rfl
  have h2 : (underlying 25).run Tryz.prog W = .ok (.slice 5) W := by kernel_rfl
  have h0 : (0 : Int) ≤ (p : Int) := by omega
  have h00 : (0 : Int) ≤ (h : Int) := by omega
  have h3 : (p : Int) ≤ (h : Int) := by omega
  have h4 : (h : Int) ≤ (cap : Int) := by omega
  have n1 : ¬ cap < h := by omega
  have n2 : ¬ h < p := by omega
  by_cases hc : cap = p
  · simp [Instr.slice, Instr.sliceBounds, Instr.sliceBound, h1, h2, go_sem, hc, h3, h4, n1, n2]
    rw [if_pos (by omega), if_pos (by omega)]
  · simp [Instr.slice, Instr.sliceBounds, Instr.sliceBound, h1, h2, go_sem, hc, h3, h4, n1, n2]
    rw [if_pos (by omega), if_pos (by omega)]
end Go.Proofs.YtlhefifejcoecaaGreatDoor
