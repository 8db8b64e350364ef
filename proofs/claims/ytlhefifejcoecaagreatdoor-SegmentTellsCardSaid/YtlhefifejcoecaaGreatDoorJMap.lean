/- Maps of the call's own, keyed by texts or numbers, with elements of whatever kind: what they hold, as a list of keys and values. -/
/- A map's entries: one more, one less. -/
import Derived.Test.YtlhefifejcoecaaGreatDoorJB
import Derived.Maps.RangeRun
import Derived.Maps.RangeWalk
import Derived.Maps.OwnOps
import Derived.Maps.OwnSet
namespace Go.Proofs.YtlhefifejcoecaaGreatDoor
open Go.RowKit Go.Proofs

/-- What is known of a key's type: how keys are told apart. -/
structure KeyK (P : Program) (K : TypeId) {α : Type} [DecidableEq α] (enc : α → Value) : Prop where
  desc : ∃ d, P.underlying K = some d ∧ (∀ a b, Instr.sameNow d (enc a) (enc b) = some (decide (a = b))) ∧ (∀ x, d ≠ .interface x) ∧ (∀ x y, d ≠ .array x y) ∧ (∀ x, d ≠ .struct x)
  bits : ∀ a, Instr.sameBits 10000 (enc a) (enc a) = true

theorem bytes_beq (a b : ByteArray) : (a == b) = decide (a = b) := by
  rcases a with ⟨a⟩
  rcases b with ⟨b⟩
  have h : ((⟨a⟩ : ByteArray) == ⟨b⟩) = (a == b) := rfl
  rw [h]
  exact Bool.eq_iff_iff.2 (by rw [beq_iff_eq, decide_eq_true_eq, ByteArray.mk.injEq])

theorem KeyK.string {P : Program} {K : TypeId} (h : P.underlying K = some .string) : KeyK P K Value.string :=
  ⟨⟨_, h, fun a b => by simp only [Instr.sameNow, bytes_beq], by simp, by simp, by simp⟩, fun a => by simp [Instr.sameBits, bytes_beq]⟩

theorem KeyK.int {P : Program} {K : TypeId} (h : P.underlying K = some (.int .i64)) : KeyK P K (Value.int .i64) :=
  ⟨⟨_, h, fun a b => by simp only [Instr.sameNow, if_true, Option.some.injEq]; exact Bool.eq_iff_iff.2 (by simp), by simp, by simp, by simp⟩, fun a => by simp [Instr.sameBits]⟩

def mget {α : Type} [DecidableEq α] (m : List (α × Value)) (k : α) : Option Value := (m.find? fun x => decide (k = x.1)).map (·.2)
def midx {α : Type} [DecidableEq α] (m : List (α × Value)) (k : α) : Option Nat := m.findIdx? fun x => decide (k = x.1)
def mset {α : Type} [DecidableEq α] (m : List (α × Value)) (k : α) (v : Value) : List (α × Value) :=
  match midx m k with
  | some j => m.set j (k, v)
  | none => m ++ [(k, v)]
def mdel {α : Type} [DecidableEq α] (m : List (α × Value)) (k : α) : List (α × Value) :=
  match midx m k with
  | some j => m.eraseIdx j
  | none => m

/-- Block b is a map that holds m. -/
def MapA {α : Type} (enc : α → Value) (w : World) (b : Nat) (m : List (α × Value)) : Prop :=
  ∃ es clock, w.heap[b]? = some (.map es clock) ∧ es.toList.map (fun e => (e.key, e.val)) = m.map (fun x => (enc x.1, x.2)) ∧ (∀ e ∈ es.toList, e.born < clock) ∧ (es.toList.map (·.born)).Nodup ∧ (m.map (·.1)).Nodup

theorem MapA.block {α : Type} {enc : α → Value} {w w' : World} {b : Nat} {m : List (α × Value)} (h : MapA enc w b m) (hb : w'.heap[b]? = w.heap[b]?) : MapA enc w' b m := by
  obtain ⟨es, clock, h1, h2⟩ := h
  exact ⟨es, clock, hb.trans h1, h2⟩

theorem MapA.lt {α : Type} {enc : α → Value} {w : World} {b : Nat} {m : List (α × Value)} (h : MapA enc w b m) : b < w.heap.size := by
  obtain ⟨es, clock, h1, h2⟩ := h
  rcases Nat.lt_or_ge b w.heap.size with h | h
  · exact h
  · rw [Array.getElem?_eq_none h] at h1; cases h1

theorem MapA.below {α : Type} {enc : α → Value} {w w' : World} {b : Nat} {m : List (α × Value)} (h : MapA enc w b m) (hb : Below w.heap.size w w') : MapA enc w' b m := h.block (hb.block b h.lt)

theorem MapA.made {α : Type} {enc : α → Value} (w : World) : MapA enc (w.alloc (.map #[] 0)) w.heap.size [] :=
  ⟨#[], 0, heap_alloc_new _ _, rfl, by simp, by simp, by simp⟩

theorem findNow_eq {α : Type} [DecidableEq α] {enc : α → Value} {d : TypeDesc} (hs : ∀ a b, Instr.sameNow d (enc a) (enc b) = some (decide (a = b))) (k : α) :
    ∀ (es : List MapEntry) (m : List (α × Value)) (i : Nat), es.map (fun e => (e.key, e.val)) = m.map (fun x => (enc x.1, x.2)) →
      Instr.findNow d (enc k) es i = some ((m.findIdx? fun x => decide (k = x.1)).map fun j => (i + j, ((mget m k).getD undef)))
  | [], m, i, h => by
    have : m = [] := by simpa using h.symm
    subst this; rfl
  | e :: es, m, i, h => by
    cases m with
    | nil => simp at h
    | cons x m =>
      simp only [List.map_cons, List.cons.injEq, Prod.mk.injEq] at h
      obtain ⟨⟨h1, h2⟩, h3⟩ := h
      have ih := findNow_eq hs k es m (i + 1) h3
      by_cases hk : k = x.1
      · simp [Instr.findNow, h1, hs, hk, h2, List.findIdx?_cons, mget]
      · simp only [Instr.findNow, h1, hs, hk, decide_false, ih, List.findIdx?_cons, Bool.false_eq_true, if_false, mget, List.find?_cons]
        cases hj : List.findIdx? (fun x => decide (k = x.1)) m with
        | none => simp
        | some j => simp; omega

theorem KeyK.check {P : Program} {K : TypeId} {α : Type} [DecidableEq α] {enc : α → Value} (hK : KeyK P K enc) (k : α) (e : Bool) (w : World) : (Instr.checkKey e 10000 K (enc k)).run P w = .ok () w := by
  obtain ⟨d, h1, h2, h3, h4, h5⟩ := hK.desc
  have hr := run_underlying h1 w
  have hs := h2 k k
  unfold Instr.checkKey
  simp only [Sem.run_bind, hr, Result.andThen_ok]
  cases d <;> first | rfl | exact absurd rfl (h3 _) | exact absurd rfl (h4 _ _) | exact absurd rfl (h5 _) | skip

theorem KeyK.find {P : Program} {K : TypeId} {α : Type} [DecidableEq α] {enc : α → Value} (hK : KeyK P K enc) (k : α) {es : List MapEntry} {m : List (α × Value)} (h : es.map (fun e => (e.key, e.val)) = m.map (fun x => (enc x.1, x.2))) (w : World) :
    (Instr.findKey K (enc k) es).run P w = .ok ((m.findIdx? fun x => decide (k = x.1)).map fun j => (j, ((mget m k).getD undef))) w := by
  obtain ⟨d, h1, h2, h3⟩ := hK.desc
  unfold Instr.findKey
  simp only [Sem.run_bind, run_underlying h1, Result.andThen_ok, findNow_eq h2 k es m 0 h, Nat.zero_add]
  rfl

theorem idx_get {α : Type} [DecidableEq α] (m : List (α × Value)) (k : α) : (m.findIdx? fun x => decide (k = x.1)).isSome = (mget m k).isSome := by
  unfold mget
  induction m with
  | nil => rfl
  | cons x m ih =>
    by_cases h : k = x.1
    · simp [List.findIdx?_cons, h]
    · simp only [List.findIdx?_cons, h, decide_false, Bool.false_eq_true, if_false, List.find?_cons, Option.isSome_map] at ih ⊢
      exact ih

/-- m[k] -/
theorem MapA.lookup {P : Program} {T K E : TypeId} {α : Type} [DecidableEq α] {enc : α → Value} (hK : KeyK P K enc) (ht : P.underlying T = some (.map K E)) {z : Value} (hz : ∀ w, (zeroValue E).run P w = .ok z w) {w : World} {b : Nat} {m : List (α × Value)} (h : MapA enc w b m) (k : α) :
    (Instr.lookup T (.map (some b)) (enc k) false).run P w = .ok ((mget m k).getD z) w := by
  obtain ⟨es, clock, h1, h2, -⟩ := h
  have hg : (getObj b).run P w = .ok (.map es clock) w := by simp [getObj, Sem.run, h1]
  unfold Instr.lookup
  simp only [Sem.run_bind, run_underlying ht, Result.andThen_ok, hg, Sem.run_pure, hK.check, hK.find k h2]
  have hi := idx_get m k
  cases hx : (m.findIdx? fun x => decide (k = x.1)) with
  | none =>
    rw [hx] at hi
    have : mget m k = none := by simpa using hi.symm
    simp [this, hz]
  | some j =>
    rw [hx] at hi
    obtain ⟨v, hv⟩ := Option.isSome_iff_exists.1 hi.symm
    simp [hv]

/-- v, ok := m[k] -/
theorem MapA.lookup_ok {P : Program} {T K E : TypeId} {α : Type} [DecidableEq α] {enc : α → Value} (hK : KeyK P K enc) (ht : P.underlying T = some (.map K E)) {z : Value} (hz : ∀ w, (zeroValue E).run P w = .ok z w) {w : World} {b : Nat} {m : List (α × Value)} (h : MapA enc w b m) (k : α) :
    (Instr.lookup T (.map (some b)) (enc k) true).run P w = .ok (.tuple #[(mget m k).getD z, .bool (mget m k).isSome]) w := by
  obtain ⟨es, clock, h1, h2, -⟩ := h
  have hg : (getObj b).run P w = .ok (.map es clock) w := by simp [getObj, Sem.run, h1]
  unfold Instr.lookup
  simp only [Sem.run_bind, run_underlying ht, Result.andThen_ok, hg, Sem.run_pure, hK.check, hK.find k h2]
  have hi := idx_get m k
  cases hx : (m.findIdx? fun x => decide (k = x.1)) with
  | none =>
    rw [hx] at hi
    have : mget m k = none := by simpa using hi.symm
    simp [this, hz]
  | some j =>
    rw [hx] at hi
    obtain ⟨v, hv⟩ := Option.isSome_iff_exists.1 hi.symm
    simp [hv]

theorem midx_some {α : Type} [DecidableEq α] {m : List (α × Value)} {k : α} {j : Nat} (h : midx m k = some j) : ∃ hj : j < m.length, m[j].1 = k := by
  unfold midx at h
  obtain ⟨hj, h1, -⟩ := List.findIdx?_eq_some_iff_getElem.1 h
  exact ⟨hj, by simpa using (of_decide_eq_true h1).symm⟩

theorem midx_none {α : Type} [DecidableEq α] {m : List (α × Value)} {k : α} (h : midx m k = none) : ∀ x ∈ m, x.1 ≠ k := by
  unfold midx at h
  intro x hx e
  have := List.findIdx?_eq_none_iff.1 h x hx
  simp [e] at this

theorem mget_idx {α : Type} [DecidableEq α] {m : List (α × Value)} {k : α} : mget m k = (midx m k).bind fun j => (m[j]?).map (·.2) := by
  unfold mget midx
  induction m with
  | nil => rfl
  | cons x m ih =>
    by_cases h : k = x.1
    · simp [List.findIdx?_cons, h]
    · simp only [List.findIdx?_cons, h, decide_false, Bool.false_eq_true, if_false, List.find?_cons, ih]
      cases List.findIdx? (fun x => decide (k = x.1)) m <;> simp

/-- One block turns, and no other. -/
theorem grownBy_setBlock (w : World) (b : Nat) (o : Obj) : w.grownBy (ChangeMaps.setBlock w b o) (some b) :=
  ⟨rfl, rfl, rfl, by simp [ChangeMaps.setBlock], fun k _ hk => by
    simp only [ChangeMaps.setBlock]
    rw [Array.getElem?_setIfInBounds_ne (fun e => hk (by rw [e]))]⟩

theorem heap_setBlock {w : World} {b : Nat} (h : b < w.heap.size) (o : Obj) : (ChangeMaps.setBlock w b o).heap[b]? = some o := by
  simp [ChangeMaps.setBlock, h]

/-- m[k] = v -/
theorem MapA.update {P : Program} {T K E : TypeId} {α : Type} [DecidableEq α] {enc : α → Value} (hK : KeyK P K enc) (ht : P.underlying T = some (.map K E)) {w : World} {b : Nat} {m : List (α × Value)} (h : MapA enc w b m) (k : α) (v : Value) :
    ∃ o, (Instr.mapUpdate T (.map (some b)) (enc k) v).run P w = .ok () (ChangeMaps.setBlock w b o) ∧ MapA enc (ChangeMaps.setBlock w b o) b (mset m k v) := by
  have hlt := h.lt
  obtain ⟨es, clock, h1, h2, h3, h4, h5⟩ := h
  have hg : (getObj b).run P w = .ok (.map es clock) w := by simp [getObj, Sem.run, h1]
  have hset : ∀ o', (setObj b o').run P w = .ok () (ChangeMaps.setBlock w b o') := fun o' => by simp [setObj, Sem.run, h1, ChangeMaps.setBlock]
  have hl : es.toList.length = m.length := by simpa using congrArg List.length h2
  have hf := hK.find k h2 w
  change _ = Result.ok ((midx m k).map fun j => (j, ((mget m k).getD undef))) w at hf
  cases hx : midx m k with
  | some j =>
    obtain ⟨hj, hjk⟩ := midx_some hx
    have hje : j < es.size := by rw [← Array.length_toList, hl]; exact hj
    have hkey : es[j].key = enc k := by
      have := congrArg (fun l => (l[j]?).map (·.1)) h2
      simp [hj, hje, hjk] at this
      exact this
    rw [hx] at hf
    refine ⟨.map (es.modify j fun e => { e with key := enc k, val := v }) clock, by simp [Sem.run_bind, run_underlying ht, hg, hK.check, hf, Instr.mapUpdate, Instr.keyThatStays, hje, hkey, hK.bits, hset], _, _, heap_setBlock hlt _, ?_, ?_, ?_, ?_⟩
    · unfold mset; rw [hx]
      simp only [List.map_set]
      rw [← h2]
      apply List.ext_getElem?
      intro t
      simp only [Array.toList_modify, List.getElem?_map, List.getElem?_modify, List.getElem?_set, List.length_map, Array.length_toList]
      by_cases ht : j = t
      · subst ht; simp [hje, Array.getElem?_toList]
      · simp [ht]
    · intro e he
      simp only [Array.toList_modify] at he
      obtain ⟨t, ht, rfl⟩ := List.getElem_of_mem he
      have ht' : t < es.toList.length := by simpa using ht
      have h6 := h3 es.toList[t] (List.getElem_mem _)
      rw [List.getElem_modify]
      split <;> exact h6
    · have : (es.modify j fun e => { e with key := enc k, val := v }).toList.map (·.born) = es.toList.map (·.born) := by
        apply List.ext_getElem?
        intro t
        simp only [Array.toList_modify, List.getElem?_map, List.getElem?_modify]
        cases es.toList[t]? <;> simp <;> split <;> rfl
      rw [this]; exact h4
    · unfold mset; rw [hx]
      simp only [List.map_set]
      have : (m.map (·.1)).set j k = m.map (·.1) := by
        apply List.ext_getElem?
        intro t
        simp only [List.getElem?_set, List.length_map, List.getElem?_map]
        by_cases ht : j = t
        · subst ht; simp [hj, hjk]
        · simp [ht]
      rw [this]; exact h5
  | none =>
    rw [hx] at hf
    refine ⟨.map (es.push { key := enc k, val := v, born := clock }) (clock + 1), by simp [Sem.run_bind, run_underlying ht, hg, hK.check, hf, Instr.mapUpdate, hset], _, _, heap_setBlock hlt _, ?_, ?_, ?_, ?_⟩
    · unfold mset; rw [hx]; simp [h2]
    · intro e he
      simp at he
      rcases he with he | rfl
      · have := h3 e (by simpa using he); omega
      · simp
    · simp only [Array.toList_push, List.map_append, List.map_cons, List.map_nil]
      rw [List.nodup_append]
      refine ⟨h4, by simp, ?_⟩
      intro a ha c hc
      simp at hc; subst hc
      obtain ⟨e, he, rfl⟩ := List.mem_map.1 ha
      have := h3 e he; omega
    · unfold mset; rw [hx]
      simp only [List.map_append, List.map_cons, List.map_nil]
      rw [List.nodup_append]
      refine ⟨h5, by simp, ?_⟩
      intro a ha c hc
      simp at hc; subst hc
      obtain ⟨x, hx', rfl⟩ := List.mem_map.1 ha
      exact midx_none hx x hx'

/-- delete(m, k) -/
theorem MapA.delete {P : Program} {T K E ty : TypeId} {α : Type} [DecidableEq α] {enc : α → Value} (hK : KeyK P K enc) (ht : P.underlying T = some (.map K E)) {w : World} {b : Nat} {m : List (α × Value)} (h : MapA enc w b m) (k : α) :
    ∃ o, (Builtin.delete_ #[T, K] ty #[.map (some b), enc k]).run P w = .ok (.tuple #[]) (ChangeMaps.setBlock w b o) ∧ MapA enc (ChangeMaps.setBlock w b o) b (mdel m k) := by
  have hlt := h.lt
  obtain ⟨es, clock, h1, h2, h3, h4, h5⟩ := h
  have hg : (getObj b).run P w = .ok (.map es clock) w := by simp [getObj, Sem.run, h1]
  have hset : ∀ o', (setObj b o').run P w = .ok () (ChangeMaps.setBlock w b o') := fun o' => by simp [setObj, Sem.run, h1, ChangeMaps.setBlock]
  have hl : es.toList.length = m.length := by simpa using congrArg List.length h2
  have hf := hK.find k h2 w
  change _ = Result.ok ((midx m k).map fun j => (j, ((mget m k).getD undef))) w at hf
  cases hx : midx m k with
  | some j =>
    rw [hx] at hf
    obtain ⟨hj, hjk⟩ := midx_some hx
    have hje : j < es.size := by rw [← Array.length_toList, hl]; exact hj
    refine ⟨.map (es.eraseIdxIfInBounds j) clock, by simp [Builtin.delete_, run_underlying ht, hg, hK.check, hf, hset], _, _, heap_setBlock hlt _, ?_, ?_, ?_, ?_⟩
    · unfold mdel; rw [hx]
      simp only [Array.eraseIdxIfInBounds, hje, dite_true, Array.toList_eraseIdx]
      rw [ChangeMaps.map_eraseIdx, ChangeMaps.map_eraseIdx, h2]
    · intro e he
      simp only [Array.eraseIdxIfInBounds, hje, dite_true, Array.toList_eraseIdx] at he
      exact h3 e (List.mem_of_mem_eraseIdx he)
    · simp only [Array.eraseIdxIfInBounds, hje, dite_true, Array.toList_eraseIdx]
      rw [ChangeMaps.map_eraseIdx]
      exact h4.sublist (List.eraseIdx_sublist _ _)
    · unfold mdel; rw [hx]
      simp only
      rw [ChangeMaps.map_eraseIdx]
      exact h5.sublist (List.eraseIdx_sublist _ _)
  | none =>
    rw [hx] at hf
    refine ⟨.map es clock, by simp [Builtin.delete_, run_underlying ht, hg, hK.check, hf, hset], es, clock, heap_setBlock hlt _, ?_, h3, h4, ?_⟩ <;> (unfold mdel; rw [hx]; assumption)

/-- A walk over map b, its state in block r: rem is still to come. -/
def IterA {α : Type} (enc : α → Value) (w : World) (r b : Nat) (m rem : List (α × Value)) : Prop :=
  ∃ es clock seen, w.heap[r]? = some (.mapIter (some b) clock seen clock) ∧ w.heap[b]? = some (.map es clock) ∧ es.toList.map (fun e => (e.key, e.val)) = m.map (fun x => (enc x.1, x.2)) ∧
    (∀ e ∈ es.toList, e.born < clock) ∧ (es.toList.map (·.born)).Nodup ∧ (leftOf es seen).toList.map (fun e => (e.key, e.val)) = rem.map (fun x => (enc x.1, x.2))

theorem IterA.keep {α : Type} {enc : α → Value} {w w' : World} {r b : Nat} {m rem : List (α × Value)} (h : IterA enc w r b m rem) (hr : w'.heap[r]? = w.heap[r]?) (hb : w'.heap[b]? = w.heap[b]?) : IterA enc w' r b m rem := by
  obtain ⟨es, clock, seen, h1, h2, h3⟩ := h
  exact ⟨es, clock, seen, hr.trans h1, hb.trans h2, h3⟩

theorem IterA.lt {α : Type} {enc : α → Value} {w : World} {r b : Nat} {m rem : List (α × Value)} (h : IterA enc w r b m rem) : r < w.heap.size ∧ b < w.heap.size ∧ r ≠ b := by
  obtain ⟨es, clock, seen, h1, h2, h3⟩ := h
  refine ⟨?_, ?_, fun e => by subst e; rw [h1] at h2; simp at h2⟩
  · rcases Nat.lt_or_ge r w.heap.size with h | h
    · exact h
    · rw [Array.getElem?_eq_none h] at h1; cases h1
  · rcases Nat.lt_or_ge b w.heap.size with h | h
    · exact h
    · rw [Array.getElem?_eq_none h] at h2; cases h2

theorem IterA.below {α : Type} {enc : α → Value} {w w' : World} {r b : Nat} {m rem : List (α × Value)} (h : IterA enc w r b m rem) (hb : Below w.heap.size w w') : IterA enc w' r b m rem :=
  h.keep (hb.block r h.lt.1) (hb.block b h.lt.2.1)

/-- for k, v := range m: it begins. -/
theorem MapA.range {P : Program} {T K E : TypeId} {α : Type} {enc : α → Value} (ht : P.underlying T = some (.map K E)) {w : World} {b : Nat} {m : List (α × Value)} (h : MapA enc w b m) :
    ∃ o, (Instr.range T (.map (some b))).run P w = .ok (.pointer (some ⟨w.heap.size, 0, none⟩)) (w.alloc o) ∧ IterA enc (w.alloc o) w.heap.size b m m := by
  have hlt := h.lt
  obtain ⟨es, clock, h1, h2, h3, h4, h5⟩ := h
  refine ⟨.mapIter (some b) clock #[] clock, ?_, es, clock, #[], heap_alloc_new _ _, (Below.heap_alloc w _ b hlt).trans h1, h2, h3, h4, ?_⟩
  · simp [Instr.range, run_underlying ht, getObj, Sem.run, h1, newObj]
  · rw [← h2]; congr 1; simp [leftOf]

theorem filter_erase {α β : Type} [DecidableEq β] (f : α → β) : ∀ (l : List α) (i : Nat) (hi : i < l.length), (l.map f).Nodup → l.filter (fun x => !decide (f x = f l[i])) = l.eraseIdx i
  | x :: l, 0, _, h => by
    simp only [List.map_cons, List.nodup_cons] at h
    simp only [List.getElem_cons_zero, List.filter_cons, decide_true, Bool.not_true, Bool.false_eq_true, if_false, List.eraseIdx_cons_zero]
    refine List.filter_eq_self.2 fun y hy => ?_
    have : f y ≠ f x := fun e => h.1 (e ▸ List.mem_map_of_mem hy)
    simp [this]
  | x :: l, i + 1, hi, h => by
    simp only [List.map_cons, List.nodup_cons] at h
    have ih := filter_erase f l i (by simpa using hi) h.2
    have : f x ≠ f (l[i]'(by simpa using hi)) := fun e => h.1 (e ▸ List.mem_map_of_mem (List.getElem_mem _))
    simp [List.filter_cons, this, ih]

/-- One step of the walk, where something is left. -/
theorem IterA.next {P : Program} {α : Type} {enc : α → Value} {w : World} {r b : Nat} {m rem : List (α × Value)} (h : IterA enc w r b m rem) (ty : TypeId) :
    (rem = [] ∧ (Instr.next (.pointer (some ⟨r, 0, none⟩)) false ty).run P w = .ok (.tuple #[.bool false]) w) ∨
    ∃ i, ∃ hi : i < rem.length, ∃ W, (Instr.next (.pointer (some ⟨r, 0, none⟩)) false ty).run P w = .ok (.tuple #[.bool true, enc rem[i].1, rem[i].2]) W ∧
      (Instr.entry (.pointer (some ⟨r, 0, none⟩))).run P W = .ok (.tuple #[enc rem[i].1, rem[i].2]) W ∧ IterA enc W r b m (rem.eraseIdx i) ∧ w.grownBy W (some r) := by
  have hlt := h.lt
  obtain ⟨es, clock, seen, h1, h2, h3, h4, h5, h6⟩ := h
  rcases run_next_at (P := P) w ty r b clock clock seen es clock h1 h2 h4 (Nat.le_refl _) with ⟨hs, hrun⟩ | ⟨e, he, w1, hw1, hrun⟩
  · left
    refine ⟨?_, hrun⟩
    have : (leftOf es seen).toList = [] := List.eq_nil_of_length_eq_zero (by simpa using hs)
    rw [this] at h6
    simpa using h6.symm
  · right
    obtain ⟨i, hi, rfl⟩ := List.getElem_of_mem he
    have hl : (leftOf es seen).toList.length = rem.length := by simpa using congrArg List.length h6
    have hir : i < rem.length := by omega
    have hkv : ((leftOf es seen).toList[i]).key = enc rem[i].1 ∧ ((leftOf es seen).toList[i]).val = rem[i].2 := by
      have := congrArg (fun l => l[i]?) h6
      simp only [List.getElem?_map, List.getElem?_eq_getElem hi, List.getElem?_eq_getElem hir, Option.map_some, Option.some.injEq, Prod.mk.injEq] at this
      exact this
    have hw1h : w1.heap = w.heap := by rcases hw1 with rfl | rfl <;> rfl
    have hL : (leftOf es seen).toList = es.toList.filter fun e => !seen.contains e.born := by simp [leftOf]
    have hsub : ∀ e ∈ (leftOf es seen).toList, e ∈ es.toList := fun e he => by rw [hL] at he; exact (List.mem_filter.1 he).1
    have hmem := hsub _ he
    have hr' : (ChangeMaps.setBlock w1 r (.mapIter (some b) clock (seen.push (leftOf es seen).toList[i].born) clock)).heap[r]? = some (.mapIter (some b) clock (seen.push (leftOf es seen).toList[i].born) clock) :=
      heap_setBlock (by rw [hw1h]; exact hlt.1) _
    have hb' : (ChangeMaps.setBlock w1 r (.mapIter (some b) clock (seen.push (leftOf es seen).toList[i].born) clock)).heap[b]? = some (.map es clock) := by
      rw [← h2, ← hw1h]
      simp only [ChangeMaps.setBlock]
      rw [Array.getElem?_setIfInBounds_ne hlt.2.2]
    rw [hkv.1, hkv.2] at hrun
    have hent := run_entry_at (P := P) _ r b clock seen es clock _ hr' hb' hmem h5
    rw [hkv.1, hkv.2] at hent
    refine ⟨i, hir, _, hrun, hent, ⟨es, clock, _, hr', hb', h3, h4, h5, ?_⟩, ?_⟩
    · rw [ChangeMaps.map_eraseIdx, ← h6, ← ChangeMaps.map_eraseIdx]
      congr 1
      rw [← filter_erase (·.born) _ i hi (by
        simp only [leftOf, Array.toList_filter]
        exact h5.sublist (List.filter_sublist.map _))]
      simp only [leftOf, Array.toList_filter, List.filter_filter]
      refine List.filter_congr fun x _ => ?_
      simp [Array.contains_push, Bool.and_comm, eq_comm]
    · have hg := grownBy_setBlock w1 r (.mapIter (some b) clock (seen.push (leftOf es seen).toList[i].born) clock)
      have h0 : w.grownBy w1 (some r) := by
        rcases hw1 with rfl | rfl
        · exact ⟨rfl, rfl, rfl, Nat.le_refl _, fun _ _ _ => rfl⟩
        · exact ⟨rfl, rfl, rfl, Nat.le_refl _, fun _ _ _ => rfl⟩
      exact h0.trans hg

/-- m[k] = v, at the operation. -/
theorem wpList_mapSet {P : Program} {w : World} {ops : Array Oper} {rest : List Oper} {o : Oper} {a : Act} {Q : Exit → Act → World → Prop} (hgd : o.guard = none) (mo x v : Operand) (T : TypeId) (hop : o.op = .mapUpdate T mo x v)
    {K E : TypeId} {α : Type} [DecidableEq α] {enc : α → Value} (hK : KeyK P K enc) (ht : P.underlying T = some (.map K E)) {b : Nat} {m : List (α × Value)} (hm : a.eval mo = .map (some b)) (h : MapA enc w b m) (k : α) (hx : a.eval x = enc k) (val : Value) (hv : a.eval v = val)
    (hn : ∀ W, MapA enc W b (mset m k val) → w.grownBy W (some b) → wpList P ops Q rest (a.put o.dst undef) W) : wpList P ops Q (o :: rest) a w := by
  refine wpList_plain hgd fun K' hK' => ?_
  obtain ⟨ob, hrun, h1⟩ := h.update (P := P) hK ht k val
  unfold Oper.wp
  simp [execOp, hop, hm, hx, hv, hrun, Result.andThen]
  exact hK' _ _ (hn _ h1 (grownBy_setBlock _ _ _))

/-- delete(m, k), at the operation. -/
theorem wpList_mapDel {P : Program} {w : World} {ops : Array Oper} {rest : List Oper} {o : Oper} {a : Act} {Q : Exit → Act → World → Prop} (hgd : o.guard = none) (mo x : Operand) (T K : TypeId) (hop : o.op = .call { callee := .builtin .delete, args := #[mo, x], argTypes := #[T, K] })
    {E : TypeId} {α : Type} [DecidableEq α] {enc : α → Value} (hK : KeyK P K enc) (ht : P.underlying T = some (.map K E)) {b : Nat} {m : List (α × Value)} (hm : a.eval mo = .map (some b)) (h : MapA enc w b m) (k : α) (hx : a.eval x = enc k)
    (hn : ∀ W, MapA enc W b (mdel m k) → w.grownBy W (some b) → wpList P ops Q rest (a.put o.dst (.tuple #[])) W) : wpList P ops Q (o :: rest) a w := by
  refine wpList_plain hgd fun K' hK' => ?_
  obtain ⟨ob, hrun, h1⟩ := h.delete (P := P) (ty := o.type) hK ht k
  unfold Oper.wp
  simp [execOp, hop, resolve, invoke, builtin, hm, hx, hrun, Result.andThen]
  exact hK' _ _ (hn _ h1 (grownBy_setBlock _ _ _))

/-- A walk over a map begins. -/
theorem wpList_mapRange {P : Program} {w : World} {ops : Array Oper} {rest : List Oper} {o : Oper} {a : Act} {Q : Exit → Act → World → Prop} (hgd : o.guard = none) (mo : Operand) (T : TypeId) (hop : o.op = .range T mo)
    {K E : TypeId} {α : Type} {enc : α → Value} (ht : P.underlying T = some (.map K E)) {b : Nat} {m : List (α × Value)} (hm : a.eval mo = .map (some b)) (h : MapA enc w b m)
    (hn : ∀ W, IterA enc W w.heap.size b m m → Below w.heap.size w W → wpList P ops Q rest (a.put o.dst (.pointer (some ⟨w.heap.size, 0, none⟩))) W) : wpList P ops Q (o :: rest) a w := by
  refine wpList_plain hgd fun K' hK' => ?_
  obtain ⟨ob, hrun, h1⟩ := h.range (P := P) ht
  unfold Oper.wp
  simp [execOp, hop, hm, hrun, Result.andThen]
  exact hK' _ _ (hn _ h1 (below_new _ _))

/-- Its step, at the end. -/
theorem wpList_mapEnd {P : Program} {w : World} {ops : Array Oper} {rest : List Oper} {o : Oper} {a : Act} {Q : Exit → Act → World → Prop} (hgd : o.guard = none) (it : Operand) (hop : o.op = .next it false)
    {α : Type} {enc : α → Value} {r b : Nat} {m : List (α × Value)} (hit : a.eval it = .pointer (some ⟨r, 0, none⟩)) (h : IterA enc w r b m [])
    (hn : wpList P ops Q rest (a.put o.dst (.tuple #[.bool false])) w) : wpList P ops Q (o :: rest) a w := by
  refine wpList_plain hgd fun K' hK' => ?_
  rcases h.next (P := P) o.type with ⟨-, hrun⟩ | ⟨i, hi, -⟩
  · unfold Oper.wp
    simp [execOp, hop, hit, hrun, Result.andThen]
    exact hK' _ _ hn
  · simp at hi

/-- Its step, where something is left. -/
theorem wpList_mapNext {P : Program} {w : World} {ops : Array Oper} {rest : List Oper} {o : Oper} {a : Act} {Q : Exit → Act → World → Prop} (hgd : o.guard = none) (it : Operand) (hop : o.op = .next it false)
    {α : Type} {enc : α → Value} {r b : Nat} {m rem : List (α × Value)} (hit : a.eval it = .pointer (some ⟨r, 0, none⟩)) (h : IterA enc w r b m rem) (hne : rem ≠ [])
    (hn : ∀ i, ∀ hi : i < rem.length, ∀ W, (Instr.entry (.pointer (some ⟨r, 0, none⟩))).run P W = .ok (.tuple #[enc rem[i].1, rem[i].2]) W → IterA enc W r b m (rem.eraseIdx i) → w.grownBy W (some r) →
      wpList P ops Q rest (a.put o.dst (.tuple #[.bool true, enc rem[i].1, rem[i].2])) W) : wpList P ops Q (o :: rest) a w := by
  refine wpList_plain hgd fun K' hK' => ?_
  rcases h.next (P := P) o.type with ⟨he, -⟩ | ⟨i, hi, W, hrun, hent, hit', hg⟩
  · exact absurd he hne
  · unfold Oper.wp
    simp [execOp, hop, hit, hrun, Result.andThen]
    exact hK' _ _ (hn i hi W hent hit' hg)

theorem mget_set {α : Type} [DecidableEq α] {m : List (α × Value)} (k k' : α) (v : Value) : mget (mset m k v) k' = if k' = k then some v else mget m k' := by
  unfold mset
  cases hx : midx m k with
  | none =>
    have h1 := midx_none hx
    by_cases h : k' = k
    · subst h
      rw [if_pos rfl]
      have h0 : mget m k' = none := by rw [mget_idx, hx]; rfl
      simp only [mget, Option.map_eq_none_iff] at h0
      simp [mget, List.find?_append, h0]
    · rw [if_neg h]
      simp [mget, List.find?_append, h]
  | some j =>
    obtain ⟨hj, hjk⟩ := midx_some hx
    have hmin : ∀ i, i < j → (hi : i < m.length) → m[i].1 ≠ k := fun i hij hi e => by
      have := (List.findIdx?_eq_some_iff_getElem.1 hx).2.2 i hij
      simp [e] at this
    clear hx
    induction m generalizing j with
    | nil => simp at hj
    | cons x m ih =>
      cases j with
      | zero =>
        simp only [List.getElem_cons_zero] at hjk
        subst hjk
        by_cases h : k' = x.1 <;> simp [mget, h]
      | succ j =>
        have hx0 := hmin 0 (by omega) (by simp)
        simp only [List.getElem_cons_zero] at hx0
        have ih' := ih j (by simpa using hj) (by simpa using hjk) (fun i hij hi => by have := hmin (i + 1) (by omega) (by simpa using hi); simpa using this)
        simp only [mget] at ih' ⊢
        simp only [List.set_cons_succ, List.find?_cons]
        by_cases h : k' = x.1
        · simp only [h, decide_true]
          rw [if_neg hx0]
        · simp only [h, decide_false]
          exact ih'

end Go.Proofs.YtlhefifejcoecaaGreatDoor

namespace Go.Proofs.YtlhefifejcoecaaGreatDoor
open Go.RowKit Go.Proofs

theorem mset_length {α : Type} [DecidableEq α] (m : List (α × Value)) (k : α) (v : Value) : (mset m k v).length ≤ m.length + 1 := by
  unfold mset; split <;> simp

theorem mdel_length {α : Type} [DecidableEq α] (m : List (α × Value)) (k : α) : (mdel m k).length ≤ m.length := by
  unfold mdel; split
  · exact (List.eraseIdx_sublist _ _).length_le
  · exact Nat.le_refl _

theorem mget_del {α : Type} [DecidableEq α] {m : List (α × Value)} (hn : (m.map (·.1)).Nodup) (k k' : α) : mget (mdel m k) k' = if k' = k then none else mget m k' := by
  unfold mdel
  cases hx : midx m k with
  | none =>
    by_cases h : k' = k
    · subst h; rw [if_pos rfl, mget_idx]; simp [hx]
    · rw [if_neg h]
  | some j =>
    obtain ⟨hj, hjk⟩ := midx_some hx
    clear hx
    induction m generalizing j with
    | nil => simp at hj
    | cons x m ih =>
      simp only [List.map_cons, List.nodup_cons] at hn
      cases j with
      | zero =>
        simp only [List.getElem_cons_zero] at hjk
        subst hjk
        simp only [List.eraseIdx_cons_zero]
        by_cases h : k' = x.1
        · subst h
          rw [if_pos rfl]
          simp only [mget, Option.map_eq_none_iff, List.find?_eq_none]
          intro y hy
          simp only [decide_eq_true_eq]
          intro e
          exact hn.1 (e ▸ List.mem_map_of_mem hy)
        · rw [if_neg h]
          simp [mget, h]
      | succ j =>
        have hne : x.1 ≠ k := fun e => hn.1 (by
          rw [e, ← hjk]
          exact List.mem_map_of_mem (List.getElem_mem _))
        have ih' := ih hn.2 j (by simpa using hj) (by simpa using hjk)
        simp only [mget] at ih' ⊢
        simp only [List.eraseIdx_cons_succ, List.find?_cons]
        by_cases h : k' = x.1
        · simp only [h, decide_true]
          rw [if_neg hne]
        · simp only [h, decide_false]
          exact ih'

end Go.Proofs.YtlhefifejcoecaaGreatDoor
