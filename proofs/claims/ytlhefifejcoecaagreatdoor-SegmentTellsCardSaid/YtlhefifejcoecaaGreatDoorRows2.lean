/- Rows of structs that the call itself made, whatever the struct: element by element. -/
import Derived.Test.YtlhefifejcoecaaGreatDoorApp
namespace Go.Proofs.YtlhefifejcoecaaGreatDoor
open Go.RowKit Go.Proofs

theorem flatten_len {β : Type} (k : Nat) : ∀ (css : List (List β)), (∀ c ∈ css, c.length = k) → css.flatten.length = css.length * k
  | [], _ => by simp
  | c :: css, h => by
    have ih := flatten_len k css fun d hd => h d (by simp [hd])
    have h0 := h c (by simp)
    rw [List.flatten_cons, List.length_append, ih, h0, List.length_cons, Nat.add_mul]; omega

theorem flatten_get {β : Type} (k : Nat) : ∀ (css : List (List β)), (∀ c ∈ css, c.length = k) → ∀ (j i : Nat) (hj : j < css.length), i < k → css.flatten[j * k + i]? = css[j][i]?
  | [], _, j, i, hj, _ => by simp at hj
  | c :: css, h, 0, i, _, hi => by
    have h0 := h c (by simp)
    rw [List.flatten_cons, Nat.zero_mul, Nat.zero_add, List.getElem?_append_left (by omega)]; rfl
  | c :: css, h, j + 1, i, hj, hi => by
    have h0 := h c (by simp)
    have ih := flatten_get k css (fun d hd => h d (by simp [hd])) j i (by simpa using hj) hi
    rw [List.flatten_cons, List.getElem?_append_right (by rw [h0, Nat.add_mul]; omega), h0, show (j + 1) * k + i - k = j * k + i by rw [Nat.add_mul]; omega, ih]; rfl

theorem flatten_set {β : Type} (k : Nat) (u : β) : ∀ (css : List (List β)), (∀ c ∈ css, c.length = k) → ∀ (j i : Nat) (hj : j < css.length), i < k → css.flatten.set (j * k + i) u = (css.set j (css[j].set i u)).flatten
  | [], _, j, i, hj, _ => by simp at hj
  | c :: css, h, 0, i, _, hi => by
    have h0 := h c (by simp)
    rw [List.flatten_cons, Nat.zero_mul, Nat.zero_add, List.set_append_left _ _ (by omega)]; rfl
  | c :: css, h, j + 1, i, hj, hi => by
    have h0 := h c (by simp)
    have ih := flatten_set k u css (fun d hd => h d (by simp [hd])) j i (by simpa using hj) hi
    rw [List.flatten_cons, List.set_append_right _ _ (by rw [h0, Nat.add_mul]; omega), h0, show (j + 1) * k + i - k = j * k + i by rw [Nat.add_mul]; omega, ih]; rfl

/-- A row of elements of k cells each, the call's own. -/
structure OwnR (w : World) (base : Nat) (T : TypeId) (k : Nat) (v : Value) (css : List (List Value)) : Prop where
  row : w.ownsRow base T k v css.length css.flatten
  len : ∀ c ∈ css, c.length = k

/-- The elements' cells of a slice. -/
theorem SlP.cells {α : Type} {k : Nat} {E : World → List Value → α → Prop} {w : World} {v : Value} {l : List α} (h : SlP k E w v l) :
    ∃ css : List (List Value), css.length = l.length ∧ (∀ c ∈ css, c.length = k) ∧ (∀ j (h1 : j < css.length) (h2 : j < l.length), E w css[j] l[j]) ∧
      ∃ p cap, v = .slice p l.length cap ∧ l.length ≤ cap ∧ l.length ≤ 9223372036854775807 ∧ (p = none → cap = 0) ∧ ∀ j (hj : j < css.length), ∃ b off, p = some ⟨b, off, none⟩ ∧ ∀ i (hi : i < css[j].length), w.cell? ⟨b, off + j * k + i, none⟩ = some css[j][i] := by
  obtain ⟨p, cap, rfl, h1, h2, h0, h3⟩ := h
  have hch : ∀ j : Fin l.length, ∃ cs : List Value, ∃ b off, p = some ⟨b, off, none⟩ ∧ cs.length = k ∧ E w cs l[j] ∧ ∀ i (hi : i < cs.length), w.cell? ⟨b, off + j * k + i, none⟩ = some cs[i] := fun j => by
    obtain ⟨b, off, cs, hp⟩ := h3 j j.2
    exact ⟨cs, b, off, hp⟩
  refine ⟨List.ofFn fun j => (hch j).choose, by simp, ?_, ?_, p, cap, rfl, h1, h2, h0, ?_⟩
  · intro c hc
    obtain ⟨j, rfl⟩ := (List.mem_ofFn).1 hc
    obtain ⟨b, off, -, h, -⟩ := (hch j).choose_spec
    exact h
  · intro j h4 h5
    simp only [List.getElem_ofFn]
    obtain ⟨b, off, -, -, h, -⟩ := (hch ⟨j, h5⟩).choose_spec
    exact h
  · intro j hj
    have h5 : j < l.length := by simpa using hj
    obtain ⟨b, off, hp, -, -, h⟩ := (hch ⟨j, h5⟩).choose_spec
    refine ⟨b, off, hp, fun i hi => ?_⟩
    simp only [List.getElem_ofFn] at hi ⊢
    exact h i hi

/-- What an append yields of a slice of structs that lies anywhere. -/
theorem src_rows {P : Program} {α : Type} {k : Nat} {E : World → List Value → α → Prop} {tx e' : TypeId} (hk : P.underlying tx = some (.slice e')) (h1 : ∀ w cs x, E w cs x → ∀ u ∈ cs, u.oneCell' = true) (hk0 : 0 < k)
    {w W : World} {v : Value} {l : List α} (h : SlP k E w v l) (hb : Below w.heap.size w W) :
    ∃ css : List (List Value), css.length = l.length ∧ (∀ c ∈ css, c.length = k) ∧ (∀ j (h1 : j < css.length) (h2 : j < l.length), E w css[j] l[j]) ∧ Src P k tx v l.length css.flatten W := by
  obtain ⟨css, hl, hlk, hE, p, cap, rfl, hc, hm, h0, hcell⟩ := h.cells
  refine ⟨css, hl, hlk, hE, ?_⟩
  have hone : ∀ u ∈ css.flatten, u.oneCell' = true := by
    intro u hu
    obtain ⟨c, hc, hu⟩ := List.mem_flatten.1 hu
    obtain ⟨j, hj, rfl⟩ := List.getElem_of_mem hc
    exact h1 w _ _ (hE j hj (by omega)) u hu
  cases p with
  | none =>
    have hc0 := h0 rfl
    have hl0 : l = [] := List.eq_nil_of_length_eq_zero (by omega)
    subst hl0
    have : css = [] := List.eq_nil_of_length_eq_zero (by simpa using hl)
    subst this
    exact Src.ofNil W hk cap
  | some a =>
    refine Src.ofSlice W hk a _ cap _ (by rw [flatten_len k css hlk, hl]) (fun t u hu => ?_) hone
    have ht : t < css.length * k := by
      rcases Nat.lt_or_ge t (css.length * k) with h | h
      · exact h
      · rw [List.getElem?_eq_none (by rw [flatten_len k css hlk]; exact h)] at hu; cases hu
    have hj : t / k < css.length := by rw [Nat.div_lt_iff_lt_mul hk0]; exact ht
    have hi : t % k < k := Nat.mod_lt _ hk0
    have e : t = t / k * k + t % k := by rw [Nat.mul_comm]; exact (Nat.div_add_mod t k).symm
    rw [e, flatten_get k css hlk _ _ hj hi] at hu
    obtain ⟨b, off, hp, hcc⟩ := hcell _ hj
    have hlj : css[t / k].length = k := hlk _ (List.getElem_mem hj)
    simp only [Option.some.injEq] at hp
    subst hp
    rw [List.getElem?_eq_getElem (by omega)] at hu
    have := bcell hb (hcc (t % k) (by omega))
    rw [Addr.add_lit]
    rw [← Option.some.inj hu, ← this, Nat.add_assoc, ← e]

theorem OwnR.made (w : World) (base : Nat) (T : TypeId) (k : Nat) (hb : base ≤ w.heap.size) : OwnR (w.alloc (.cells #[] T)) base T k (.slice (some ⟨w.heap.size, 0, none⟩) 0 0) [] :=
  ⟨World.ownsRow_lit w #[] 0 hb (by decide) (by simp), by simp⟩

theorem OwnR.kept {w w' : World} {base : Nat} {T : TypeId} {k : Nat} {v : Value} {css : List (List Value)} {row : Option Nat} (h : OwnR w base T k v css) (hg : w.grownBy w' row) (hne : v.ownBlock = none ∨ v.ownBlock ≠ row) : OwnR w' base T k v css := ⟨h.row.kept hg hne, h.len⟩

theorem OwnR.below {w w' : World} {base : Nat} {T : TypeId} {k : Nat} {v : Value} {css : List (List Value)} (h : OwnR w base T k v css) (hb : Below w.heap.size w w') : OwnR w' base T k v css := by
  refine h.kept (row := none) ⟨hb.os, hb.tape, hb.output, hb.size, fun k hk _ => hb.block k hk⟩ ?_
  cases hv : v.ownBlock with
  | none => exact .inl rfl
  | some k => exact .inr (by simp)

/-- Read as a slice. -/
theorem OwnR.slp {α : Type} {E : World → List Value → α → Prop} {w : World} {base : Nat} {T : TypeId} {k : Nat} {v : Value} {css : List (List Value)} (h : OwnR w base T k v css) {l : List α} (hl : css.length = l.length) (hm : l.length ≤ 9223372036854775807)
    (hE : ∀ j (h1 : j < css.length) (h2 : j < l.length), E w css[j] l[j]) : SlP k E w v l := by
  rcases h.row.2 with ⟨rfl, hn⟩ | ⟨g, cap, cur, rfl, hb, hg, hc, hm', hsz, ht⟩
  · exact ⟨none, 0, by rw [← hl, hn], by omega, hm, fun _ => rfl, fun j hj => by omega⟩
  · refine ⟨_, cap, by rw [hl], by omega, hm, fun h => by simp at h, fun j hj => ?_⟩
    have hj' : j < css.length := by omega
    have hlj : css[j].length = k := h.len _ (List.getElem_mem hj')
    refine ⟨g, 0, css[j], rfl, hlj, hE j hj' hj, fun i hi => ?_⟩
    have h1 := h.row.cells (g := g) rfl (j * k + i) css[j][i] (by rw [flatten_get k css h.len j i hj' (by omega), List.getElem?_eq_getElem hi])
    rw [Addr.add_lit, Nat.zero_add] at h1
    rw [Nat.zero_add]
    exact h1

theorem OwnR.form {w : World} {base : Nat} {T : TypeId} {k : Nat} {v : Value} {css : List (List Value)} (h : OwnR w base T k v css) :
    ∃ p cap, v = .slice p css.length cap ∧ css.length ≤ cap ∧ (0 < css.length → ∃ g, p = some ⟨g, 0, none⟩ ∧ base ≤ g ∧ g < w.heap.size) := by
  rcases h.row.2 with ⟨rfl, hn⟩ | ⟨g, cap, cur, rfl, hb, hg, hc, _⟩
  · exact ⟨none, 0, by rw [hn], by omega, fun h => by omega⟩
  · exact ⟨_, cap, rfl, hc, fun _ => ⟨g, rfl, hb, by
      rcases Nat.lt_or_ge g w.heap.size with h | h
      · exact h
      · rw [Array.getElem?_eq_none h] at hg; cases hg⟩⟩

/-- A cell of it. -/
theorem OwnR.cell {w : World} {base : Nat} {T : TypeId} {k : Nat} {g n cap : Nat} {css : List (List Value)} (h : OwnR w base T k (.slice (some ⟨g, 0, none⟩) n cap) css) (j i : Nat) (hj : j < css.length) (hi : i < css[j].length) : w.cell? ⟨g, j * k + i, none⟩ = some css[j][i] := by
  have hlj : css[j].length = k := h.len _ (List.getElem_mem hj)
  have h1 := h.row.cells (g := g) rfl (j * k + i) css[j][i] (by rw [flatten_get k css h.len j i hj (by omega), List.getElem?_eq_getElem hi])
  rw [Addr.add_lit, Nat.zero_add] at h1
  exact h1

theorem OwnR.frozen {w : World} {base : Nat} {T : TypeId} {k : Nat} {g n cap : Nat} {css : List (List Value)} (h : OwnR w base T k (.slice (some ⟨g, 0, none⟩) n cap) css) (i : Nat) : w.frozen? ⟨g, i, none⟩ = false := by
  have hn : css.length = n := by
    rcases h.row.2 with ⟨h1, _⟩ | ⟨g', cap', cur, h1, _⟩
    · cases h1
    · cases h1; rfl
  have h0 := h.row
  rw [hn] at h0
  exact h0.frozenAt i

/-- A cell of it is written. -/
theorem OwnR.stored {w : World} {base : Nat} {T : TypeId} {k : Nat} {g n cap : Nat} {css : List (List Value)} (h : OwnR w base T k (.slice (some ⟨g, 0, none⟩) n cap) css) (j i : Nat) (hj : j < css.length) (hi : i < k) (u : Value) :
    OwnR (w.setCell ⟨g, j * k + i, none⟩ u) base T k (.slice (some ⟨g, 0, none⟩) n cap) (css.set j (css[j].set i u)) := by
  have hn : css.length = n := by
    rcases h.row.2 with ⟨h1, _⟩ | ⟨g', cap', cur, h1, _⟩
    · cases h1
    · cases h1; rfl
  have h0 := h.row
  rw [hn] at h0
  have h1 := World.ownsRow.stored h0 (j * k + i) u
  refine ⟨?_, fun c hc => ?_⟩
  · rw [← flatten_set k u css h.len j i hj hi, List.length_set, hn]
    exact h1.1
  · rcases List.mem_or_eq_of_mem_set hc with h2 | rfl
    · exact h.len c h2
    · rw [List.length_set]; exact h.len _ (List.getElem_mem hj)

end Go.Proofs.YtlhefifejcoecaaGreatDoor
