/- What lies in a file stays there, whatever is done to others: plain. -/
import Derived.Test.YtnpnchociegmpaaDoorDirSv
namespace Go.Proofs.YtnpnchociegmpaaDoor
open Go.RowKit Go.Proofs Go.Shelf

/-- Bytes at a place. -/
def seg (c : List UInt8) (p m : Nat) : List UInt8 := (c.drop p).take m

theorem seg_get (c : List UInt8) (p m i : Nat) : (seg c p m)[i]? = if i < m then c[p + i]? else none := by
  unfold seg
  rw [List.getElem?_take]
  split
  · rw [List.getElem?_drop]
  · rfl

theorem seg_far {c x : List UInt8} {a p m : Nat} (hx : a + x.length ≤ c.length) (h : p + m ≤ a ∨ a + x.length ≤ p) : seg (splice c a x) p m = seg c p m := by
  apply List.ext_getElem?
  intro i
  rw [seg_get, seg_get]
  split
  · rw [splice_get hx, if_neg (by omega)]
  · rfl

theorem seg_here {c x : List UInt8} {a : Nat} (hx : a + x.length ≤ c.length) : seg (splice c a x) a x.length = x := by
  apply List.ext_getElem?
  intro i
  rw [seg_get]
  split
  · rw [splice_get hx, if_pos (by omega)]
    congr 1; omega
  · rw [List.getElem?_eq_none (by omega)]

theorem seg_len {c : List UInt8} {p m : Nat} (h : p + m ≤ c.length) : (seg c p m).length = m := by
  unfold seg
  rw [List.length_take, List.length_drop]; omega

theorem seg_splice {c x : List UInt8} {a p m : Nat} (hpm : p + m ≤ c.length) (h1 : p ≤ a) (h2 : a + x.length ≤ p + m) : seg (splice c a x) p m = splice (seg c p m) (a - p) x := by
  apply List.ext_getElem?
  intro i
  have hR := splice_get (b := seg c p m) (x := x) (at_ := a - p) (by rw [seg_len hpm]; omega) i
  rw [hR, seg_get, seg_get]
  by_cases hi : i < m
  · rw [if_pos hi, if_pos hi, splice_get (by omega)]
    by_cases h3 : a ≤ p + i ∧ p + i < a + x.length
    · rw [if_pos h3, if_pos (by omega)]
      congr 1; omega
    · rw [if_neg h3, if_neg (by omega)]
  · rw [if_neg hi, if_neg hi, if_neg (by omega)]

theorem not_meets {a b : Nat × Nat} (h : meetsS a b = false) (ha : 1 ≤ a.2) (hb : 1 ≤ b.2) : a.1 + a.2 ≤ b.1 ∨ b.1 + b.2 ≤ a.1 := by
  have h2 : ¬ (a.1 < b.1 + b.2 ∧ b.1 < a.1 + a.2) := fun h3 => by
    have := (meets_iff a b).2 h3
    rw [h] at this; cases this
  omega

theorem GoodF.mem_get {m : Files} {n : Nat} (h : GoodF m n) {x : ByteArray × Nat × Nat} (hx : x ∈ m) : fget m x.1 = some x.2 := fget_mem h.nodup hx

theorem GoodF.two {m : Files} {n : Nat} (h : GoodF m n) {s t : ByteArray} {e f : Nat × Nat} (hs : fget m s = some e) (ht : fget m t = some f) (hst : s ≠ t) : meetsS e f = false := by
  obtain ⟨x, hx, rfl, rfl⟩ := fget_some hs
  obtain ⟨y, hy, rfl, rfl⟩ := fget_some ht
  have hne : x ≠ y := fun e => hst (by rw [e])
  have hp := h.apart
  rw [List.pairwise_map] at hp
  obtain ⟨i, hi, rfl⟩ := List.getElem_of_mem hx
  obtain ⟨j, hj, rfl⟩ := List.getElem_of_mem hy
  rw [List.pairwise_iff_getElem] at hp
  rcases Nat.lt_trichotomy i j with h1 | h1 | h1
  · exact hp i j hi hj h1
  · subst h1; exact absurd rfl hne
  · rw [meetsS_comm]; exact hp j i hj hi h1

theorem GoodF.ext_ok {m : Files} {n : Nat} (h : GoodF m n) {s : ByteArray} {e : Nat × Nat} (hs : fget m s = some e) : 16 ≤ e.1 ∧ 1 ≤ e.2 ∧ e.1 + e.2 ≤ n := by
  obtain ⟨x, hx, rfl, rfl⟩ := fget_some hs
  exact (h.each x hx).2

theorem fget_append {m : Files} {s : ByteArray} {e : Nat × Nat} (h : fget m s = some e) (x : ByteArray × Nat × Nat) : fget (m ++ [x]) s = some e := by
  unfold fget at h ⊢
  rw [List.find?_append]
  cases hf : m.find? fun x => decide (s = x.1) with
  | none => rw [hf] at h; cases h
  | some y => rw [hf] at h; exact h

theorem fget_append_ne {m : Files} {s t : ByteArray} {e : Nat × Nat} (h : s ≠ t) : fget (m ++ [(t, e)]) s = fget m s := by
  unfold fget
  rw [List.find?_append]
  cases hf : m.find? fun x => decide (s = x.1) with
  | none => simp [h]
  | some y => rfl

theorem fget_append_new {m : Files} {t : ByteArray} {e : Nat × Nat} (h : fget m t = none) : fget (m ++ [(t, e)]) t = some e := by
  unfold fget at h ⊢
  simp only [Option.map_eq_none_iff] at h
  rw [List.find?_append, h]
  simp

theorem fget_del_ne {m : Files} {s t : ByteArray} (h : s ≠ t) : fget (fdel m t) s = fget m s := by
  unfold fdel fidx
  cases hi : m.findIdx? fun x => decide (t = x.1) with
  | none => rfl
  | some j =>
    obtain ⟨hj, h1, -⟩ := List.findIdx?_eq_some_iff_getElem.1 hi
    simp only [decide_eq_true_eq] at h1
    dsimp only
    clear hi
    unfold fget
    congr 1
    induction m generalizing j with
    | nil => simp at hj
    | cons x m ih =>
      cases j with
      | zero =>
        simp only [List.getElem_cons_zero] at h1
        rw [List.eraseIdx_cons_zero, List.find?_cons]
        rw [decide_eq_false (fun e : s = x.1 => h (e.trans h1.symm))]
      | succ j =>
        rw [List.eraseIdx_cons_succ, List.find?_cons, List.find?_cons]
        by_cases e : s = x.1
        · rw [decide_eq_true e]
        · rw [decide_eq_false e]
          exact ih j (by simpa using hj) (by simpa using h1)

theorem fget_sortF {m : Files} {s : ByteArray} {e : Nat × Nat} (h : fget m s = some e) : fget (sortF m) s = some e := by
  obtain ⟨x, hx, rfl, rfl⟩ := fget_some h
  have hmem : x.1.data.toList ∈ namesS m := (names_perm m).mem_iff.2 (List.mem_map_of_mem hx)
  have hext : fext m x.1.data.toList = x.2 := by
    unfold fext
    rw [mk_data, h]; rfl
  have : ∀ ns : List (List UInt8), x.1.data.toList ∈ ns → fget (ns.map fun s => ((⟨s.toArray⟩ : ByteArray), fext m s)) x.1 = some (fext m x.1.data.toList) := by
    intro ns
    induction ns with
    | nil => intro h; cases h
    | cons t r ih =>
      intro h
      unfold fget
      rw [List.map_cons, List.find?_cons]
      by_cases e : x.1 = ⟨t.toArray⟩
      · rw [decide_eq_true e]
        have ht : t = x.1.data.toList := by rw [e]
        rw [← ht]; rfl
      · rw [decide_eq_false e]
        rcases List.mem_cons.1 h with h | h
        · exact absurd (by rw [← h, mk_data]) e
        · exact ih h
  rw [← hext]
  exact this _ hmem

section
variable {n : Nat} {safe cur : List UInt8} {now saved : Files} {epoch which : Nat}

/-- A new file's room is apart from another file. -/
theorem make_apart (h : DOK n safe cur now saved epoch which) {s : ByteArray} {c : Int} {f e : Nat × Nat} (hm : MakeS now saved n s c (some f)) {t : ByteArray} (ht : fget now t = some e) : (32 * e.1 + 32 * e.2 ≤ 32 * f.1 ∨ 32 * f.1 + 32 * f.2 ≤ 32 * e.1) ∧ 32 * f.1 + (zerosB (32 * f.2)).length ≤ cur.length := by
  obtain ⟨-, -, -, h4, h5, h6⟩ := hm
  have h7 := (place_free (cn := f.2) h6 h4 h5).1
  obtain ⟨-, h8, -, -⟩ := h6
  obtain ⟨x, hx, rfl, rfl⟩ := fget_some ht
  have h9 := h7 x hx (h.gnow.each x hx).2.2.1
  have h10 := not_meets h9 (h.gnow.each x hx).2.2.1 h5
  dsimp only at h10
  refine ⟨by omega, ?_⟩
  have := h.lens.2
  simp only [zerosB, List.length_replicate]
  omega

/-- A write to one file is apart from another one. -/
theorem write_apart (h : DOK n safe cur now saved epoch which) {s t : ByteArray} {a : Int} {k q : Nat} {e : Nat × Nat} (hst : t ≠ s) (ht : fget now t = some e) (hw : wrS now s a k = some q) : (32 * e.1 + 32 * e.2 ≤ q ∨ q + k ≤ 32 * e.1) ∧ q + k ≤ cur.length := by
  have hin := wrS_in h.gnow.in_ hw
  have hl := h.lens.2
  refine ⟨?_, by omega⟩
  unfold wrS at hw
  cases hs : fget now s with
  | none => rw [hs] at hw; cases hw
  | some f =>
    rw [hs] at hw
    dsimp only at hw
    have h1 := not_meets (h.gnow.two ht hs hst) (h.gnow.ext_ok ht).2.1 (h.gnow.ext_ok hs).2.1
    split at hw
    · simp only [Option.some.injEq] at hw; omega
    · cases hw

theorem save_apart (h : DOK n safe cur now saved epoch which) (he : epoch ≤ 1000000000000) {p m : Nat} (hp : 512 ≤ p) : seg (saveS cur which epoch now) p m = seg cur p m := by
  have hf := listS_len (h.fits he)
  have hl := h.lens.2
  have hsz := h.sz
  have hwh := h.wh
  unfold saveS
  exact seg_far (by rw [hf]; omega) (by rw [hf]; omega)
end

end Go.Proofs.YtnpnchociegmpaaDoor
