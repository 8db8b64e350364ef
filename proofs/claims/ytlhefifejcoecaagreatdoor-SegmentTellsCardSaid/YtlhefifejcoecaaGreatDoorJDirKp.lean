/- What lies in a file stays there, whatever is done to others: plain. -/
/- DirPlaces, plain: what each file has, whatever is done. -/
import Derived.Test.YtlhefifejcoecaaGreatDoorJDirV
namespace Go.Proofs.YtlhefifejcoecaaGreatDoor
open Go.RowKit Go.Proofs Go.Shelf

/-- Bytes at a place. -/
def seg (c : List UInt8) (p m : Nat) : List UInt8 := (c.drop p).take m

theorem seg_get (c : List UInt8) (p m i : Nat) : (seg c p m)[i]? = if i < m then c[p + i]? else none := by
  unfold seg
  rw [List.getElem?_take]
  split
  · rw [List.getElem?_drop]
  · rfl

theorem seg_far {c x : List UInt8} {a p m : Nat} (hx : a + x.length ≤ c.length) (h : p + m ≤ a ∨ a + x.length ≤ p) : seg (splice c a x) p m = seg c p m := by
  apply List.ext_getElem?
  intro i
  rw [seg_get, seg_get]
  split
  · rw [splice_get hx, if_neg (by omega)]
  · rfl

theorem seg_here {c x : List UInt8} {a : Nat} (hx : a + x.length ≤ c.length) : seg (splice c a x) a x.length = x := by
  apply List.ext_getElem?
  intro i
  rw [seg_get]
  split
  · rw [splice_get hx, if_pos (by omega)]
    congr 1; omega
  · rw [List.getElem?_eq_none (by omega)]

theorem seg_len {c : List UInt8} {p m : Nat} (h : p + m ≤ c.length) : (seg c p m).length = m := by
  unfold seg
  rw [List.length_take, List.length_drop]; omega

theorem seg_splice {c x : List UInt8} {a p m : Nat} (hpm : p + m ≤ c.length) (h1 : p ≤ a) (h2 : a + x.length ≤ p + m) : seg (splice c a x) p m = splice (seg c p m) (a - p) x := by
  apply List.ext_getElem?
  intro i
  have hR := splice_get (b := seg c p m) (x := x) (at_ := a - p) (by rw [seg_len hpm]; omega) i
  rw [hR, seg_get, seg_get]
  by_cases hi : i < m
  · rw [if_pos hi, if_pos hi, splice_get (by omega)]
    by_cases h3 : a ≤ p + i ∧ p + i < a + x.length
    · rw [if_pos h3, if_pos (by omega)]
      congr 1; omega
    · rw [if_neg h3, if_neg (by omega)]
  · rw [if_neg hi, if_neg hi, if_neg (by omega)]

theorem not_meets {a b : Nat × Nat} (h : meetsS a b = false) (ha : 1 ≤ a.2) (hb : 1 ≤ b.2) : a.1 + a.2 ≤ b.1 ∨ b.1 + b.2 ≤ a.1 := by
  have h2 : ¬ (a.1 < b.1 + b.2 ∧ b.1 < a.1 + a.2) := fun h3 => by
    have := (meets_iff a b).2 h3
    rw [h] at this; cases this
  omega

theorem GoodF.mem_get {m : Files} {n : Nat} (h : GoodF m n) {x : ByteArray × Nat × Nat} (hx : x ∈ m) : fget m x.1 = some x.2 := fget_mem h.nodup hx

theorem GoodF.two {m : Files} {n : Nat} (h : GoodF m n) {s t : ByteArray} {e f : Nat × Nat} (hs : fget m s = some e) (ht : fget m t = some f) (hst : s ≠ t) : meetsS e f = false := by
  obtain ⟨x, hx, rfl, rfl⟩ := fget_some hs
  obtain ⟨y, hy, rfl, rfl⟩ := fget_some ht
  have hne : x ≠ y := fun e => hst (by rw [e])
  have hp := h.apart
  rw [List.pairwise_map] at hp
  obtain ⟨i, hi, rfl⟩ := List.getElem_of_mem hx
  obtain ⟨j, hj, rfl⟩ := List.getElem_of_mem hy
  rw [List.pairwise_iff_getElem] at hp
  rcases Nat.lt_trichotomy i j with h1 | h1 | h1
  · exact hp i j hi hj h1
  · subst h1; exact absurd rfl hne
  · rw [meetsS_comm]; exact hp j i hj hi h1

theorem GoodF.ext_ok {m : Files} {n : Nat} (h : GoodF m n) {s : ByteArray} {e : Nat × Nat} (hs : fget m s = some e) : 16 ≤ e.1 ∧ 1 ≤ e.2 ∧ e.1 + e.2 ≤ n := by
  obtain ⟨x, hx, rfl, rfl⟩ := fget_some hs
  exact (h.each x hx).2

theorem fget_append {m : Files} {s : ByteArray} {e : Nat × Nat} (h : fget m s = some e) (x : ByteArray × Nat × Nat) : fget (m ++ [x]) s = some e := by
  unfold fget at h ⊢
  rw [List.find?_append]
  cases hf : m.find? fun x => decide (s = x.1) with
  | none => rw [hf] at h; cases h
  | some y => rw [hf] at h; exact h

theorem fget_append_ne {m : Files} {s t : ByteArray} {e : Nat × Nat} (h : s ≠ t) : fget (m ++ [(t, e)]) s = fget m s := by
  unfold fget
  rw [List.find?_append]
  cases hf : m.find? fun x => decide (s = x.1) with
  | none => simp [h]
  | some y => rfl

theorem fget_append_new {m : Files} {t : ByteArray} {e : Nat × Nat} (h : fget m t = none) : fget (m ++ [(t, e)]) t = some e := by
  unfold fget at h ⊢
  simp only [Option.map_eq_none_iff] at h
  rw [List.find?_append, h]
  simp

theorem fget_del_ne {m : Files} {s t : ByteArray} (h : s ≠ t) : fget (fdel m t) s = fget m s := by
  unfold fdel fidx
  cases hi : m.findIdx? fun x => decide (t = x.1) with
  | none => rfl
  | some j =>
    obtain ⟨hj, h1, -⟩ := List.findIdx?_eq_some_iff_getElem.1 hi
    simp only [decide_eq_true_eq] at h1
    dsimp only
    clear hi
    unfold fget
    congr 1
    induction m generalizing j with
    | nil => simp at hj
    | cons x m ih =>
      cases j with
      | zero =>
        simp only [List.getElem_cons_zero] at h1
        rw [List.eraseIdx_cons_zero, List.find?_cons]
        rw [decide_eq_false (fun e : s = x.1 => h (e.trans h1.symm))]
      | succ j =>
        rw [List.eraseIdx_cons_succ, List.find?_cons, List.find?_cons]
        by_cases e : s = x.1
        · rw [decide_eq_true e]
        · rw [decide_eq_false e]
          exact ih j (by simpa using hj) (by simpa using h1)

theorem fget_sortF {m : Files} {s : ByteArray} {e : Nat × Nat} (h : fget m s = some e) : fget (sortF m) s = some e := by
  obtain ⟨x, hx, rfl, rfl⟩ := fget_some h
  have hmem : x.1.data.toList ∈ namesS m := (names_perm m).mem_iff.2 (List.mem_map_of_mem hx)
  have hext : fext m x.1.data.toList = x.2 := by
    unfold fext
    rw [mk_data, h]; rfl
  have : ∀ ns : List (List UInt8), x.1.data.toList ∈ ns → fget (ns.map fun s => ((⟨s.toArray⟩ : ByteArray), fext m s)) x.1 = some (fext m x.1.data.toList) := by
    intro ns
    induction ns with
    | nil => intro h; cases h
    | cons t r ih =>
      intro h
      unfold fget
      rw [List.map_cons, List.find?_cons]
      by_cases e : x.1 = ⟨t.toArray⟩
      · rw [decide_eq_true e]
        have ht : t = x.1.data.toList := by rw [e]
        rw [← ht]; rfl
      · rw [decide_eq_false e]
        rcases List.mem_cons.1 h with h | h
        · exact absurd (by rw [← h, mk_data]) e
        · exact ih h
  rw [← hext]
  exact this _ hmem

section
variable {n : Nat} {safe cur : List UInt8} {now saved : Files} {epoch which : Nat}

/-- A new file's room is apart from another file. -/
theorem make_apart (h : DOK n safe cur now saved epoch which) {s : ByteArray} {c : Int} {f e : Nat × Nat} (hm : MakeS now saved n s c (some f)) {t : ByteArray} (ht : fget now t = some e) : (32 * e.1 + 32 * e.2 ≤ 32 * f.1 ∨ 32 * f.1 + 32 * f.2 ≤ 32 * e.1) ∧ 32 * f.1 + (zerosB (32 * f.2)).length ≤ cur.length := by
  obtain ⟨-, -, -, h4, h5, h6⟩ := hm
  have h7 := (place_free (cn := f.2) h6 h4 h5).1
  obtain ⟨-, h8, -, -⟩ := h6
  obtain ⟨x, hx, rfl, rfl⟩ := fget_some ht
  have h9 := h7 x hx (h.gnow.each x hx).2.2.1
  have h10 := not_meets h9 (h.gnow.each x hx).2.2.1 h5
  dsimp only at h10
  refine ⟨by omega, ?_⟩
  have := h.lens.2
  simp only [zerosB, List.length_replicate]
  omega

/-- A write to one file is apart from another one. -/
theorem write_apart (h : DOK n safe cur now saved epoch which) {s t : ByteArray} {a : Int} {k q : Nat} {e : Nat × Nat} (hst : t ≠ s) (ht : fget now t = some e) (hw : wrS now s a k = some q) : (32 * e.1 + 32 * e.2 ≤ q ∨ q + k ≤ 32 * e.1) ∧ q + k ≤ cur.length := by
  have hin := wrS_in h.gnow.in_ hw
  have hl := h.lens.2
  refine ⟨?_, by omega⟩
  unfold wrS at hw
  cases hs : fget now s with
  | none => rw [hs] at hw; cases hw
  | some f =>
    rw [hs] at hw
    dsimp only at hw
    have h1 := not_meets (h.gnow.two ht hs hst) (h.gnow.ext_ok ht).2.1 (h.gnow.ext_ok hs).2.1
    split at hw
    · simp only [Option.some.injEq] at hw; omega
    · cases hw

theorem save_apart (h : DOK n safe cur now saved epoch which) (he : epoch ≤ 1000000000000) {p m : Nat} (hp : 512 ≤ p) : seg (saveS cur which epoch now) p m = seg cur p m := by
  have hf := listS_len (h.fits he)
  have hl := h.lens.2
  have hsz := h.sz
  have hwh := h.wh
  unfold saveS
  exact seg_far (by rw [hf]; omega) (by rw [hf]; omega)
end

end Go.Proofs.YtlhefifejcoecaaGreatDoor

namespace Go.Proofs.YtlhefifejcoecaaGreatDoor
open Go.RowKit Go.Proofs Go.Shelf

/-- The files' names and bytes. -/
def haveS (now : Files) (cur : List UInt8) : List (ByteArray × List UInt8) := now.map fun x => (x.1, seg cur (32 * x.2.1) (32 * x.2.2))

theorem haveS_len (now : Files) (cur : List UInt8) : (haveS now cur).length = now.length := by unfold haveS; rw [List.length_map]

def hidx (L : List (ByteArray × List UInt8)) (s : ByteArray) : Option Nat := L.findIdx? fun x => decide (s = x.1)

theorem hidx_have (now : Files) (cur : List UInt8) (s : ByteArray) : hidx (haveS now cur) s = fidx now s := by
  unfold hidx fidx haveS
  rw [List.findIdx?_map]; rfl

theorem fidx_get {m : Files} {s : ByteArray} : (fidx m s).isSome = (fget m s).isSome := by
  unfold fidx fget
  rw [Option.isSome_map]
  induction m with
  | nil => rfl
  | cons x m ih =>
    rw [List.findIdx?_cons, List.find?_cons]
    by_cases h : s = x.1
    · simp [h]
    · simp only [h, decide_false, Bool.false_eq_true, if_false, Option.isSome_map]
      exact ih

theorem fidx_some {m : Files} {s : ByteArray} {j : Nat} (h : fidx m s = some j) : ∃ hj : j < m.length, m[j].1 = s ∧ fget m s = some m[j].2 := by
  unfold fidx at h
  obtain ⟨hj, h1, h2⟩ := List.findIdx?_eq_some_iff_getElem.1 h
  simp only [decide_eq_true_eq] at h1
  refine ⟨hj, h1.symm, ?_⟩
  unfold fget
  have : m.find? (fun x => decide (s = x.1)) = some m[j] := by
    rw [List.find?_eq_some_iff_getElem]
    refine ⟨by simp [h1], j, hj, rfl, fun k hk => ?_⟩
    have := h2 k hk
    simpa using this
  rw [this]; rfl

section
variable {n : Nat} {safe cur : List UInt8} {now saved : Files} {epoch which : Nat}

theorem have_seg (h : DOK n safe cur now saved epoch which) {x : ByteArray × Nat × Nat} (hx : x ∈ now) : (seg cur (32 * x.2.1) (32 * x.2.2)).length = 32 * x.2.2 := by
  have h1 := (h.gnow.each x hx).2.2.2
  have h2 := h.lens.2
  exact seg_len (by omega)

theorem have_make (h : DOK n safe cur now saved epoch which) {s : ByteArray} {c : Int} {f : Nat × Nat} (hm : MakeS now saved n s c (some f)) : haveS (makeNow now s (some f)) (makeCur cur (some f)) = haveS now cur ++ [(s, zerosB (32 * f.2))] := by
  show haveS (now ++ [(s, f)]) (splice cur (32 * f.1) (zerosB (32 * f.2))) = _
  have hin : 32 * f.1 + (zerosB (32 * f.2)).length ≤ cur.length := by
    obtain ⟨-, -, -, h4, h5, h6, h7, -, -⟩ := hm
    have := h.lens.2
    simp only [zerosB, List.length_replicate]
    omega
  unfold haveS
  rw [List.map_append]
  congr 1
  · refine List.map_congr_left fun x hx => ?_
    obtain ⟨h1, h2⟩ := make_apart h hm (h.gnow.mem_get hx)
    rw [seg_far h2 (by simp only [zerosB, List.length_replicate]; omega)]
  · simp only [List.map_cons, List.map_nil]
    have h3 := seg_here (c := cur) (x := zerosB (32 * f.2)) hin
    rw [show (zerosB (32 * f.2)).length = 32 * f.2 by simp [zerosB]] at h3
    rw [h3]

theorem make_few (h : DOK 100 safe cur now saved epoch which) {s : ByteArray} {c : Int} {f : Nat × Nat} (hm : MakeS now saved 100 s c (some f)) : c = (f.2 : Int) ∧ 1 ≤ f.2 ∧ f.2 ≤ 84 := by
  obtain ⟨-, -, -, h4, h5, h6, h7, -, -⟩ := hm
  exact ⟨h4, h5, by omega⟩

theorem have_remove {s : ByteArray} {j : Nat} (hj : fidx now s = some j) : haveS (fdel now s) cur = (haveS now cur).eraseIdx j := by
  unfold fdel
  rw [hj]
  unfold haveS
  exact (ChangeMaps.map_eraseIdx _ _ _)

theorem have_write (h : DOK n safe cur now saved epoch which) {s : ByteArray} {a : Int} {bs : List UInt8} {q : Nat} (hw : wrS now s a bs.length = some q) : ∃ j, ∃ hj : j < now.length, fidx now s = some j ∧ 0 ≤ a ∧ a.toNat + bs.length ≤ 32 * now[j].2.2 ∧
    haveS now (splice cur q bs) = (haveS now cur).set j (s, splice (seg cur (32 * now[j].2.1) (32 * now[j].2.2)) a.toNat bs) := by
  have hq := (wrS_in h.gnow.in_ hw).1
  have hl := h.lens.2
  have hw0 := hw
  unfold wrS at hw
  cases hs : fget now s with
  | none => rw [hs] at hw; cases hw
  | some e =>
    rw [hs] at hw
    dsimp only at hw
    have hi : (fidx now s).isSome = true := by rw [fidx_get, hs]; rfl
    obtain ⟨j, hj⟩ := Option.isSome_iff_exists.1 hi
    obtain ⟨hjl, hj1, hj2⟩ := fidx_some hj
    rw [hs] at hj2
    simp only [Option.some.injEq] at hj2
    subst hj2
    split at hw
    · rename_i hc
      simp only [Option.some.injEq] at hw
      refine ⟨j, hjl, hj, hc.1, by omega, ?_⟩
      apply List.ext_getElem?
      intro i
      rw [List.getElem?_set]
      unfold haveS
      simp only [List.getElem?_map, List.length_map]
      by_cases hij : j = i
      · subst hij
        rw [if_pos rfl, if_pos hjl, List.getElem?_eq_getElem hjl, Option.map_some, hj1]
        have h9 := (h.gnow.each now[j] (List.getElem_mem hjl)).2.2.2
        rw [seg_splice (by omega) (by omega) (by omega)]
        rw [show q - 32 * now[j].2.1 = a.toNat by omega]
      · rw [if_neg hij]
        by_cases hil : i < now.length
        · rw [List.getElem?_eq_getElem hil, Option.map_some, Option.map_some]
          have hne : now[i].1 ≠ s := fun e => by
            have h5 := (List.findIdx?_eq_some_iff_getElem.1 (show now.findIdx? (fun x => decide (s = x.1)) = some j from hj)).2.2
            have hnd := h.gnow.nodup
            rw [List.nodup_iff_pairwise_ne, List.pairwise_iff_getElem] at hnd
            rcases Nat.lt_or_ge i j with h6 | h6
            · exact absurd (h5 i h6) (by simp [e])
            · have h7 := hnd j i (by simpa using hjl) (by simpa using hil) (by omega)
              simp only [List.getElem_map] at h7
              exact h7 (hj1.trans e.symm)
          obtain ⟨h1, h2⟩ := write_apart h hne (h.gnow.mem_get (List.getElem_mem hil)) hw0
          rw [seg_far h2 (by omega)]
        · rw [List.getElem?_eq_none (by omega)]; rfl
    · cases hw

theorem have_save (h : DOK n safe cur now saved epoch which) (he : epoch ≤ 1000000000000) : haveS now (saveS cur which epoch now) = haveS now cur := by
  unfold haveS
  refine List.map_congr_left fun x hx => ?_
  rw [save_apart h he (by have := (h.gnow.each x hx).2.1; omega)]

/-- What a file has is read. -/
theorem have_read (h : DOK n safe cur now saved epoch which) {j : Nat} (hj : j < now.length) : wrS now now[j].1 0 (32 * now[j].2.2 : Nat) = some (32 * now[j].2.1) ∧ fget now now[j].1 = some now[j].2 := by
  have h1 := h.gnow.mem_get (List.getElem_mem hj)
  refine ⟨?_, h1⟩
  unfold wrS
  rw [h1]
  dsimp only
  rw [if_pos (by omega)]
  simp
end

end Go.Proofs.YtlhefifejcoecaaGreatDoor
