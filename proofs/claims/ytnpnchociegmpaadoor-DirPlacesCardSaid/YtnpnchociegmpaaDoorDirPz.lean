/- What lies in a file stays there; DirPlaces, plain, and what is had in memory. -/
import Derived.Test.YtnpnchociegmpaaDoorDirSv
namespace Go.Proofs.YtnpnchociegmpaaDoor
open Go.RowKit Go.Proofs Go.Shelf

/-- Bytes at a place. -/
def seg (c : List UInt8) (p m : Nat) : List UInt8 := (c.drop p).take m

theorem seg_get (c : List UInt8) (p m i : Nat) : (seg c p m)[i]? = if i < m then c[p + i]? else none := by
  unfold seg
  rw [List.getElem?_take]
  split
  · rw [List.getElem?_drop]
  · rfl

theorem seg_far {c x : List UInt8} {a p m : Nat} (hx : a + x.length ≤ c.length) (h : p + m ≤ a ∨ a + x.length ≤ p) : seg (splice c a x) p m = seg c p m := by
  apply List.ext_getElem?
  intro i
  rw [seg_get, seg_get]
  split
  · rw [splice_get hx, if_neg (by omega)]
  · rfl

theorem seg_here {c x : List UInt8} {a : Nat} (hx : a + x.length ≤ c.length) : seg (splice c a x) a x.length = x := by
  apply List.ext_getElem?
  intro i
  rw [seg_get]
  split
  · rw [splice_get hx, if_pos (by omega)]
    congr 1; omega
  · rw [List.getElem?_eq_none (by omega)]

theorem seg_len {c : List UInt8} {p m : Nat} (h : p + m ≤ c.length) : (seg c p m).length = m := by
  unfold seg
  rw [List.length_take, List.length_drop]; omega

theorem seg_splice {c x : List UInt8} {a p m : Nat} (hpm : p + m ≤ c.length) (h1 : p ≤ a) (h2 : a + x.length ≤ p + m) : seg (splice c a x) p m = splice (seg c p m) (a - p) x := by
  apply List.ext_getElem?
  intro i
  have hR := splice_get (b := seg c p m) (x := x) (at_ := a - p) (by rw [seg_len hpm]; omega) i
  rw [hR, seg_get, seg_get]
  by_cases hi : i < m
  · rw [if_pos hi, if_pos hi, splice_get (by omega)]
    by_cases h3 : a ≤ p + i ∧ p + i < a + x.length
    · rw [if_pos h3, if_pos (by omega)]
      congr 1; omega
    · rw [if_neg h3, if_neg (by omega)]
  · rw [if_neg hi, if_neg hi, if_neg (by omega)]

theorem not_meets {a b : Nat × Nat} (h : meetsS a b = false) (ha : 1 ≤ a.2) (hb : 1 ≤ b.2) : a.1 + a.2 ≤ b.1 ∨ b.1 + b.2 ≤ a.1 := by
  have h2 : ¬ (a.1 < b.1 + b.2 ∧ b.1 < a.1 + a.2) := fun h3 => by
    have := (meets_iff a b).2 h3
    rw [h] at this; cases this
  omega

theorem GoodF.mem_get {m : Files} {n : Nat} (h : GoodF m n) {x : ByteArray × Nat × Nat} (hx : x ∈ m) : fget m x.1 = some x.2 := fget_mem h.nodup hx

theorem GoodF.two {m : Files} {n : Nat} (h : GoodF m n) {s t : ByteArray} {e f : Nat × Nat} (hs : fget m s = some e) (ht : fget m t = some f) (hst : s ≠ t) : meetsS e f = false := by
  obtain ⟨x, hx, rfl, rfl⟩ := fget_some hs
  obtain ⟨y, hy, rfl, rfl⟩ := fget_some ht
  have hne : x ≠ y := fun e => hst (by rw [e])
  have hp := h.apart
  rw [List.pairwise_map] at hp
  obtain ⟨i, hi, rfl⟩ := List.getElem_of_mem hx
  obtain ⟨j, hj, rfl⟩ := List.getElem_of_mem hy
  rw [List.pairwise_iff_getElem] at hp
  rcases Nat.lt_trichotomy i j with h1 | h1 | h1
  · exact hp i j hi hj h1
  · subst h1; exact absurd rfl hne
  · rw [meetsS_comm]; exact hp j i hj hi h1

theorem GoodF.ext_ok {m : Files} {n : Nat} (h : GoodF m n) {s : ByteArray} {e : Nat × Nat} (hs : fget m s = some e) : 16 ≤ e.1 ∧ 1 ≤ e.2 ∧ e.1 + e.2 ≤ n := by
  obtain ⟨x, hx, rfl, rfl⟩ := fget_some hs
  exact (h.each x hx).2

theorem fget_append {m : Files} {s : ByteArray} {e : Nat × Nat} (h : fget m s = some e) (x : ByteArray × Nat × Nat) : fget (m ++ [x]) s = some e := by
  unfold fget at h ⊢
  rw [List.find?_append]
  cases hf : m.find? fun x => decide (s = x.1) with
  | none => rw [hf] at h; cases h
  | some y => rw [hf] at h; exact h

theorem fget_append_ne {m : Files} {s t : ByteArray} {e : Nat × Nat} (h : s ≠ t) : fget (m ++ [(t, e)]) s = fget m s := by
  unfold fget
  rw [List.find?_append]
  cases hf : m.find? fun x => decide (s = x.1) with
  | none => simp [h]
  | some y => rfl

theorem fget_append_new {m : Files} {t : ByteArray} {e : Nat × Nat} (h : fget m t = none) : fget (m ++ [(t, e)]) t = some e := by
  unfold fget at h ⊢
  simp only [Option.map_eq_none_iff] at h
  rw [List.find?_append, h]
  simp

theorem fget_del_ne {m : Files} {s t : ByteArray} (h : s ≠ t) : fget (fdel m t) s = fget m s := by
  unfold fdel fidx
  cases hi : m.findIdx? fun x => decide (t = x.1) with
  | none => rfl
  | some j =>
    obtain ⟨hj, h1, -⟩ := List.findIdx?_eq_some_iff_getElem.1 hi
    simp only [decide_eq_true_eq] at h1
    dsimp only
    clear hi
    unfold fget
    congr 1
    induction m generalizing j with
    | nil => simp at hj
    | cons x m ih =>
      cases j with
      | zero =>
        simp only [List.getElem_cons_zero] at h1
        rw [List.eraseIdx_cons_zero, List.find?_cons]
        rw [decide_eq_false (fun e : s = x.1 => h (e.trans h1.symm))]
      | succ j =>
        rw [List.eraseIdx_cons_succ, List.find?_cons, List.find?_cons]
        by_cases e : s = x.1
        · rw [decide_eq_true e]
        · rw [decide_eq_false e]
          exact ih j (by simpa using hj) (by simpa using h1)

theorem fget_sortF {m : Files} {s : ByteArray} {e : Nat × Nat} (h : fget m s = some e) : fget (sortF m) s = some e := by
  obtain ⟨x, hx, rfl, rfl⟩ := fget_some h
  have hmem : x.1.data.toList ∈ namesS m := (names_perm m).mem_iff.2 (List.mem_map_of_mem hx)
  have hext : fext m x.1.data.toList = x.2 := by
    unfold fext
    rw [mk_data, h]; rfl
  have : ∀ ns : List (List UInt8), x.1.data.toList ∈ ns → fget (ns.map fun s => ((⟨s.toArray⟩ : ByteArray), fext m s)) x.1 = some (fext m x.1.data.toList) := by
    intro ns
    induction ns with
    | nil => intro h; cases h
    | cons t r ih =>
      intro h
      unfold fget
      rw [List.map_cons, List.find?_cons]
      by_cases e : x.1 = ⟨t.toArray⟩
      · rw [decide_eq_true e]
        have ht : t = x.1.data.toList := by rw [e]
        rw [← ht]; rfl
      · rw [decide_eq_false e]
        rcases List.mem_cons.1 h with h | h
        · exact absurd (by rw [← h, mk_data]) e
        · exact ih h
  rw [← hext]
  exact this _ hmem

section
variable {n : Nat} {safe cur : List UInt8} {now saved : Files} {epoch which : Nat}

/-- A new file's room is apart from another file. -/
theorem make_apart (h : DOK n safe cur now saved epoch which) {s : ByteArray} {c : Int} {f e : Nat × Nat} (hm : MakeS now saved n s c (some f)) {t : ByteArray} (ht : fget now t = some e) : (32 * e.1 + 32 * e.2 ≤ 32 * f.1 ∨ 32 * f.1 + 32 * f.2 ≤ 32 * e.1) ∧ 32 * f.1 + (zerosB (32 * f.2)).length ≤ cur.length := by
  obtain ⟨-, -, -, h4, h5, h6⟩ := hm
  have h7 := (place_free (cn := f.2) h6 h4 h5).1
  obtain ⟨-, h8, -, -⟩ := h6
  obtain ⟨x, hx, rfl, rfl⟩ := fget_some ht
  have h9 := h7 x hx (h.gnow.each x hx).2.2.1
  have h10 := not_meets h9 (h.gnow.each x hx).2.2.1 h5
  dsimp only at h10
  refine ⟨by omega, ?_⟩
  have := h.lens.2
  simp only [zerosB, List.length_replicate]
  omega

/-- A write to one file is apart from another one. -/
theorem write_apart (h : DOK n safe cur now saved epoch which) {s t : ByteArray} {a : Int} {k q : Nat} {e : Nat × Nat} (hst : t ≠ s) (ht : fget now t = some e) (hw : wrS now s a k = some q) : (32 * e.1 + 32 * e.2 ≤ q ∨ q + k ≤ 32 * e.1) ∧ q + k ≤ cur.length := by
  have hin := wrS_in h.gnow.in_ hw
  have hl := h.lens.2
  refine ⟨?_, by omega⟩
  unfold wrS at hw
  cases hs : fget now s with
  | none => rw [hs] at hw; cases hw
  | some f =>
    rw [hs] at hw
    dsimp only at hw
    have h1 := not_meets (h.gnow.two ht hs hst) (h.gnow.ext_ok ht).2.1 (h.gnow.ext_ok hs).2.1
    split at hw
    · simp only [Option.some.injEq] at hw; omega
    · cases hw

theorem save_apart (h : DOK n safe cur now saved epoch which) (he : epoch ≤ 1000000000000) {p m : Nat} (hp : 512 ≤ p) : seg (saveS cur which epoch now) p m = seg cur p m := by
  have hf := listS_len (h.fits he)
  have hl := h.lens.2
  have hsz := h.sz
  have hwh := h.wh
  unfold saveS
  exact seg_far (by rw [hf]; omega) (by rw [hf]; omega)
end


/-- The files' names and bytes. -/
def haveS (now : Files) (cur : List UInt8) : List (ByteArray × List UInt8) := now.map fun x => (x.1, seg cur (32 * x.2.1) (32 * x.2.2))

theorem haveS_len (now : Files) (cur : List UInt8) : (haveS now cur).length = now.length := by unfold haveS; rw [List.length_map]

def hidx (L : List (ByteArray × List UInt8)) (s : ByteArray) : Option Nat := L.findIdx? fun x => decide (s = x.1)

theorem hidx_have (now : Files) (cur : List UInt8) (s : ByteArray) : hidx (haveS now cur) s = fidx now s := by
  unfold hidx fidx haveS
  rw [List.findIdx?_map]; rfl

theorem fidx_get {m : Files} {s : ByteArray} : (fidx m s).isSome = (fget m s).isSome := by
  unfold fidx fget
  rw [Option.isSome_map]
  induction m with
  | nil => rfl
  | cons x m ih =>
    rw [List.findIdx?_cons, List.find?_cons]
    by_cases h : s = x.1
    · simp [h]
    · simp only [h, decide_false, Bool.false_eq_true, if_false, Option.isSome_map]
      exact ih

theorem fidx_some {m : Files} {s : ByteArray} {j : Nat} (h : fidx m s = some j) : ∃ hj : j < m.length, m[j].1 = s ∧ fget m s = some m[j].2 := by
  unfold fidx at h
  obtain ⟨hj, h1, h2⟩ := List.findIdx?_eq_some_iff_getElem.1 h
  simp only [decide_eq_true_eq] at h1
  refine ⟨hj, h1.symm, ?_⟩
  unfold fget
  have : m.find? (fun x => decide (s = x.1)) = some m[j] := by
    rw [List.find?_eq_some_iff_getElem]
    refine ⟨by simp [h1], j, hj, rfl, fun k hk => ?_⟩
    have := h2 k hk
    simpa using this
  rw [this]; rfl

section
variable {n : Nat} {safe cur : List UInt8} {now saved : Files} {epoch which : Nat}

theorem have_seg (h : DOK n safe cur now saved epoch which) {x : ByteArray × Nat × Nat} (hx : x ∈ now) : (seg cur (32 * x.2.1) (32 * x.2.2)).length = 32 * x.2.2 := by
  have h1 := (h.gnow.each x hx).2.2.2
  have h2 := h.lens.2
  exact seg_len (by omega)

theorem have_make (h : DOK n safe cur now saved epoch which) {s : ByteArray} {c : Int} {f : Nat × Nat} (hm : MakeS now saved n s c (some f)) : haveS (makeNow now s (some f)) (makeCur cur (some f)) = haveS now cur ++ [(s, zerosB (32 * f.2))] := by
  show haveS (now ++ [(s, f)]) (splice cur (32 * f.1) (zerosB (32 * f.2))) = _
  have hin : 32 * f.1 + (zerosB (32 * f.2)).length ≤ cur.length := by
    obtain ⟨-, -, -, h4, h5, h6, h7, -, -⟩ := hm
    have := h.lens.2
    simp only [zerosB, List.length_replicate]
    omega
  unfold haveS
  rw [List.map_append]
  congr 1
  · refine List.map_congr_left fun x hx => ?_
    obtain ⟨h1, h2⟩ := make_apart h hm (h.gnow.mem_get hx)
    rw [seg_far h2 (by simp only [zerosB, List.length_replicate]; omega)]
  · simp only [List.map_cons, List.map_nil]
    have h3 := seg_here (c := cur) (x := zerosB (32 * f.2)) hin
    rw [show (zerosB (32 * f.2)).length = 32 * f.2 by simp [zerosB]] at h3
    rw [h3]

theorem make_few (h : DOK 100 safe cur now saved epoch which) {s : ByteArray} {c : Int} {f : Nat × Nat} (hm : MakeS now saved 100 s c (some f)) : c = (f.2 : Int) ∧ 1 ≤ f.2 ∧ f.2 ≤ 84 := by
  obtain ⟨-, -, -, h4, h5, h6, h7, -, -⟩ := hm
  exact ⟨h4, h5, by omega⟩

theorem have_remove {s : ByteArray} {j : Nat} (hj : fidx now s = some j) : haveS (fdel now s) cur = (haveS now cur).eraseIdx j := by
  unfold fdel
  rw [hj]
  unfold haveS
  exact (ChangeMaps.map_eraseIdx _ _ _)

theorem have_write (h : DOK n safe cur now saved epoch which) {s : ByteArray} {a : Int} {bs : List UInt8} {q : Nat} (hw : wrS now s a bs.length = some q) : ∃ j, ∃ hj : j < now.length, fidx now s = some j ∧ 0 ≤ a ∧ a.toNat + bs.length ≤ 32 * now[j].2.2 ∧
    haveS now (splice cur q bs) = (haveS now cur).set j (s, splice (seg cur (32 * now[j].2.1) (32 * now[j].2.2)) a.toNat bs) := by
  have hq := (wrS_in h.gnow.in_ hw).1
  have hl := h.lens.2
  have hw0 := hw
  unfold wrS at hw
  cases hs : fget now s with
  | none => rw [hs] at hw; cases hw
  | some e =>
    rw [hs] at hw
    dsimp only at hw
    have hi : (fidx now s).isSome = true := by rw [fidx_get, hs]; rfl
    obtain ⟨j, hj⟩ := Option.isSome_iff_exists.1 hi
    obtain ⟨hjl, hj1, hj2⟩ := fidx_some hj
    rw [hs] at hj2
    simp only [Option.some.injEq] at hj2
    subst hj2
    split at hw
    · rename_i hc
      simp only [Option.some.injEq] at hw
      refine ⟨j, hjl, hj, hc.1, by omega, ?_⟩
      apply List.ext_getElem?
      intro i
      rw [List.getElem?_set]
      unfold haveS
      simp only [List.getElem?_map, List.length_map]
      by_cases hij : j = i
      · subst hij
        rw [if_pos rfl, if_pos hjl, List.getElem?_eq_getElem hjl, Option.map_some, hj1]
        have h9 := (h.gnow.each now[j] (List.getElem_mem hjl)).2.2.2
        rw [seg_splice (by omega) (by omega) (by omega)]
        rw [show q - 32 * now[j].2.1 = a.toNat by omega]
      · rw [if_neg hij]
        by_cases hil : i < now.length
        · rw [List.getElem?_eq_getElem hil, Option.map_some, Option.map_some]
          have hne : now[i].1 ≠ s := fun e => by
            have h5 := (List.findIdx?_eq_some_iff_getElem.1 (show now.findIdx? (fun x => decide (s = x.1)) = some j from hj)).2.2
            have hnd := h.gnow.nodup
            rw [List.nodup_iff_pairwise_ne, List.pairwise_iff_getElem] at hnd
            rcases Nat.lt_or_ge i j with h6 | h6
            · exact absurd (h5 i h6) (by simp [e])
            · have h7 := hnd j i (by simpa using hjl) (by simpa using hil) (by omega)
              simp only [List.getElem_map] at h7
              exact h7 (hj1.trans e.symm)
          obtain ⟨h1, h2⟩ := write_apart h hne (h.gnow.mem_get (List.getElem_mem hil)) hw0
          rw [seg_far h2 (by omega)]
        · rw [List.getElem?_eq_none (by omega)]; rfl
    · cases hw

theorem have_save (h : DOK n safe cur now saved epoch which) (he : epoch ≤ 1000000000000) : haveS now (saveS cur which epoch now) = haveS now cur := by
  unfold haveS
  refine List.map_congr_left fun x hx => ?_
  rw [save_apart h he (by have := (h.gnow.each x hx).2.1; omega)]

/-- What a file has is read. -/
theorem have_read (h : DOK n safe cur now saved epoch which) {j : Nat} (hj : j < now.length) : wrS now now[j].1 0 (32 * now[j].2.2 : Nat) = some (32 * now[j].2.1) ∧ fget now now[j].1 = some now[j].2 := by
  have h1 := h.gnow.mem_get (List.getElem_mem hj)
  refine ⟨?_, h1⟩
  unfold wrS
  rw [h1]
  dsimp only
  rw [if_pos (by omega)]
  simp
end

attribute [local go_sem ↓] Go.wp_at_zero Go.wp_at_succ

def fileC (x : ByteArray × List UInt8) (g : Nat) : List Value := [.string x.1, .slice (some ⟨g, 0, none⟩) x.2.length x.2.length]

structure HaveAt (w0 w : World) (K : Nat → Prop) (v : Value) (L : List (ByteArray × List UInt8)) (gs : List Nat) : Prop where
  len : gs.length = L.length
  row : OwnR w w0.heap.size 47 2 v (List.zipWith fileC L gs)
  blk : ∀ j (h1 : j < L.length) (h2 : j < gs.length), w.heap[gs[j]]? = some (.cells (L[j].2.map u8).toArray 5 (0, 0))
  nodup : gs.Nodup
  inK : ∀ g ∈ gs, K g ∧ w0.heap.size ≤ g
  vK : ∀ g, v.ownBlock = some g → K g

theorem HaveAt.rows {w0 w : World} {K : Nat → Prop} {v : Value} {L : List (ByteArray × List UInt8)} {gs : List Nat} (h : HaveAt w0 w K v L gs) : (List.zipWith fileC L gs).length = L.length := by
  rw [List.length_zipWith, h.len, Nat.min_self]

theorem HaveAt.kept {w0 w w' : World} {K : Nat → Prop} {v : Value} {L : List (ByteArray × List UInt8)} {gs : List Nat} (h : HaveAt w0 w K v L gs) (hk : Kept K w w') : HaveAt w0 w' K v L gs :=
  ⟨h.len, ⟨ownsRow_other h.row.row (fun g hg => hk.block g (h.vK g hg)), h.row.len⟩, fun j h1 h2 => (hk.block _ (h.inK _ (List.getElem_mem h2)).1).trans (h.blk j h1 h2), h.nodup, h.inK, h.vK⟩

theorem HaveAt.cells {w0 w : World} {K : Nat → Prop} {v : Value} {L : List (ByteArray × List UInt8)} {gs : List Nat} (h : HaveAt w0 w K v L gs) : ∃ q cap, v = .slice q L.length cap ∧ L.length ≤ cap ∧ ∀ j (hj : j < L.length) (hj2 : j < gs.length), ∃ g, q = some ⟨g, 0, none⟩ ∧ v.ownBlock = some g ∧
    w.cell? ⟨g, j * 2, none⟩ = some (.string L[j].1) ∧ w.cell? ⟨g, j * 2 + 1, none⟩ = some (.slice (some ⟨gs[j], 0, none⟩) L[j].2.length L[j].2.length) := by
  obtain ⟨q, cap, hv, hcap, hg⟩ := h.row.form
  rw [h.rows] at hv hcap hg
  refine ⟨q, cap, hv, hcap, fun j hj hj2 => ?_⟩
  obtain ⟨g, rfl, -, -⟩ := hg (by omega)
  have hr := h.row
  rw [hv] at hr
  have hjr : j < (List.zipWith fileC L gs).length := by rw [h.rows]; exact hj
  have e : (List.zipWith fileC L gs)[j] = fileC L[j] gs[j] := by rw [List.getElem_zipWith]
  have h0 := hr.cell j 0 hjr (by rw [e]; simp [fileC])
  have h1 := hr.cell j 1 hjr (by rw [e]; simp [fileC])
  simp only [e] at h0 h1
  exact ⟨g, rfl, by rw [hv]; rfl, by simpa [fileC] using h0, by simpa [fileC] using h1⟩

theorem HaveAt.nil (w0 w : World) (K : Nat → Prop) (hb : w0.heap.size ≤ w.heap.size) : HaveAt w0 (w.alloc (.cells #[] 47)) (fun k => K k ∨ k = w.heap.size) (.slice (some ⟨w.heap.size, 0, none⟩) 0 0) [] [] :=
  ⟨rfl, OwnR.made w _ _ _ hb, fun j h1 => by simp at h1, by simp, fun g hg => by simp at hg, fun g hg => by
    simp only [Value.ownBlock, Option.some.injEq] at hg
    exact .inr hg.symm⟩

/-- The directory with memory of the law's own changed, and more of it. -/
theorem DirL.grow {w0 w w' : World} {K K' : Nat → Prop} {X D n : Nat} {safe cur : List UInt8} {now saved : Files} {epoch which : Nat} (h : DirL w0 w K X D n safe cur now saved epoch which)
    (hw : ∀ k, k < w.heap.size → ¬ K k → w'.heap[k]? = w.heap[k]?) (hb : Below w0.heap.size w0 w') (h1 : ∀ k, K k → K' k) (h2 : ∀ k, k < w.heap.size → K' k → K k) (h3 : ∀ k, K' k → k < w'.heap.size) : DirL w0 w' K' X D n safe cur now saved epoch which := by
  obtain ⟨bn, bs, hX⟩ := h.at_.more h2
  have hf := hX.free
  have hn : ∀ k, k < w.heap.size → ¬ K' k → w'.heap[k]? = w.heap[k]? := fun k hk hnk => hw k hk fun hK => hnk (h1 k hK)
  refine ⟨⟨bn, bs, (hn X (heap_lt hX.blk) hf.1).trans hX.blk, ⟨hX.now.map.block (hn bn hX.now.map.lt hf.2.1), hX.now.small, hX.now.few⟩, ⟨hX.saved.map.block (hn bs hX.saved.map.lt hf.2.2), hX.saved.small, hX.saved.few⟩, hX.disk.only fun k hk hnk => hn k hk fun hK => hnk (.inl hK), hf, hX.ne⟩, h.ok, fun k hk => h1 k (h.base k hk), h3, hb⟩

def findV (L : List (ByteArray × List UInt8)) (s : ByteArray) : Int := match hidx L s with
  | some j => (j : Int)
  | none => -1

theorem beq_bytes (a b : ByteArray) : (a.toList == b.toList) = decide (a = b) := by
  rw [ByteArray.toList_eq, ByteArray.toList_eq]
  refine Bool.eq_iff_iff.2 ?_
  rw [beq_iff_eq, decide_eq_true_eq]
  exact ⟨fun h => by
    rcases a with ⟨a⟩
    rcases b with ⟨b⟩
    have : a = b := by simpa using h
    rw [this], fun h => by rw [h]⟩

theorem hidx_none {L : List (ByteArray × List UInt8)} {s : ByteArray} (h : ∀ t, (ht : t < L.length) → L[t].1 ≠ s) : hidx L s = none := by
  unfold hidx
  rw [List.findIdx?_eq_none_iff]
  intro x hx
  obtain ⟨t, ht, rfl⟩ := List.getElem_of_mem hx
  exact decide_eq_false fun e => h t ht e.symm

theorem hidx_at {L : List (ByteArray × List UInt8)} {s : ByteArray} {k : Nat} (hk : k < L.length) (h : ∀ t, (ht : t < L.length) → t < k → L[t].1 ≠ s) (he : L[k].1 = s) : hidx L s = some k := by
  unfold hidx
  rw [List.findIdx?_eq_some_iff_getElem]
  refine ⟨hk, by simp [he], fun j hj => ?_⟩
  have := h j (by omega) hj
  simp only [Bool.not_eq_true, decide_eq_false_iff_not]
  exact fun e => this e.symm

set_option maxRecDepth 100000 in
set_option maxHeartbeats 1000000 in
theorem find_any (w0 w : World) (K : Nat → Prop) (v : Value) (L : List (ByteArray × List UInt8)) (gs : List Nat) (s : ByteArray) (h : HaveAt w0 w K v L gs) (hl : L.length ≤ 100) : Calls Tryd.prog 21 #[v, .string s] w (Gives w (.int .i64 (findV L s))) := by
  obtain ⟨q, cap, rfl, hcap, hc⟩ := h.cells
  have hgl := h.len
  have Hc := Lib.hid hc
  have Hf : Hid (∀ z : Int, z = findV L s → z = findV L s) := Lib.hid fun _ h => h
  obtain ⟨fv, hfv⟩ : ∃ fv, fv = findV L s := ⟨_, rfl⟩
  rw [← hfv]
  have Hfv := Lib.hid hfv
  clear hc h hfv
  go_enter Tryd.func21, Tryd.ntmps21
  go_wp2_with fail
  go_loopw [9, 5, 6] (fun i _ _ wr => ∃ k : Nat, k ≤ L.length ∧ i = .int .i64 k ∧ Below w.heap.size w wr ∧ Hid (∀ t, (ht : t < L.length) → t < k → L[t].1 ≠ s)) (fun i _ _ _ => L.length - (intOf i).toNat)
  case atStart => exact ⟨0, Nat.zero_le _, rfl, Below.refl _ _, Lib.hid fun t _ h => by omega⟩
  case round =>
    obtain ⟨k, hk, rfl, hb, hpast⟩ := hrel
    by_cases hlt : k < L.length
    · obtain ⟨g, rfl, -, d0, d1⟩ := Hc.out k hlt (by omega)
      replace d0 := bcell hb d0
      replace d1 := bcell hb d1
      have n0 : (0 : Int) ≤ (k : Int) := by omega
      have n1 : (k : Int) < (L.length : Int) := by omega
      have hat := fun (he : L[k].1 = s) => hidx_at hlt hpast.out he
      have hnx := fun (he : ¬ L[k].1 = s) => (fun t (ht : t < L.length) (htk : t < k + 1) => by
        by_cases e : t = k
        · subst e; exact he
        · exact hpast.out t ht (by omega) : ∀ t, (ht : t < L.length) → t < k + 1 → L[t].1 ≠ s)
      have Hat := Lib.hid hat
      have Hnx := Lib.hid hnx
      have hbq := beq_bytes L[k].1 s
      generalize L[k].2.length = ln at *
      clear hat hnx
      generalize L[k].1 = nm at *
      by_cases he : nm = s
      · have hbt : (nm.toList == s.toList) = true := by rw [hbq, decide_eq_true he]
        have Hres : Hid (fv = (k : Int)) := Lib.hid (by rw [Hfv.out]; unfold findV; rw [Hat.out he])
        clear hbq he
        go_wp2_with fail
        go_ret
        exact ⟨by rw [Hres.out]; rfl, below_trans hb (below_new _ _)⟩
      · have hbt : (nm.toList == s.toList) = false := by rw [hbq, decide_eq_false he]
        have Hn := Lib.hid (Hnx.out he)
        clear hbq he
        go_wp2_with fail
        go_roundw
        case rel => exact ⟨k + 1, hlt, by go_num, below_trans hb (below_new _ _), Hn⟩
        case measure => simp [intOf]; omega
    · have hke : k = L.length := by omega
      subst hke
      have Hres : Hid (fv = -1) := Lib.hid (by rw [Hfv.out]; unfold findV; rw [hidx_none fun t ht => hpast.out t ht ht])
      go_wp2_with fail
      go_ret
      exact ⟨by rw [Hres.out]; rfl, hb⟩

theorem fileElt : Elt Tryd.prog 47 2 40 := by
  have h : (Tryd.prog.info? 47).map (fun i => (i.zero, i.size, i.bytes)) = some (some (.agg #[.string ⟨#[]⟩, .slice none 0 0]), 2, 40) := by kernel_rfl
  cases hi : Tryd.prog.info? 47 with
  | none => rw [hi] at h; cases h
  | some i =>
    rw [hi] at h
    simp only [Option.map_some, Option.some.injEq, Prod.mk.injEq] at h
    exact ⟨⟨i, _, hi, h.1, h.2.1, h.2.2, rfl⟩, by decide⟩

theorem src_file (w1 : World) (s : ByteArray) (g n : Nat) : Src Tryd.prog 2 44 (.slice (some ⟨w1.heap.size, 0, none⟩) 1 1) 1 [.string s, .slice (some ⟨g, 0, none⟩) n n] (w1.alloc (.cells #[.string s, .slice (some ⟨g, 0, none⟩) n n] 47)) :=
  Src.ofSlice _ Tryd.underlying44 _ _ _ _ rfl (fun j u hj => by
    match j with
    | 0 => simp at hj; subst hj; simp [Addr.add]
    | 1 => simp at hj; subst hj; simp [Addr.add]
    | (k + 2) => simp at hj) (by simp [Value.oneCell'])

/-- A file more. -/
theorem HaveAt.more {w0 w w10 : World} {K : Nat → Prop} {v v' : Value} {L : List (ByteArray × List UInt8)} {gs : List Nat} (h : HaveAt w0 w K v L gs) {s : ByteArray} {bs : List UInt8} {gb : Nat} (hgb : w.heap.size ≤ gb) (hK : ∀ k, K k → k < w.heap.size) (hw0 : w0.heap.size ≤ w.heap.size)
    (hblk : w10.heap[gb]? = some (.cells (bs.map u8).toArray 5 (0, 0)))
    (hrow : w10.ownsRow w0.heap.size 47 2 v' (L.length + 1) ((List.zipWith fileC L gs).flatten ++ fileC (s, bs) gb))
    (hold : ∀ k ∈ gs, w10.heap[k]? = w.heap[k]?) : HaveAt w0 w10 (fun k => K k ∨ k = gb ∨ v'.ownBlock = some k) v' (L ++ [(s, bs)]) (gs ++ [gb]) := by
  have hz : List.zipWith fileC (L ++ [(s, bs)]) (gs ++ [gb]) = List.zipWith fileC L gs ++ [fileC (s, bs) gb] := by
    rw [List.zipWith_append h.len.symm]; rfl
  refine ⟨by rw [List.length_append, List.length_append, h.len]; rfl, ⟨?_, ?_⟩, fun j h1 h2 => ?_, ?_, fun g hg => ?_, fun g hg => .inr (.inr hg)⟩
  · rw [hz]
    have e1 : (List.zipWith fileC L gs ++ [fileC (s, bs) gb]).length = L.length + 1 := by rw [List.length_append, h.rows]; rfl
    have e2 : (List.zipWith fileC L gs ++ [fileC (s, bs) gb]).flatten = (List.zipWith fileC L gs).flatten ++ fileC (s, bs) gb := by simp
    rw [e1, e2]
    exact hrow
  · rw [hz]
    intro c hc
    rcases List.mem_append.1 hc with hc | hc
    · exact h.row.len c hc
    · simp only [List.mem_cons, List.not_mem_nil, or_false] at hc
      subst hc; rfl
  · by_cases hj : j < L.length
    · rw [List.getElem_append_left (by rw [h.len]; exact hj), List.getElem_append_left hj]
      exact (hold _ (List.getElem_mem _)).trans (h.blk j hj (by rw [h.len]; exact hj))
    · have hjl : j = L.length := by rw [List.length_append] at h1; simp only [List.length_cons, List.length_nil] at h1; omega
      subst hjl
      rw [List.getElem_append_right (by rw [h.len]; exact Nat.le_refl _), List.getElem_append_right (Nat.le_refl _)]
      simp only [List.getElem_singleton]
      exact hblk
  · rw [List.nodup_append]
    refine ⟨h.nodup, by simp, fun a ha b hb => ?_⟩
    simp only [List.mem_cons, List.not_mem_nil, or_false] at hb
    subst hb
    have := hK a (h.inK a ha).1
    omega
  · rcases List.mem_append.1 hg with hg | hg
    · exact ⟨.inl (h.inK g hg).1, (h.inK g hg).2⟩
    · simp only [List.mem_cons, List.not_mem_nil, or_false] at hg
      subst hg
      exact ⟨.inr (.inl rfl), by omega⟩

theorem flat_take : ∀ (css : List (List Value)) (j : Nat), (∀ c ∈ css, c.length = 2) → (css.take j).flatten = css.flatten.take (j * 2)
  | [], j, _ => by simp
  | c :: css, 0, _ => by simp
  | c :: css, j + 1, h => by
    have h2 := h c (by simp)
    rw [List.take_succ_cons, List.flatten_cons, List.flatten_cons, flat_take css j fun d hd => h d (by simp [hd]), List.take_append, h2, List.take_of_length_le (show c.length ≤ (j + 1) * 2 by omega), show (j + 1) * 2 - 2 = j * 2 by omega]

theorem flat_drop : ∀ (css : List (List Value)) (j : Nat), (∀ c ∈ css, c.length = 2) → (css.drop j).flatten = css.flatten.drop (j * 2)
  | [], j, _ => by simp
  | c :: css, 0, _ => by simp
  | c :: css, j + 1, h => by
    have h2 := h c (by simp)
    rw [List.drop_succ_cons, List.flatten_cons, flat_drop css j fun d hd => h d (by simp [hd]), List.drop_append, h2, List.drop_of_length_le (show c.length ≤ (j + 1) * 2 by omega), List.nil_append, show (j + 1) * 2 - 2 = j * 2 by omega]

theorem file_one {L : List (ByteArray × List UInt8)} {gs : List Nat} : ∀ u ∈ (List.zipWith fileC L gs).flatten, u.oneCell' = true := by
  intro u hu
  obtain ⟨c, hc, hu⟩ := List.mem_flatten.1 hu
  obtain ⟨i, hi, rfl⟩ := List.getElem_of_mem hc
  rw [List.getElem_zipWith] at hu
  simp only [fileC, List.mem_cons, List.not_mem_nil, or_false] at hu
  rcases hu with rfl | rfl <;> rfl

/-- Its first ones, and those behind. -/
theorem HaveAt.part {w0 w : World} {K : Nat → Prop} {g n cap : Nat} {L : List (ByteArray × List UInt8)} {gs : List Nat} (h : HaveAt w0 w K (.slice (some ⟨g, 0, none⟩) n cap) L gs) {i m c : Nat} (hi : i + m ≤ L.length) :
    Src Tryd.prog 2 44 (.slice (some ⟨g, i * 2, none⟩) m c) m (((List.zipWith fileC L gs).drop i).take m).flatten w := by
  have hl := h.rows
  have e : (((List.zipWith fileC L gs).drop i).take m).flatten = ((List.zipWith fileC L gs).flatten.drop (i * 2)).take (m * 2) := by
    rw [flat_take _ _ fun d hd => h.row.len d (List.mem_of_mem_drop hd), flat_drop _ _ h.row.len]
  rw [e]
  have hfl : (List.zipWith fileC L gs).flatten.length = L.length * 2 := by rw [flatten_len 2 _ h.row.len, hl]
  refine Src.ofSlice _ Tryd.underlying44 _ _ _ _ (by rw [List.length_take, List.length_drop, hfl]; omega) (fun t u hu => ?_) (fun u hu => file_one u (List.mem_of_mem_drop (List.mem_of_mem_take hu)))
  rw [List.getElem?_take] at hu
  split at hu
  · rw [List.getElem?_drop] at hu
    have := h.row.row.cells (g := g) rfl (i * 2 + t) u hu
    rw [Addr.add_lit, Nat.zero_add] at this
    rw [Addr.add_lit]
    exact this
  · cases hu

/-- A file less. -/
theorem HaveAt.less {w0 w w10 : World} {K : Nat → Prop} {v v' : Value} {L : List (ByteArray × List UInt8)} {gs : List Nat} (h : HaveAt w0 w K v L gs) {i : Nat} (hi : i < L.length)
    (hrow : w10.ownsRow w0.heap.size 47 2 v' (i + (L.length - (i + 1))) (((List.zipWith fileC L gs).take i).flatten ++ ((List.zipWith fileC L gs).drop (i + 1)).flatten))
    (hold : ∀ k ∈ gs, w10.heap[k]? = w.heap[k]?) : HaveAt w0 w10 (fun k => K k ∨ v'.ownBlock = some k) v' (L.eraseIdx i) (gs.eraseIdx i) := by
  have hig : i < gs.length := by rw [h.len]; exact hi
  have hle : (L.eraseIdx i).length = i + (L.length - (i + 1)) := by rw [List.length_eraseIdx_of_lt hi]; omega
  have hge : (gs.eraseIdx i).length = i + (L.length - (i + 1)) := by rw [List.length_eraseIdx_of_lt hig, h.len]; omega
  have hz : List.zipWith fileC (L.eraseIdx i) (gs.eraseIdx i) = (List.zipWith fileC L gs).eraseIdx i := by
    apply List.ext_getElem?
    intro j
    rw [List.getElem?_zipWith, List.getElem?_eraseIdx, List.getElem?_eraseIdx, List.getElem?_eraseIdx, List.getElem?_zipWith, List.getElem?_zipWith]
    by_cases hj : j < i
    · simp only [if_pos hj]
    · simp only [if_neg hj]
  refine ⟨by rw [hle, hge], ⟨?_, ?_⟩, fun j h1 h2 => ?_, h.nodup.sublist (List.eraseIdx_sublist _ _), fun g hg => ?_, fun g hg => .inr hg⟩
  · rw [hz]
    have e1 : ((List.zipWith fileC L gs).eraseIdx i).length = i + (L.length - (i + 1)) := by rw [List.length_eraseIdx_of_lt (by rw [h.rows]; exact hi), h.rows]; omega
    have e2 : ((List.zipWith fileC L gs).eraseIdx i).flatten = ((List.zipWith fileC L gs).take i).flatten ++ ((List.zipWith fileC L gs).drop (i + 1)).flatten := by
      rw [List.eraseIdx_eq_take_drop_succ, List.flatten_append]
    rw [e1, e2]
    exact hrow
  · rw [hz]
    intro c hc
    exact h.row.len c (List.mem_of_mem_eraseIdx hc)
  · by_cases hj : j < i
    · rw [List.getElem_eraseIdx_of_lt h2 hj, List.getElem_eraseIdx_of_lt h1 hj]
      exact (hold _ (List.getElem_mem _)).trans (h.blk j (by omega) (by omega))
    · have hgl := h.len
      have h1' : j + 1 < L.length := by rw [hle] at h1; omega
      have h2' : j + 1 < gs.length := by omega
      rw [List.getElem_eraseIdx_of_ge h2 (by omega), List.getElem_eraseIdx_of_ge h1 (by omega)]
      exact (hold _ (List.getElem_mem _)).trans (h.blk (j + 1) h1' h2')
  · have := h.inK g (List.mem_of_mem_eraseIdx hg)
    exact ⟨.inl this.1, this.2⟩

/-- One file's bytes are other ones. -/
theorem HaveAt.set {w0 w w' : World} {K : Nat → Prop} {v : Value} {L : List (ByteArray × List UInt8)} {gs : List Nat} (h : HaveAt w0 w K v L gs) {i : Nat} (hi : i < L.length) (hig : i < gs.length) {s : ByteArray} (hs : s = L[i].1) {bs : List UInt8} (hbs : bs.length = L[i].2.length)
    (hblk : w'.heap[gs[i]]? = some (.cells (bs.map u8).toArray 5 (0, 0))) (hold : ∀ k, k ≠ gs[i] → w'.heap[k]? = w.heap[k]?) : HaveAt w0 w' K v (L.set i (s, bs)) gs := by
  have hz : List.zipWith fileC (L.set i (s, bs)) gs = List.zipWith fileC L gs := by
    apply List.ext_getElem?
    intro j
    rw [List.getElem?_zipWith, List.getElem?_zipWith, List.getElem?_set]
    by_cases hij : i = j
    · subst hij
      rw [if_pos rfl, if_pos hi, List.getElem?_eq_getElem hi, List.getElem?_eq_getElem hig]
      simp only [fileC, hs, hbs]
    · rw [if_neg hij]
  have hne : ∀ g, v.ownBlock = some g → g ≠ gs[i] := fun g hg e => by
    have h1 := h.blk i hi hig
    rcases h.row.row.2 with ⟨rfl, -⟩ | ⟨g', cap', cur, rfl, -, h2, -⟩
    · cases hg
    · cases hg
      have e2 : w.heap[g']? = w.heap[gs[i]]? := congrArg (fun k : Nat => w.heap[k]?) e
      have h3 := h2.symm.trans (e2.trans h1)
      simp only [Option.some.injEq, Obj.cells.injEq] at h3
      exact absurd h3.2.1 (by decide)
  refine ⟨by rw [List.length_set]; exact h.len, by rw [hz]; exact ⟨ownsRow_other h.row.row (fun g hg => hold g (hne g hg)), h.row.len⟩, fun j h1 h2 => ?_, h.nodup, h.inK, h.vK⟩
  rw [List.length_set] at h1
  by_cases hij : i = j
  · subst hij
    simp only [List.getElem_set_self]
    exact hblk
  · rw [List.getElem_set_ne hij]
    have hnd := h.nodup
    rw [List.nodup_iff_pairwise_ne, List.pairwise_iff_getElem] at hnd
    have hg : gs[j] ≠ gs[i] := by
      rcases Nat.lt_or_ge i j with h3 | h3
      · exact fun e => hnd i j hig h2 h3 e.symm
      · exact hnd j i h2 hig (by omega)
    exact (hold _ hg).trans (h.blk j h1 h2)

end Go.Proofs.YtnpnchociegmpaaDoor
