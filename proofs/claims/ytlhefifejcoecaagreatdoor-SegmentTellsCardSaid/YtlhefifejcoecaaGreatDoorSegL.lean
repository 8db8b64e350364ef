/- The log, plain: what its files hold; a byte string more, a segment more, the first ones gone. -/
import Derived.Test.YtlhefifejcoecaaGreatDoorJSegC
import Derived.Test.YtlhefifejcoecaaGreatDoorJDirKp
namespace Go.Proofs.YtlhefifejcoecaaGreatDoor
open Go.RowKit Go.Proofs Go.Shelf

theorem nodup_inj {α : Type} {l : List α} (h : l.Nodup) (i j : Nat) (hi : i < l.length) (hj : j < l.length) (e : l[i] = l[j]) : i = j := by
  have hp := List.pairwise_iff_getElem.1 h
  rcases Nat.lt_trichotomy i j with h1 | h1 | h1
  · exact absurd e (hp i j hi hj h1)
  · exact h1
  · exact absurd e.symm (hp j i hj hi h1)

def fileS (sz : Nat) (s : Seg) : List UInt8 := bytesS s ++ zerosB (32 * sz - (bytesS s).length)
def fileP (sz : Nat) (s : Seg) : ByteArray × List UInt8 := (nameS s.n, fileS sz s)

structure LogOK (sz : Nat) (segs : List Seg) (now : Files) (cur : List UInt8) : Prop where
  have_ : haveS now cur = segs.map (fileP sz)
  size : ∀ x ∈ now, x.2.2 = sz
  fit : ∀ s ∈ segs, (bytesS s).length ≤ 32 * sz
  chain : ∀ j (h : j + 1 < segs.length), segs[j + 1].n = segs[j].n + 1 ∧ segs[j + 1].first = lastN segs[j]
  ok : ∀ s ∈ segs, s.Ok

theorem LogOK.len {sz : Nat} {segs : List Seg} {now : Files} {cur : List UInt8} (h : LogOK sz segs now cur) : now.length = segs.length := by
  have := congrArg List.length h.have_
  rwa [haveS_len, List.length_map] at this

theorem LogOK.nil (sz : Nat) (cur : List UInt8) : LogOK sz [] [] cur := ⟨rfl, fun x h => by simp at h, fun x h => by simp at h, fun j h => by simp at h, fun x h => by simp at h⟩

theorem LogOK.at {sz : Nat} {segs : List Seg} {now : Files} {cur : List UInt8} (h : LogOK sz segs now cur) {j : Nat} (h1 : j < segs.length) (h2 : j < now.length) : now[j].1 = nameS segs[j].n ∧ seg cur (32 * now[j].2.1) (32 * now[j].2.2) = fileS sz segs[j] ∧ now[j].2.2 = sz := by
  have e : (haveS now cur)[j]'(by rw [haveS_len]; exact h2) = (segs.map (fileP sz))[j]'(by simpa using h1) := by
    simp only [h.have_]
  unfold haveS at e
  simp only [List.getElem_map, fileP, Prod.mk.injEq] at e
  exact ⟨e.1, e.2, h.size _ (List.getElem_mem h2)⟩

section
variable {n sz : Nat} {safe cur : List UInt8} {now saved : Files} {epoch which : Nat} {segs : List Seg}

theorem LogOK.get (h : LogOK sz segs now cur) (hd : DOK n safe cur now saved epoch which) {j : Nat} (h1 : j < segs.length) : ∃ e, fget now (nameS segs[j].n) = some e ∧ e.2 = sz ∧ 32 * e.1 + 32 * e.2 ≤ cur.length ∧ seg cur (32 * e.1) (32 * e.2) = fileS sz segs[j] := by
  have h2 : j < now.length := by rw [h.len]; exact h1
  obtain ⟨a, b, c⟩ := h.at h1 h2
  have hm := List.getElem_mem h2
  have hg := hd.gnow.mem_get hm
  rw [a] at hg
  have := (hd.gnow.each _ hm).2.2.2
  have := hd.lens.2
  exact ⟨now[j].2, hg, c, by omega, b⟩

theorem fileS_len {s : Seg} (h : (bytesS s).length ≤ 32 * sz) : (fileS sz s).length = 32 * sz := by
  unfold fileS zerosB
  rw [List.length_append, List.length_replicate]; omega

theorem chain_n (h : LogOK sz segs now cur) : ∀ (i j : Nat) (hj : i + j < segs.length), (segs[i + j]).n = (segs[i]'(by omega)).n + j := by
  intro i j
  induction j with
  | zero => intro _; rfl
  | succ j ih =>
    intro hj
    have h1 := (h.chain (i + j) (by omega)).1
    have h2 := ih (by omega)
    have e : segs[i + (j + 1)] = segs[i + j + 1]'(by omega) := rfl
    rw [e, h1, h2]; omega

theorem splice_mid {A Z x : List UInt8} (h : x.length ≤ Z.length) : splice (A ++ Z) A.length x = A ++ x ++ Z.drop x.length := by
  unfold splice
  rw [List.take_left, List.drop_append, List.drop_of_length_le (by omega), List.nil_append]
  congr 2
  omega

theorem zerosB_drop (a b : Nat) : (zerosB a).drop b = zerosB (a - b) := by simp [zerosB]

theorem bytesS_snoc (s : Seg) (b : List UInt8) : bytesS { s with l := s.l ++ [b] } = bytesS s ++ padS b := by
  unfold bytesS
  simp

/-- A byte string more, in the last segment. -/
theorem LogOK.more {init : List Seg} {s : Seg} {b : List UInt8} (h : LogOK sz (init ++ [s]) now cur) (hd : DOK n safe cur now saved epoch which) (hfit : (bytesS s).length + (padS b).length ≤ 32 * sz) (hsz : sz ≤ 512) (hb : b.length ≤ 8192) (hl : s.l.length < 1000000) :
    ∃ q, wrS now (nameS s.n) ((bytesS s).length : Nat) (padS b).length = some q ∧ LogOK sz (init ++ [{ s with l := s.l ++ [b] }]) now (splice cur q (padS b)) := by
  have hj : init.length < (init ++ [s]).length := by simp
  have hlast : (init ++ [s])[init.length] = s := by simp
  obtain ⟨e, he, hes, -, -⟩ := h.get hd hj
  rw [hlast] at he
  have hw : wrS now (nameS s.n) ((bytesS s).length : Nat) (padS b).length = some (32 * e.1 + (bytesS s).length) := by
    unfold wrS
    rw [he]
    dsimp only
    rw [if_pos (by omega)]
    simp
  refine ⟨_, hw, ?_⟩
  obtain ⟨j, hj2, hfx, -, -, hset⟩ := have_write hd (bs := padS b) hw
  have hnow := h.len
  have hlen : (init ++ [s]).length = init.length + 1 := by simp
  obtain ⟨j', hn1, -⟩ := fidx_some hfx
  have hji : j = init.length := by
    have h1 := (h.at hj (by omega)).1
    rw [hlast] at h1
    have hnd := hd.gnow.nodup
    have hin : init.length < now.length := by omega
    have e1 : (now.map (·.1))[j]'(by simpa using hj2) = (now.map (·.1))[init.length]'(by simpa using hin) := by
      simp only [List.getElem_map]
      rw [hn1, h1]
    exact nodup_inj hnd _ _ _ _ e1
  subst hji
  have hcont := (h.at hj hj2).2.1
  rw [hlast] at hcont
  have hb0 : (bytesS s).length ≤ 32 * sz := by omega
  have hfile : splice (fileS sz s) (((bytesS s).length : Nat) : Int).toNat (padS b) = fileS sz { s with l := s.l ++ [b] } := by
    rw [Int.toNat_natCast]
    unfold fileS
    rw [splice_mid (by simp [zerosB]; omega), zerosB_drop, bytesS_snoc, List.length_append]
    congr 2
    omega
  refine ⟨?_, h.size, ?_, ?_, ?_⟩
  · rw [hset, hcont, hfile, h.have_, List.map_append, List.map_append]
    rw [List.set_append_right _ _ (by simp)]
    simp [fileP]
  · intro s' hs'
    rcases List.mem_append.1 hs' with h1 | h1
    · exact h.fit s' (by simp [h1])
    · simp only [List.mem_cons, List.not_mem_nil, or_false] at h1
      subst h1
      rw [bytesS_snoc, List.length_append]; exact hfit
  · intro j hj3
    have hj4 : j + 1 < (init ++ [s]).length := by simpa using hj3
    have hc := h.chain j hj4
    have hji : j < init.length := by simp at hj3; omega
    rw [List.getElem_append_left hji] at hc ⊢
    by_cases h5 : j + 1 < init.length
    · rw [List.getElem_append_left h5] at hc ⊢
      exact hc
    · have h6 : j + 1 = init.length := by omega
      rw [List.getElem_append_right (by omega)] at hc ⊢
      simp only [h6, Nat.sub_self, List.getElem_cons_zero] at hc ⊢
      exact hc
  · intro s' hs'
    rcases List.mem_append.1 hs' with h1 | h1
    · exact h.ok s' (by simp [h1])
    · simp only [List.mem_cons, List.not_mem_nil, or_false] at h1
      subst h1
      have ho := h.ok s (by simp)
      refine ⟨ho.first, ho.n, by simp; omega, ?_, ?_⟩
      · rw [bytesS_snoc, List.length_append]; omega
      · intro b' hb'
        rcases List.mem_append.1 hb' with h2 | h2
        · exact ho.each b' h2
        · simp only [List.mem_cons, List.not_mem_nil, or_false] at h2
          subst h2; exact hb

theorem good_name (u : Nat) : goodNameS (nameS u) = true := by
  have hd : ∀ j, goodChar (Lib.dg u j) = true := fun j => by
    have h1 := dg_toNat u j
    have h2 := Nat.mod_lt (u / 10 ^ j) (show 0 < 10 by decide)
    unfold goodChar
    simp
    omega
  unfold goodNameS
  have h1 : (nameS u).toList = nameL u := by rw [ByteArray.toList_eq]; exact nameS_list u
  rw [h1, nameS_size]
  unfold nameL dig6
  simp [hd]
  decide

/-- The number that the next segment has. -/
def nextN (segs : List Seg) : Nat := match segs.getLast? with | none => 0 | some s => s.n + 1

theorem LogOK.fresh (h : LogOK sz segs now cur) (hb : nextN segs ≤ 999999) : fget now (nameS (nextN segs)) = none := by
  cases hf : fget now (nameS (nextN segs)) with
  | none => rfl
  | some e =>
    exfalso
    obtain ⟨x, hx, hx1, -⟩ := fget_some hf
    obtain ⟨j, hj, rfl⟩ := List.getElem_of_mem hx
    have hj2 : j < segs.length := by rw [← h.len]; exact hj
    have h1 := (h.at hj2 hj).1
    rw [hx1] at h1
    obtain ⟨m, hm⟩ : ∃ m, segs.length = m + 1 := ⟨segs.length - 1, by omega⟩
    have hlast : segs.getLast? = some (segs[m]'(by omega)) := by
      rw [List.getLast?_eq_getElem?, show segs.length - 1 = m by omega, List.getElem?_eq_getElem]
    have hnx : nextN segs = (segs[m]'(by omega)).n + 1 := by unfold nextN; rw [hlast]
    have h2 := chain_n h j (m - j) (by omega)
    have h3 : segs[j + (m - j)]'(by omega) = segs[m]'(by omega) := by congr 1; omega
    rw [h3] at h2
    have := nameS_inj hb (h.ok _ (List.getElem_mem hj2)).n h1
    omega

theorem headS_len {f : Nat} (h : f ≤ 2199023255552) : (headS f).length = 32 := by
  have h1 := numS_len_lt (n := f) (k := 6) (by omega)
  have h2 := numS_len_small (n := (numS f).length) (by omega)
  have h3 := frameS_len (numS f)
  unfold headS padS
  rw [List.length_append, List.length_replicate]
  omega

theorem LogOK.kept (h : LogOK sz segs now cur) (hd : DOK n safe cur now saved epoch which) (he : epoch ≤ 1000000000000) : LogOK sz segs now (saveS cur which epoch now) :=
  ⟨(have_save hd he).trans h.have_, h.size, h.fit, h.chain, h.ok⟩

theorem chain_snoc {l : List Seg} {t : Seg} (hc : ∀ j (h : j + 1 < l.length), l[j + 1].n = l[j].n + 1 ∧ l[j + 1].first = lastN l[j]) (h1 : l = [] ∨ t.first = nextS l) (h2 : t.n = nextN l) :
    ∀ j (h : j + 1 < (l ++ [t]).length), (l ++ [t])[j + 1].n = (l ++ [t])[j].n + 1 ∧ (l ++ [t])[j + 1].first = lastN (l ++ [t])[j] := by
  intro j hj
  have hj2 : j < l.length := by simp at hj; omega
  rw [List.getElem_append_left hj2]
  by_cases h5 : j + 1 < l.length
  · rw [List.getElem_append_left h5]
    exact hc j h5
  · have h6 : j + 1 = l.length := by omega
    rw [List.getElem_append_right (by omega)]
    simp only [h6, Nat.sub_self, List.getElem_cons_zero]
    have hlast : l.getLast? = some l[j] := by
      rw [List.getLast?_eq_getElem?, show l.length - 1 = j by omega, List.getElem?_eq_getElem]
    constructor
    · rw [h2]; unfold nextN; rw [hlast]
    · rcases h1 with h1 | h1
      · rw [h1] at hj2; simp at hj2
      · rw [h1]; unfold nextS; rw [hlast]

/-- A segment more. -/
theorem LogOK.add (h : LogOK sz segs now cur) (hd : DOK n safe cur now saved epoch which) {f : Nat} {e : Nat × Nat} (hm : MakeS now saved n (nameS (nextN segs)) (sz : Int) (some e)) (hf : segs = [] ∨ f = nextS segs) (hn : nextN segs ≤ 999999) (hf2 : f ≤ 2199023255552) (hsz : 1 ≤ sz) :
    ∃ q, wrS (makeNow now (nameS (nextN segs)) (some e)) (nameS (nextN segs)) 0 (headS f).length = some q ∧
      LogOK sz (segs ++ [⟨f, nextN segs, []⟩]) (makeNow now (nameS (nextN segs)) (some e)) (splice (makeCur cur (some e)) q (headS f)) := by
  have hd1 := hd.make hm
  have hhave := have_make hd hm
  have hes : e.2 = sz := by obtain ⟨-, -, -, h4, -⟩ := hm; omega
  have hfg : fget (makeNow now (nameS (nextN segs)) (some e)) (nameS (nextN segs)) = some e := fget_append_new hm.2.1
  have hhl := headS_len hf2
  have hw : wrS (makeNow now (nameS (nextN segs)) (some e)) (nameS (nextN segs)) 0 (headS f).length = some (32 * e.1) := by
    unfold wrS
    rw [hfg]
    dsimp only
    rw [if_pos (by rw [hhl]; omega)]
    simp
  refine ⟨_, hw, ?_⟩
  obtain ⟨j, hj2, hfx, -, -, hset⟩ := have_write hd1 (bs := headS f) hw
  have hlen : (makeNow now (nameS (nextN segs)) (some e)).length = now.length + 1 := by simp [makeNow]
  have hat : (makeNow now (nameS (nextN segs)) (some e))[now.length]'(by omega) = (nameS (nextN segs), e) := by simp [makeNow]
  have hji : j = now.length := by
    obtain ⟨j', hn1, -⟩ := fidx_some hfx
    have hin : now.length < (makeNow now (nameS (nextN segs)) (some e)).length := by omega
    have e1 : ((makeNow now (nameS (nextN segs)) (some e)).map (·.1))[j]'(by simpa using hj2) = ((makeNow now (nameS (nextN segs)) (some e)).map (·.1))[now.length]'(by simpa using hin) := by
      simp only [List.getElem_map]
      rw [hn1, hat]
    exact nodup_inj hd1.gnow.nodup _ _ _ _ e1
  subst hji
  have hcont : seg (makeCur cur (some e)) (32 * (makeNow now (nameS (nextN segs)) (some e))[now.length].2.1) (32 * (makeNow now (nameS (nextN segs)) (some e))[now.length].2.2) = zerosB (32 * sz) := by
    have e1 : (haveS (makeNow now (nameS (nextN segs)) (some e)) (makeCur cur (some e)))[now.length]'(by rw [haveS_len]; omega) = (haveS now cur ++ [(nameS (nextN segs), zerosB (32 * e.2))])[now.length]'(by simp [haveS_len]) := by
      simp only [hhave]
    rw [List.getElem_append_right (by rw [haveS_len]; omega)] at e1
    simp only [haveS_len, Nat.sub_self, List.getElem_cons_zero] at e1
    unfold haveS at e1
    simp only [List.getElem_map, Prod.mk.injEq] at e1
    rw [e1.2, hes]
  have hfile : splice (zerosB (32 * sz)) (0 : Int).toNat (headS f) = fileS sz ⟨f, nextN segs, []⟩ := by
    have h1 := splice_mid (A := []) (Z := zerosB (32 * sz)) (x := headS f) (by simp [zerosB]; omega)
    simp only [List.nil_append, List.length_nil, zerosB_drop] at h1
    rw [show (0 : Int).toNat = 0 from rfl, h1]
    unfold fileS bytesS
    simp
  have hbl : (bytesS ⟨f, nextN segs, []⟩).length = 32 := by simp [bytesS, hhl]
  refine ⟨?_, ?_, ?_, chain_snoc h.chain hf rfl, ?_⟩
  · rw [hset, hcont, hfile, hhave, h.have_, List.map_append]
    have hl3 := h.len
    rw [List.set_append_right _ _ (by simp [h.len])]
    simp [fileP, h.len]
  · intro x hx
    rcases List.mem_append.1 hx with h1 | h1
    · exact h.size x h1
    · simp only [List.mem_cons, List.not_mem_nil, or_false] at h1
      subst h1; exact hes
  · intro s' hs'
    rcases List.mem_append.1 hs' with h1 | h1
    · exact h.fit s' h1
    · simp only [List.mem_cons, List.not_mem_nil, or_false] at h1
      subst h1; omega
  · intro s' hs'
    rcases List.mem_append.1 hs' with h1 | h1
    · exact h.ok s' h1
    · simp only [List.mem_cons, List.not_mem_nil, or_false] at h1
      subst h1
      exact ⟨hf2, hn, by simp, by rw [hbl]; omega, by simp⟩

/-- The first segment goes. -/
theorem LogOK.cut {s : Seg} {r : List Seg} (h : LogOK sz (s :: r) now cur) (hd : DOK n safe cur now saved epoch which) : (fget now (nameS s.n)).isSome = true ∧ LogOK sz r (fdel now (nameS s.n)) cur := by
  obtain ⟨e, he, -⟩ := h.get hd (j := 0) (by simp)
  simp only [List.getElem_cons_zero] at he
  have hs : (fget now (nameS s.n)).isSome = true := by rw [he]; rfl
  refine ⟨hs, ?_⟩
  obtain ⟨j, hj⟩ := Option.isSome_iff_exists.1 (fidx_get.trans hs)
  obtain ⟨hjl, hn1, -⟩ := fidx_some hj
  have hl := h.len
  simp only [List.length_cons] at hl
  have hj0 : j = 0 := by
    have h1 := (h.at (j := 0) (by simp) (by omega)).1
    simp only [List.getElem_cons_zero] at h1
    have e1 : (now.map (·.1))[j]'(by simpa using hjl) = (now.map (·.1))[0]'(by simp; omega) := by
      simp only [List.getElem_map]
      rw [hn1, h1]
    exact nodup_inj hd.gnow.nodup _ _ _ _ e1
  subst hj0
  refine ⟨?_, fun x hx => h.size x (fdel_mem hx), fun s' hs' => h.fit s' (by simp [hs']), fun j hj => ?_, fun s' hs' => h.ok s' (by simp [hs'])⟩
  · rw [have_remove hj, h.have_]
    rfl
  · have := h.chain (j + 1) (by simp; omega)
    simpa using this

theorem sorted_names (h : LogOK sz segs now cur) : namesS now = segs.map fun s => nameL s.n := by
  have e : (now.map fun x => x.1.data.toList) = segs.map fun s => nameL s.n := by
    have h1 := congrArg (List.map fun p : ByteArray × List UInt8 => p.1.data.toList) h.have_
    unfold haveS fileP at h1
    rw [List.map_map, List.map_map] at h1
    refine Eq.trans (Eq.trans ?_ h1) ?_
    · exact List.map_congr_left fun x _ => rfl
    · exact List.map_congr_left fun x _ => nameS_list x.n
  unfold namesS
  rw [e]
  refine List.mergeSort_of_pairwise ?_
  rw [List.pairwise_iff_getElem]
  intro i j hi hj hij
  simp only [List.length_map] at hi hj
  simp only [List.getElem_map, decide_eq_true_eq]
  have h1 := chain_n h i (j - i) (by omega)
  have h2 : segs[i + (j - i)]'(by omega) = segs[j] := by congr 1; omega
  rw [h2] at h1
  have h3 := (nameL_lt (h.ok _ (List.getElem_mem hi)).n (h.ok _ (List.getElem_mem hj)).n).2 (show segs[i].n < segs[j].n by omega)
  exact List.le_of_lt h3
end
end Go.Proofs.YtlhefifejcoecaaGreatDoor
