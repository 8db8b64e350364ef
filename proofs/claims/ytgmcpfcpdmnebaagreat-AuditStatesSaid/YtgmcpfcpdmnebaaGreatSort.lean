/- slices.SortFunc at pairs, by their keys. -/
import Derived.Test.YtgmcpfcpdmnebaaGreatEq
import Derived.Test.YtgmcpfcpdmnebaaGreatApp
import Derived.Test.YtgmcpfcpdmnebaaGreatSh
namespace Go.Proofs.YtgmcpfcpdmnebaaGreat
open Go.RowKit Go.Proofs Go.Shelf Go.Sort

def pairCells (p : Pair) : List Value := [.string p.key, .string p.val, .bool p.dead]
instance : Inhabited Pair := ⟨⟨.empty, .empty, false⟩⟩

theorem pairElt : Elt Tryz.prog 35 3 40 := by
  have h : (Tryz.prog.info? 35).map (fun i => (i.zero, i.size, i.bytes)) = some (some (.agg #[.string .empty, .string .empty, .bool false]), 3, 40) := by kernel_rfl
  obtain ⟨i0, hi, hz0, hz1, hz2⟩ := info_parts h
  exact ⟨⟨i0, _, hi, hz0, hz1, hz2, rfl⟩, by decide⟩

def cmpKey (x y : Pair) : Int := if ltB x.key y.key then -1 else if ltB y.key x.key then 1 else 0

theorem ltOf_key (x y : Pair) : ltOf cmpKey x y = ltB x.key y.key := by
  unfold ltOf cmpKey
  cases h1 : ltB x.key y.key with
  | true => simp
  | false => cases h2 : ltB y.key x.key <;> simp

theorem ltB_trans {a b c : ByteArray} (h : ltB a b = true) (k : ltB b c = true) : ltB a c = true := by
  rw [ltB_eq] at *
  simp only [decide_eq_true_eq] at *
  exact List.lt_trans h k

theorem swoKey : SWO (ltOf cmpKey) where
  irrefl x := by rw [ltOf_key]; exact ltB_irrefl _
  trans x y z h1 h2 := by rw [ltOf_key] at *; exact ltB_trans h1 h2
  ntrans x y z h1 h2 := by rw [ltOf_key] at *; exact ltB_ge_trans h1 h2

/-- cmp.Compare -/
theorem compare_any (a b : ByteArray) (w : World) : Calls Tryz.prog 35 #[.string a, .string b] w fun e w' => e = .returned (.int .i64 (if ltB a b then -1 else if ltB b a then 1 else 0)) ∧ w' = w := by
  have h1 := fun (s : ByteArray) (W : World) => show Calls Tryz.prog 54 #[.string s] W fun e w' => e = .returned (.bool false) ∧ w' = W by
    go_enter Tryz.func54, Tryz.ntmps54
    go_wp2
    go_ret
    exact ⟨by simp, rfl⟩
  unfold ltB
  by_cases hab : Op.bytesLess a.toList b.toList = true
  · go_enter Tryz.func35, Tryz.ntmps35
    go_wp2_with (go_at_call 54; refine (h1 _ _).mono ?_; rintro e w1 ⟨rfl, rfl⟩)
    go_ret
    exact ⟨by simp [hab], rfl⟩
  · have hab' : Op.bytesLess a.toList b.toList = false := by simpa using hab
    by_cases hba : Op.bytesLess b.toList a.toList = true
    · have hne : (a.toList == b.toList) = false := by
        cases h : a.toList == b.toList with
        | false => rfl
        | true =>
          rw [beq_iff_eq] at h
          rw [h] at hba hab'
          rw [hba] at hab'; simp at hab'
      go_enter Tryz.func35, Tryz.ntmps35
      go_wp2_with (go_at_call 54; refine (h1 _ _).mono ?_; rintro e w1 ⟨rfl, rfl⟩)
      go_ret
      exact ⟨by simp [hab', hba], rfl⟩
    · have hba' : Op.bytesLess b.toList a.toList = false := by simpa using hba
      have heq : (a.toList == b.toList) = true := ltB_antisymm (a := a) (b := b) hab' hba'
      go_enter Tryz.func35, Tryz.ntmps35
      go_wp2_with (go_at_call 54; refine (h1 _ _).mono ?_; rintro e w1 ⟨rfl, rfl⟩)
      go_ret
      exact ⟨by simp [hab', hba'], rfl⟩

theorem cmpLays (g : Nat) (hg : ∀ (x y : Pair) (W : World), Calls Tryz.prog g #[.agg (pairCells x).toArray, .agg (pairCells y).toArray] W fun e w' => e = .returned (.int .i64 (cmpKey x y)) ∧ ∃ q os', w' = grow (W.drewN q) os') (blk off size : Nat) (w : World) :
    CmpLays Tryz.prog g #[] pairCells 3 cmpKey blk off size w := fun _ _ _ _ x y => hg x y _

theorem flatMap_get (enc : Pair → List Value) (hk : ∀ x, (enc x).length = 3) : ∀ (l : List Pair) (t : Nat) (ht : t < l.length * 3), (l.flatMap enc)[t]? = (enc l[t / 3]!)[t % 3]?
  | [], t, ht => by simp at ht
  | x :: l, t, ht => by
    rw [List.flatMap_cons]
    by_cases h : t < 3
    · rw [List.getElem?_append_left (by rw [hk]; exact h), Nat.div_eq_of_lt h, Nat.mod_eq_of_lt h]; rfl
    · rw [List.getElem?_append_right (by rw [hk]; omega), hk]
      have ih := flatMap_get enc hk l (t - 3) (by simp at ht; omega)
      rw [ih]
      obtain ⟨s, rfl⟩ : ∃ s, t = s + 3 := ⟨t - 3, by omega⟩
      rw [Nat.add_sub_cancel, Nat.add_div_right _ (by decide), Nat.add_mod_right]
      rfl

theorem flatMap_len (enc : Pair → List Value) (hk : ∀ x, (enc x).length = 3) (l : List Pair) : (l.flatMap enc).length = l.length * 3 := by
  induction l with
  | nil => rfl
  | cons x l ih => rw [List.flatMap_cons, List.length_append, hk, ih, List.length_cons]; omega

theorem flatK_list (L : List Pair) : (flatK pairCells 3 L.toArray).toList = L.flatMap pairCells := by
  have hk : ∀ x, (pairCells x).length = 3 := fun _ => rfl
  apply List.ext_getElem?
  intro t
  by_cases ht : t < L.length * 3
  · rw [flatMap_get pairCells hk L t ht]
    have h3 : t % 3 < 3 := Nat.mod_lt _ (by decide)
    simp only [flatK, List.size_toArray, Array.toList_map, Array.toList_range, List.getElem?_map, List.getElem?_range ht, Option.map_some]
    have e1 : L.toArray[t / 3]! = L[t / 3]! := by simp
    rw [e1, List.getElem?_eq_getElem (by rw [hk]; exact h3), List.getElem!_eq_getElem?_getD, List.getElem?_eq_getElem (by rw [hk]; exact h3)]
    rfl
  · rw [List.getElem?_eq_none (by simp [flatK]; omega), List.getElem?_eq_none (by rw [flatMap_len _ hk]; omega)]

theorem block_cell' {w : World} {b : Nat} {cs : Array Value} {t : TypeId} {fr : Nat × Nat} (h : w.heap[b]? = some (.cells cs t fr)) (i : Nat) : w.cell? ⟨b, i, none⟩ = cs[i]? := cell_of_row w b i cs t fr h

/-- Keys that rise, strictly where none stands twice. -/
def SortedP (L : List Pair) : Prop := ∀ i j, i < j → (hj : j < L.length) → (hi : i < L.length) → ltB L[j].key L[i].key = false

/-- A row of pairs of the call's own. -/
def OwnP (w : World) (base : Nat) (v : Value) (L : List Pair) : Prop := w.ownsRow base 35 3 v L.length (L.flatMap pairCells)

theorem sort_pairs (g : Nat) (eg : ∀ args w, (callFunc g args).run Tryz.prog w = .ok (.enter g args) w) (hg : ∀ (x y : Pair) (W : World), Calls Tryz.prog g #[.agg (pairCells x).toArray, .agg (pairCells y).toArray] W fun e w' => e = .returned (.int .i64 (cmpKey x y)) ∧ ∃ q os', w' = grow (W.drewN q) os')
    (base : Nat) (v : Value) (L : List Pair) (w : World) (hown : OwnP w base v L) (hsz : L.length ≤ 140737488351232) :
    Calls Tryz.prog 33 #[v, .func (.func g) #[] #[]] w fun e w' => e = .returned (.tuple #[]) ∧ ∃ L', L'.Perm L ∧ SortedP L' ∧ OwnP w' base v L' ∧ Below base w w' := by
  rcases hown.2 with ⟨rfl, hn⟩ | ⟨b, cap, cur, rfl, hb, hblk, hc, hm, hs, ht⟩
  · have : L = [] := List.eq_nil_of_length_eq_zero hn
    subst this
    refine (AnyF.slices_SortFunc_none { Tryz.laysSortPair with } none 0 _ w).mono ?_
    rintro e w' ⟨he, rfl⟩
    exact ⟨he, [], List.Perm.refl _, fun i j _ hj => by simp at hj, hown, Below.refl _ _⟩
  · have hk : ∀ x, (pairCells x).length = 3 := fun _ => rfl
    have hblt : b < w.heap.size := by
      rcases Nat.lt_or_ge b w.heap.size with h | h
      · exact h
      · rw [Array.getElem?_eq_none h] at hblk; cases hblk
    have hfl : (L.flatMap pairCells).length = L.length * 3 := flatMap_len _ hk L
    have hH : HoldsK pairCells 3 w b 0 L.toArray := by
      intro t htl
      have htl' : t < L.length * 3 := by simpa using htl
      have h1 : (flatK pairCells 3 L.toArray)[t]! = (L.flatMap pairCells)[t]'(by omega) := by
        rw [getElem!_pos _ t htl, ← Array.getElem_toList]
        simp only [flatK_list]
      refine ⟨?_, by simp [World.frozen?, hblk]⟩
      rw [block_cell' hblk, h1]
      simp only [Nat.zero_add, id_eq]
      have h2 : (cur.toList.take (L.length * 3))[t]? = (L.flatMap pairCells)[t]? := by rw [ht]
      rw [List.getElem?_take, if_pos htl', List.getElem?_eq_getElem (l := L.flatMap pairCells) (by omega)] at h2
      simpa using h2
    have hcon := AnyQ.slices_SortFunc Tryz.laysSortPair 3 Tryz.isAgg35 Tryz.sizeOf35 pairCells hk (fun x v hv => by simp [pairCells] at hv; rcases hv with rfl | rfl | rfl <;> rfl) cmpKey swoKey g #[] b 0 cap L.toArray w eg (cmpLays g hg b 0 _ w) hH hblt (by simp; omega)
    refine hcon.mono ?_
    rintro e w' ⟨he, d', n, os, hp, hsrt, rfl⟩
    have hd's : d'.size = L.length := by simpa using hp.1
    have hperm : d'.toList.Perm L := by
      have := hp.2.2
      rw [Array.extract_eq_self_of_le (by rw [hd's]; simp), Array.extract_eq_self_of_le (by simp)] at this
      simpa using this
    have hblk2 : (sortWorldK pairCells 3 w b 0 n d' os).heap[b]? = some (.cells (putCells id 0 (flatK pairCells 3 d') cur) 35 (0, 0)) := by
      unfold sortWorldK
      rw [heap_grow_old _ _ (by simp [putRowK, putRow, mapBlock, Sort.ahead]; exact hblt)]
      simp only [putRowK, putRow, mapBlock, Sort.ahead, Array.getElem?_modify, if_true, hblk, Option.map_some, onCells]
    refine ⟨he, d'.toList, hperm, ?_, ⟨?_, .inr ⟨b, cap, _, by rw [hperm.length_eq], hb, hblk2, by rw [hperm.length_eq]; exact hc, hm, ?_, ?_⟩⟩, ?_⟩
    · intro i j hij hj hi
      have hjd : j < d'.size := by simpa using hj
      have hid : i < d'.size := by simpa using hi
      have h3 := hsrt i j (Nat.zero_le _) hij (by rw [List.size_toArray, ← hd's]; exact hjd)
      rw [ltOf_key, getElem!_pos d' j hjd, getElem!_pos d' i hid] at h3
      simpa using h3
    · rw [flatMap_len _ hk]
    · simp [putCells, hs]
    · rw [hperm.length_eq]
      have h4 := flatK_list d'.toList
      rw [Array.toArray_toList] at h4
      have hF : (flatK pairCells 3 d').size = L.length * 3 := by simp [hd's]
      have hcs : L.length * 3 ≤ cur.size := by rw [hs]; exact Nat.mul_le_mul_right 3 hc
      rw [← h4]
      apply List.ext_getElem?
      intro t
      rw [List.getElem?_take]
      by_cases ht3 : t < L.length * 3
      · rw [if_pos ht3]
        simp only [putCells, Array.toList_mapIdx, List.getElem?_mapIdx, Nat.zero_le, Nat.zero_add, hF, ht3, and_self, if_true, Nat.sub_zero, id_eq]
        rw [List.getElem?_eq_getElem (by simpa using Nat.lt_of_lt_of_le ht3 hcs), List.getElem?_eq_getElem (by simpa [hF] using ht3)]
        simp [getElem!_pos, hF, ht3]
      · rw [if_neg ht3, List.getElem?_eq_none (by simpa [hF] using ht3)]
    · refine ⟨rfl, rfl, rfl, ?_, fun k hkb => ?_⟩
      · simp [sortWorldK, grow, putRowK, putRow, mapBlock, Sort.ahead]
      · unfold sortWorldK
        rw [heap_grow_old _ _ (by simp [putRowK, putRow, mapBlock, Sort.ahead]; omega)]
        simp only [putRowK, putRow, mapBlock, Sort.ahead, Array.getElem?_modify]
        rw [if_neg (by omega)]

end Go.Proofs.YtgmcpfcpdmnebaaGreat
