/- The directory: the files' names, sorted. -/
import Derived.Test.YtlhefifejcoecaaGreatDoorJDirA
import Derived.Test.YtlhefifejcoecaaGreatDoorDh
namespace Go.Proofs.YtlhefifejcoecaaGreatDoor
open Go.RowKit Go.Proofs Go.Shelf Go.Maps Go.Sort
open Go.WideElems (Fit rg)

/-- How an entry's value is read where only keys matter. -/
def anyR (H : Type) : Value → Option (DataW H × List MemPlace) := fun _ => some (.nil, [])

theorem insert_perm {H : Type} (x : Lit × DataW H) : ∀ l, (DataW.insert x l).Perm (x :: l)
  | [] => List.Perm.refl _
  | y :: r => by
    unfold DataW.insert
    by_cases h : x.1.before y.1 = true
    · rw [if_pos h]
    · rw [if_neg h]
      exact ((insert_perm x r).cons y).trans (List.Perm.swap x y r)

theorem foldr_perm {H : Type} : ∀ (l : List (Lit × DataW H)), (l.foldr DataW.insert []).Perm l
  | [] => List.Perm.refl _
  | x :: l => (insert_perm x _).trans ((foldr_perm l).cons x)

theorem rd_string {H : Type} {P : Program} {k : TypeId} (hk : P.underlying k = some .string) {x : MapEntry} {s : ByteArray} (hx : x.key = .string s) (hs : s.size ≤ maxLen) : Go.WideElems.rd P k (anyR H) x = some (.string s.data.toList, .nil) := by
  unfold Go.WideElems.rd anyR
  have : keyOf P k x.key = some (.string s.data.toList) := by
    unfold keyOf mapKey
    rw [hx, hk]
    simp [hs]
  rw [this]; rfl

theorem mapA_owns {H : Type} {P : Program} {k : TypeId} (hk : P.underlying k = some .string) {w : World} {b : Nat} {m : List (ByteArray × Value)} (h : MapA Value.string w b m) (hs : ∀ x ∈ m, x.1.size ≤ maxLen) (hl : m.length ≤ maxLen) :
    ∃ D0 : DataW H, w.ownsMap P k (anyR H) b m.length D0 ∧ (strKeys D0).Perm (m.map fun x => x.1.data.toList) ∧ Maps.size D0 = m.length := by
  obtain ⟨es, clock, h1, h2, h3, h4, h5⟩ := h
  have hkeys : es.toList.map (·.key) = m.map fun x => Value.string x.1 := by
    have := congrArg (List.map Prod.fst) h2
    simpa [List.map_map, Function.comp_def] using this
  have hlen : es.size = m.length := by
    have := congrArg List.length h2
    simpa using this
  have hmem : ∀ x ∈ es.toList, ∃ s, x.key = .string s ∧ s.size ≤ maxLen := fun x hx => by
    have : x.key ∈ es.toList.map (·.key) := List.mem_map_of_mem hx
    rw [hkeys, List.mem_map] at this
    obtain ⟨y, hy, e⟩ := this
    exact ⟨y.1, e.symm, hs y hy⟩
  have hrg : es.toList.map (rg P k (anyR H)) = m.map fun x => (Lit.string x.1.data.toList, DataW.nil) := by
    have : ∀ (l : List MapEntry) (n : List (ByteArray × Value)), l.map (·.key) = n.map (fun x => Value.string x.1) → (∀ x ∈ l, ∃ s, x.key = .string s ∧ s.size ≤ maxLen) → l.map (rg P k (anyR H)) = n.map fun x => (Lit.string x.1.data.toList, DataW.nil) := by
      intro l
      induction l with
      | nil => intro n h _; cases n with | nil => rfl | cons y n => simp at h
      | cons x l ih =>
        intro n h hm
        cases n with
        | nil => simp at h
        | cons y n =>
          simp only [List.map_cons, List.cons.injEq] at h ⊢
          obtain ⟨s, e1, e2⟩ := hm x (by simp)
          have e3 : s = y.1 := by have := e1.symm.trans h.1; injection this
          subst e3
          exact ⟨by unfold rg; rw [rd_string hk e1 e2]; rfl, ih n h.2 fun z hz => hm z (by simp [hz])⟩
    exact this _ _ hkeys hmem
  refine ⟨.map ((es.toList.map (rg P k (anyR H))).foldr DataW.insert []), ⟨es, clock, h1, ⟨by rw [hlen]; exact hl, ⟨h3, h4, ?_⟩, fun x hx => ?_⟩, Nat.le_of_eq hlen, rfl⟩, ?_, ?_⟩
  · rw [hkeys, List.nodup_iff_pairwise_ne, List.pairwise_map]
    rw [List.nodup_iff_pairwise_ne, List.pairwise_map] at h5
    exact h5.imp fun hne e => hne (by injection e)
  · obtain ⟨s, e1, e2⟩ := hmem x hx
    exact ⟨_, rd_string hk e1 e2⟩
  · unfold strKeys
    refine ((foldr_perm _).map _).trans ?_
    rw [hrg, List.map_map]
    exact List.Perm.refl _
  · show ((es.toList.map (rg P k (anyR H))).foldr DataW.insert []).length = m.length
    rw [(foldr_perm _).length_eq, List.length_map, ← hlen]; simp

/-- slices.Sort's two contracts, at the fence that asks nothing. -/
theorem dirSorts (m : Nat) : AnyZ.SortsIn Tryz.prog Tryz.sortedA_ren Fence.wide m :=
  ⟨fun blk off cap ss W hH hblk hsz => callsIn_wide.2 (AnyM.slices_Sort_string Tryz.sortA blk off cap ss W hH hblk hsz),
   fun p cap W => callsIn_wide.2 (AnyM.slices_Sort_string_none Tryz.sortA p cap W)⟩

set_option maxHeartbeats 1000000 in
theorem names_any (b : Nat) (m : List (ByteArray × Value)) (w : World) (h : MapA Value.string w b m) (hs : ∀ x ∈ m, x.1.size ≤ maxLen) (hl : m.length ≤ 1000000) :
    Calls Tryz.prog 76 #[.map (some b)] w fun e w' => ∃ (v : Value) (ss : List (List UInt8)), e = .returned v ∧ ss.Perm (m.map fun x => x.1.data.toList) ∧
      w'.ownsRow w.heap.size 9 1 v ss.length ((ss.mergeSort (fun x y => decide (x ≤ y))).map encStr) ∧ Below w.heap.size w w' := by
  obtain ⟨D0, hown, hperm, hsize⟩ := mapA_owns (H := Unit) (P := Tryz.prog) (k := 9) Tryz.underlying9 h hs (by unfold maxLen; omega)
  have hmax : Maps.size D0 ≤ maxLen := by rw [hsize]; unfold maxLen; omega
  have hbytes : Maps.size D0 * 16 ≤ 140737488355328 := by rw [hsize]; omega
  refine (callsIn_wide (n := 6)).1 ?_
  have hbl := hown.lt
  have hseq : SeqGives Fence.wide 2 Tryz.prog 131 #[.pointer (some ⟨w.heap.size, 0, none⟩)] encStr (fun ss => ss.Perm (strKeys D0)) (Maps.size D0) (w.alloc (.cells #[.map (some b)] 35)) :=
    AnyZ.keys_gives (ρ := Tryz.keysA_ren) { Tryz.keysA with } Fence.wide _ trivial rfl (by omega) w.heap.size b m.length D0 _ (by simp) (by simp) (by
      obtain ⟨es, clock, hb, Ft, hs, hD⟩ := hown
      exact ⟨es, clock, (Below.heap_alloc _ _ b hbl).trans hb, Ft, hs, hD⟩)
  have cK : ∀ mb W, CallsIn Fence.wide 5 Tryz.prog 111 #[.map mb] W fun e w' => e = .returned (.func (.func 131) #[] #[.pointer (some ⟨W.heap.size, 0, none⟩)]) ∧ w' = W.alloc (.cells #[.map mb] 35) := fun mb W => AnyZ.keys_in Tryz.keysA Fence.wide 5 trivial rfl mb W
  have cS := AnyZ.sorted_in Tryz.sortedA Fence.wide 5 trivial trivial trivial trivial rfl (by omega) (dirSorts _) (enters_of Tryz.func130 (by kernel_rfl) rfl) 131 #[.pointer (some ⟨w.heap.size, 0, none⟩)] trivial (enters_of Tryz.func131 (by kernel_rfl) rfl) _ _ hmax hbytes _ hseq
  change CallsIn _ _ Tryz.prog 110 _ _ _ at cS
  have hfK : Fence.wide.fn 111 := trivial
  have hfS : Fence.wide.fn 110 := trivial
  refine callsIn_of_wp Tryz.func76 rfl trivial ?_ rfl
  simp only [Tryz.ntmps76, List.size_toArray, List.length_cons, List.length_nil, Nat.reduceAdd, Nat.reduceSub, Array.replicate_succ, Array.replicate_zero, List.push_toArray, List.append_toArray, List.nil_append, List.cons_append]
  gi_wp2_with (first
    | (gi_at_call 111; refine (cK _ _).mono ?_; rintro e w' ⟨rfl, rfl⟩)
    | (gi_at_call 110; refine cS.mono ?_; rintro e w' ⟨v, ss, rfl, hS, hrow, hnil, hb⟩))
  go_ret
  exact ⟨v, ss, rfl, hS.trans hperm, ownsRow_base_a hrow (by simp), ((Below.refl _ w).alloc (Nat.le_refl _) _).trans (hb.mono (by simp))⟩

end Go.Proofs.YtlhefifejcoecaaGreatDoor
