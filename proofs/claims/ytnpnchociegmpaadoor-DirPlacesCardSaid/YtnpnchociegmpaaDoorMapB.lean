/- A map's entries: one more, one less. -/
import Derived.Test.YtnpnchociegmpaaDoorMap
namespace Go.Proofs.YtnpnchociegmpaaDoor
open Go.RowKit Go.Proofs

theorem mset_length {α : Type} [DecidableEq α] (m : List (α × Value)) (k : α) (v : Value) : (mset m k v).length ≤ m.length + 1 := by
  unfold mset; split <;> simp

theorem mdel_length {α : Type} [DecidableEq α] (m : List (α × Value)) (k : α) : (mdel m k).length ≤ m.length := by
  unfold mdel; split
  · exact (List.eraseIdx_sublist _ _).length_le
  · exact Nat.le_refl _

theorem mget_del {α : Type} [DecidableEq α] {m : List (α × Value)} (hn : (m.map (·.1)).Nodup) (k k' : α) : mget (mdel m k) k' = if k' = k then none else mget m k' := by
  unfold mdel
  cases hx : midx m k with
  | none =>
    by_cases h : k' = k
    · subst h; rw [if_pos rfl, mget_idx]; simp [hx]
    · rw [if_neg h]
  | some j =>
    obtain ⟨hj, hjk⟩ := midx_some hx
    clear hx
    induction m generalizing j with
    | nil => simp at hj
    | cons x m ih =>
      simp only [List.map_cons, List.nodup_cons] at hn
      cases j with
      | zero =>
        simp only [List.getElem_cons_zero] at hjk
        subst hjk
        simp only [List.eraseIdx_cons_zero]
        by_cases h : k' = x.1
        · subst h
          rw [if_pos rfl]
          simp only [mget, Option.map_eq_none_iff, List.find?_eq_none]
          intro y hy
          simp only [decide_eq_true_eq]
          intro e
          exact hn.1 (e ▸ List.mem_map_of_mem hy)
        · rw [if_neg h]
          simp [mget, h]
      | succ j =>
        have hne : x.1 ≠ k := fun e => hn.1 (by
          rw [e, ← hjk]
          exact List.mem_map_of_mem (List.getElem_mem _))
        have ih' := ih hn.2 j (by simpa using hj) (by simpa using hjk)
        simp only [mget] at ih' ⊢
        simp only [List.eraseIdx_cons_succ, List.find?_cons]
        by_cases h : k' = x.1
        · simp only [h, decide_true]
          rw [if_neg hne]
        · simp only [h, decide_false]
          exact ih'

end Go.Proofs.YtnpnchociegmpaaDoor
