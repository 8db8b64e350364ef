/- The law AuditSerial, in plain words: where all are legal and strict, each reads what there was just ahead. -/
import Derived.Test.YtgmcpfcpdmnebaaGreatSerial
namespace Go.Proofs.YtgmcpfcpdmnebaaGreat
open Go.RowKit Go.Proofs Go.Shelf

theorem stepP_ne {f : St} {p : Pair} {k : ByteArray} (h : k ≠ p.key) : stepP f p k = f k := by unfold stepP; rw [if_neg h]

theorem fold_ne {k : ByteArray} : ∀ (ps : List Pair) (f : St), (∀ p ∈ ps, k ≠ p.key) → ps.foldl stepP f k = f k
  | [], _, _ => rfl
  | p :: ps, f, h => by rw [List.foldl_cons, fold_ne ps _ fun q hq => h q (by simp [hq]), stepP_ne (h p (by simp))]

theorem state_ne {k : ByteArray} : ∀ (l : List Rec) (f : St), (∀ r ∈ l, ∀ p ∈ r.writes, k ≠ p.key) → l.foldl stepR f k = f k
  | [], _, _ => rfl
  | r :: l, f, h => by
    rw [List.foldl_cons, state_ne l _ fun q hq => h q (by simp [hq])]
    exact fold_ne _ _ (h r (by simp))

theorem tells_same {f g : St} {x : Rd} (h : ∀ k, soS x k = true → f k = g k) : tellsS f x = tellsS g x := by
  rw [Bool.eq_iff_iff]
  unfold tellsS
  rw [@decide_eq_true_iff _ (Classical.propDecidable _), @decide_eq_true_iff _ (Classical.propDecidable _)]
  have key : ∀ (f g : St), (∀ k, soS x k = true → f k = g k) → IsPairs f (soS x) x.pairs → IsPairs g (soS x) x.pairs := fun f g h hp =>
    ⟨fun y => by
      rw [hp.mem]
      constructor
      · rintro ⟨h1, h2, h3⟩; exact ⟨h1, by rw [← h _ h3]; exact h2, h3⟩
      · rintro ⟨h1, h2, h3⟩; exact ⟨h1, by rw [h _ h3]; exact h2, h3⟩, hp.sorted, hp.nodup⟩
  exact ⟨fun hh => ⟨key f g h hh.1, hh.2⟩, fun hh => ⟨key g f (fun k hk => (h k hk).symm) hh.1, hh.2⟩⟩

theorem idx_neg {α : Type} {p : α → Bool} {l : List α} (h : ¬ 0 ≤ idx p l 0) : l.any p = false := by
  have := idx_any p l
  rw [decide_eq_false h] at this
  exact this.symm

theorem legal_serial {l : List Rec} (hst : strictS l = true) (i : Nat) (hi : i < l.length) (hl : legalS l (i : Int) = true) : serialS l (i : Int) = true := by
  have e1 : legalS l (i : Int) = legalAt l i l[i] := by unfold legalS; rw [dif_pos ⟨by omega, by simpa using hi⟩]; simp
  have e2 : serialS l (i : Int) = serialAt l i l[i] := by unfold serialS; rw [dif_pos ⟨by omega, by simpa using hi⟩]; simp
  rw [e1] at hl
  rw [e2]
  have hs : l[i].strict = true := by
    unfold strictS at hst
    simp only [Bool.not_eq_true', List.any_eq_false, Bool.not_eq_true, Bool.not_eq_false'] at hst
    simpa using hst _ (List.getElem_mem hi)
  generalize l[i] = r at *
  unfold legalAt at hl
  simp only [Bool.and_eq_true, decide_eq_true_eq] at hl
  obtain ⟨⟨⟨⟨h1, h2⟩, h3⟩, h4⟩, h5⟩ := hl
  unfold serialAt
  rw [h3, Bool.true_and]
  have hsn := (recGoodS_snap h1).1
  have hsi : r.snap.toNat ≤ i := by omega
  have hstale : ((l.take i).drop r.snap.toNat).any (fun o => r.reads.any fun x => touchesS o x) = false := by
    apply idx_neg
    unfold mayS staleS at h5
    intro h
    rw [hs, decide_eq_true h] at h5
    simp at h5
  have hst2 : stateS (l.take i) = ((l.take i).drop r.snap.toNat).foldl stepR (stateS (l.take r.snap.toNat)) := by
    unfold stateS
    rw [← List.foldl_append]
    congr 1
    conv => lhs; rw [← List.take_append_drop r.snap.toNat (l.take i)]
    rw [List.take_take, Nat.min_eq_left hsi]
  unfold bearsS at h4 ⊢
  rw [← h4]
  congr 1
  rw [Bool.eq_iff_iff, List.any_eq_true, List.any_eq_true]
  have key : ∀ x ∈ r.reads, tellsS (stateS (l.take i)) x = tellsS (stateS (l.take r.snap.toNat)) x := by
    intro x hx
    refine tells_same fun k hk => ?_
    rw [hst2]
    refine state_ne _ _ fun o ho p hp e => ?_
    have h6 := List.any_eq_false.1 hstale o ho
    refine h6 (List.any_eq_true.2 ⟨x, hx, ?_⟩)
    unfold touchesS
    refine List.any_eq_true.2 ⟨p, hp, ?_⟩
    rw [e] at hk
    exact hk
  constructor
  · rintro ⟨x, hx, h⟩; exact ⟨x, hx, by rw [← key x hx]; exact h⟩
  · rintro ⟨x, hx, h⟩; exact ⟨x, hx, by rw [key x hx]; exact h⟩

theorem first_all {l : List Rec} (h : firstS l = -1) (i : Nat) (hi : i < l.length) : legalS l (i : Int) = true := by
  unfold firstS at h
  cases hf : (List.range l.length).find? (fun k : Nat => !legalS l (k : Int)) with
  | some k => rw [hf] at h; simp at h
  | none =>
    rw [List.find?_eq_none] at hf
    have := hf i (List.mem_range.2 hi)
    simpa using this

end Go.Proofs.YtgmcpfcpdmnebaaGreat
