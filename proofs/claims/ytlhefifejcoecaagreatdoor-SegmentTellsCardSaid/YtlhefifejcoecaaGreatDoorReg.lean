/- A drawn region whose last operation waits for all others: it is carried out behind them. -/
import Derived.Test.YtlhefifejcoecaaGreatDoorJB
import Derived.OrdersHeld
import Derived.Deep.RegionHeld
namespace Go.Proofs.YtlhefifejcoecaaGreatDoor
open Go.RowKit Go.Proofs

/-- The post of a region without its last operation. -/
def withLast (P : Program) (o : Oper) (Q : Exit → Act → World → Prop) : Exit → Act → World → Prop
  | .normal, a, w => o.wp P a w (Q .normal) Q
  | e, a, w => Q e a w

/-- The last one waits for each of the others, itself or by one it waits for; it has no guard and yields nothing; each other waits for earlier ones alone. -/
def lastB (pre : List Oper) (o : Oper) : Bool :=
  o.dst.isNone && o.guard.isNone && (List.range pre.length).all (fun i => o.after.any fun e => Region.binds .any e && (e.on == i || ((pre[e.on]?).map fun q => q.after.any fun e2 => Region.binds .any e2 && e2.on == i).getD false)) &&
    (List.range pre.length).all (fun i => match pre[i]? with | some q => q.after.all (fun e => decide (e.on < i)) | none => true) && o.after.all (fun e => decide (e.on < pre.length))

/-- Who is listed has those it waits for listed. -/
def Cl (pre : List Oper) (listed : Array Bool) : Prop := ∀ j, listed.getD j false = true → ∀ q, pre[j]? = some q → ∀ e ∈ q.after, Region.binds .any e = true → listed.getD e.on false = true

theorem Cl.none (pre : List Oper) (n : Nat) : Cl pre (Array.replicate n false) := fun j h => by
  simp [Array.getD_eq_getD_getElem?, Array.getElem?_replicate] at h
  by_cases hj : j < n <;> simp [hj] at h

theorem Cl.set {pre : List Oper} {listed : Array Bool} {i : Nat} (h : Cl pre listed) (hi : i ∈ Region.ready .any pre.toArray listed) : Cl pre (listed.setIfInBounds i true) := fun j hj q hq e he hb => by
  refine getD_set_true ?_
  by_cases hij : j = i
  · subst hij
    obtain ⟨-, q', hq', h2⟩ := mem_ready.1 hi
    rw [show pre.toArray[j]? = pre[j]? by simp, hq] at hq'
    cases hq'
    exact h2 e he hb
  · rw [getD_set_ne false (fun h => hij h.symm)] at hj
    exact h j hj q hq e he hb

theorem post_up {P : Program} {q o : Oper} {a : Act} {w : World} {K : Act → World → Prop} {Q : Exit → Act → World → Prop} (h : q.wp P a w K (withLast P o Q)) : q.wp P a w K Q := by
  unfold Oper.wp at *
  generalize (execOp a.eval q).run P w = r at *
  cases r with
  | ok n w' =>
    cases n <;> simp only [Oper.upon] at h ⊢ <;> first | exact h | exact Calls.mono h fun e w'' he => by cases e <;> exact he
  | halt x w' => cases x <;> simp only [Oper.upon] at h ⊢; exact h

theorem least (p : Nat → Prop) : ∀ n, (∃ i, i < n ∧ p i) → ∃ i, i < n ∧ p i ∧ ∀ j, j < i → ¬ p j
  | 0, ⟨i, h, _⟩ => by omega
  | n + 1, ⟨i, h, hp⟩ => by
    by_cases hx : ∃ j, j < n ∧ p j
    · obtain ⟨j, h1, h2, h3⟩ := least p n hx
      exact ⟨j, by omega, h2, h3⟩
    · exact ⟨i, h, hp, fun j hj hpj => hx ⟨j, by omega, hpj⟩⟩

section
variable {P : Program} {pre : List Oper} {o : Oper} {Q : Exit → Act → World → Prop}

theorem full_lt {i : Nat} (hi : i < pre.length) : (pre ++ [o]).toArray[i]? = pre.toArray[i]? := by
  simp [List.getElem?_append_left hi]
theorem full_last : (pre ++ [o]).toArray[pre.length]? = some o := by simp

theorem yielded_same (hd : o.dst = none) (tmps : Array Value) (j : Nat) : yielded (pre ++ [o]).toArray tmps j = yielded pre.toArray tmps j := by
  unfold yielded
  rcases Nat.lt_trichotomy j pre.length with h | h | h
  · rw [full_lt h]
  · subst h
    rw [full_last]
    have : pre.toArray[pre.length]? = none := by simp
    rw [this]
    simp [hd]
  · have h1 : (pre ++ [o]).toArray[j]? = none := by simp; omega
    have h2 : pre.toArray[j]? = none := by simp; omega
    rw [h1, h2]

theorem push_getD (listed : Array Bool) (i : Nat) (d : Bool) (hi : i < listed.size) : (listed.push false).getD i d = listed.getD i d := by
  simp [Array.getD_eq_getD_getElem?, Array.getElem?_push, Nat.ne_of_lt hi]

theorem wpAny_last (hB : lastB pre o = true) : ∀ (fuel : Nat) (listed : Array Bool) (a : Act) (w : World), listed.size = pre.length → Cl pre listed →
    wpAny P .any pre.toArray (withLast P o Q) fuel listed a w → wpAny P .any (pre ++ [o]).toArray Q (fuel + 1) (listed.push false) a w := by
  unfold lastB at hB
  simp only [Bool.and_eq_true, Option.isNone_iff_eq_none, List.all_eq_true, List.mem_range] at hB
  obtain ⟨⟨⟨⟨hd, hg⟩, hall⟩, hac⟩, hoa⟩ := hB
  have hoa' : ∀ e ∈ o.after, e.on < pre.length := fun e he => by
    have := Array.all_eq_true'.1 hoa e he
    simpa using this
  -- who may come up in the whole
  have hready : ∀ (listed : Array Bool), listed.size = pre.length → ∀ i, i < pre.length → (i ∈ Region.ready .any (pre ++ [o]).toArray (listed.push false) ↔ i ∈ Region.ready .any pre.toArray listed) := by
    intro listed hs i hi
    rw [mem_ready, mem_ready, full_lt hi, push_getD _ _ _ (by omega)]
    have hlow : ∀ q, pre.toArray[i]? = some q → ∀ e ∈ q.after, e.on < i := fun q hq e he => by
      have := hac i hi
      rw [show pre[i]? = some q by simpa using hq] at this
      simp only [Array.all_eq_true'] at this
      simpa using this e he
    constructor
    · rintro ⟨h1, q, hq, h2⟩
      exact ⟨h1, q, hq, fun e he hb => by rw [← h2 e he hb, push_getD _ _ _ (by have := hlow q hq e he; omega)]⟩
    · rintro ⟨h1, q, hq, h2⟩
      exact ⟨h1, q, hq, fun e he hb => by rw [← h2 e he hb, push_getD _ _ _ (by have := hlow q hq e he; omega)]⟩
  have hlast : ∀ (listed : Array Bool), listed.size = pre.length → Cl pre listed → pre.length ∈ Region.ready .any (pre ++ [o]).toArray (listed.push false) → ∀ i, i < pre.length → listed.getD i false = true := by
    intro listed hs hcl h i hi
    obtain ⟨-, q, hq, h2⟩ := mem_ready.1 h
    rw [full_last] at hq
    cases hq
    obtain ⟨e, he, hb⟩ := Array.any_eq_true'.1 (hall i hi)
    simp only [Bool.and_eq_true, Bool.or_eq_true, beq_iff_eq] at hb
    have := h2 e he hb.1
    rw [push_getD _ _ _ (by rw [hs]; exact hoa' e he)] at this
    rcases hb.2 with hb2 | hb2
    · rw [hb2] at this
      exact this
    · cases hp : pre[e.on]? with
      | none => rw [hp] at hb2; cases hb2
      | some q2 =>
        rw [hp] at hb2
        obtain ⟨e2, he2, hb3⟩ := Array.any_eq_true'.1 hb2
        simp only [Bool.and_eq_true, beq_iff_eq] at hb3
        have h3 := hcl e.on this q2 hp e2 he2 hb3.1
        rw [hb3.2] at h3
        exact h3
  have hfew : ∀ (listed : Array Bool), listed.size = pre.length → (∀ i, i < pre.length → listed.getD i false = true) → Region.ready .any pre.toArray listed = [] := by
    intro listed hs h
    cases hr : Region.ready .any pre.toArray listed with
    | nil => rfl
    | cons i rs =>
      have hi : i ∈ Region.ready .any pre.toArray listed := by rw [hr]; simp
      obtain ⟨h1, q, hq, -⟩ := mem_ready.1 hi
      have hil : i < pre.length := by
        rcases Nat.lt_or_ge i pre.length with h | h
        · exact h
        · rw [show pre.toArray[i]? = none by simp; omega] at hq; cases hq
      have h2 := h i hil
      simp [Array.getD_eq_getD_getElem?, hs, hil] at h1 h2
      rw [h1] at h2; cases h2
  have hun : ∀ (listed : Array Bool), listed.size = pre.length → Region.ready .any pre.toArray listed = [] → ∀ i, i < pre.length → listed.getD i false = true := by
    intro listed hs h
    by_cases hx : ∃ i, i < pre.length ∧ listed.getD i false = false
    · exfalso
      obtain ⟨i, hi, hl, hmin⟩ := least _ _ hx
      have : i ∈ Region.ready .any pre.toArray listed := by
        rw [mem_ready]
        refine ⟨by simpa [Array.getD_eq_getD_getElem?, hs, hi] using hl, pre[i], by simp [hi], fun e he hb => ?_⟩
        have h1 := hac i hi
        rw [List.getElem?_eq_getElem hi] at h1
        simp only [Array.all_eq_true'] at h1
        have h2 : e.on < i := by simpa using h1 e he
        simpa using hmin e.on h2
      rw [h] at this; cases this
    · intro i hi
      cases hl : listed.getD i false with
      | true => rfl
      | false => exact absurd ⟨i, hi, hl⟩ hx
  have hpn : ∀ (listed : Array Bool) (d : Bool), listed.size = pre.length → (listed.push false).getD pre.length d = false := by
    intro listed d hs
    rw [← hs]
    simp
  have hnin : ∀ (listed : Array Bool), listed.size = pre.length → (∀ i, i < pre.length → listed.getD i false = true) → pre.length ∈ Region.ready .any (pre ++ [o]).toArray (listed.push false) := by
    intro listed hs h
    rw [mem_ready]
    exact ⟨hpn listed true hs, o, full_last, fun e he _ => by rw [push_getD _ _ _ (by have := hoa' e he; omega)]; exact h _ (hoa' e he)⟩
  have hsome : ∀ (listed : Array Bool), listed.size = pre.length → Region.ready .any (pre ++ [o]).toArray (listed.push false) ≠ [] := by
    intro listed hs h
    cases hr : Region.ready .any pre.toArray listed with
    | nil => have := hnin listed hs (hun listed hs hr); rw [h] at this; cases this
    | cons i rs =>
      have hi : i ∈ Region.ready .any pre.toArray listed := by rw [hr]; simp
      obtain ⟨-, q, hq, -⟩ := mem_ready.1 hi
      have hil : i < pre.length := by
        rcases Nat.lt_or_ge i pre.length with h | h
        · exact h
        · rw [show pre.toArray[i]? = none by simp; omega] at hq; cases hq
      have := (hready listed hs i hil).2 hi
      rw [h] at this; cases this
  have hdone : ∀ (listed : Array Bool), listed.size = pre.length → (∀ i, i < pre.length → listed.getD i false = true) → Region.ready .any (pre ++ [o]).toArray ((listed.push false).setIfInBounds pre.length true) = [] := by
    intro listed hs h
    cases hr : Region.ready .any (pre ++ [o]).toArray ((listed.push false).setIfInBounds pre.length true) with
    | nil => rfl
    | cons i rs =>
      have hi : i ∈ Region.ready .any (pre ++ [o]).toArray ((listed.push false).setIfInBounds pre.length true) := by rw [hr]; simp
      obtain ⟨h1, -⟩ := mem_ready.1 hi
      exfalso
      rcases Nat.lt_trichotomy i pre.length with h2 | h2 | h2
      · have h3 := h i h2
        rw [getD_set_ne true (by omega), push_getD _ _ _ (by omega)] at h1
        simp [Array.getD_eq_getD_getElem?, hs, h2] at h1 h3
        rw [h1] at h3; cases h3
      · subst h2
        simp [Array.getD_eq_getD_getElem?, hs] at h1
      · simp [Array.getD_eq_getD_getElem?, Array.getElem?_setIfInBounds, Array.getElem?_push, hs] at h1
        have e1 : ¬ pre.length = i := by omega
        have e2 : ¬ i = pre.length := by omega
        simp [e1, e2, show listed.size ≤ i by omega] at h1
  have hfin : ∀ (listed : Array Bool) (fuel : Nat) (a : Act) (w : World), listed.size = pre.length → (∀ i, i < pre.length → listed.getD i false = true) → withLast P o Q .normal a w → wpOp P (pre ++ [o]).toArray Q pre.length (wpAny P .any (pre ++ [o]).toArray Q fuel ((listed.push false).setIfInBounds pre.length true)) a w := by
    intro listed fuel a w hs hl h
    unfold wpOp
    rw [full_last]
    have hw : Region.wanted o (yielded (pre ++ [o]).toArray a.tmps) = true := by simp [Region.wanted, hg]
    simp only [hw, if_true]
    refine .inl (Oper.wp_mono (fun a' w' hq => ?_) h)
    have hr := hdone listed hs hl
    cases fuel with
    | zero => exact ⟨hr, hq⟩
    | succ f => exact ⟨fun _ => hq, by rw [hr]; simp⟩
  intro fuel
  induction fuel with
  | zero =>
    intro listed a w hs hcl h
    have hl := hun listed hs h.1
    refine ⟨fun h0 => absurd h0 (hsome listed hs), fun i hi => ?_⟩
    by_cases hin : i < pre.length
    · have := (hready listed hs i hin).1 hi
      rw [h.1] at this; cases this
    · obtain ⟨-, q, hq, -⟩ := mem_ready.1 hi
      have hie : i = pre.length := by
        rcases Nat.lt_or_ge pre.length i with h | h
        · rw [show (pre ++ [o]).toArray[i]? = none by simp; omega] at hq; cases hq
        · omega
      rw [hie]
      exact hfin listed 0 a w hs hl h.2
  | succ fuel ih =>
    intro listed a w hs hcl h
    refine ⟨fun h0 => absurd h0 (hsome listed hs), fun i hi => ?_⟩
    by_cases hin : i < pre.length
    · have hi' := (hready listed hs i hin).1 hi
      have h1 := h.2 i hi'
      have hset : (listed.push false).setIfInBounds i true = (listed.setIfInBounds i true).push false := by
        apply Array.ext_getElem?
        intro j
        rw [Array.getElem?_setIfInBounds, Array.getElem?_push, Array.getElem?_push, Array.getElem?_setIfInBounds]
        simp only [Array.size_push, Array.size_setIfInBounds]
        by_cases h1 : i = j
        · subst h1
          simp [hs, hin, Nat.ne_of_lt hin]
          omega
        · simp [h1]
      rw [hset]
      unfold wpOp at h1 ⊢
      rw [full_lt hin]
      split
      · rename_i hn; simp only [hn] at h1; exact ih _ a w (by simpa using hs) (hcl.set hi') h1
      · rename_i q hq
        simp only [hq] at h1
        have hw : Region.wanted q (yielded (pre ++ [o]).toArray a.tmps) = Region.wanted q (yielded pre.toArray a.tmps) := by
          have : yielded (pre ++ [o]).toArray a.tmps = yielded pre.toArray a.tmps := funext fun j => yielded_same hd a.tmps j
          rw [this]
        rw [hw]
        split
        · rename_i hw1
          simp only [hw1, if_true] at h1
          rcases h1 with h1 | ⟨h1, h2⟩
          · exact .inl (Oper.wp_mono (fun a' w' hk => ih _ a' w' (by simpa using hs) (hcl.set hi') hk) (post_up h1))
          · exact .inr ⟨h1, h2⟩
        · rename_i hw1
          simp only [hw1] at h1
          exact ih _ _ _ (by simpa using hs) (hcl.set hi') h1
    · obtain ⟨-, q, hq, -⟩ := mem_ready.1 hi
      have hie : i = pre.length := by
        rcases Nat.lt_or_ge pre.length i with h | h
        · rw [show (pre ++ [o]).toArray[i]? = none by simp; omega] at hq; cases hq
        · omega
      rw [hie] at hi ⊢
      have hl := hlast listed hs hcl hi
      exact hfin listed (fuel + 1) a w hs hl (h.1 (hfew listed hs hl))

/-- The region: all but the last in whatever order, then the last. -/
theorem wp_region_last {S : World → Prop} {id : Nat} {a : Act} {w : World} (hm : P.follows .mixedOrders = true) (hB : lastB pre o = true)
    (h : wpAnyH P .any pre.toArray (withLast P o Q) S pre.length (Array.replicate pre.length false) a w.drew) : (Code.region id (pre ++ [o]).toArray true).wp P Q a w := by
  refine wp_region_any hm ?_
  have h1 := wpAny_last hB _ _ _ _ (by simp) (Cl.none _ _) (wpAny_of_held _ _ _ _ h)
  have e1 : (pre ++ [o]).toArray.size = pre.length + 1 := by simp
  have e2 : Array.replicate (pre.length + 1) false = (Array.replicate pre.length false).push false := by rw [Array.replicate_succ]
  rw [e1, e2]
  exact h1

/-- The same over the whole's own array, the last one counted as come up. -/
theorem wpAny_full (hB : lastB pre o = true) : ∀ (fuel : Nat) (listed : Array Bool) (a : Act) (w : World), listed.size = pre.length →
    wpAny P .any (pre ++ [o]).toArray Q fuel (listed.push true) a w → wpAny P .any pre.toArray Q fuel listed a w := by
  unfold lastB at hB
  simp only [Bool.and_eq_true, Option.isNone_iff_eq_none, List.all_eq_true, List.mem_range] at hB
  obtain ⟨⟨⟨⟨hd, hg⟩, hall⟩, hac⟩, hoa⟩ := hB
  have hpush : ∀ (listed : Array Bool) (i : Nat) (d : Bool), i < listed.size → (listed.push true).getD i d = listed.getD i d := fun listed i d hi => by
    simp [Array.getD_eq_getD_getElem?, Array.getElem?_push, Nat.ne_of_lt hi]
  have hready : ∀ (listed : Array Bool), listed.size = pre.length → ∀ i, (i ∈ Region.ready .any (pre ++ [o]).toArray (listed.push true) ↔ i ∈ Region.ready .any pre.toArray listed) := by
    intro listed hs i
    rw [mem_ready, mem_ready]
    rcases Nat.lt_trichotomy i pre.length with hi | hi | hi
    · have hlow : ∀ q, pre.toArray[i]? = some q → ∀ e ∈ q.after, e.on < i := fun q hq e he => by
        have := hac i hi
        rw [show pre[i]? = some q by simpa using hq] at this
        simp only [Array.all_eq_true'] at this
        simpa using this e he
      rw [full_lt hi, hpush _ _ _ (by omega)]
      constructor
      · rintro ⟨h1, q, hq, h2⟩
        exact ⟨h1, q, hq, fun e he hb => (hpush _ _ _ (by have := hlow q hq e he; omega)).symm.trans (h2 e he hb)⟩
      · rintro ⟨h1, q, hq, h2⟩
        exact ⟨h1, q, hq, fun e he hb => (hpush _ _ _ (by have := hlow q hq e he; omega)).trans (h2 e he hb)⟩
    · subst hi
      constructor
      · rintro ⟨h1, -⟩
        rw [← hs] at h1
        simp at h1
      · rintro ⟨-, q, hq, -⟩
        rw [show pre.toArray[pre.length]? = none by simp] at hq; cases hq
    · constructor
      · rintro ⟨-, q, hq, -⟩
        rw [show (pre ++ [o]).toArray[i]? = none by simp; omega] at hq; cases hq
      · rintro ⟨-, q, hq, -⟩
        rw [show pre.toArray[i]? = none by simp; omega] at hq; cases hq
  have hnone : ∀ (listed : Array Bool), listed.size = pre.length → Region.ready .any (pre ++ [o]).toArray (listed.push true) = [] → Region.ready .any pre.toArray listed = [] := by
    intro listed hs h
    cases hr : Region.ready .any pre.toArray listed with
    | nil => rfl
    | cons i rs =>
      have : i ∈ Region.ready .any pre.toArray listed := by rw [hr]; simp
      have := (hready listed hs i).2 this
      rw [h] at this; cases this
  have hnone2 : ∀ (listed : Array Bool), listed.size = pre.length → Region.ready .any pre.toArray listed = [] → Region.ready .any (pre ++ [o]).toArray (listed.push true) = [] := by
    intro listed hs h
    cases hr : Region.ready .any (pre ++ [o]).toArray (listed.push true) with
    | nil => rfl
    | cons i rs =>
      have : i ∈ Region.ready .any (pre ++ [o]).toArray (listed.push true) := by rw [hr]; simp
      have := (hready listed hs i).1 this
      rw [h] at this; cases this
  intro fuel
  induction fuel with
  | zero => intro listed a w hs h; exact ⟨hnone listed hs h.1, h.2⟩
  | succ fuel ih =>
    intro listed a w hs h
    refine ⟨fun h0 => h.1 (hnone2 listed hs h0), fun i hi => ?_⟩
    have h1 := h.2 i ((hready listed hs i).2 hi)
    have hin : i < pre.length := by
      obtain ⟨-, q, hq, -⟩ := mem_ready.1 hi
      rcases Nat.lt_or_ge i pre.length with h | h
      · exact h
      · rw [show pre.toArray[i]? = none by simp; omega] at hq; cases hq
    have hset : (listed.push true).setIfInBounds i true = (listed.setIfInBounds i true).push true := by
      apply Array.ext_getElem?
      intro j
      rw [Array.getElem?_setIfInBounds, Array.getElem?_push, Array.getElem?_push, Array.getElem?_setIfInBounds]
      simp only [Array.size_push, Array.size_setIfInBounds]
      by_cases h1 : i = j
      · subst h1
        simp [hs, hin, Nat.ne_of_lt hin]
        omega
      · simp [h1]
    rw [hset] at h1
    unfold wpOp at h1 ⊢
    rw [full_lt hin] at h1
    split
    · rename_i hn; simp only [hn] at h1; exact ih _ a w (by simpa using hs) h1
    · rename_i q hq
      simp only [hq] at h1
      have hw : Region.wanted q (yielded (pre ++ [o]).toArray a.tmps) = Region.wanted q (yielded pre.toArray a.tmps) := by
        have : yielded (pre ++ [o]).toArray a.tmps = yielded pre.toArray a.tmps := funext fun j => yielded_same hd a.tmps j
        rw [this]
      rw [hw] at h1
      split
      · rename_i hw1
        simp only [hw1, if_true] at h1
        rcases h1 with h1 | ⟨h1, h2⟩
        · exact .inl (Oper.wp_mono (fun a' w' hk => ih _ a' w' (by simpa using hs) hk) h1)
        · exact .inr ⟨h1, h2⟩
      · rename_i hw1
        simp only [hw1] at h1
        exact ih _ _ _ (by simpa using hs) h1

theorem wp_region_last_of {S : World → Prop} {id : Nat} {a : Act} {w : World} {l : List Oper} (n : Nat) (hm : P.follows .mixedOrders = true) (ho : l[n]? = some o) (hn : l.length = n + 1) (hB : lastB (l.take n) o = true)
    (h : wpAnyH P .any l.toArray (withLast P o Q) S n ((Array.replicate n false).push true) a w.drew) : (Code.region id l.toArray true).wp P Q a w := by
  have e : l = l.take n ++ [o] := by
    have h1 : n < l.length := by omega
    rw [List.getElem?_eq_getElem h1] at ho
    cases ho
    have h2 : l.take (n + 1) = l.take n ++ [l[n]] := List.take_succ_eq_append_getElem h1
    rw [← h2, List.take_of_length_le (by omega)]
  have el : (l.take n).length = n := by rw [List.length_take]; omega
  refine wp_region_any hm ?_
  have h1 := wpAny_of_held _ _ _ _ h
  have h3 : wpAny P .any (l.take n).toArray (withLast P o Q) n (Array.replicate n false) a w.drew := by
    refine wpAny_full hB _ _ _ _ (by rw [el]; simp) ?_
    rw [← e]; exact h1
  have h4 := wpAny_last hB _ _ _ _ (by rw [el]; simp) (Cl.none _ _) h3
  rw [← e] at h4
  have e1 : l.toArray.size = n + 1 := by simp [hn]
  have e2 : Array.replicate (n + 1) false = (Array.replicate n false).push false := by rw [Array.replicate_succ]
  rw [e1, e2]
  exact h4
/-- A step of the walk through a region that stands as a list: taken first (wanted, or not), or alone in coming up. -/
theorem takeL {md : Region.Mode} {S : World → Prop} {l : List Oper} {oi : Oper} {v : Value} {fuel : Nat} {listed : Array Bool} {a : Act} {w : World} (i : Nat) (hi : l[i]? = some oi)
    (hs : Region.noSelect l.toArray = true) (hf : Region.free md l.toArray listed i = true) (hr : (Region.ready md l.toArray listed).contains i = true)
    (hQ : ∀ c a w, Q (.panic c) (a.put oi.dst v) w → Q (.panic c) a w) (hw : Region.wanted oi (yielded l.toArray a.tmps) = true) (hy : ∀ w, S w → (execOp a.eval oi).run P w = .ok (.value v) w) (hS : S w)
    (h : wpAnyH P md l.toArray Q S fuel (listed.setIfInBounds i true) (a.put oi.dst v) w) : wpAnyH P md l.toArray Q S (fuel + 1) listed a w :=
  wpAnyH_take (by simpa using hi) hs hf hr hQ (Or.inl ⟨hw, hy⟩) hS h

theorem takeYL {md : Region.Mode} {S : World → Prop} {l : List Oper} {oi : Oper} {v : Value} {fuel : Nat} {listed : Array Bool} {a : Act} {w : World} (i : Nat) (hi : l[i]? = some oi)
    (hs : Region.noSelect l.toArray = true) (hf : Region.free md l.toArray listed i = true) (hr : (Region.ready md l.toArray listed).contains i = true)
    (hQ : ∀ c a w, Q (.panic c) (a.put oi.dst v) w → Q (.panic c) a w) (hy : YieldsIf P l.toArray S oi v a) (hS : S w)
    (h : wpAnyH P md l.toArray Q S fuel (listed.setIfInBounds i true) (a.put oi.dst v) w) : wpAnyH P md l.toArray Q S (fuel + 1) listed a w :=
  wpAnyH_take (by simpa using hi) hs hf hr hQ hy hS h

theorem passL {md : Region.Mode} {S : World → Prop} {l : List Oper} {oi : Oper} {fuel : Nat} {listed : Array Bool} {a : Act} {w : World} (i : Nat) (hi : l[i]? = some oi)
    (hs : Region.noSelect l.toArray = true) (hf : Region.free md l.toArray listed i = true) (hr : (Region.ready md l.toArray listed).contains i = true)
    (hQ : ∀ c a w, Q (.panic c) (a.put oi.dst undef) w → Q (.panic c) a w) (hw : Region.wanted oi (yielded l.toArray a.tmps) = false) (hS : S w)
    (h : wpAnyH P md l.toArray Q S fuel (listed.setIfInBounds i true) (a.put oi.dst undef) w) : wpAnyH P md l.toArray Q S (fuel + 1) listed a w :=
  wpAnyH_take (by simpa using hi) hs hf hr hQ (Or.inr ⟨hw, rfl⟩) hS h

theorem stepL {md : Region.Mode} {S : World → Prop} {l : List Oper} {o : Oper} {fuel : Nat} {listed : Array Bool} {a : Act} {w : World} (i : Nat) (hi : l[i]? = some o) (hr : Region.ready md l.toArray listed = [i])
    (h : ∀ K' : Act → World → Prop, Shut (∀ a w, S w → (S w → wpAnyH P md l.toArray Q S fuel (listed.setIfInBounds i true) a w) → K' a w) → if Region.wanted o (yielded l.toArray a.tmps) = true then Oper.wp P o a w K' Q else K' (a.put o.dst undef) w) :
    wpAnyH P md l.toArray Q S (fuel + 1) listed a w :=
  wpAnyH_ready hr (by simp) (AllReadyH.cons (by simpa using hi) h AllReadyH.nil)
end

end Go.Proofs.YtlhefifejcoecaaGreatDoor
