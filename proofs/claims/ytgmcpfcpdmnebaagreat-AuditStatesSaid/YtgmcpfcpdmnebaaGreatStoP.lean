/- A store's plain law: what keys have is what their chains have last. -/
import Derived.Test.YtgmcpfcpdmnebaaGreatStoC
import Derived.Test.YtgmcpfcpdmnebaaGreatSerP
namespace Go.Proofs.YtgmcpfcpdmnebaaGreat
open Go.RowKit Go.Proofs Go.Shelf

/-- What put makes of a store in order. -/
theorem putS_split {S : List KeyS} (hs : S.Pairwise fun a b => ltB a.name b.name = true) (key : ByteArray) (x : Ver) :
    ∃ A B, (∀ a ∈ A, ltB a.name key = true) ∧ (∀ b ∈ B, ltB key b.name = true) ∧
      ((S = A ++ B ∧ putS S key x = A ++ ⟨key, [x]⟩ :: B) ∨ ∃ y, S = A ++ y :: B ∧ y.name = key ∧ putS S key x = A ++ ⟨key, y.vers ++ [x]⟩ :: B) := by
  obtain ⟨h1, h2, -, h4⟩ := put_mid (S := S) (key := key) rfl
  have hle := posS_le S key
  have hA : ∀ a ∈ S.take (posS S key), ltB a.name key = true := by
    intro a ha
    obtain ⟨j, hj, rfl⟩ := List.getElem_of_mem ha
    rw [List.length_take] at hj
    rw [List.getElem_take]
    exact posS_below (by omega) (by omega)
  have hp := List.pairwise_iff_getElem.1 hs
  cases hh : hasS S key with
  | true =>
    have e := h4 x
    simp only [hh, if_true] at h1 h2 e
    refine ⟨S.take (posS S key), S.drop (posS S key + 1), hA, ?_, .inr ⟨S[posS S key], ?_, h2, ?_⟩⟩
    · intro b hb
      obtain ⟨j, hj, rfl⟩ := List.getElem_of_mem hb
      rw [List.length_drop] at hj
      rw [List.getElem_drop]
      have := hp (posS S key) (posS S key + 1 + j) h1 (by omega) (by omega)
      rw [h2] at this; exact this
    · rw [← List.drop_eq_getElem_cons h1, List.take_append_drop]
    · rw [e, List.set_eq_take_append_cons_drop, if_pos h1]
  | false =>
    have e := h4 x
    simp only [hh, Bool.false_eq_true, if_false] at h1 h2 e
    refine ⟨S.take (posS S key), S.drop (posS S key), hA, ?_, .inl ⟨(List.take_append_drop _ _).symm, ?_⟩⟩
    · intro b hb
      obtain ⟨j, hj, rfl⟩ := List.getElem_of_mem hb
      rw [List.length_drop] at hj
      rw [List.getElem_drop]
      have hk : posS S key < S.length := by omega
      have hstop := posS_stop hk
      have hne : S[posS S key].name ≠ key := by
        intro e2
        unfold hasS at hh
        rw [dif_pos hk, decide_eq_false_iff_not] at hh
        exact hh e2
      have hlt : ltB key S[posS S key].name = true := by
        cases h : ltB key S[posS S key].name with
        | true => rfl
        | false => exact absurd (eqB_eq.1 (ltB_antisymm hstop h)) hne
      cases j with
      | zero => simpa using hlt
      | succ j => exact ltB_trans hlt (hp (posS S key) (posS S key + (j + 1)) hk (by omega) (by omega))
    · obtain ⟨h5, h6⟩ := insS_get (key := key) hle
      rw [e]
      have e3 : (insS S (posS S key) key)[posS S key].vers = [] := by rw [h6]
      rw [e3, List.nil_append]
      unfold insS
      have el : (S.take (posS S key)).length = posS S key := by rw [List.length_take]; omega
      rw [List.set_append_right _ _ (by omega), el, Nat.sub_self]; rfl

structure SInv (S : List KeyS) (f : St) (at_ N : Nat) : Prop where
  sorted : S.Pairwise fun a b => ltB a.name b.name = true
  each : ∀ x ∈ S, x.vers ≠ [] ∧ GoodV x.vers ∧ lastP x.vers ≤ at_ ∧ x.vers.length ≤ N
  few : S.length ≤ N
  look : ∀ x ∈ S, ∀ v, x.vers.getLast? = some v → f x.name = if v.dead then none else some v.val
  other : ∀ key, (∀ x ∈ S, x.name ≠ key) → f key = none

theorem SInv.none : SInv [] (fun _ => .none) 0 0 := ⟨List.Pairwise.nil, by simp, by simp, by simp, fun _ _ => rfl⟩

theorem SInv.later {S : List KeyS} {f : St} {at_ at' N N' : Nat} (h : SInv S f at_ N) (h1 : at_ ≤ at') (h2 : N ≤ N') : SInv S f at' N' :=
  ⟨h.sorted, fun x hx => by obtain ⟨a, b, c, d⟩ := h.each x hx; exact ⟨a, b, by omega, by omega⟩, Nat.le_trans h.few h2, h.look, h.other⟩

theorem lastP_snoc (l : List Ver) (x : Ver) : lastP (l ++ [x]) = x.pl := by unfold lastP; rw [List.getLast?_concat]

theorem GoodV.snoc {l : List Ver} {x : Ver} (h : GoodV l) (h1 : lastP l < x.pl) (h2 : x.dead = true → x.val.toList = []) : GoodV (l ++ [x]) := by
  intro j hj
  rw [List.length_append] at hj
  by_cases hjl : j < l.length
  · rw [List.getElem_append_left hjl, List.take_append_of_le_length (by omega)]
    exact h j hjl
  · have hje : j = l.length := by simp at hj; omega
    subst hje
    rw [List.getElem_append_right (Nat.le_refl _), List.take_left]
    simp only [Nat.sub_self, List.getElem_cons_zero]
    exact ⟨h1, h2⟩

theorem stepP_eq (f : St) (p : Pair) : stepP f p p.key = if p.dead then none else some p.val := by unfold stepP; rw [if_pos rfl]

theorem ltB_ne {a b : ByteArray} (h : ltB a b = true) : a ≠ b := by rintro rfl; rw [ltB_irrefl] at h; cases h

theorem putS_inv {S : List KeyS} {f : St} {at_ N : Nat} (h : SInv S f at_ N) (p : Pair) (hl : ∀ x ∈ S, x.name = p.key → lastP x.vers < at_) (hat0 : 0 < at_) (hd : p.dead = true → p.val.toList = []) :
    SInv (putS S p.key ⟨at_, p.val, p.dead⟩) (stepP f p) at_ (N + 1) ∧ ∀ x ∈ putS S p.key ⟨at_, p.val, p.dead⟩, x.name ≠ p.key → x ∈ S := by
  obtain ⟨A, B, hA, hB, hcase⟩ := putS_split h.sorted p.key ⟨at_, p.val, p.dead⟩
  have key : ∀ (vs : List Ver), (∀ a ∈ A, a ∈ S) → (∀ b ∈ B, b ∈ S) → A.length + B.length ≤ N → (A.Pairwise fun a b => ltB a.name b.name = true) → (B.Pairwise fun a b => ltB a.name b.name = true) →
      (∀ x ∈ S, x.name ≠ p.key → x ∈ A ∨ x ∈ B) → GoodV vs → lastP vs < at_ → vs.length ≤ N → SInv (A ++ ⟨p.key, vs ++ [⟨at_, p.val, p.dead⟩]⟩ :: B) (stepP f p) at_ (N + 1) := by
    intro vs hAS hBS hlen pA pB hmem hg hlp hvl
    refine ⟨?_, ?_, ?_, ?_, ?_⟩
    · rw [List.pairwise_append]
      refine ⟨pA, List.pairwise_cons.2 ⟨hB, pB⟩, fun a ha b hb => ?_⟩
      rcases List.mem_cons.1 hb with rfl | hb
      · exact hA a ha
      · exact ltB_trans (hA a ha) (hB b hb)
    · intro x hx
      rcases List.mem_append.1 hx with hx | hx
      · obtain ⟨a, b, c, d⟩ := h.each x (hAS x hx); exact ⟨a, b, c, by omega⟩
      · rcases List.mem_cons.1 hx with rfl | hx
        · exact ⟨by simp, hg.snoc hlp hd, by rw [lastP_snoc]; exact Nat.le_refl _, by simp; omega⟩
        · obtain ⟨a, b, c, d⟩ := h.each x (hBS x hx); exact ⟨a, b, c, by omega⟩
    · simp; omega
    · intro x hx v hv
      rcases List.mem_append.1 hx with hx | hx
      · rw [stepP_ne (ltB_ne (hA x hx))]; exact h.look x (hAS x hx) v hv
      · rcases List.mem_cons.1 hx with rfl | hx
        · rw [List.getLast?_concat] at hv
          cases hv
          exact stepP_eq f p
        · rw [stepP_ne (Ne.symm (ltB_ne (hB x hx)))]; exact h.look x (hBS x hx) v hv
    · intro k hk
      have hne : k ≠ p.key := fun e => hk ⟨p.key, vs ++ [⟨at_, p.val, p.dead⟩]⟩ (by simp) e.symm
      rw [stepP_ne hne]
      refine h.other k fun x hx e => ?_
      rcases hmem x hx (by rw [e]; exact hne) with hx | hx
      · exact hk x (by simp [hx]) e
      · exact hk x (by simp [hx]) e
  rcases hcase with ⟨e, e2⟩ | ⟨y, e, hy, e2⟩
  · have hs := h.sorted
    rw [e, List.pairwise_append] at hs
    rw [e2]
    have hf := h.few
    rw [e, List.length_append] at hf
    refine ⟨by simpa using key [] (fun a ha => by rw [e]; simp [ha]) (fun b hb => by rw [e]; simp [hb]) hf hs.1 hs.2.1 (fun x hx _ => by rw [e] at hx; simpa using hx) (fun j hj => by simp at hj) (by simpa [lastP] using hat0) (by simp), ?_⟩
    intro x hx hne
    rcases List.mem_append.1 hx with hx | hx
    · rw [e]; simp [hx]
    · rcases List.mem_cons.1 hx with rfl | hx
      · exact absurd rfl hne
      · rw [e]; simp [hx]
  · have hs := h.sorted
    rw [e, List.pairwise_append, List.pairwise_cons] at hs
    rw [e2]
    have hf := h.few
    rw [e, List.length_append, List.length_cons] at hf
    have hyS : y ∈ S := by rw [e]; simp
    obtain ⟨-, y2, y3, y4⟩ := h.each y hyS
    refine ⟨key y.vers (fun a ha => by rw [e]; simp [ha]) (fun b hb => by rw [e]; simp [hb]) (by omega) hs.1 hs.2.1.2 (fun x hx hne => ?_) y2 (hl y hyS hy) y4, ?_⟩
    · rw [e] at hx
      rcases List.mem_append.1 hx with hx | hx
      · exact .inl hx
      · rcases List.mem_cons.1 hx with rfl | hx
        · exact absurd hy hne
        · exact .inr hx
    · intro x hx hne
      rcases List.mem_append.1 hx with hx | hx
      · rw [e]; simp [hx]
      · rcases List.mem_cons.1 hx with rfl | hx
        · exact absurd rfl hne
        · rw [e]; simp [hx]

/-- A record's writes, one behind another. -/
def putL (S : List KeyS) (ps : List Pair) (at_ : Nat) : List KeyS := ps.foldl (fun S p => putS S p.key ⟨at_, p.val, p.dead⟩) S

theorem putL_snoc (S : List KeyS) (ps : List Pair) (at_ k : Nat) (hk : k < ps.length) : putL S (ps.take (k + 1)) at_ = putS (putL S (ps.take k) at_) ps[k].key ⟨at_, ps[k].val, ps[k].dead⟩ := by
  unfold putL
  rw [List.take_succ_eq_append_getElem hk, List.foldl_append]; rfl

theorem adj_pairwise : ∀ {l : List Pair}, adj (fun a b => ltB a.key b.key) l = true → l.Pairwise fun a b => ltB a.key b.key = true
  | [], _ => List.Pairwise.nil
  | [x], _ => by simp
  | x :: y :: r, h => by
    unfold adj at h
    simp only [Bool.and_eq_true] at h
    have ih := adj_pairwise h.2
    refine List.pairwise_cons.2 ⟨fun z hz => ?_, ih⟩
    rcases List.mem_cons.1 hz with rfl | hz
    · exact h.1
    · exact ltB_trans h.1 ((List.pairwise_cons.1 ih).1 z hz)

theorem goodS_dead {l : List Pair} (h : goodS l = true) : ∀ p ∈ l, p.dead = true → p.val.toList = [] := by
  intro p hp hd
  unfold goodS at h
  simp only [Bool.and_eq_true] at h
  have := List.all_eq_true.1 h.1 p hp
  unfold goodPairS emp at this
  simp [hd] at this
  simpa using this.2

/-- In the middle of a record. -/
theorem putL_inv {S : List KeyS} {f : St} {at_ N : Nat} (h : SInv S f at_ N) (ps : List Pair) (hg : goodS ps = true) (hat : 0 < at_) : ∀ k, k ≤ ps.length → (∀ x ∈ S, lastP x.vers < at_) →
    SInv (putL S (ps.take k) at_) ((ps.take k).foldl stepP f) at_ (N + k) ∧ ∀ j, (hj : j < ps.length) → k ≤ j → ∀ x ∈ putL S (ps.take k) at_, x.name = ps[j].key → lastP x.vers < at_
  | 0, _, hl => ⟨h, fun j _ _ x hx _ => hl x hx⟩
  | k + 1, hk, hl => by
    obtain ⟨ih1, ih2⟩ := putL_inv h ps hg hat k (by omega) hl
    have hlt : k < ps.length := by omega
    obtain ⟨s1, s2⟩ := putS_inv ih1 ps[k] (ih2 k hlt (Nat.le_refl _)) hat (goodS_dead hg _ (List.getElem_mem hlt))
    have hp : ps.Pairwise fun a b => ltB a.key b.key = true := adj_pairwise (by unfold goodS at hg; simp only [Bool.and_eq_true] at hg; exact hg.2)
    refine ⟨?_, fun j hj hkj x hx hn => ?_⟩
    · rw [putL_snoc S ps at_ k hlt, List.take_succ_eq_append_getElem hlt, List.foldl_append]
      exact s1
    · rw [putL_snoc S ps at_ k hlt] at hx
      have hne : ps[k].key ≠ ps[j].key := ltB_ne (List.pairwise_iff_getElem.1 hp k j hlt hj (by omega))
      exact ih2 j hj (by omega) x (s2 x hx (by rw [hn]; exact Ne.symm hne)) hn

/-- All records. -/
def stoS (l : List Rec) : List KeyS := (l.zipIdx.foldl (fun S r => putL S r.1.writes (r.2 + 1)) [])

theorem stoS_snoc (l : List Rec) (k : Nat) (hk : k < l.length) : stoS (l.take (k + 1)) = putL (stoS (l.take k)) l[k].writes (k + 1) := by
  unfold stoS
  rw [List.take_succ_eq_append_getElem hk, List.zipIdx_append, List.foldl_append]
  have : (l.take k).length = k := by rw [List.length_take]; omega
  simp [this]

theorem stoS_inv (l : List Rec) (hok : behindOK l = true) : ∀ k, k ≤ l.length → SInv (stoS (l.take k)) (stateS (l.take k)) k (writesN (l.take k))
  | 0, _ => by simpa [stoS, stateS, writesN] using SInv.none
  | k + 1, hk => by
    have hlt : k < l.length := by omega
    have ih := stoS_inv l hok k (by omega)
    rw [stoS_snoc l k hlt, stateS_snoc l k hlt, writesN_snoc l k hlt]
    have hg : goodS l[k].writes = true := List.all_eq_true.1 hok _ (List.getElem_mem hlt)
    have := (putL_inv (ih.later (Nat.le_succ k) (Nat.le_refl _)) l[k].writes hg (Nat.succ_pos _) l[k].writes.length (Nat.le_refl _) (fun x hx => by have := (ih.each x hx).2.2.1; omega)).1
    rw [List.take_length] at this
    exact this

/-- What State hands back. -/
def outK (x : KeyS) : Option Pair := match x.vers.getLast? with | some v => if v.dead then none else some ⟨x.name, v.val, false⟩ | none => none
def outS (S : List KeyS) : List Pair := S.filterMap outK

theorem outK_key {x : KeyS} {y : Pair} (h : outK x = some y) : y.key = x.name ∧ y.dead = false ∧ ∃ v, x.vers.getLast? = some v ∧ v.dead = false ∧ y.val = v.val := by
  unfold outK at h
  cases hv : x.vers.getLast? with
  | none => rw [hv] at h; cases h
  | some v =>
    rw [hv] at h
    cases hd : v.dead with
    | true => simp [hd] at h
    | false =>
      simp only [hd, Bool.false_eq_true, if_false, Option.some.injEq] at h
      subst h
      exact ⟨rfl, rfl, v, rfl, hd, rfl⟩

theorem outS_pairs {S : List KeyS} {f : St} {at_ N : Nat} (h : SInv S f at_ N) : IsPairs f (fun _ => true) (outS S) := by
  have hp : (outS S).Pairwise fun a b => ltB a.key b.key = true := by
    unfold outS
    refine List.Pairwise.filterMap outK (fun a a' haa b hb b' hb' => ?_) h.sorted
    rw [(outK_key hb).1, (outK_key hb').1]; exact haa
  refine ⟨fun x => ?_, fun i j hij hj hi => ?_, ?_⟩
  · unfold outS
    rw [List.mem_filterMap]
    constructor
    · rintro ⟨a, ha, hx⟩
      obtain ⟨h1, h2, v, h3, h4, h5⟩ := outK_key hx
      refine ⟨h2, ?_, rfl⟩
      rw [h1, h.look a ha v h3, h4, h5]; rfl
    · rintro ⟨h1, h2, -⟩
      by_cases hx : ∃ a ∈ S, a.name = x.key
      · obtain ⟨a, ha, hn⟩ := hx
        refine ⟨a, ha, ?_⟩
        have hne := (h.each a ha).1
        obtain ⟨v, hv⟩ : ∃ v, a.vers.getLast? = some v := by
          cases hv : a.vers.getLast? with
          | none => exact absurd (List.getLast?_eq_none_iff.1 hv) hne
          | some v => exact ⟨v, rfl⟩
        have h3 := h.look a ha v hv
        rw [hn, h2] at h3
        unfold outK
        rw [hv]
        cases hd : v.dead with
        | true => rw [hd] at h3; cases h3
        | false =>
          rw [hd] at h3
          simp only [Bool.false_eq_true, if_false, Option.some.injEq] at h3 ⊢
          obtain ⟨xk, xv, xd⟩ := x
          dsimp only at *
          rw [hn, ← h3, h1]
          simp [hd]
      · have := h.other x.key fun a ha e => hx ⟨a, ha, e⟩
        rw [this] at h2; cases h2
  · exact ltB_asymm (List.pairwise_iff_getElem.1 hp i j hi hj hij)
  · rw [List.nodup_iff_pairwise_ne, List.pairwise_map]
    exact hp.imp fun h => ltB_ne h

end Go.Proofs.YtgmcpfcpdmnebaaGreat
