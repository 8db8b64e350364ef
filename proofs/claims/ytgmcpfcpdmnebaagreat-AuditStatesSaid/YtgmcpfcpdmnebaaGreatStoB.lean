/- The reference of layer 8: a store, key by key. -/
import Derived.Test.YtgmcpfcpdmnebaaGreatStoA
import Derived.Outline
namespace Go.Proofs.YtgmcpfcpdmnebaaGreat
open Go.RowKit Go.Proofs Go.Shelf

/-- append to a slice without spare places: a new row. -/
theorem run_app_new {P : Program} (w : World) (base : Nat) (t tx ty e : TypeId) (size bytes : Nat) (hI : Elt P e size bytes) (ht : P.underlying t = some (.slice e))
    (a : Option Addr) (n : Nat) (xs : List Value) (hxl : xs.length = n * size) (hold : (Builtin.firstCells size n (.slice a n n)).run P w.drew = .ok xs.toArray w.drew) (x : Value) (m : Nat) (news : List Value) (hs : Src P size tx x m news w)
    (h63 : n + m ≤ maxLen) (hbytes : (n + m) * bytes ≤ 140737488355328) (hbase : base ≤ w.heap.size) (hm : 0 < m) :
    ∃ v' w', (Builtin.append_ #[t, tx] ty #[.slice a n n, x]).run P w = .ok v' w' ∧ w'.ownsRow base e size v' (n + m) (xs ++ news) ∧ w.grownBy w' none ∧ v'.ownBlock = some w.heap.size := by
  obtain ⟨⟨i, z, hi, hz, rfl, rfl, hzs⟩, hpos⟩ := hI
  have hsmall : n + m ≤ 9223372036854775807 := by simp only [maxLen] at h63; omega
  have hlen : (xs ++ news).length = (n + m) * i.size := by rw [List.length_append, hxl, hs.newsLen, Nat.add_mul]
  have hr := run_append_grow_src (P := P) w t tx ty e i z ht hi hz a n n xs hold x m news hs (by omega) (by omega) (growslice_fits (by omega) (by simpa using hbytes))
  have hge := grownCap_ge w (n + m) n e
  have hcm : grownCap w (n + m) n e ≤ maxLen := grownCap_le_maxLen w (n + m) n e h63
  refine ⟨_, _, hr, ⟨hlen, .inr ⟨w.heap.size, _, _, rfl, hbase, heap_alloc_new w.drew _, hge, hcm, ?_, ?_⟩⟩, ⟨rfl, rfl, rfl, by simp, fun k hk _ => Below.heap_alloc w.drew _ k hk⟩, rfl⟩
  · rw [Array.size_append, List.size_toArray, size_zeroCells, hzs, hlen, ← Nat.add_mul]
    congr 1
    omega
  · simp only [Array.toList_append]
    rw [← hlen]
    exact List.take_left

theorem step_app_new {P : Program} {w : World} {ops : Array Oper} {o : Oper} {a : Act} {K : Act → World → Prop} {E : Prop} (hgd : o.guard = none) (s x : Operand) (t tx : TypeId)
    (ho : o.op = .call { callee := .builtin .append, args := #[s, x], argTypes := #[t, tx] })
    (base : Nat) (e : TypeId) (size bytes : Nat) (hI : Elt P e size bytes) (ht : P.underlying t = some (.slice e))
    {xv : Value} (b : Option Addr) (n : Nat) (xs : List Value) (hxl : xs.length = n * size) (hs : a.eval s = .slice b n n) (hold : (Builtin.firstCells size n (.slice b n n)).run P w.drew = .ok xs.toArray w.drew) (hx : a.eval x = xv) (m : Nat) (news : List Value) (hsrc : Src P size tx xv m news w)
    (h63 : n + m ≤ maxLen) (hbytes : (n + m) * bytes ≤ 140737488355328) (hbase : base ≤ w.heap.size) (hm : 0 < m) {Q : Exit → Act → World → Prop}
    (h : ∀ v' w', w'.ownsRow base e size v' (n + m) (xs ++ news) → w.grownBy w' none → v'.ownBlock = some w.heap.size → K (a.put o.dst v') w') :
    if Region.wanted o (yielded ops a.tmps) = true then Oper.wp P o a w K Q else E := by
  have hw : Region.wanted o (yielded ops a.tmps) = true := by simp [Region.wanted, hgd]
  rw [if_pos hw]
  obtain ⟨v', w', hr, h2, h3, h4⟩ := run_app_new (P := P) w base t tx o.type e size bytes hI ht b n xs hxl hold xv m news hsrc h63 hbytes hbase hm
  unfold Oper.wp execOp
  simp only [ho, resolve, invoke, builtin, Sem.run_bind, Sem.run_pure, Result.andThen_ok, List.map_toArray, List.map_cons, List.map_nil, hs, hx, hr]
  exact h v' w' h2 h3 h4

structure KeyS where
  name : ByteArray
  vers : List Ver

theorem keyElt : Elt Tryz.prog 63 2 40 := by
  have h : (Tryz.prog.info? 63).map (fun i => (i.zero, i.size, i.bytes)) = some (some (.agg #[.string ⟨#[]⟩, .slice none 0 0]), 2, 40) := by kernel_rfl
  obtain ⟨i0, hi, hz0, hz1, hz2⟩ := info_parts h
  exact ⟨⟨i0, _, hi, hz0, hz1, hz2, rfl⟩, by decide⟩

/-- A chain's own row. -/
structure ChainAt (w : World) (base : Nat) (cv : Value) (l : List Ver) : Prop where
  own : OwnR w base 65 3 cv (l.map verCells)
  small : l.length ≤ 100000 ∧ ∀ x ∈ l, x.pl ≤ 100000 ∧ x.val.size ≤ 9223372036854775807

/-- A store, as it lies. -/
structure StoAt (w : World) (base b : Nat) (S : List KeyS) (n : Nat) (Lv : Value) (css : List (List Value)) : Prop where
  block : w.heap[b]? = some (.cells #[Lv, .int .i64 n, .int .i64 0] 59 (0, 0))
  above : base ≤ b
  own : OwnR w base 63 2 Lv css
  len : css.length = S.length
  few : S.length ≤ 100000
  each : ∀ j (h1 : j < css.length) (h2 : j < S.length), ∃ cv, css[j] = [.string S[j].name, cv] ∧ S[j].name.size ≤ 9223372036854775807 ∧ ChainAt w base cv S[j].vers

def StoP (w : World) (base b : Nat) (S : List KeyS) (n : Nat) : Prop := ∃ Lv css, StoAt w base b S n Lv css

theorem ChainAt.slp {w : World} {base : Nat} {cv : Value} {l : List Ver} (h : ChainAt w base cv l) : SlP 3 VerE w cv l :=
  h.own.slp (by simp) (by have := h.small.1; omega) fun j h1 h2 => by
    rw [List.getElem_map]
    exact ⟨rfl, h.small.2 _ (List.getElem_mem h2)⟩

theorem OwnR.ne_block {w : World} {base : Nat} {T T' : TypeId} {k b : Nat} {v : Value} {css : List (List Value)} {cs : Array Value} {fr : Nat × Nat} (h : OwnR w base T k v css) (hb : w.heap[b]? = some (.cells cs T' fr)) (hT : T ≠ T') : v.ownBlock ≠ some b := by
  rcases h.row.2 with ⟨rfl, hn⟩ | ⟨g, cap, cur, rfl, hbg, hg, _⟩
  · simp [Value.ownBlock]
  · intro e
    simp only [Value.ownBlock, Option.some.injEq] at e
    subst e
    rw [hg] at hb
    cases hb
    exact hT rfl

theorem OwnR.setOther {w : World} {base : Nat} {T : TypeId} {k : Nat} {v : Value} {css : List (List Value)} (h : OwnR w base T k v css) {a : Addr} (hne : v.ownBlock ≠ some a.block) (u : Value) : OwnR (w.setCell a u) base T k v css := by
  refine h.kept (row := some a.block) ⟨rfl, rfl, rfl, by simp, fun j _ hj => Below.heap_setCell _ _ _ _ (fun e => hj (by rw [e]))⟩ (.inr hne)

theorem StoAt.lt {w : World} {base b n : Nat} {S : List KeyS} {Lv : Value} {css : List (List Value)} (h : StoAt w base b S n Lv css) : b < w.heap.size := by
  rcases Nat.lt_or_ge b w.heap.size with h1 | h1
  · exact h1
  · have := h.block; rw [Array.getElem?_eq_none h1] at this; cases this

theorem ChainAt.below {w w' : World} {base : Nat} {cv : Value} {l : List Ver} (h : ChainAt w base cv l) (hb : Below w.heap.size w w') : ChainAt w' base cv l := ⟨h.own.below hb, h.small⟩

theorem StoAt.below {w w' : World} {base b n : Nat} {S : List KeyS} {Lv : Value} {css : List (List Value)} (h : StoAt w base b S n Lv css) (hb : Below w.heap.size w w') : StoAt w' base b S n Lv css :=
  ⟨(hb.block b h.lt).trans h.block, h.above, h.own.below hb, h.len, h.few, fun j h1 h2 => by
    obtain ⟨cv, e1, e2, e3⟩ := h.each j h1 h2
    exact ⟨cv, e1, e2, e3.below hb⟩⟩

theorem tKey_ne : (63 : TypeId) ≠ 59 := by decide
theorem tVer_ne : (65 : TypeId) ≠ 59 := by decide
theorem tVer_ne2 : (65 : TypeId) ≠ 63 := by decide

theorem block_setCell {w : World} {b : Nat} {cs : Array Value} {t : TypeId} {fr : Nat × Nat} (h : w.heap[b]? = some (.cells cs t fr)) (i : Nat) (u : Value) : (w.setCell ⟨b, i, none⟩ u).heap[b]? = some (.cells (cs.setIfInBounds i u) t fr) := by
  simp [World.setCell, Array.getElem?_modify, h]

def insS (S : List KeyS) (k : Nat) (key : ByteArray) : List KeyS := S.take k ++ ⟨key, []⟩ :: S.drop k

theorem each_append {w : World} {base : Nat} : ∀ {c1 c2 : List (List Value)} {s1 s2 : List KeyS}, c1.length = s1.length →
    (∀ j (h1 : j < c1.length) (h2 : j < s1.length), ∃ cv, c1[j] = [.string s1[j].name, cv] ∧ s1[j].name.size ≤ 9223372036854775807 ∧ ChainAt w base cv s1[j].vers) →
    (∀ j (h1 : j < c2.length) (h2 : j < s2.length), ∃ cv, c2[j] = [.string s2[j].name, cv] ∧ s2[j].name.size ≤ 9223372036854775807 ∧ ChainAt w base cv s2[j].vers) →
    ∀ j (h1 : j < (c1 ++ c2).length) (h2 : j < (s1 ++ s2).length), ∃ cv, (c1 ++ c2)[j] = [.string (s1 ++ s2)[j].name, cv] ∧ (s1 ++ s2)[j].name.size ≤ 9223372036854775807 ∧ ChainAt w base cv (s1 ++ s2)[j].vers := by
  intro c1 c2 s1 s2 hl h1 h2 j j1 j2
  rw [List.length_append] at j1 j2
  by_cases hj : j < c1.length
  · rw [List.getElem_append_left hj, List.getElem_append_left (by omega)]
    exact h1 j hj (by omega)
  · have a1 : (c1 ++ c2)[j]'(by rw [List.length_append]; omega) = c2[j - c1.length]'(by omega) := List.getElem_append_right (by omega)
    have a2 : (s1 ++ s2)[j]'(by rw [List.length_append]; omega) = s2[j - s1.length]'(by omega) := List.getElem_append_right (by omega)
    rw [a1, a2]
    have := h2 (j - c1.length) (by omega) (by omega)
    simp only [hl] at this ⊢
    exact this

theorem chain_nil (w : World) (base : Nat) : ChainAt w base (.slice none 0 0) [] := ⟨⟨World.ownsRow_nil _ _ _ _, by simp⟩, by simp, by simp⟩

/-- A key more. -/
theorem StoAt.insert {w w2 : World} {base b n k : Nat} {S : List KeyS} {Lv v' : Value} {css : List (List Value)} (h : StoAt w base b S n Lv css) (hb : Below w.heap.size w w2) (hk : k ≤ S.length) (key : ByteArray) (hkey : key.size ≤ 9223372036854775807) (hfew : S.length < 100000)
    (hown : OwnR w2 base 63 2 v' (css.take k ++ [.string key, .slice none 0 0] :: css.drop k)) :
    StoAt (w2.setCell ⟨b, 0, none⟩ v') base b (insS S k key) n v' (css.take k ++ [.string key, .slice none 0 0] :: css.drop k) := by
  have h2 := h.below hb
  have hl := h.len
  have hc : ∀ cv l, ChainAt w2 base cv l → ChainAt (w2.setCell ⟨b, 0, none⟩ v') base cv l := fun cv l hc => ⟨hc.own.setOther (hc.own.ne_block h2.block tVer_ne) _, hc.small⟩
  refine ⟨by rw [block_setCell h2.block]; rfl, h.above, hown.setOther (hown.ne_block h2.block tKey_ne) _, by unfold insS; simp; omega, by unfold insS; simp; omega, ?_⟩
  unfold insS
  refine each_append (by simp; omega) (fun j j1 j2 => ?_) (fun j j1 j2 => ?_)
  · rw [List.length_take] at j1 j2
    obtain ⟨cv, e1, e2, e3⟩ := h2.each j (by omega) (by omega)
    rw [List.getElem_take, List.getElem_take]
    exact ⟨cv, e1, e2, hc _ _ e3⟩
  · cases j with
    | zero => exact ⟨_, rfl, hkey, hc _ _ (chain_nil _ _)⟩
    | succ j =>
      simp only [List.length_cons, List.length_drop] at j1 j2
      obtain ⟨cv, e1, e2, e3⟩ := h2.each (k + j) (by omega) (by omega)
      simp only [List.getElem_cons_succ, List.getElem_drop]
      exact ⟨cv, e1, e2, hc _ _ e3⟩

/-- A key's chain is another. -/
theorem StoAt.chain {w w2 : World} {base b n k g m cap : Nat} {S : List KeyS} {v' : Value} {css : List (List Value)} {l : List Ver} (h : StoAt w base b S n (.slice (some ⟨g, 0, none⟩) m cap) css) (hb : Below w.heap.size w w2) (hk : k < S.length)
    (hch : ChainAt w2 base v' l) : StoAt (w2.setCell ⟨g, k * 2 + 1, none⟩ v') base b (S.set k ⟨S[k].name, l⟩) n (.slice (some ⟨g, 0, none⟩) m cap) (css.set k ((css[k]'(by rw [h.len]; exact hk)).set 1 v')) := by
  have h2 := h.below hb
  have hl := h.len
  have hkc : k < css.length := by omega
  obtain ⟨cur, hgb⟩ : ∃ cur, w2.heap[g]? = some (.cells cur 63 (0, 0)) := by
    rcases h2.own.row.2 with ⟨h3, _⟩ | ⟨g', cap', cur, h3, _, hg, _⟩
    · cases h3
    · cases h3; exact ⟨cur, hg⟩
  have hgb2 : b ≠ g := by
    rintro rfl
    have := h2.block
    rw [hgb] at this
    cases this
  have hc : ∀ cv l, ChainAt w2 base cv l → ChainAt (w2.setCell ⟨g, k * 2 + 1, none⟩ v') base cv l := fun cv l hc => ⟨hc.own.setOther (hc.own.ne_block hgb tVer_ne2) _, hc.small⟩
  refine ⟨(Below.heap_setCell _ _ _ _ hgb2).trans h2.block, h.above, h2.own.stored k 1 hkc (by decide) v', by simp; omega, by simp; exact h.few, fun j j1 j2 => ?_⟩
  rw [List.length_set] at j1 j2
  rw [List.getElem_set, List.getElem_set]
  by_cases hjk : k = j
  · subst hjk
    obtain ⟨cv, e1, e2, e3⟩ := h2.each k hkc hk
    simp only [if_true]
    exact ⟨v', by rw [e1]; rfl, e2, hc _ _ hch⟩
  · rw [if_neg hjk, if_neg hjk]
    obtain ⟨cv, e1, e2, e3⟩ := h2.each j j1 j2
    exact ⟨cv, e1, e2, hc _ _ e3⟩

end Go.Proofs.YtgmcpfcpdmnebaaGreat
