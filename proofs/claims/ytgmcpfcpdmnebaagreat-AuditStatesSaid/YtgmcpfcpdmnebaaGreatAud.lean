/- Package audit: the pairs of a state. -/
import Derived.Test.YtgmcpfcpdmnebaaGreatSort
import Derived.Test.YtgmcpfcpdmnebaaGreatMap
import Derived.Deep.LoopGhost
namespace Go.Proofs.YtgmcpfcpdmnebaaGreat
open Go.RowKit Go.Proofs Go.Shelf

/-- What keys have. -/
abbrev St := ByteArray → Option ByteArray

/-- The pairs of a state whose keys are so, by keys: THE list. -/
structure IsPairs (f : St) (p : ByteArray → Bool) (L : List Pair) : Prop where
  mem : ∀ x, x ∈ L ↔ x.dead = false ∧ f x.key = some x.val ∧ p x.key = true
  sorted : SortedP L
  nodup : (L.map (·.key)).Nodup

/-- A map that holds a state. -/
structure IsSt (w : World) (b : Nat) (m : List (ByteArray × Value)) (f : St) : Prop where
  map : MapA Value.string w b m
  get : ∀ k, mget m k = (f k).map Value.string
  small : ∀ k v, f k = some v → k.size ≤ 9223372036854775807 ∧ v.size ≤ 9223372036854775807
  few : m.length ≤ 1000000

theorem mget_mem {α : Type} [DecidableEq α] {m : List (α × Value)} (hn : (m.map (·.1)).Nodup) {x : α × Value} (hx : x ∈ m) : mget m x.1 = some x.2 := by
  unfold mget
  induction m with
  | nil => simp at hx
  | cons y m ih =>
    simp only [List.map_cons, List.nodup_cons] at hn
    rw [List.find?_cons]
    rcases List.mem_cons.1 hx with rfl | hx
    · simp
    · have : x.1 ≠ y.1 := fun e => hn.1 (e ▸ List.mem_map_of_mem hx)
      simp only [this, decide_false]
      exact ih hn.2 hx

theorem mem_of_mget {α : Type} [DecidableEq α] {m : List (α × Value)} {k : α} {v : Value} (h : mget m k = some v) : (k, v) ∈ m := by
  unfold mget at h
  obtain ⟨x, hx, rfl⟩ := Option.map_eq_some_iff.1 h
  have h1 := List.find?_some hx
  have h2 := List.mem_of_find?_eq_some hx
  have h3 : k = x.1 := by simpa using h1
  rw [h3]; exact h2

theorem IsSt.vals {w : World} {b : Nat} {m : List (ByteArray × Value)} {f : St} (h : IsSt w b m f) {x : ByteArray × Value} (hx : x ∈ m) : ∃ v, x.2 = .string v ∧ f x.1 = some v := by
  obtain ⟨es, clock, -, -, -, -, hn⟩ := h.map
  have h1 := mget_mem hn hx
  rw [h.get] at h1
  obtain ⟨v, hv, he⟩ := Option.map_eq_some_iff.1 h1
  exact ⟨v, he.symm, hv⟩

theorem src_pair (w1 : World) (k v : ByteArray) : Src Tryz.prog 3 26 (.slice (some ⟨w1.heap.size, 0, none⟩) 1 1) 1 (pairCells ⟨k, v, false⟩) (w1.alloc (.cells #[.string k, .string v, .bool false] 35)) :=
  Src.ofSlice _ Tryz.underlying26 _ _ _ _ rfl (fun j u hj => by
    rw [Addr.add_lit, Nat.zero_add, World.cell?_alloc_at _ _ _ _ rfl]
    match j, hj with
    | 0, hj => exact hj
    | 1, hj => exact hj
    | 2, hj => exact hj) (fun u hu => by simp [pairCells] at hu; rcases hu with rfl | rfl | rfl <;> rfl)

/-- The pair that a map's entry is. -/
def toPair (x : ByteArray × Value) : Pair := ⟨x.1, match x.2 with | .string v => v | _ => .empty, false⟩

theorem OwnP.at {w : World} {base : Nat} {v : Value} {L : List Pair} (h : OwnP w base v L) (hl : L.length ≤ 9223372036854775807) (hs : ∀ p ∈ L, p.key.size ≤ 9223372036854775807 ∧ p.val.size ≤ 9223372036854775807) : SlP 3 PairE w v L := by
  rcases h.2 with ⟨rfl, hn⟩ | ⟨g, cap, cur, rfl, hb, hg, hc, hm, hsz, ht⟩
  · exact ⟨none, 0, by rw [hn], by omega, hl, fun _ => rfl, fun j hj => by omega⟩
  · refine ⟨_, cap, rfl, hc, hl, fun h => by simp at h, fun j hj => ⟨g, 0, pairCells L[j], rfl, rfl, ⟨rfl, hs _ (List.getElem_mem hj)⟩, fun i hi => ?_⟩⟩
    have hi3 : i < 3 := hi
    have h1 := h.cells (g := g) rfl (j * 3 + i) (pairCells L[j])[i] (by
      rw [flatMap_get pairCells (fun _ => rfl) L _ (by omega)]
      have e1 : (j * 3 + i) / 3 = j := by omega
      have e2 : (j * 3 + i) % 3 = i := by omega
      rw [e1, e2, getElem!_pos L j hj, List.getElem?_eq_getElem hi]; rfl)
    rw [Addr.add_lit, Nat.zero_add] at h1
    rw [Nat.zero_add]
    exact h1

theorem OwnP.kept {w w' : World} {base : Nat} {v : Value} {L : List Pair} {row : Option Nat} (h : OwnP w base v L) (hg : w.grownBy w' row) (hne : v.ownBlock = none ∨ v.ownBlock ≠ row) : OwnP w' base v L := World.ownsRow.kept h hg hne

theorem OwnP.below {w w' : World} {base : Nat} {v : Value} {L : List Pair} (h : OwnP w base v L) (hb : Below w.heap.size w w') : OwnP w' base v L := by
  refine h.kept (row := none) ⟨hb.os, hb.tape, hb.output, hb.size, fun k hk _ => hb.block k hk⟩ ?_
  cases hv : v.ownBlock with
  | none => exact .inl rfl
  | some k => exact .inr (by simp)

theorem erase_perm {α : Type} : ∀ (l : List α) (i : Nat) (hi : i < l.length), (l[i] :: l.eraseIdx i).Perm l
  | _ :: _, 0, _ => List.Perm.refl _
  | x :: l, i + 1, hi => by
    have ih := erase_perm l i (by simpa using hi)
    simp only [List.getElem_cons_succ, List.eraseIdx_cons_succ]
    exact (List.Perm.swap x _ _).trans (ih.cons x)

theorem isPairs_of {w : World} {b : Nat} {m done : List (ByteArray × Value)} {f : St} (hst : IsSt w b m f) (hperm : done.Perm m) (p : ByteArray → Bool) {L : List Pair} (hL : L.Perm ((done.filter fun x => p x.1).map toPair)) (hs : SortedP L) : IsPairs f p L := by
  have hn : (m.map (·.1)).Nodup := by obtain ⟨es, clock, -, -, -, -, hn⟩ := hst.map; exact hn
  have hto : ∀ y ∈ m, ∃ v, y.2 = .string v ∧ f y.1 = some v ∧ toPair y = ⟨y.1, v, false⟩ := fun y hy => by
    obtain ⟨v, h1, h2⟩ := hst.vals hy
    exact ⟨v, h1, h2, by unfold toPair; rw [h1]⟩
  refine ⟨fun x => ?_, hs, ?_⟩
  · rw [hL.mem_iff, List.mem_map]
    constructor
    · rintro ⟨y, hy, rfl⟩
      obtain ⟨h1, h2⟩ := List.mem_filter.1 hy
      obtain ⟨v, -, h4, h5⟩ := hto y (hperm.mem_iff.1 h1)
      rw [h5]
      exact ⟨rfl, h4, h2⟩
    · rintro ⟨h1, h2, h3⟩
      have h4 := hst.get x.key
      rw [h2] at h4
      have h5 := mem_of_mget h4
      refine ⟨(x.key, .string x.val), List.mem_filter.2 ⟨hperm.mem_iff.2 h5, h3⟩, ?_⟩
      obtain ⟨k, v, d⟩ := x
      dsimp only at h1
      subst h1
      rfl
  · have h1 := (hL.map (·.key)).nodup_iff
    rw [h1, List.map_map]
    have h2 : ((done.filter fun x => p x.1).map ((·.key) ∘ toPair)) = (done.filter fun x => p x.1).map (·.1) := List.map_congr_left fun _ _ => rfl
    rw [h2]
    exact ((hperm.map (·.1)).nodup_iff.2 hn).sublist (List.filter_sublist.map _)

/-- pairs$1 -/
theorem pairs1 (x y : Pair) (W : World) : Calls Tryz.prog 34 #[.agg (pairCells x).toArray, .agg (pairCells y).toArray] W fun e w' => e = .returned (.int .i64 (cmpKey x y)) ∧ ∃ q os', w' = Sort.grow (W.drewN q) os' := by
  have hcon := fun W' => compare_any x.key y.key W'
  change ∀ W', Calls _ _ _ W' (fun e w' => e = .returned (.int .i64 (cmpKey x y)) ∧ w' = W') at hcon
  show Calls _ _ #[.agg #[.string x.key, .string x.val, .bool x.dead], .agg #[.string y.key, .string y.val, .bool y.dead]] W _
  generalize cmpKey x y = r at hcon ⊢
  go_enter Tryz.func34, Tryz.ntmps34
  go_wp2_with (go_at_call 35; refine (hcon _).mono ?_; rintro e w' ⟨rfl, rfl⟩)
  go_ret
  exact ⟨rfl, 0, _, by rw [Sort.alloc_eq_grow, Sort.alloc_eq_grow, Sort.grow_grow]; rfl⟩

set_option maxHeartbeats 1000000 in
/-- pairs -/
theorem pairs_any (b : Nat) (m : List (ByteArray × Value)) (f : St) (g : Nat) (lb : Array Value) (eg : ∀ args w, (callFunc g args).run Tryz.prog w = .ok (.enter g args) w) (p : ByteArray → Bool) (w : World) (hst : IsSt w b m f) (hp : KeyC Tryz.prog g lb p w) :
    Calls Tryz.prog 19 #[.map (some b), .func (.func g) #[] lb] w fun e w' => ∃ v L, e = .returned v ∧ OwnP w' w.heap.size v L ∧ IsPairs f p L ∧ L.length ≤ 1000000 ∧ Below w.heap.size w w' := by
  have hm := hst.map
  have hml := hm.lt
  go_enter Tryz.func19, Tryz.ntmps19
  go_wp2_with (at_range; refine wpList_mapRange rfl _ _ rfl Tryz.underlying39 rfl hm ?_; intro w1 hit hb1)
  go_frame
  go_loopg [5, 6, 7] m.length (fun n v _ _ wr => ∃ rem done, rem.length ≤ n ∧ (done ++ rem).Perm m ∧ IterA Value.string wr w.heap.size b m rem ∧ OwnP wr (w.heap.size + 1) v ((done.filter fun x => p x.1).map toPair) ∧ Below w.heap.size w wr)
  case atStart => exact ⟨m, [], Nat.le_refl _, List.Perm.refl _, hit, World.ownsRow_nil _ _ _ _, hb1⟩
  case round =>
    obtain ⟨rem, done, hn, hperm, hit, hown, hb⟩ := hrel
    have hlen : done.length + rem.length = m.length := by simpa using hperm.length_eq
    have hfew := hst.few
    have hfl : ((done.filter fun x => p x.1).map toPair).length ≤ done.length := by rw [List.length_map]; exact List.length_filter_le _ _
    by_cases hrem : rem = []
    · subst hrem
      rw [List.append_nil] at hperm
      have eg1 : ∀ args w, (callFunc 34 args).run Tryz.prog w = .ok (.enter 34 args) w := enters_of Tryz.func34 (by kernel_rfl) rfl
      have hsort := sort_pairs 34 eg1 pairs1 (w.heap.size + 1) u5 _ wr hown (by omega)
      have hfin := fun L hL hs => isPairs_of (L := L) hst hperm p hL hs
      have Hfin := Lib.hid hfin
      clear hfin hst hperm hp
      go_wp2_with (first
        | (at_next; refine wpList_mapEnd rfl _ rfl rfl hit ?_)
        | (go_at_call 33; refine hsort.mono ?_; rintro e w2 ⟨rfl, L', hp', hs', hown', hb'⟩))
      go_ret
      refine ⟨_, L', rfl, ?_, Hfin.out L' hp' hs', by rw [hp'.length_eq]; omega, ?_⟩
      · refine ⟨hown'.1, ?_⟩
        rcases hown'.2 with h | ⟨g', cap', cur', h1, h2, h3⟩
        · exact .inl h
        · exact .inr ⟨g', cap', cur', h1, by omega, h3⟩
      · exact hb.trans (hb'.mono (by omega))
    · have hvals : ∀ i, (hi : i < rem.length) → ∃ v, rem[i].2 = .string v ∧ f rem[i].1 = some v := fun i hi => hst.vals (hperm.mem_iff.1 (List.mem_append_right _ (List.getElem_mem hi)))
      have hstep : ∀ i, (hi : i < rem.length) → ((done ++ [rem[i]]) ++ rem.eraseIdx i).Perm m ∧ (rem.eraseIdx i).length ≤ gk - 1 ∧ (rem.eraseIdx i).length < gk := fun i hi => by
        refine ⟨?_, ?_, ?_⟩
        · rw [List.append_assoc]
          exact ((erase_perm rem i hi).append_left done).trans hperm
        · rw [List.length_eraseIdx_of_lt hi]; omega
        · rw [List.length_eraseIdx_of_lt hi]; omega
      have hrl : 0 < rem.length := List.length_pos_iff.2 hrem
      have Hstep := Lib.hid hstep
      have Hvals := Lib.hid hvals
      have Hst := Lib.hid hst
      have Hhp := Lib.hid hp
      clear hstep hvals hst hp hperm
      go_wp2_with (at_next; refine wpList_mapNext rfl _ rfl rfl hit hrem ?_; intro i hi W hent hit2 hg; obtain ⟨vv, hvv, hfv⟩ := Hvals.out i hi; rw [hvv] at hent ⊢)
      have hbW : Below w.heap.size w W := grown_below hb hg hb.size (fun k hk => by cases hk; exact Nat.le_refl _)
      have hownW := hown.kept hg (by
        cases hv : u5.ownBlock with
        | none => exact .inl rfl
        | some k =>
          have := (World.ownsRow.lt hown k hv).1
          right; simp; omega)
      have hcall := Hhp.out rem[i].1 W hbW
      obtain ⟨hq1, hq2, hq3⟩ := Hstep.out i hi
      have htp : toPair rem[i] = ⟨rem[i].1, vv, false⟩ := by unfold toPair; rw [hvv]
      have hWl := hit2.lt.1
      generalize hxx : rem[i] = x at *
      generalize rem.eraseIdx i = rem' at *
      have Htp := Lib.hid htp
      have Hq1 := Lib.hid hq1
      clear hxx hvv hent hq1 htp hit hg hrem hown
      cases hpx : p x.1 with
      | false =>
        rw [hpx] at hcall
        have Hpx := Lib.hid hpx
        clear hpx
        go_wp2_with (refine hcall.mono ?_; rintro e w2 ⟨rfl, hb2⟩)
        go_roundg (gk - 1)
        case measure => omega
        case rel => exact ⟨rem', done ++ [x], hq2, Hq1.out, hit2.below hb2, by
          have e : ((done ++ [x]).filter fun x => p x.1) = done.filter fun x => p x.1 := by
            rw [List.filter_append]
            have := Hpx.out
            simp [this]
          rw [e]; exact hownW.below hb2, below_trans hbW hb2⟩
      | true =>
        rw [hpx] at hcall
        have Hpx := Lib.hid hpx
        clear hpx
        have hsrc := fun W2 : World => src_pair W2 x.1 vv
        go_wp2_with (first
          | (refine hcall.mono ?_; rintro e w2 ⟨rfl, hb2⟩; have hown2 := hownW.below hb2; have hs2 := hsrc w2; have hsz2 := hb2.size)
          | (at_builtin; refine wpList_app (v := u5) rfl _ _ 26 26 rfl (w.heap.size + 1) 35 3 40 pairElt Tryz.underlying26 _ _ rfl (World.ownsRow.alloc hown2 _) rfl 1 _ hs2 (by unfold maxLen; omega) (by omega) (by simp; omega) ?_; intro v' w3 hown3 hg3 _))
        have hlt2 := World.ownsRow.lt hown2
        go_roundg (gk - 1)
        case measure => omega
        case rel => exact ⟨rem', done ++ [x], hq2, Hq1.out, (hit2.below hb2).keep (by
            rw [hg3.block _ (by simp; omega) (fun e => by have := (hlt2 _ e.symm).1; omega)]
            exact Below.heap_alloc _ _ _ (by omega)) (by
            rw [hg3.block _ (by simp; have := hbW.size; omega) (fun e => by have := (hlt2 _ e.symm).1; omega)]
            exact Below.heap_alloc _ _ _ (by have := hbW.size; omega)), by
          have e : ((done ++ [x]).filter fun x => p x.1).map toPair = (done.filter fun x => p x.1).map toPair ++ [toPair x] := by
            rw [List.filter_append]
            have := Hpx.out
            simp [this]
          unfold OwnP
          rw [e, Htp.out, List.length_append, List.length_singleton, List.flatMap_append, List.flatMap_singleton]
          exact hown3, grown_below (below_alloc (below_trans hbW hb2) _) hg3 (by have := hbW.size; simp; omega) (fun k hk => by have := (hlt2 _ hk).1; omega)⟩

end Go.Proofs.YtgmcpfcpdmnebaaGreat
