/- Package audit: what keys have behind records. -/
import Derived.Test.YtgmcpfcpdmnebaaGreatAud2
namespace Go.Proofs.YtgmcpfcpdmnebaaGreat
open Go.RowKit Go.Proofs Go.Shelf

def stepP (f : St) (p : Pair) : St := fun k => if k = p.key then (if p.dead then none else some p.val) else f k
def stepR (f : St) (r : Rec) : St := r.writes.foldl stepP f
def stateS (l : List Rec) : St := l.foldl stepR fun _ => none
def behindOK (l : List Rec) : Bool := l.all fun r => goodS r.writes
def writesN (l : List Rec) : Nat := (l.map fun r => r.writes.length).sum

/-- The parts of IsSt, without its bound. -/
structure IsSt0 (w : World) (b : Nat) (m : List (ByteArray × Value)) (f : St) : Prop where
  map : MapA Value.string w b m
  get : ∀ k, mget m k = (f k).map Value.string
  small : ∀ k v, f k = some v → k.size ≤ 9223372036854775807 ∧ v.size ≤ 9223372036854775807

theorem IsSt0.below {w w' : World} {b : Nat} {m : List (ByteArray × Value)} {f : St} (h : IsSt0 w b m f) (hb : Below w.heap.size w w') : IsSt0 w' b m f := ⟨h.map.below hb, h.get, h.small⟩

theorem mset_length {α : Type} [DecidableEq α] (m : List (α × Value)) (k : α) (v : Value) : (mset m k v).length ≤ m.length + 1 := by
  unfold mset; split <;> simp

theorem mdel_length {α : Type} [DecidableEq α] (m : List (α × Value)) (k : α) : (mdel m k).length ≤ m.length := by
  unfold mdel; split
  · exact (List.eraseIdx_sublist _ _).length_le
  · exact Nat.le_refl _

theorem mget_del {α : Type} [DecidableEq α] {m : List (α × Value)} (hn : (m.map (·.1)).Nodup) (k k' : α) : mget (mdel m k) k' = if k' = k then none else mget m k' := by
  unfold mdel
  cases hx : midx m k with
  | none =>
    by_cases h : k' = k
    · subst h; rw [if_pos rfl, mget_idx]; simp [hx]
    · rw [if_neg h]
  | some j =>
    obtain ⟨hj, hjk⟩ := midx_some hx
    clear hx
    induction m generalizing j with
    | nil => simp at hj
    | cons x m ih =>
      simp only [List.map_cons, List.nodup_cons] at hn
      cases j with
      | zero =>
        simp only [List.getElem_cons_zero] at hjk
        subst hjk
        simp only [List.eraseIdx_cons_zero]
        by_cases h : k' = x.1
        · subst h
          rw [if_pos rfl]
          simp only [mget, Option.map_eq_none_iff, List.find?_eq_none]
          intro y hy
          simp only [decide_eq_true_eq]
          intro e
          exact hn.1 (e ▸ List.mem_map_of_mem hy)
        · rw [if_neg h]
          simp [mget, h]
      | succ j =>
        have hne : x.1 ≠ k := fun e => hn.1 (by
          rw [e, ← hjk]
          exact List.mem_map_of_mem (List.getElem_mem _))
        have ih' := ih hn.2 j (by simpa using hj) (by simpa using hjk)
        simp only [mget] at ih' ⊢
        simp only [List.eraseIdx_cons_succ, List.find?_cons]
        by_cases h : k' = x.1
        · simp only [h, decide_true]
          rw [if_neg hne]
        · simp only [h, decide_false]
          exact ih'

theorem IsSt0.put {w w' : World} {b : Nat} {m : List (ByteArray × Value)} {f : St} (h : IsSt0 w b m f) {p : Pair} (hd : p.dead = false) (hs : p.key.size ≤ 9223372036854775807 ∧ p.val.size ≤ 9223372036854775807) (hm : MapA Value.string w' b (mset m p.key (.string p.val))) : IsSt0 w' b (mset m p.key (.string p.val)) (stepP f p) := by
  refine ⟨hm, fun k => ?_, fun k v hv => ?_⟩
  · rw [mget_set, h.get]
    unfold stepP
    by_cases e : k = p.key <;> simp [e, hd]
  · unfold stepP at hv
    by_cases e : k = p.key
    · simp only [e, if_true, hd, Bool.false_eq_true, if_false, Option.some.injEq] at hv
      rw [e, ← hv]; exact hs
    · rw [if_neg e] at hv; exact h.small k v hv

theorem IsSt0.del {w w' : World} {b : Nat} {m : List (ByteArray × Value)} {f : St} (h : IsSt0 w b m f) {p : Pair} (hd : p.dead = true) (hm : MapA Value.string w' b (mdel m p.key)) : IsSt0 w' b (mdel m p.key) (stepP f p) := by
  have hn : (m.map (·.1)).Nodup := by obtain ⟨es, clock, -, -, -, -, hn⟩ := h.map; exact hn
  refine ⟨hm, fun k => ?_, fun k v hv => ?_⟩
  · rw [mget_del hn, h.get]
    unfold stepP
    by_cases e : k = p.key <;> simp [e, hd]
  · unfold stepP at hv
    by_cases e : k = p.key
    · simp [e, hd] at hv
    · rw [if_neg e] at hv; exact h.small k v hv

/-- A slice of records, opened. -/
theorem SlP.recsAt {w : World} {v : Value} {l : List Rec} (h : SlP 5 RecE w v l) : ∃ q cap, v = .slice q l.length cap ∧ l.length ≤ cap ∧ l.length ≤ 9223372036854775807 ∧ (q = none → cap = 0) ∧
    ∀ j, (h : j < l.length) → ∃ b off rq rc wq wc, q = some ⟨b, off, none⟩ ∧ RecE w [.int .i64 l[j].session, .int .i64 l[j].snap, .bool l[j].strict, .slice rq l[j].reads.length rc, .slice wq l[j].writes.length wc] l[j] ∧
      SlP 4 RdE w (.slice rq l[j].reads.length rc) l[j].reads ∧ SlP 3 PairE w (.slice wq l[j].writes.length wc) l[j].writes ∧
      w.cell? ⟨b, off + j * 5, none⟩ = some (.int .i64 l[j].session) ∧ w.cell? ⟨b, off + j * 5 + 1, none⟩ = some (.int .i64 l[j].snap) ∧ w.cell? ⟨b, off + j * 5 + 2, none⟩ = some (.bool l[j].strict) ∧
      w.cell? ⟨b, off + j * 5 + 3, none⟩ = some (.slice rq l[j].reads.length rc) ∧ w.cell? ⟨b, off + j * 5 + 4, none⟩ = some (.slice wq l[j].writes.length wc) := by
  obtain ⟨q, cap, hv, h1, h2, h0, h3⟩ := h
  refine ⟨q, cap, hv, h1, h2, h0, fun j hj => ?_⟩
  obtain ⟨b, off, cs, hp, hk, he, hc⟩ := h3 j hj
  have he0 := he
  obtain ⟨rv, wv, rfl, -, -, hrd, hw⟩ := he
  have hrd0 := hrd
  have hw0 := hw
  obtain ⟨rq, rc, rfl, -⟩ := hrd
  obtain ⟨wq, wc, rfl, -⟩ := hw
  exact ⟨b, off, rq, rc, wq, wc, hp, he0, hrd0, hw0, hc 0 (by simp), hc 1 (by simp), hc 2 (by simp), hc 3 (by simp), hc 4 (by simp)⟩

/-- What behind hands back. -/
def BehindOut (l : List Rec) (w : World) (e : Ending) (w' : World) : Prop :=
  if behindOK l then ∃ b m, e = .returned (.tuple #[.map (some b), .bool true]) ∧ IsSt w' b m (stateS l) ∧ Below w.heap.size w w'
  else e = .returned (.tuple #[.map none, .bool false]) ∧ Below w.heap.size w w'

theorem stateS_snoc (l : List Rec) (k : Nat) (hk : k < l.length) : stateS (l.take (k + 1)) = stepR (stateS (l.take k)) l[k] := by
  unfold stateS
  rw [List.take_succ_eq_append_getElem hk, List.foldl_append]; rfl

theorem writesN_snoc (l : List Rec) (k : Nat) (hk : k < l.length) : writesN (l.take (k + 1)) = writesN (l.take k) + l[k].writes.length := by
  unfold writesN
  rw [List.take_succ_eq_append_getElem hk, List.map_append, List.sum_append]; simp

theorem writesN_take (l : List Rec) (k : Nat) : writesN (l.take k) ≤ writesN l := by
  have : writesN l = writesN (l.take k) + writesN (l.drop k) := by
    unfold writesN
    rw [← List.sum_append, ← List.map_append, List.take_append_drop]
  omega

set_option maxRecDepth 100000 in
set_option maxHeartbeats 2000000 in
/-- behind -/
theorem behind_any (l : List Rec) (v : Value) (w : World) (hv : SlP 5 RecE w v l) (hN : writesN l ≤ 1000000) : Calls Tryz.prog 18 #[v] w (BehindOut l w) := by
  obtain ⟨q, cap, rfl, hlc, hcap, -, hcells⟩ := hv.recsAt
  have hmm := @run_makeMap Tryz.prog
  have hK : KeyK Tryz.prog 9 Value.string := KeyK.string Tryz.underlying9
  have hm0 : IsSt0 (w.alloc (.map #[] 0)) w.heap.size [] (stateS (l.take 0)) := ⟨MapA.made w, fun k => rfl, fun k v h => by simp [stateS] at h⟩
  go_enter Tryz.func18, Tryz.ntmps18
  go_wp2_with fail
  clear hmm
  go_loopg [12] l.length (fun n i wr => ∃ (k : Nat) (m : List (ByteArray × Value)), k ≤ l.length ∧ n + k = l.length ∧ i = .int .i64 k ∧ Below w.heap.size w wr ∧ IsSt0 wr w.heap.size m (stateS (l.take k)) ∧ m.length ≤ writesN (l.take k) ∧ (∀ r ∈ l.take k, goodS r.writes = true))
  case atStart => exact ⟨0, [], Nat.zero_le _, rfl, rfl, below_new _ _, hm0, by simp, by simp⟩
  case round =>
    obtain ⟨k, m, hk, hgk, rfl, hb, hst, hml, hgood⟩ := hrel
    by_cases hlt : k < l.length
    · obtain ⟨b, off, rq, rc, wq, wc, rfl, he, hrd, hw, c0, c1, c2, c3, c4⟩ := hcells k hlt
      replace c0 := bcell hb c0
      replace c1 := bcell hb c1
      replace c2 := bcell hb c2
      replace c3 := bcell hb c3
      replace c4 := bcell hb c4
      have hcall := fun W hb' => good_any l[k].writes _ W (hw.mono PairE.mono (w' := W) (below_trans hb hb'))
      have hsn := stateS_snoc l k hlt
      have hwn := writesN_snoc l k hlt
      have hwt := writesN_take l (k + 1)
      have hmem := List.getElem_mem hlt
      have htk : ∀ r ∈ l.take (k + 1), r ∈ l.take k ∨ r = l[k] := fun r hr => by
        rw [List.take_succ_eq_append_getElem hlt] at hr
        rcases List.mem_append.1 hr with h | h
        · exact .inl h
        · exact .inr (by simpa using h)
      have hml2 := hst.map.lt
      cases hg : goodS l[k].writes with
      | false =>
        rw [hg] at hcall
        have Hno : Hid (behindOK l = false) := Lib.hid (by
          cases hq : behindOK l with
          | false => rfl
          | true => have := List.all_eq_true.1 hq _ hmem; rw [hg] at this; simp at this)
        generalize l[k] = r at *
        clear hcells hg
        go_wp2_with (first
          | (go_at_call 32; refine (hcall _ (below_new _ _)).mono ?_; rintro e w1 ⟨rfl, hb1⟩))
        go_ret2
        unfold BehindOut
        rw [Hno.out]
        exact ⟨rfl, below_trans (below_alloc hb _) hb1⟩
      | true =>
        rw [hg] at hcall
        have Hg := Lib.hid hg
        clear hg
        generalize l[k] = r at *
        obtain ⟨qw, cw, hqw, -, hcapw, hcw⟩ := hw.pairs
        cases hqw
        obtain ⟨wo, rfl⟩ : ∃ wo : World, wo = wr := ⟨_, rfl⟩
        clear hcells he hrd hw
        go_wp2_with (first
          | (go_at_call 32; refine (hcall _ (below_new _ _)).mono ?_; rintro e w1 ⟨rfl, hb1⟩; have g4 := bcell hb1 (a := ⟨wo.heap.size, 4, none⟩) (v := .slice wq r.writes.length wc) (by simp)))
        have hbo : Below wo.heap.size wo w1 := below_trans (below_new _ _) hb1
        have hst1 := hst.below hbo
        have hbw1 : Below w.heap.size w w1 := below_trans hb hbo
        have hsz1 := hbw1.size
        have hlt1 := hst1.map.lt
        clear hst hb1 g4 c0 c1 c2 c3 c4 hcall
        generalize stateS (l.take k) = f0 at *
        go_loopg [23] r.writes.length (fun n i wi => ∃ (j : Nat) (mj : List (ByteArray × Value)), j ≤ r.writes.length ∧ n + j = r.writes.length ∧ i = .int .i64 j ∧ Below w.heap.size w wi ∧ IsSt0 wi w.heap.size mj ((r.writes.take j).foldl stepP f0) ∧ mj.length ≤ m.length + j)
        case atStart => exact ⟨0, m, Nat.zero_le _, rfl, rfl, hbw1, hst1, by simp⟩
        case round =>
          obtain ⟨j, mj, hj, hgj, rfl, hbi, hsti, hmlj⟩ := hrel
          by_cases hjl : j < r.writes.length
          · obtain ⟨b2, off2, rfl, ⟨hk1, hk2⟩, d0, d1, d2⟩ := hcw j hjl
            replace d0 := bcell hbi d0
            replace d1 := bcell hbi d1
            replace d2 := bcell hbi d2
            have htj : (r.writes.take (j+1)).foldl stepP f0 = stepP ((r.writes.take j).foldl stepP f0) r.writes[j] := by
              rw [List.take_succ_eq_append_getElem hjl, List.foldl_append]; rfl
            have hml3 := hsti.map.lt
            generalize r.writes[j] = p at *
            obtain ⟨pk, pv, pd⟩ := p
            dsimp only at *
            generalize (r.writes.take j).foldl stepP f0 = fj at *
            have hst8 := hsti.below (below_new wr (.cells #[.string pk, .string pv, .bool pd] 35))
            have hb8 := below_alloc hbi (.cells #[.string pk, .string pv, .bool pd] 35)
            have hs8 := hb8.size
            have Htj := Lib.hid htj
            clear htj hsti
            cases pd with
            | true =>
              go_wp2_with (first | (at_delete; refine wpList_mapDel rfl _ _ 39 9 rfl hK Tryz.underlying39 rfl hst8.map pk rfl ?_; intro w3 hm3 hg3) | fail)
              have hmd := mdel_length mj pk
              go_roundg (r.writes.length - (j + 1))
              case measure => omega
              case rel => exact ⟨j + 1, mdel mj pk, hjl, by omega, rfl, grown_below hb8 hg3 hs8 (fun k hk => by cases hk; exact Nat.le_refl _), by rw [Htj.out]; exact hst8.del (p := ⟨pk, pv, true⟩) rfl hm3, by omega⟩
            | false =>
              go_wp2_with (first | (refine wpList_mapSet rfl _ _ _ _ rfl hK Tryz.underlying39 rfl hst8.map pk rfl _ rfl ?_; intro w3 hm3 hg3) | fail)
              have hmd := mset_length mj pk (.string pv)
              go_roundg (r.writes.length - (j + 1))
              case measure => omega
              case rel => exact ⟨j + 1, mset mj pk (.string pv), hjl, by omega, rfl, grown_below hb8 hg3 hs8 (fun k hk => by cases hk; exact Nat.le_refl _), by rw [Htj.out]; exact hst8.put (p := ⟨pk, pv, false⟩) rfl ⟨hk1, hk2⟩ hm3, by omega⟩
          · have hje : j = r.writes.length := by omega
            subst hje
            rw [List.take_length] at hsti
            have hgr : ∀ r' ∈ l.take (k + 1), goodS r'.writes = true := fun r' hr => by
              rcases htk r' hr with h | h
              · exact hgood r' h
              · rw [h]; exact Hg.out
            have Hgr := Lib.hid hgr
            clear hgood hgr htk
            go_wp2_with fail
            go_roundg (l.length - (k + 1))
            case measure => omega
            case rel => exact ⟨k + 1, mj, hlt, by omega, rfl, hbi, by rw [hsn]; exact hsti, by omega, Hgr.out⟩
    · have hke : k = l.length := by omega
      subst hke
      rw [List.take_length] at hst hml hgood
      have hok : behindOK l = true := List.all_eq_true.2 hgood
      have Hok := Lib.hid hok
      clear hok hgood hcells
      go_wp2_with fail
      go_ret2
      unfold BehindOut
      rw [Hok.out]
      exact ⟨_, m, rfl, ⟨hst.map, hst.get, hst.small, by omega⟩, hb⟩

end Go.Proofs.YtgmcpfcpdmnebaaGreat
