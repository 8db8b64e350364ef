/- The reference of layer 7: chains of versions. -/
import Derived.Test.YtgmcpfcpdmnebaaGreatRefC
import Derived.Test.YtgmcpfcpdmnebaaGreatRows2
namespace Go.Proofs.YtgmcpfcpdmnebaaGreat
open Go.RowKit Go.Proofs Go.Shelf

structure Ver where
  pl : Nat
  val : ByteArray
  dead : Bool

def verCells (x : Ver) : List Value := [.int .i64 x.pl, .string x.val, .bool x.dead]
def VerE (_ : World) (cs : List Value) (x : Ver) : Prop := cs = verCells x ∧ x.pl ≤ 100000 ∧ x.val.size ≤ 9223372036854775807
theorem VerE.mono : Mono VerE := ⟨fun _ h => h⟩
theorem verOne : ∀ w cs x, VerE w cs x → ∀ u ∈ cs, u.oneCell' = true := by
  rintro w cs x ⟨rfl, -, -⟩ u hu
  simp only [verCells, List.mem_cons, List.not_mem_nil, or_false] at hu
  rcases hu with rfl | rfl | rfl <;> rfl

theorem verElt : Elt Tryz.prog 65 3 32 := by
  have h : (Tryz.prog.info? 65).map (fun i => (i.zero, i.size, i.bytes)) = some (some (.agg #[.int .i64 0, .string ⟨#[]⟩, .bool false]), 3, 32) := by kernel_rfl
  obtain ⟨i0, hi, hz0, hz1, hz2⟩ := info_parts h
  exact ⟨⟨i0, _, hi, hz0, hz1, hz2, rfl⟩, by decide⟩

def lastP (l : List Ver) : Nat := match l.getLast? with | some x => x.pl | none => 0
def GoodV (l : List Ver) : Prop := ∀ j (h : j < l.length), lastP (l.take j) < l[j].pl ∧ (l[j].dead = true → l[j].val.toList = [])

theorem lastP_take {l : List Ver} {k : Nat} (hk : k < l.length) : lastP (l.take (k + 1)) = l[k].pl := by
  unfold lastP
  rw [List.take_succ_eq_append_getElem hk, List.getLast?_append]; simp

theorem lastP_le {l : List Ver} {n : Nat} (h : ∀ x ∈ l, x.pl ≤ n) : lastP l ≤ n := by
  unfold lastP
  cases hl : l.getLast? with
  | none => simp
  | some x => exact h x (List.mem_of_getLast? hl)

/-- A slice of versions, opened. -/
theorem SlP.vers {w : World} {v : Value} {l : List Ver} (h : SlP 3 VerE w v l) : ∃ q cap, v = .slice q l.length cap ∧ l.length ≤ cap ∧ l.length ≤ 9223372036854775807 ∧
    ∀ j, (h : j < l.length) → ∃ b off, q = some ⟨b, off, none⟩ ∧ (l[j].pl ≤ 100000 ∧ l[j].val.size ≤ 9223372036854775807) ∧
      w.cell? ⟨b, off + j * 3, none⟩ = some (.int .i64 l[j].pl) ∧ w.cell? ⟨b, off + j * 3 + 1, none⟩ = some (.string l[j].val) ∧ w.cell? ⟨b, off + j * 3 + 2, none⟩ = some (.bool l[j].dead) := by
  obtain ⟨q, cap, hv, h1, h2, _, h3⟩ := h
  refine ⟨q, cap, hv, h1, h2, fun j hj => ?_⟩
  obtain ⟨b, off, cs, hp, hk, ⟨rfl, hs⟩, hc⟩ := h3 j hj
  exact ⟨b, off, hp, hs, hc 0 (by simp [verCells]), hc 1 (by simp [verCells]), hc 2 (by simp [verCells])⟩

set_option maxRecDepth 100000 in
set_option maxHeartbeats 1000000 in
theorem rgoodv_any (v : Value) (l : List Ver) (w : World) (hv : SlP 3 VerE w v l) (hg : GoodV l) : Calls Tryz.prog 101 #[v] w (Gives w (.bool true)) := by
  obtain ⟨q, cap, rfl, hlc, hll, hcells⟩ := hv.vers
  have Hg := Lib.hid hg
  have Hp := Lib.hid (fun (k : Nat) (hk : k < l.length) => lastP_take hk)
  clear hg
  go_enter Tryz.func101, Tryz.ntmps101
  go_wp2_with fail
  go_loopw [3, 8] (fun u i wr => ∃ k : Nat, k ≤ l.length ∧ i = .int .i64 k ∧ u = .int .i64 (lastP (l.take k) : Nat) ∧ lastP (l.take k) ≤ 100000 ∧ Below w.heap.size w wr) (fun _ i _ => l.length - (intOf i).toNat)
  case atStart => exact ⟨0, Nat.zero_le _, rfl, by simp [lastP], by simp [lastP], Below.refl _ _⟩
  case round =>
    obtain ⟨k, hk, rfl, rfl, hlp, hb⟩ := hrel
    by_cases hlt : k < l.length
    · obtain ⟨b, off, rfl, ⟨z1, z2⟩, c0, c1, c2⟩ := hcells k hlt
      replace c0 := bcell hb c0
      replace c1 := bcell hb c1
      replace c2 := bcell hb c2
      obtain ⟨g1, g2⟩ := Hg.out k hlt
      have Hs := Lib.hid (Hp.out k hlt)
      have n0 : (0 : Int) ≤ (k : Int) := by omega
      have n1 : (k : Int) < (l.length : Int) := by omega
      clear hcells hv
      generalize lastP (l.take k) = m at *
      generalize l[k] = x at *
      have g3 : (m : Int) < (x.pl : Int) := by omega
      cases hd : x.dead with
      | false =>
        rw [hd] at c2
        clear g2
        go_wp2_with fail
        go_roundw
        case rel => exact ⟨k + 1, hlt, by go_num, by rw [Hs.out], by rw [Hs.out]; exact z1, below_trans hb (below_new _ _)⟩
        case measure => simp [intOf]; omega
      | true =>
        rw [hd] at c2
        have g4 := g2 hd
        clear g2
        go_wp2_with fail
        go_roundw
        case rel => exact ⟨k + 1, hlt, by go_num, by rw [Hs.out], by rw [Hs.out]; exact z1, below_trans hb (below_new _ _)⟩
        case measure => simp [intOf]; omega
    · have hke : k = l.length := by omega
      subst hke
      clear hcells
      go_wp2_with fail
      go_ret
      exact ⟨rfl, hb⟩

set_option maxRecDepth 100000 in
theorem rlastv_any (v : Value) (l : List Ver) (w : World) (hv : SlP 3 VerE w v l) (hg : GoodV l) : Calls Tryz.prog 102 #[v] w (Gives w (.int .i64 (lastP l : Nat))) := by
  have hgood := fun W hb => rgoodv_any v l W (hv.mono VerE.mono (w' := W) hb) hg
  obtain ⟨q, cap, rfl, hlc, hll, hcells⟩ := hv.vers
  by_cases h0 : l.length = 0
  · have e : lastP l = 0 := by rw [List.eq_nil_of_length_eq_zero h0]; rfl
    rw [e]
    have n0 : ((l.length : Int) == 0) = true := by rw [h0]; rfl
    clear hcells hv h0
    go_enter Tryz.func102, Tryz.ntmps102
    go_wp2_with fail
    go_ret
    exact ⟨rfl, Below.refl _ _⟩
  · have n0 : ((l.length : Int) == 0) = false := beq_false_of_ne (by omega)
    have h1 : l.length - 1 < l.length := by omega
    obtain ⟨b, off, rfl, -, c0, -, -⟩ := hcells (l.length - 1) h1
    have e : lastP l = l[l.length - 1].pl := by
      have := lastP_take h1
      rw [show l.length - 1 + 1 = l.length by omega, List.take_length] at this
      exact this
    rw [e]
    have n1 : IntKind.i64.wrap ((l.length : Int) - 1) = ((l.length - 1 : Nat) : Int) := by rw [IntWalk.i64_in _ (by omega)]; omega
    have n2 : ((l.length : Int) - 1).toNat = l.length - 1 := by omega
    clear hcells hv e hg
    generalize l[l.length - 1] = x at *
    go_enter Tryz.func102, Tryz.ntmps102
    go_wp2_with (first | (go_at_call 101; refine (hgood _ (Below.refl _ _)).mono ?_; rintro e w1 ⟨rfl, hb1⟩; have d0 := bcell hb1 c0) | fail)
    go_ret
    exact ⟨rfl, hb1⟩

def VerOut (l : List Ver) (w : World) (e : Ending) (w' : World) : Prop := ∃ v, e = .returned (.tuple #[v, .bool true]) ∧ OwnR w' w.heap.size 65 3 v (l.map verCells) ∧ Below w.heap.size w w'

theorem map_verCells {w : World} : ∀ {css : List (List Value)} {l : List Ver}, css.length = l.length → (∀ j (h1 : j < css.length) (h2 : j < l.length), VerE w css[j] l[j]) → css = l.map verCells
  | [], [], _, _ => rfl
  | c :: css, x :: l, h, hE => by
    have h0 := (hE 0 (by simp) (by simp)).1
    have ih := map_verCells (w := w) (css := css) (l := l) (by simpa using h) fun j h1 h2 => hE (j + 1) (by simpa using h1) (by simpa using h2)
    simp only [List.getElem_cons_zero] at h0
    rw [h0, ih]; rfl

theorem map_len3 (l : List Ver) : ∀ c ∈ l.map verCells, c.length = 3 := by
  intro c hc
  obtain ⟨x, -, rfl⟩ := List.mem_map.1 hc
  rfl

theorem own_base {w : World} {base base' : Nat} {T : TypeId} {k n : Nat} {v : Value} {xs : List Value} (h : w.ownsRow base T k v n xs) (hle : base' ≤ base) : w.ownsRow base' T k v n xs := by
  refine ⟨h.1, ?_⟩
  rcases h.2 with h | ⟨g, cap, cur, h1, h2, h3⟩
  · exact .inl h
  · exact .inr ⟨g, cap, cur, h1, by omega, h3⟩

theorem heap_new2 (w : World) (o p : Obj) : ((w.alloc o).alloc p).heap[w.heap.size + 1]? = some p := by
  have := heap_alloc_new (w.alloc o) p
  rwa [World.size_alloc] at this
theorem heap_old1 (w : World) (o p : Obj) : ((w.alloc o).alloc p).heap[w.heap.size]? = some o := (Below.heap_alloc (w.alloc o) p _ (by simp)).trans (heap_alloc_new w o)

theorem src_vers {w W : World} {v : Value} {l : List Ver} (h : SlP 3 VerE w v l) (hb : Below w.heap.size w W) : Src Tryz.prog 3 61 v l.length (l.map verCells).flatten W := by
  obtain ⟨css, h1, h2, h3, h4⟩ := src_rows (P := Tryz.prog) (tx := 61) Tryz.underlying61 verOne (by decide) h hb
  rw [map_verCells h1 h3] at h4
  exact h4

theorem src_lit {W : World} {g : Nat} {a : Int} {s : ByteArray} {d : Bool} {T : TypeId} (h : W.heap[g]? = some (.cells #[.int .i64 a, .string s, .bool d] T (0, 0))) :
    Src Tryz.prog 3 61 (.slice (some ⟨g, 0, none⟩) 1 1) 1 [.int .i64 a, .string s, .bool d] W := by
  refine Src.ofSlice W Tryz.underlying61 _ _ _ _ (by simp) (fun j u hu => ?_) (fun u hu => by simp at hu; rcases hu with rfl | rfl | rfl <;> rfl)
  rw [Addr.add_lit, Nat.zero_add, cell_of_row W g j _ _ _ h]
  simpa using hu

set_option maxRecDepth 100000 in
set_option maxHeartbeats 2000000 in
theorem rputv_any (v : Value) (l : List Ver) (x : Ver) (w : World) (hv : SlP 3 VerE w v l) (hg : GoodV l) (hx : lastP l < x.pl) (hx2 : x.pl ≤ 100000) (hd : x.dead = true → x.val.toList = []) (hl : l.length ≤ 100000) :
    Calls Tryz.prog 86 #[v, .agg #[.int .i64 x.pl, .string x.val, .bool x.dead]] w (VerOut (l ++ [x]) w) := by
  have hgood := fun W hb => rgoodv_any v l W (hv.mono VerE.mono (w' := W) hb) hg
  have hlast := fun W hb => rlastv_any v l W (hv.mono VerE.mono (w' := W) hb) hg
  obtain ⟨xp, xv, xd⟩ := x
  dsimp only at *
  have hlp : lastP l ≤ 100000 := by omega
  have hv0 := Lib.hid hv
  obtain ⟨q, cap, rfl, hlc, hll, -⟩ := hv.vers
  have g3 : (lastP l : Int) < (xp : Int) := by omega
  generalize lastP l = m at *
  clear hv hg
  go_enter Tryz.func86, Tryz.ntmps86
  go_upto_region 1 with fail
  have e0 := fun s' => later_cell (w := w.alloc (.cells #[.int .i64 xp, .string xv, .bool xd] 65)) (a := ⟨w.heap.size, 0, none⟩) (v := .int .i64 xp) (by simp) s'
  have e1 := fun s' => later_cell (w := w.alloc (.cells #[.int .i64 xp, .string xv, .bool xd] 65)) (a := ⟨w.heap.size, 1, none⟩) (v := .string xv) (by simp) s'
  have e2 := fun s' => later_cell (w := w.alloc (.cells #[.int .i64 xp, .string xv, .bool xd] 65)) (a := ⟨w.heap.size, 2, none⟩) (v := .bool xd) (by simp) s'
  have hG := fun s' => hgood (later (w.alloc (.cells #[.int .i64 xp, .string xv, .bool xd] 65)) s') (below_trans (below_new _ _) (later_below _ s'))
  have hL := fun s' => hlast (later (w.alloc (.cells #[.int .i64 xp, .string xv, .bool xd] 65)) s') (below_trans (below_new _ _) (later_below _ s'))
  clear hgood hlast
  go_cut [24] (fun c wc => c = .bool false ∧ Below (w.heap.size + 1) (w.alloc (.cells #[.int .i64 xp, .string xv, .bool xd] 65)) wc)
  case first =>
    cases xd with
    | false =>
      refine wp_region_mild (by kernel_rfl) (by kernel_rfl) ?_
      repeat (any_goals (first | go_big_quiet_step ((first | (exact mild_of (hG _)) | (exact mild_of (hL _)))) | quiet_step ((first | (exact mild_of (hG _)) | (exact mild_of (hL _)))) | (refine wpQuiet_step (fun K hK => ?_); go_simp; split <;> (refine hK _ ?_; clear hK K))))
      all_goals (refine wpQuiet_nil ?_; intro W hW)
      all_goals (go_wp2; go_meet; case rel => exact ⟨by rw [decide_eq_false (by omega)], by simpa using hW⟩)
    | true =>
      have hxv := hd rfl
      clear hd
      refine wp_region_mild (by kernel_rfl) (by kernel_rfl) ?_
      repeat (any_goals (first | go_big_quiet_step ((first | (exact mild_of (hG _)) | (exact mild_of (hL _)))) | quiet_step ((first | (exact mild_of (hG _)) | (exact mild_of (hL _)))) | (refine wpQuiet_step (fun K hK => ?_); go_simp; split <;> (refine hK _ ?_; clear hK K))))
      all_goals (refine wpQuiet_nil ?_; intro W hW)
      all_goals (go_wp2; go_meet; case rel => exact ⟨by rw [decide_eq_false (by omega)], by simpa using hW⟩)
  case rest =>
    obtain ⟨rfl, hbc⟩ := hcut
    obtain ⟨wp, rfl⟩ : ∃ wp : World, wp = wc := ⟨_, rfl⟩
    clear e0 e1 e2 hG hL
    go_wp2_with fail
    have hwp : Below w.heap.size w wp := below_trans (below_new w _) (hbc.mono (by simp))
    have hszp := hbc.size
    simp only [World.size_alloc] at hszp
    have d0 : wp.cell? ⟨w.heap.size, 0, none⟩ = some (.int .i64 xp) := (hbc.cell (p := ⟨w.heap.size, 0, none⟩) (by simp)).trans (by simp)
    have d1 : wp.cell? ⟨w.heap.size, 1, none⟩ = some (.string xv) := (hbc.cell (p := ⟨w.heap.size, 1, none⟩) (by simp)).trans (by simp)
    have d2 : wp.cell? ⟨w.heap.size, 2, none⟩ = some (.bool xd) := (hbc.cell (p := ⟨w.heap.size, 2, none⟩) (by simp)).trans (by simp)
    have hfl : (l.map verCells).flatten.length = l.length * 3 := by rw [flatten_len 3 _ (map_len3 l), List.length_map]
    have hS := fun W (hb : Below w.heap.size w W) => src_vers hv0.out hb
    have hA : ∀ W : World, w.heap.size + 1 ≤ W.heap.size → (W.alloc (.cells #[] 65)).ownsRow (w.heap.size + 1) 65 3 (.slice (some ⟨W.heap.size, 0, none⟩) 0 0) 0 [] := fun W h => (OwnR.made W (w.heap.size + 1) 65 3 h).row
    have hA2 : ∀ o : Obj, ((wp.alloc o).alloc (.cells #[] 65)).ownsRow (w.heap.size + 1) 65 3 (.slice (some ⟨wp.heap.size + 1, 0, none⟩) 0 0) 0 [] := fun o => by have := hA (wp.alloc o) (by simp; omega); rwa [World.size_alloc] at this
    have hC : ∀ (W : World) (g : Nat), W.heap[g]? = some (.cells #[.int .i64 xp, .string xv, .bool xd] 65 (0, 0)) → Src Tryz.prog 3 61 (.slice (some ⟨g, 0, none⟩) 1 1) 1 [.int .i64 xp, .string xv, .bool xd] W := fun W g h => src_lit h
    have keepS : ∀ W, Below (w.heap.size + 1) wp W → W.cell? ⟨w.heap.size, 0, none⟩ = some (.int .i64 xp) ∧ W.cell? ⟨w.heap.size, 1, none⟩ = some (.string xv) ∧ W.cell? ⟨w.heap.size, 2, none⟩ = some (.bool xd) := fun W hb =>
      ⟨(hb.cell (p := ⟨w.heap.size, 0, none⟩) (by simp)).trans d0, (hb.cell (p := ⟨w.heap.size, 1, none⟩) (by simp)).trans d1, (hb.cell (p := ⟨w.heap.size, 2, none⟩) (by simp)).trans d2⟩
    go_region_held3 (fun w' => w'.cell? ⟨w.heap.size, 0, none⟩ = some (.int .i64 xp) ∧ w'.cell? ⟨w.heap.size, 1, none⟩ = some (.string xv) ∧ w'.cell? ⟨w.heap.size, 2, none⟩ = some (.bool xd))
      (first
        | (exact keepS _ (Below.refl _ _).drew)
        | (exact keepS _ ((Below.refl _ _).alloc hszp _).drew)
        | (exact keepS _ (((Below.refl _ _).alloc hszp _).alloc (by simp; omega) _).drew)
        | (exact keepS _ hb1)
        | (exact keepS _ (hb1.alloc (by have := hb1.size; omega) _))
        | (exact keepS _ hb2))
      (first
        | (refine step_app (v := .slice (some ⟨wp.heap.size, 0, none⟩) 0 0) (by rfl) _ _ 61 61 (by rfl) (w.heap.size + 1) 65 3 32 verElt Tryz.underlying61 0 [] (by rfl) (hA wp (by omega)) (by rfl) _ _ (hS _ (below_alloc hwp _).drew) (by unfold maxLen; omega) (by omega) (by simp; omega) ?_; intro v1 w1 hown1 hg1 hat1; have hb1 : Below (w.heap.size + 1) wp w1 := grown_below ((Below.refl _ _).alloc hszp _).drew hg1 (by simp; omega) (by simp [Value.ownBlock]; omega); have tok1 : True := trivial)
        | (refine step_app (v := .slice (some ⟨wp.heap.size, 0, none⟩) 0 0) (by rfl) _ _ 61 61 (by rfl) (w.heap.size + 1) 65 3 32 verElt Tryz.underlying61 0 [] (by rfl) ((hA wp (by omega)).alloc _) (by rfl) _ _ (hS _ (below_alloc (below_alloc hwp _) _).drew) (by unfold maxLen; omega) (by omega) (by simp; omega) ?_; intro v1 w1 hown1 hg1 hat1; have hb1 : Below (w.heap.size + 1) wp w1 := grown_below (((Below.refl _ _).alloc hszp _).alloc (by simp; omega) _).drew hg1 (by simp; omega) (by simp [Value.ownBlock]; omega); have hC1 := hC w1 (wp.heap.size + 1) ((hg1.block _ (by simp) (by simp [Value.ownBlock])).trans (heap_new2 _ _ _)))
        | (refine step_app (v := .slice (some ⟨wp.heap.size + 1, 0, none⟩) 0 0) (by rfl) _ _ 61 61 (by rfl) (w.heap.size + 1) 65 3 32 verElt Tryz.underlying61 0 [] (by rfl) (hA2 _) (by rfl) _ _ (hS _ (below_alloc (below_alloc hwp _) _).drew) (by unfold maxLen; omega) (by omega) (by simp; omega) ?_; intro v1 w1 hown1 hg1 hat1; have hb1 : Below (w.heap.size + 1) wp w1 := grown_below (((Below.refl _ _).alloc hszp _).alloc (by simp; omega) _).drew hg1 (by simp; omega) (by simp [Value.ownBlock]; omega); have hC1 := hC w1 wp.heap.size ((hg1.block _ (by simp; omega) (by simp [Value.ownBlock])).trans (heap_old1 _ _ _)))
        | (refine step_app (v := v1) (by rfl) _ _ 61 61 (by rfl) (w.heap.size + 1) 65 3 32 verElt Tryz.underlying61 _ _ (by rfl) hown1 (by rfl) 1 _ hC1 (by unfold maxLen; omega) (by omega) (by have := hb1.size; omega) ?_; intro v2 w2 hown2 hg2 hat2; have hb2 : Below (w.heap.size + 1) wp w2 := grown_below hb1 hg2 (by have := hb1.size; omega) (fun k hk => (hown1.lt k hk).1))
        | (refine step_app (v := v1) (by rfl) _ _ 61 61 (by rfl) (w.heap.size + 1) 65 3 32 verElt Tryz.underlying61 _ _ (by rfl) (hown1.alloc _) (by rfl) 1 _ (hC (w1.alloc _) w1.heap.size (heap_alloc_new _ _)) (by unfold maxLen; omega) (by omega) (by have := hb1.size; simp; omega) ?_; intro v2 w2 hown2 hg2 hat2; have hb2 : Below (w.heap.size + 1) wp w2 := grown_below (hb1.alloc (by have := hb1.size; omega) _) hg2 (by have := hb1.size; simp; omega) (fun k hk => (hown1.lt k hk).1)))
    all_goals
      (go_wp2_with fail
       go_ret2
       refine ⟨v2, rfl, ⟨?_, map_len3 _⟩, hwp.trans (hb2.mono (by omega))⟩
       have e1 : ((l ++ [(⟨xp, xv, xd⟩ : Ver)]).map verCells).length = 0 + l.length + 1 := by simp
       have e2 : ((l ++ [(⟨xp, xv, xd⟩ : Ver)]).map verCells).flatten = [] ++ (l.map verCells).flatten ++ [.int .i64 (xp : Int), .string xv, .bool xd] := by simp [verCells]
       rw [e1, e2]
       exact own_base hown2 (by omega))

end Go.Proofs.YtgmcpfcpdmnebaaGreat
