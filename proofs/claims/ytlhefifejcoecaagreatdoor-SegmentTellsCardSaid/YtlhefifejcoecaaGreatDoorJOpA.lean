/- Open of a log: number, head, goesOn. -/
/- Open of a log: a segment's file is loaded. -/
import Derived.Test.YtlhefifejcoecaaGreatDoorSegH
import Derived.Test.YtlhefifejcoecaaGreatDoorJSegS
import Derived.Shelf.Strconv.Atoi
import Derived.Shelf.Small.Wraps
import Derived.Test.YtlhefifejcoecaaGreatDoorJScanF
namespace Go.Proofs.YtlhefifejcoecaaGreatDoor
open Go.RowKit Go.Proofs Go.Shelf
attribute [local go_sem ↓] Go.wp_at_zero Go.wp_at_succ

theorem below_freeze {a w : World} (h : Below a.heap.size a w) {p : Addr} {n : Nat} (hp : a.heap.size ≤ p.block) : Below a.heap.size a (w.freeze p n) := by
  unfold World.freeze
  split
  · exact h
  · refine h.trans ⟨rfl, rfl, rfl, by simp, fun k hk => ?_⟩
    show (w.heap.modify p.block _)[k]? = _
    rw [Array.getElem?_modify, if_neg (by omega)]

def digS (u : Nat) : ByteArray := ⟨(dig6 u).toArray⟩
theorem digS_size (u : Nat) : (digS u).size = 6 := rfl
theorem digS_list (u : Nat) : (digS u).data.toList = dig6 u := by simp [digS]

theorem cut_any (u : Nat) (W : World) : Calls Tryz.prog 77 #[.string (nameS u), .string ⟨#[115]⟩] W (fun e w' => e = .returned (.tuple #[.string (digS u), .bool true]) ∧ w' = W) := by
  have e : Tryz.laysCut_ren.f 103 = 77 := by kernel_rfl
  have h1 := Any.strings_CutPrefix Tryz.laysCut (nameS u) ⟨#[115]⟩ W
  rw [e] at h1
  refine h1.mono fun e w' ⟨he, hw⟩ => ⟨?_, hw⟩
  rw [he, nameS_list]
  unfold nameL digS
  simp [Lib.trimPrefix, Lib.hasPrefix]

theorem atoi_any (u : Nat) (hu : u ≤ 999999) (W : World) : Calls Tryz.prog 78 #[.string (digS u)] W (Gives W (.tuple #[.int .i64 (u : Int), .nilIface])) := by
  have e : Tryz.laysAtoi_ren.f 172 = 78 := by kernel_rfl
  have h1 := Any.strconv_Atoi Tryz.laysAtoi (digS u) (u : Int) (by rw [digS_size]; omega) (by rw [digS_list]; exact atoi_dig6 hu) W
  rw [e] at h1
  refine h1.mono fun e w' ⟨he, t, hw⟩ => ⟨he, ?_⟩
  rw [hw]
  unfold Lib.bytesWorld
  exact below_freeze (below_alloc ((Below.refl _ _).drew) _) (Nat.le_refl _)

set_option maxRecDepth 100000 in
theorem number_ok (u : Nat) (hu : u ≤ 999999) (w : World) (hE : Env w) : Calls Tryz.prog 43 #[.string (nameS u)] w (Gives w (.tuple #[.int .i64 (u : Int), .bool true])) := by
  have hc := cut_any u w
  have ha := fun W => atoi_any u hu W
  have hn := fun W (hb : Below w.heap.size w W) => name_ok u hu W (hE.below hb)
  have hs := digS_size u
  have Hn := Lib.hid hn
  clear hn
  generalize digS u = d at *
  generalize nameS u = s at *
  have hs' : (d.size : Int) = 6 := by rw [hs]; rfl
  go_enter Tryz.func43, Tryz.ntmps43
  go_wp2_with (first
    | (go_at_call 77; refine hc.mono ?_; rintro e w1 ⟨rfl, rfl⟩)
    | (go_at_call 78; refine (ha _).mono ?_; rintro e w2 ⟨rfl, hb2⟩; have hn2 := Hn.out w2 hb2)
    | (go_at_call 8; refine hn2.mono ?_; rintro e w3 ⟨rfl, hb3⟩)
    | fail)
  go_ret2
  exact ⟨rfl, below_trans hb2 hb3⟩

set_option maxRecDepth 100000 in
theorem head_any (f : Nat) (hf : f ≤ 2199023255552) (v : Value) (w : World) (hv : SlP 1 ByteE w v (numS f)) : Calls Tryz.prog 81 #[v] w (Gives w (.tuple #[.int .i64 (f : Int), .bool true])) := by
  have hnum := getnum_any v (numS f) w hv
  unfold NumOut at hnum
  rw [num_head (by omega)] at hnum
  obtain ⟨q, cap, rfl, hl⟩ := bytes_len hv
  dsimp only at hnum
  generalize (numS f).length = k at *
  have h1 : IntKind.i64.wrap (f : Int) = (f : Int) := IntWalk.i64_in _ (by omega)
  have h2 : (f : Int) ≤ 4611686018427387904 := by omega
  go_enter Tryz.func81, Tryz.ntmps81
  go_wp2_with (first
    | (go_at_call 94; refine hnum.mono ?_; rintro e w1 ⟨rfl, hb1⟩)
    | fail)
  go_ret2
  exact ⟨rfl, hb1⟩

/-- May a segment stand behind those that are there? -/
def GoesOn (segs : List Seg) (s : Seg) : Prop := segs = [] ∨ (s.n = nextN segs ∧ s.first = nextS segs)

set_option maxRecDepth 100000 in
set_option maxHeartbeats 2000000 in
theorem goesOn_any (w : World) (L X sz : Nat) (segs : List Seg) (hR : LogR w L X sz segs) (f e n : Nat) (lq : Option Addr) (lk lcap : Nat) (hg : segs = [] ∨ (n = nextN segs ∧ f = nextS segs)) :
    Calls Tryz.prog 45 #[.pointer (some ⟨L, 0, none⟩), segV f e n (.slice lq lk lcap)] w (Gives w (.bool true)) := by
  obtain ⟨q, cap, c0, c1, c2, hL, hlc, hll, hc⟩ := hR.open_
  unfold segV
  by_cases hn0 : segs.length = 0
  · obtain rfl : segs = [] := List.eq_nil_of_length_eq_zero hn0
    simp only [List.length_nil] at *
    clear hg
    have c2' := bcell (below_new w (.cells #[.int .i64 (f : Int), .int .i64 (e : Int), .int .i64 (n : Int), .slice lq lk lcap] 72)) c2
    go_enter Tryz.func45, Tryz.ntmps45
    go_wp2_with fail
    go_ret
    exact ⟨rfl, below_new _ _⟩
  · obtain ⟨m, hm⟩ : ∃ m, m + 1 = segs.length := ⟨segs.length - 1, by omega⟩
    obtain ⟨b, off, lv, rfl, hok, e0, e1, e2, e3, hlv⟩ := hc m (by omega)
    obtain ⟨ql, cl, rfl, -⟩ := hlv
    have hlast := last_of hm
    have hne : segs ≠ [] := fun h => hn0 (by rw [h]; rfl)
    obtain ⟨hgn, hgf⟩ := hg.resolve_left hne
    have hgn2 : n = (segs[m]'(by omega)).n + 1 := by rw [hgn]; exact nextN_of hm
    have hgf2 : f = (segs[m]'(by omega)).first + (segs[m]'(by omega)).l.length := by rw [hgf]; unfold nextS; rw [hlast]; rfl
    have hnx := fun W : World => snext_any W (segs[m]'(by omega)).first (bytesS (segs[m]'(by omega))).length (segs[m]'(by omega)).n (segs[m]'(by omega)).l.length ql cl hok.first hok.len
    have hokn := hok.n
    rw [← hgf2] at hnx
    generalize segs[m]'(by omega) = s at *
    obtain ⟨N, hN⟩ : ∃ N, N = segs.length := ⟨_, rfl⟩
    rw [← hN] at c2 hlc hll hm
    generalize (bytesS s).length = en at *
    generalize s.l.length = k at *
    generalize s.n = sn at *
    generalize s.first = sf at *
    have n0 : (0 : Int) < (N : Int) := by omega
    have n1 : ¬ (N : Int) = 0 := by omega
    have n2 : IntKind.i64.wrap ((N : Int) - 1) = (m : Int) := by rw [IntWalk.i64_in _ (by omega)]; omega
    have n3 : (m : Int) < (N : Int) := by omega
    have n4 : IntKind.i64.wrap ((sn : Int) + 1) = (n : Int) := by rw [IntWalk.i64_in _ (by omega)]; omega
    unfold segV at hnx
    clear hc hm hn0 hlast hok hgn hgn2 hgf hgf2 hR hN hne hg hokn
    go_enter Tryz.func45, Tryz.ntmps45
    go_upto_region 1 with fail
    generalize hB0 : World.alloc w _ = w1
    have hb1 : Below w.heap.size w w1 := by rw [← hB0]; exact below_new _ _
    have s0 : w1.cell? ⟨w.heap.size, 0, none⟩ = some (.int .i64 (f : Int)) := by rw [← hB0]; simp
    have s2 : w1.cell? ⟨w.heap.size, 2, none⟩ = some (.int .i64 (n : Int)) := by rw [← hB0]; simp
    clear hB0
    replace c2 := bcell hb1 c2
    replace e0 := bcell hb1 e0
    replace e1 := bcell hb1 e1
    replace e2 := bcell hb1 e2
    replace e3 := bcell hb1 e3
    go_upto_region 3 with fail
    refine wp_region_held_drew (S := (fun w' => w'.cell? ⟨L, 2, none⟩ = some (.slice (some ⟨b, off, none⟩) N cap) ∧ w'.cell? ⟨b, off + m * 4, none⟩ = some (.int .i64 (sf : Int)) ∧ w'.cell? ⟨b, off + m * 4 + 1, none⟩ = some (.int .i64 (en : Int)) ∧ w'.cell? ⟨b, off + m * 4 + 2, none⟩ = some (.int .i64 (sn : Int)) ∧ w'.cell? ⟨b, off + m * 4 + 3, none⟩ = some (.slice ql k cl))) (by kernel_rfl) (by exact ⟨c2, e0, e1, e2, e3⟩) (fun hHeld => ?_)
    refine' takeL (v := _) 0 rfl (by kernel_rfl) (by kernel_rfl) (by kernel_rfl) (fun _ _ _ h => h) (by rfl) ?_ (by assumption) ?_; rotate_left 1; (focus (intro w hSw; (try dsimp only at hSw); go_simp; (try with_reducible rfl); done))
    (try simp only [Act.put, List.setIfInBounds_toArray, List.set_cons_zero, List.set_cons_succ])
    refine' takeL (v := _) 1 rfl (by kernel_rfl) (by kernel_rfl) (by kernel_rfl) (fun _ _ _ h => h) (by rfl) ?_ (by assumption) ?_; rotate_left 1; (focus (intro w hSw; (try dsimp only at hSw); go_simp; (try with_reducible rfl); done))
    (try simp only [Act.put, List.setIfInBounds_toArray, List.set_cons_zero, List.set_cons_succ])
    refine' takeL (v := _) 2 rfl (by kernel_rfl) (by kernel_rfl) (by kernel_rfl) (fun _ _ _ h => h) (by rfl) ?_ (by assumption) ?_; rotate_left 1; (focus (intro w hSw; (try dsimp only at hSw); go_simp; (try with_reducible rfl); done))
    (try simp only [Act.put, List.setIfInBounds_toArray, List.set_cons_zero, List.set_cons_succ])
    refine' takeL (v := _) 3 rfl (by kernel_rfl) (by kernel_rfl) (by kernel_rfl) (fun _ _ _ h => h) (by rfl) ?_ (by assumption) ?_; rotate_left 1; (focus (intro w hSw; (try dsimp only at hSw); go_simp; (try with_reducible rfl); done))
    (try simp only [Act.put, List.setIfInBounds_toArray, List.set_cons_zero, List.set_cons_succ])
    refine' takeL (v := _) 4 rfl (by kernel_rfl) (by kernel_rfl) (by kernel_rfl) (fun _ _ _ h => h) (by rfl) ?_ (by assumption) ?_; rotate_left 1; (focus (intro w hSw; (try dsimp only at hSw); go_simp; (try with_reducible rfl); done))
    (try simp only [Act.put, List.setIfInBounds_toArray, List.set_cons_zero, List.set_cons_succ])
    refine' takeL (v := _) 5 rfl (by kernel_rfl) (by kernel_rfl) (by kernel_rfl) (fun _ _ _ h => h) (by rfl) ?_ (by assumption) ?_; rotate_left 1; (focus (intro w hSw; (try dsimp only at hSw); go_simp; (try with_reducible rfl); done))
    (try simp only [Act.put, List.setIfInBounds_toArray, List.set_cons_zero, List.set_cons_succ])
    refine' takeL (v := _) 6 rfl (by kernel_rfl) (by kernel_rfl) (by kernel_rfl) (fun _ _ _ h => h) (by rfl) ?_ (by assumption) ?_; rotate_left 1; (focus (intro w hSw; (try dsimp only at hSw); go_simp; (try with_reducible rfl); done))
    (try simp only [Act.put, List.setIfInBounds_toArray, List.set_cons_zero, List.set_cons_succ])
    refine' takeL (v := _) 7 rfl (by kernel_rfl) (by kernel_rfl) (by kernel_rfl) (fun _ _ _ h => h) (by rfl) ?_ (by assumption) ?_; rotate_left 1; (focus (intro w hSw; (try dsimp only at hSw); go_simp; (try with_reducible rfl); done))
    (try simp only [Act.put, List.setIfInBounds_toArray, List.set_cons_zero, List.set_cons_succ])
    refine' takeL (v := _) 8 rfl (by kernel_rfl) (by kernel_rfl) (by kernel_rfl) (fun _ _ _ h => h) (by rfl) ?_ (by assumption) ?_; rotate_left 1; (focus (intro w hSw; (try dsimp only at hSw); go_simp; (try with_reducible rfl); done))
    (try simp only [Act.put, List.setIfInBounds_toArray, List.set_cons_zero, List.set_cons_succ])
    refine' takeL (v := _) 9 rfl (by kernel_rfl) (by kernel_rfl) (by kernel_rfl) (fun _ _ _ h => h) (by rfl) ?_ (by assumption) ?_; rotate_left 1; (focus (intro w hSw; (try dsimp only at hSw); go_simp; (try with_reducible rfl); done))
    (try simp only [Act.put, List.setIfInBounds_toArray, List.set_cons_zero, List.set_cons_succ])
    refine' takeL (v := _) 10 rfl (by kernel_rfl) (by kernel_rfl) (by kernel_rfl) (fun _ _ _ h => h) (by rfl) ?_ (by assumption) ?_; rotate_left 1; (focus (intro w hSw; (try dsimp only at hSw); go_simp; (try with_reducible rfl); done))
    (try simp only [Act.put, List.setIfInBounds_toArray, List.set_cons_zero, List.set_cons_succ])
    refine' takeL (v := _) 11 rfl (by kernel_rfl) (by kernel_rfl) (by kernel_rfl) (fun _ _ _ h => h) (by rfl) ?_ (by assumption) ?_; rotate_left 1; (focus (intro w hSw; (try dsimp only at hSw); go_simp; (try with_reducible rfl); done))
    (try simp only [Act.put, List.setIfInBounds_toArray, List.set_cons_zero, List.set_cons_succ])
    refine stepL 12 rfl (by kernel_rfl) (fun K hK => ?_)
    go_simp
    have hbA : ∀ o, Below w1.heap.size w1 (w1.drew.alloc o) := fun o => below_alloc ((Below.refl _ _).drew) o
    refine hK.out _ _ (by exact ⟨bcell (hbA _) c2, bcell (hbA _) e0, bcell (hbA _) e1, bcell (hbA _) e2, bcell (hbA _) e3⟩) (fun hHeld => ?_)
    clear hK K
    (try simp only [Act.put, List.setIfInBounds_toArray, List.set_cons_zero, List.set_cons_succ])
    refine stepL 13 rfl (by kernel_rfl) (fun K hK => ?_)
    go_simp
    generalize hW2 : World.alloc w1 _ = w5
    have hb5 : Below w1.heap.size w1 w5 := by rw [← hW2]; exact below_new _ _
    have g0 : w5.cell? ⟨w1.heap.size, 0, none⟩ = some (.int .i64 (sf : Int)) := by rw [← hW2]; simp
    have g1 : w5.cell? ⟨w1.heap.size, 1, none⟩ = some (.int .i64 (en : Int)) := by rw [← hW2]; simp
    have g2 : w5.cell? ⟨w1.heap.size, 2, none⟩ = some (.int .i64 (sn : Int)) := by rw [← hW2]; simp
    have g3 : w5.cell? ⟨w1.heap.size, 3, none⟩ = some (.slice ql k cl) := by rw [← hW2]; simp
    clear hW2 hbA
    have hb5d := hb5.drew
    refine hK.out _ _ (by exact ⟨bcell hb5d c2, bcell hb5d e0, bcell hb5d e1, bcell hb5d e2, bcell hb5d e3⟩) (fun hHeld => ?_)
    clear hK K
    (try simp only [Act.put, List.setIfInBounds_toArray, List.set_cons_zero, List.set_cons_succ])
    refine wpAnyH_done (by kernel_rfl) ?_ _
    go_upto_region 4 with fail
    replace s0 := fun s => later_cell (bcell hb5d s0) s
    replace s2 := fun s => later_cell (bcell hb5d s2) s
    replace g0 := fun s => later_cell (w := w5.drew) g0 s
    replace g1 := fun s => later_cell (w := w5.drew) g1 s
    replace g2 := fun s => later_cell (w := w5.drew) g2 s
    replace g3 := fun s => later_cell (w := w5.drew) g3 s
    refine wp_region_mild (by kernel_rfl) (by kernel_rfl) ?_
    repeat (any_goals (first | go_big_quiet_step ((first | (exact mild_of (hnx _)))) | quiet_step ((first | (exact mild_of (hnx _)))) | (refine wpQuiet_step (fun K hK => ?_); go_simp; split <;> (refine hK _ ?_; clear hK K))))
    all_goals (refine wpQuiet_nil ?_; intro W hW)
    go_wp2
    go_ret
    exact ⟨rfl, below_trans (below_trans hb1 hb5d) hW⟩
end Go.Proofs.YtlhefifejcoecaaGreatDoor

namespace Go.Proofs.YtlhefifejcoecaaGreatDoor
open Go.RowKit Go.Proofs Go.Shelf
attribute [local go_sem ↓] Go.wp_at_zero Go.wp_at_succ

theorem load_seg (w : World) (b o : Nat) (v0 v1 v2 v3 : Value) (h0 : w.cell? ⟨b, o, none⟩ = some v0) (h1 : w.cell? ⟨b, o + 1, none⟩ = some v1) (h2 : w.cell? ⟨b, o + 2, none⟩ = some v2) (h3 : w.cell? ⟨b, o + 3, none⟩ = some v3) : (loadVar 72 ⟨b, o, none⟩).run Tryz.prog w = .ok (.agg #[v0, v1, v2, v3]) w := by
  have ha : (isAgg 72).run Tryz.prog w = .ok true w := by kernel_rfl
  have hs : (sizeOf 72).run Tryz.prog w = .ok 4 w := by kernel_rfl
  simp [loadVar, ha, hs, loadCells, loadCellsFrom, Result.andThen, h0, h1, h2, h3, Addr.add]

theorem results_seg {fn : Func} {a u u' : Tmp} (h : fn.results = #[.cell a 72, .tmp u, .tmp u']) (tmps : Array Value) (w : World) (b o : Nat) (v0 v1 v2 v3 : Value) (ha : tmps.getD a undef = .pointer (some ⟨b, o, none⟩)) (h0 : w.cell? ⟨b, o, none⟩ = some v0) (h1 : w.cell? ⟨b, o + 1, none⟩ = some v1) (h2 : w.cell? ⟨b, o + 2, none⟩ = some v2) (h3 : w.cell? ⟨b, o + 3, none⟩ = some v3) :
    (results fn tmps).run Tryz.prog w = .ok (.tuple #[.agg #[v0, v1, v2, v3], tmps.getD u undef, tmps.getD u' undef]) w := by
  have h2 := load_seg w b o v0 v1 v2 v3 h0 h1 h2 h3
  simp only [Array.getD_eq_getD_getElem?] at ha
  simp [results, h, ha, asAddr, h2, Result.andThen]

/-- Strings that lie in blocks from lo on, whatever else turns. -/
def StrsHeld (lo : Nat) (w : World) (v : Value) (l : List (List UInt8)) : Prop := ∀ W', (∀ k, lo ≤ k → k < w.heap.size → W'.heap[k]? = w.heap[k]?) → SlP 1 StrE W' v l

def LoadOut (s : Seg) (w : World) (e : Ending) (w' : World) : Prop := ∃ q cap, e = .returned (.tuple #[segV s.first (bytesS s).length s.n (.slice q s.l.length cap), .bool true, .int .i64 0]) ∧ StrsHeld w.heap.size w' (.slice q s.l.length cap) s.l ∧ Below w.heap.size w w'

theorem scan_held {w' : World} {base : Nat} {lv : Value} {vs : List Value} {l : List (List UInt8)} (hr : OwnR w' base 25 1 lv (vs.map fun v => [v])) (hl : vs.length = l.length) (he : ∀ j (h1 : j < vs.length) (h2 : j < l.length), OwnB w' base vs[j] l[j]) (h8 : ∀ b ∈ l, b.length ≤ 1000000) (hm : l.length ≤ 2000000) :
    StrsHeld base w' lv l := by
  intro W' hk
  have h1 : OwnR W' base 25 1 lv (vs.map fun v => [v]) := hr.block fun g hg => by
    have := World.ownsRow.lt hr.row g hg
    exact hk g this.1 this.2
  refine h1.slp (by simpa using hl) (by omega) fun j h2 h3 => ?_
  simp only [List.getElem_map]
  simp only [List.length_map] at h2
  have h4 := he j h2 h3
  exact ⟨vs[j], rfl, OwnB.at (owns_block h4 fun g hg => by
    have := World.ownsRow.lt h4 g hg
    exact hk g this.1 this.2) (by have := h8 _ (List.getElem_mem h3); omega)⟩

theorem StrsHeld.tail {lo : Nat} {w : World} {g o n cap : Nat} {x : List UInt8} {l : List (List UInt8)} (h : StrsHeld lo w (.slice (some ⟨g, o, none⟩) n cap) (x :: l)) : StrsHeld lo w (.slice (some (if cap = 1 then ⟨g, o, none⟩ else ⟨g, o + 1, none⟩)) (n - 1) (cap - 1)) l :=
  fun W' hk => slp_from (k := 1) (h W' hk) (by simp)

theorem flat_more : ∀ l : List (List UInt8), l.length ≤ (l.flatMap padS).length
  | [] => by simp
  | x :: l => by
    have h1 := flat_more l
    have h2 := padS_pos x
    rw [List.flatMap_cons, List.length_append, List.length_cons]; omega

theorem bytesS_more {s : Seg} : s.l.length + 1 ≤ (bytesS s).length := by
  have h1 := flat_more s.l
  have h2 := padS_pos (numS s.first)
  unfold bytesS headS
  rw [List.length_append]; omega

theorem slice_rows (g o len cap : Nat) (hl : len + 1 ≤ cap) (W : World) : ∃ q, (Instr.slice 70 (.slice (some ⟨g, o, none⟩) (len + 1) cap) (some (.int .i64 1)) none none).run Tryz.prog W = .ok (.slice q len (cap - 1)) W ∧ q = some (if cap = 1 then ⟨g, o, none⟩ else ⟨g, o + 1, none⟩) := by
  refine ⟨_, ?_, rfl⟩
  have h1 : (Go.sizeOf 25).run Tryz.prog W = .ok 1 W := by kernel_rfl
  have h2 : (underlying 70).run Tryz.prog W = .ok (.slice 25) W := by kernel_rfl
  have h3 : (1 : Int) ≤ ((len + 1 : Nat) : Int) := by omega
  by_cases hc : cap = 1
  · simp [Instr.slice, Instr.sliceBounds, Instr.sliceBound, h1, h2, go_sem, hc]
    intro h; omega
  · simp [Instr.slice, Instr.sliceBounds, Instr.sliceBound, h1, h2, go_sem, hc]
    intro h; omega

theorem held_open {lo : Nat} {w : World} {lv : Value} {x : List UInt8} {l : List (List UInt8)} (h : StrsHeld lo w lv (x :: l)) : ∃ g o cap q c, lv = .slice (some ⟨g, o, none⟩) (l.length + 1) cap ∧ l.length + 1 ≤ cap ∧ w.cell? ⟨g, o, none⟩ = some (.slice q x.length c) ∧ SlP 1 ByteE w (.slice q x.length c) x := by
  obtain ⟨p, cap, rfl, h1, -, -, h3⟩ := h w (fun _ _ _ => rfl)
  obtain ⟨b, off, cs, rfl, hcs, ⟨v0, rfl, hv0⟩, hc⟩ := h3 0 (by simp)
  obtain ⟨q, c, rfl, -⟩ := bytes_len hv0
  have h0 := hc 0 (by simp)
  simp only [List.getElem_cons_zero, Nat.zero_mul, Nat.add_zero] at h0 hv0
  exact ⟨b, off, cap, q, c, rfl, h1, h0, hv0⟩

theorem size_setCell4 (w : World) (p : Addr) (v : Value) : (w.setCell p v).heap.size = w.heap.size := by simp [World.setCell]

def ScanSeg (s : Seg) (en k : Nat) (W : World) (e : Ending) (w' : World) : Prop := ∃ gl ol cl q0 c0, e = .returned (.tuple #[.slice (some ⟨gl, ol, none⟩) (k + 1) cl, .int .i64 (en : Int)]) ∧ k + 1 ≤ cl ∧ w'.cell? ⟨gl, ol, none⟩ = some (.slice q0 (numS s.first).length c0) ∧
  SlP 1 ByteE w' (.slice q0 (numS s.first).length c0) (numS s.first) ∧ StrsHeld W.heap.size w' (.slice (some ⟨gl, ol, none⟩) (k + 1) cl) (numS s.first :: s.l) ∧ Below W.heap.size W w'

theorem scan_seg {s : Seg} {F : List UInt8} {W : World} {v : Value} (hok : s.Ok) (hsc : scanS (F.length + 1) F 0 = (numS s.first :: s.l, (bytesS s).length)) (h : Calls Tryz.prog 80 #[v] W (ScanOut F W)) : Calls Tryz.prog 80 #[v] W (ScanSeg s (bytesS s).length s.l.length W) := by
  refine h.mono ?_
  unfold ScanOut
  rw [hsc]
  dsimp only
  rintro e w' ⟨lv, vs, rfl, hrow, hvl, heach, hb⟩
  have hH := scan_held hrow hvl heach (fun b hb => by
    rcases List.mem_cons.1 hb with rfl | hb
    · have := numS_length s.first; omega
    · have := hok.each b hb; omega) (by have h9 := hok.len; show s.l.length + 1 ≤ 2000000; omega)
  obtain ⟨gl, ol, cl, q0, c0, rfl, hcl, cv0, hv0⟩ := held_open hH
  exact ⟨gl, ol, cl, q0, c0, rfl, hcl, cv0, hv0, hH, hb⟩

set_option maxRecDepth 100000 in
set_option maxHeartbeats 4000000 in
theorem sload_any (w : World) (X D n sz : Nat) (segs : List Seg) (Kp : Nat → Prop) (safe cur : List UInt8) (now saved : Files) (epoch which : Nat) (hd : DirAt w Kp X D n safe cur false now saved epoch which) (hE : Env w)
    (h : LogOK sz segs now cur) (hk : DOK n safe cur now saved epoch which) (hsz : 1 ≤ sz) (hsz2 : sz ≤ 512) (m : Nat) (hm : m < segs.length) : Calls Tryz.prog 44 #[.pointer (some ⟨X, 0, none⟩), .string (nameS segs[m].n), .int .i64 (segs[m].n : Int)] w (LoadOut segs[m] w) := by
  obtain ⟨ex, hex, hes, hin, hseg⟩ := h.get hk (j := m) hm
  have hok := h.ok _ (List.getElem_mem hm)
  have hgn := hk.gnow.in_
  have hsize : ∀ W, Below w.heap.size w W → Calls Tryz.prog 69 #[.pointer (some ⟨X, 0, none⟩), .string (nameS segs[m].n)] W (Gives W (.int .i64 ((32 * sz : Nat) : Int))) := fun W hb => by
    have h1 := dsize_any W Kp X D n safe cur false now saved epoch which (hd.below hb) (nameS segs[m].n)
    rw [hex] at h1
    simpa [hes] using h1
  have hwr : wrS now (nameS segs[m].n) 0 ((32 * sz : Nat) : Int) = some (32 * ex.1) := by
    unfold wrS
    rw [hex]
    dsimp only
    rw [if_pos (by omega)]
    simp
  have hread : ∀ W, Below w.heap.size w W → Calls Tryz.prog 79 #[.pointer (some ⟨X, 0, none⟩), .string (nameS segs[m].n), .int .i64 0, .int .i64 ((32 * sz : Nat) : Int)] W (fun e w' => ∃ v, e = .returned (.tuple #[v, .int .i64 0]) ∧ Below W.heap.size W w' ∧ OwnB w' W.heap.size v (fileS sz segs[m])) := fun W hb => by
    refine (dread_any W Kp X D n safe cur now saved epoch which (hd.below hb) hgn (nameS segs[m].n) 0 ((32 * sz : Nat) : Int) (by omega) (by omega)).mono ?_
    rintro e w' ⟨v, x, rfl, hb', hc⟩
    rw [hwr] at hc
    obtain ⟨rfl, ho⟩ := hc
    refine ⟨v, rfl, hb', ?_⟩
    have e1 : (cur.drop (32 * ex.1)).take ((32 * sz : Nat) : Int).toNat = fileS sz segs[m] := by rw [← hseg]; unfold seg; rw [hes]; rfl
    rw [← e1]; exact ho
  have hfl : (fileS sz segs[m]).length = 32 * sz := by
    have := h.fit _ (List.getElem_mem hm)
    unfold fileS zerosB
    rw [List.length_append, List.length_replicate]; omega
  have hsc := scan_file (sz := sz) (k := (fileS sz segs[m]).length + 1) hok (by rw [hfl]; have := h.fit _ (List.getElem_mem hm); have := bytesS_more (s := segs[m]); omega)
  have hscan : ∀ W v, Below w.heap.size w W → SlP 1 ByteE W v (fileS sz segs[m]) → Calls Tryz.prog 80 #[v] W (ScanSeg segs[m] (bytesS segs[m]).length segs[m].l.length W) := fun W v hb hv => scan_seg hok hsc (scan_any v _ W hv (by rw [hfl]; omega) (hE.nib.below hb) (by rw [hfl]; omega))
  have Hsz := Lib.hid hsize
  have Hrd := Lib.hid hread
  have Hsn := Lib.hid hscan
  have Hok := Lib.hid hok
  have hf := hok.first
  have hfit := h.fit _ (List.getElem_mem hm)
  have hlen := hok.len
  clear hsize hread hscan hok hd hE h hk hex hes hin hseg hgn hwr hsc
  generalize segs[m] = s at *
  obtain ⟨en, hen⟩ : ∃ en, en = (bytesS s).length := ⟨_, rfl⟩
  have Hen := Lib.hid hen
  rw [← hen] at hfit
  obtain ⟨k, hk⟩ : ∃ k, k = s.l.length := ⟨_, rfl⟩
  have Hk := Lib.hid hk
  rw [← hk] at hlen
  unfold LoadOut segV
  rw [← hen, ← hk]
  obtain ⟨S32, hS⟩ : ∃ S32, S32 = 32 * sz := ⟨_, rfl⟩
  rw [← hS] at Hsz Hrd hfl hfit
  generalize hFe : fileS sz s = F at *
  have hFl : F.length ≤ 20000 := by omega
  have hhead := fun W v hv => head_any s.first hf v W hv
  clear hen hk hS hFe hm hsz hsz2 hfl
  go_enter Tryz.func44, Tryz.ntmps44
  go_upto_region 1 with fail
  generalize hW0 : World.alloc w _ = w1
  have hb1 : Below w.heap.size w w1 := by rw [← hW0]; exact below_new _ _
  have h6 : w1.heap[w.heap.size]? = some (.cells #[.int .i64 0, .int .i64 0, .int .i64 0, .slice none 0 0] 72 (0, 0)) := by rw [← hW0]; exact heap_alloc_new _ _
  clear hW0
  have hs1 := Hsz.out w1 hb1
  go_upto_region 4 with (first
    | (go_at_call 69; refine hs1.mono ?_; rintro e w2 ⟨rfl, hb2⟩; have hb02 := below_trans hb1 hb2; have hr2 := Hrd.out w2 hb02)
    | (go_at_call 79; refine hr2.mono ?_; rintro e w3 ⟨v3, rfl, hb3, hown3⟩; obtain ⟨q3, c3, hq3⟩ := own_slice hown3; subst hq3; have hb03 := below_trans hb02 hb3)
    | fail)
  have hs3 := Hsn.out w3 _ hb03 (hown3.at (by omega))
  rw [← Hen.out, ← Hk.out] at hs3
  have hsl := slice_rows
  go_upto_region 7 with (first
    | (go_at_call 80; refine hs3.mono ?_; rintro e w4 ⟨gl, ol, cl, q0, c0, rfl, hcl, cv0, hv0, hH, hb4⟩)
    | fail)
  have hb04 := below_trans hb03 hb4
  have hb14 := below_trans (below_trans hb2 hb3) hb4
  have h64 := (hb14.block _ (heap_lt h6)).trans h6
  have hh4 := hhead w4 _ hv0
  obtain ⟨qt, hst, hqt⟩ := hsl gl ol k cl hcl w4
  go_upto_region 8 with (first
    | (go_at_call 81; refine hh4.mono ?_; rintro e w5 ⟨rfl, hb5⟩)
    | fail)
  have h65 := (hb5.block _ (heap_lt h64)).trans h64
  have c60 : w5.cell? ⟨w.heap.size, 0, none⟩ = some (.int .i64 0) := by rw [block_cell h65]; rfl
  have c61 : w5.cell? ⟨w.heap.size, 1, none⟩ = some (.int .i64 0) := by rw [block_cell h65]; rfl
  have c62 : w5.cell? ⟨w.heap.size, 2, none⟩ = some (.int .i64 0) := by rw [block_cell h65]; rfl
  have c63 : w5.cell? ⟨w.heap.size, 3, none⟩ = some (.slice none 0 0) := by rw [block_cell h65]; rfl
  have hfz := fun (i : Nat) => block_free h65 i
  have hb05 := below_trans hb04 hb5
  have hH2 := hH.tail
  rw [Nat.add_sub_cancel] at hH2
  have HH := Lib.hid hH2
  clear hst hqt hsl hH hH2 hv0 hh4
  have hs13 := (below_trans hb2 hb3).size
  have hs0 := heap_lt h6
  have hs45 := hb5.size
  by_cases hc1 : cl = 1
  · subst hc1
    obtain rfl : k = 0 := by omega
    go_wp2_with fail
    have r3 := block_set (block_set (block_set (block_set h65 0 (.int .i64 (s.first : Int))) 1 (.int .i64 (en : Int))) 2 (.int .i64 (s.n : Int))) 3 (.slice (some ⟨gl, ol, none⟩) 0 0)
    refine bodyPost_ret (results_seg rfl _ _ w.heap.size 0 (.int .i64 (s.first : Int)) (.int .i64 (en : Int)) (.int .i64 (s.n : Int)) (.slice (some ⟨gl, ol, none⟩) 0 0) rfl (by rw [block_cell r3]; rfl) (by rw [block_cell r3]; rfl) (by rw [block_cell r3]; rfl) (by rw [block_cell r3]; rfl)) rfl ?_
    refine ⟨(some ⟨gl, ol, none⟩), 0, rfl, ?_, (((hb05.setCell (Nat.le_refl _) _).setCell (Nat.le_refl _) _).setCell (Nat.le_refl _) _).setCell (Nat.le_refl _) _⟩
    intro W' hW'
    refine HH.out W' fun j h1 h2 => ?_
    have h3 := hW' j (by omega) (by simp only [size_setCell4]; omega)
    rw [h3, Below.heap_setCell _ _ _ _ (by simp; omega), Below.heap_setCell _ _ _ _ (by simp; omega), Below.heap_setCell _ _ _ _ (by simp; omega), Below.heap_setCell _ _ _ _ (by simp; omega)]
    exact hb5.block j h2
  · have HH := Lib.hid (by have h := HH.out; rw [if_neg hc1] at h; exact h : StrsHeld w3.heap.size w4 (.slice (some ⟨gl, ol + 1, none⟩) k (cl - 1)) s.l)
    go_wp2_with fail
    have r3 := block_set (block_set (block_set (block_set h65 0 (.int .i64 (s.first : Int))) 1 (.int .i64 (en : Int))) 2 (.int .i64 (s.n : Int))) 3 (.slice (some ⟨gl, ol + 1, none⟩) k (cl - 1))
    refine bodyPost_ret (results_seg rfl _ _ w.heap.size 0 (.int .i64 (s.first : Int)) (.int .i64 (en : Int)) (.int .i64 (s.n : Int)) (.slice (some ⟨gl, ol + 1, none⟩) k (cl - 1)) rfl (by rw [block_cell r3]; rfl) (by rw [block_cell r3]; rfl) (by rw [block_cell r3]; rfl) (by rw [block_cell r3]; rfl)) rfl ?_
    refine ⟨(some ⟨gl, ol + 1, none⟩), (cl - 1), rfl, ?_, (((hb05.setCell (Nat.le_refl _) _).setCell (Nat.le_refl _) _).setCell (Nat.le_refl _) _).setCell (Nat.le_refl _) _⟩
    intro W' hW'
    refine HH.out W' fun j h1 h2 => ?_
    have h3 := hW' j (by omega) (by simp only [size_setCell4]; omega)
    rw [h3, Below.heap_setCell _ _ _ _ (by simp; omega), Below.heap_setCell _ _ _ _ (by simp; omega), Below.heap_setCell _ _ _ _ (by simp; omega), Below.heap_setCell _ _ _ _ (by simp; omega)]
    exact hb5.block j h2
end Go.Proofs.YtlhefifejcoecaaGreatDoor
