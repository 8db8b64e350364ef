/- Open of a log: the directory's files, one behind the other. -/
/- Open of a log, walked: of a directory that holds a right one. -/
import Derived.Test.YtlhefifejcoecaaGreatDoorOpC
import Derived.Test.YtlhefifejcoecaaGreatDoorSegJ
namespace Go.Proofs.YtlhefifejcoecaaGreatDoor
open Go.RowKit Go.Proofs Go.Shelf
attribute [local go_sem ↓] Go.wp_at_zero Go.wp_at_succ

def segC (s : Seg) (lv : Value) : List Value := [.int .i64 (s.first : Int), .int .i64 ((bytesS s).length : Int), .int .i64 (s.n : Int), lv]

/-- What stands in memory when the first k segments are loaded. -/
structure OpenE (w3 : World) (L X sz : Nat) (segs : List Seg) (k : Nat) (wr : World) (sv : Value) (css : List (List Value)) (KS : Nat → Prop) : Prop where
  log : wr.heap[L]? = some (.cells #[.pointer (some ⟨X, 0, none⟩), .int .i64 (sz : Int), sv] 32 (0, 0))
  own : OwnR wr w3.heap.size 72 4 sv css
  len : css.length = k
  held : ∀ j, KS j → w3.heap.size ≤ j ∧ j < wr.heap.size ∧ sv.ownBlock ≠ some j
  each : ∀ j (h1 : j < css.length) (h2 : j < segs.length), ∃ lv, css[j] = segC segs[j] lv ∧ ∀ W', (∀ b, KS b → W'.heap[b]? = wr.heap[b]?) → SlP 1 StrE W' lv segs[j].l
  same : ∀ j, j < w3.heap.size → j ≠ L → wr.heap[j]? = w3.heap[j]?
  size : w3.heap.size ≤ wr.heap.size

theorem OpenE.below {w3 : World} {L X sz : Nat} {segs : List Seg} {k : Nat} {wr W : World} {sv : Value} {css : List (List Value)} {KS : Nat → Prop} (h : OpenE w3 L X sz segs k wr sv css KS) (hb : Below wr.heap.size wr W) : OpenE w3 L X sz segs k W sv css KS := by
  refine ⟨(hb.block _ (heap_lt h.log)).trans h.log, h.own.below hb, h.len, fun j hj => ?_, fun j h1 h2 => ?_, fun j hj hne => (hb.block _ (Nat.lt_of_lt_of_le hj h.size)).trans (h.same j hj hne), Nat.le_trans h.size hb.size⟩
  · obtain ⟨a, b, c⟩ := h.held j hj
    exact ⟨a, Nat.lt_of_lt_of_le b hb.size, c⟩
  · obtain ⟨lv, e, hl⟩ := h.each j h1 h2
    exact ⟨lv, e, fun W' hW' => hl W' fun b hb' => (hW' b hb').trans (hb.block _ (h.held b hb').2.1)⟩

theorem OpenE.rd {w3 : World} {L X sz : Nat} {segs : List Seg} {k : Nat} {wr : World} {sv : Value} {css : List (List Value)} {KS : Nat → Prop} (h : OpenE w3 L X sz segs k wr sv css KS) (hk : k ≤ segs.length) (hok : ∀ s ∈ segs, s.Ok) (hl : segs.length ≤ 1000000) : LogR wr L X sz (segs.take k) := by
  have hlen := h.len
  refine ⟨⟨sv, h.log, h.own.slp (by rw [hlen, List.length_take]; omega) (by rw [List.length_take]; omega) fun j h1 h2 => ?_⟩, fun s hs => hok s (List.mem_of_mem_take hs)⟩
  obtain ⟨lv, e, hlv⟩ := h.each j h1 (by omega)
  rw [List.getElem_take]
  exact ⟨lv, e, hlv wr fun _ _ => rfl⟩

/-- One more. -/
theorem OpenE.push {w3 : World} {L X sz : Nat} {segs : List Seg} {k lo : Nat} {wr w5 w9 w10 : World} {sv v' lv : Value} {css : List (List Value)} {KS : Nat → Prop} (h : OpenE w3 L X sz segs k wr sv css KS) (hL3 : L < w3.heap.size) (hk : k < segs.length)
    (hlo : wr.heap.size ≤ lo) (hb5 : Below wr.heap.size wr w5) (hheld : StrsHeld lo w5 lv segs[k].l) (hb9 : Below w5.heap.size w5 w9) (hg : w9.grownBy w10 sv.ownBlock)
    (hown : w10.ownsRow w3.heap.size 72 4 v' (k + 1) (css.flatten ++ segC segs[k] lv)) (hv : v'.ownBlock = sv.ownBlock ∨ v'.ownBlock = some w9.heap.size) :
    OpenE w3 L X sz segs (k + 1) (w10.setCell ⟨L, 2, none⟩ v') v' (css ++ [segC segs[k] lv]) (fun j => KS j ∨ lo ≤ j ∧ j < w5.heap.size) := by
  have hb19 := below_trans hb5 hb9
  have s1 := hb19.size
  have s2 := hg.size
  have s3 := h.size
  have s5 := hb9.size
  have s6 := hb5.size
  have hsvlt := World.ownsRow.lt h.own.row
  have hneL : sv.ownBlock ≠ some L := fun e => by have := (hsvlt L e).1; omega
  have hL10 : w10.heap[L]? = some (.cells #[.pointer (some ⟨X, 0, none⟩), .int .i64 (sz : Int), sv] 32 (0, 0)) :=
    (hg.block L (by omega) (fun e => hneL e.symm)).trans ((hb19.block L (by omega)).trans h.log)
  have hvL : v'.ownBlock ≠ some L := owns_ne hown hL10 tSegLog
  have hold : ∀ j, j ≠ L → j < wr.heap.size → sv.ownBlock ≠ some j → (w10.setCell ⟨L, 2, none⟩ v').heap[j]? = wr.heap[j]? := fun j h1 h2 h3 => (set_other _ _ _ _ _ h1).trans ((hg.block j (by omega) (fun e => h3 e.symm)).trans (hb19.block j h2))
  have hnew : ∀ j, lo ≤ j → j < w5.heap.size → (w10.setCell ⟨L, 2, none⟩ v').heap[j]? = w5.heap[j]? := fun j h1 h2 => (set_other _ _ _ _ _ (by omega)).trans ((hg.block j (by omega) (fun e => by have := (hsvlt j e.symm).2; omega)).trans (hb9.block j h2))
  have hsz : w10.heap.size = (w10.setCell ⟨L, 2, none⟩ v').heap.size := by simp
  refine ⟨by rw [set_at hL10]; rfl, ⟨?_, ?_⟩, by simp [h.len], fun j hj => ?_, fun j h1 h2 => ?_, fun j hj hne => (hold j hne (by omega) (fun e => by have := (hsvlt j e).1; omega)).trans (h.same j hj hne), by omega⟩
  · have h1 := owns_block (w' := w10.setCell ⟨L, 2, none⟩ v') hown fun g hg' => set_other _ _ _ _ _ (fun e => hvL (by rw [hg', e]))
    have e1 : (css ++ [segC segs[k] lv]).length = k + 1 := by simp [h.len]
    rw [e1]
    simpa using h1
  · intro c hc
    rcases List.mem_append.1 hc with h1 | h1
    · exact h.own.len c h1
    · simp only [List.mem_cons, List.not_mem_nil, or_false] at h1
      subst h1; rfl
  · rcases hj with hj | ⟨hj1, hj2⟩
    · obtain ⟨a, b, c⟩ := h.held j hj
      refine ⟨a, by omega, ?_⟩
      rcases hv with hv | hv
      · rw [hv]; exact c
      · rw [hv]; simp; omega
    · refine ⟨by omega, by omega, ?_⟩
      rcases hv with hv | hv
      · rw [hv]; intro e; have := (hsvlt j e).2; omega
      · rw [hv]; simp; omega
  · by_cases hj : j < css.length
    · rw [List.getElem_append_left hj]
      obtain ⟨lv1, e1, hl⟩ := h.each j hj h2
      refine ⟨lv1, e1, fun W' hW' => hl W' fun b hb => ?_⟩
      obtain ⟨a, b1, c⟩ := h.held b hb
      exact (hW' b (.inl hb)).trans (hold b (by omega) b1 c)
    · have hjk : j = k := by simp [h.len] at h1; have := h.len; omega
      subst hjk
      rw [List.getElem_append_right (by omega)]
      refine ⟨lv, by simp [h.len], fun W' hW' => hheld W' fun b h3 h4 => ?_⟩
      exact (hW' b (.inr ⟨h3, h4⟩)).trans (hnew b h3 h4)
end Go.Proofs.YtlhefifejcoecaaGreatDoor

namespace Go.Proofs.YtlhefifejcoecaaGreatDoor
open Go.RowKit Go.Proofs Go.Shelf
attribute [local go_sem ↓] Go.wp_at_zero Go.wp_at_succ

def OpenL (w : World) (X sz : Nat) (segs : List Seg) (e : Ending) (w' : World) : Prop := ∃ L, e = .returned (.tuple #[.pointer (some ⟨L, 0, none⟩), .int .i64 0]) ∧ w.heap.size ≤ L ∧ LogR w' L X sz segs ∧ Below w.heap.size w w'

theorem tStringLog : (9 : TypeId) ≠ 32 := by decide

theorem chain_take {sz : Nat} {segs : List Seg} {now : Files} {cur : List UInt8} (h : LogOK sz segs now cur) {k : Nat} (hk : k < segs.length) : segs.take k = [] ∨ (segs[k].n = nextN (segs.take k) ∧ segs[k].first = nextS (segs.take k)) := by
  cases k with
  | zero => exact .inl rfl
  | succ m =>
    right
    have hl : m + 1 = (segs.take (m + 1)).length := by rw [List.length_take]; omega
    have e1 := nextN_of hl
    have e2 := last_of hl
    obtain ⟨c1, c2⟩ := h.chain m hk
    have e3 : (segs.take (m + 1))[m]'(by omega) = segs[m]'(by omega) := List.getElem_take
    rw [e3] at e1 e2
    refine ⟨by rw [c1, e1], ?_⟩
    rw [c2]
    unfold nextS
    rw [e2]

set_option maxRecDepth 100000 in
set_option maxHeartbeats 4000000 in
theorem sopen_any (w : World) (K : Nat → Prop) (X D n sz : Nat) (segs : List Seg) (safe cur : List UInt8) (now saved : Files) (epoch which : Nat) (hd : DirAt w K X D n safe cur false now saved epoch which) (hE : Env w) (hok : LogOK sz segs now cur) (hk : DOK n safe cur now saved epoch which) (h1 : 2 ≤ sz) (h2 : sz ≤ 512) :
    Calls Tryz.prog 19 #[.pointer (some ⟨X, 0, none⟩), .int .i64 (sz : Int)] w (OpenL w X sz segs) := by
  have hdisk := ddisk_any w K X D n safe cur false now saved epoch which hd
  have hnames := fun W (hb : Below w.heap.size w W) => dnames_any W K X D n safe cur false now saved epoch which (hd.below hb)
  have hfew : segs.length ≤ 10 := by rw [← hok.len]; exact hk.gnow.few
  have n1 : ¬ (sz : Int) < 2 := by omega
  have n2 : ¬ (512 : Int) < (sz : Int) := by omega
  have Hn := Lib.hid hnames
  have Hd := Lib.hid hd
  have HE := Lib.hid hE
  have Hok := Lib.hid hok
  have Hk := Lib.hid hk
  clear hnames hd hE hok hk
  go_enter Tryz.func19, Tryz.ntmps19
  go_upto_region 5 with (first | (go_at_call 41; refine hdisk.mono ?_; rintro e w1 ⟨rfl, hb1⟩) | fail)
  go_upto_region 7 with fail
  generalize hW2 : World.alloc w1 _ = w2
  have hb2 : Below w1.heap.size w1 w2 := by rw [← hW2]; exact below_new _ _
  have hL2 : w2.heap[w1.heap.size]? = some (.cells #[.pointer (some ⟨X, 0, none⟩), .int .i64 (sz : Int), .slice none 0 0] 32 (0, 0)) := by rw [← hW2]; exact heap_alloc_new _ _
  clear hW2 hdisk
  have hb02 := below_trans hb1 hb2
  have hn2 := Hn.out w2 hb02
  rw [sorted_names Hok.out] at hn2
  go_upto_region 8 with (first | (go_at_call 42; refine hn2.mono ?_; rintro e w3 ⟨v3, rfl, hrow3, hb3⟩; obtain ⟨q3, c3, hq3⟩ := own_slice hrow3; subst hq3) | fail)
  have hnl : (segs.map fun s => nameL s.n).length = segs.length := by simp
  have hL3 := (hb3.block _ (heap_lt hL2)).trans hL2
  have hgne := owns_ne hrow3 hL3 tStringLog
  have hstr : StrsAt w3 (.slice q3 (segs.map fun s => nameL s.n).length c3) (segs.map fun s => nameL s.n) := StrsAt.of_row hrow3 (by rw [hnl]; omega)
  rw [hnl] at hstr hgne
  have Hstr : Hid (∀ j, (hj : j < segs.length) → ∃ g o, q3 = some ⟨g, o, none⟩ ∧ w3.cell? ⟨g, o + j, none⟩ = some (.string (nameS segs[j].n))) := Lib.hid fun j hj => by
    obtain ⟨q, cap, e, -, h⟩ := hstr
    simp only [Value.slice.injEq] at e
    obtain ⟨rfl, -, -⟩ := e
    obtain ⟨g, o, h5, h6⟩ := h j (by simpa using hj)
    exact ⟨g, o, h5, by rw [h6]; simp [nameS]⟩
  have hb03 := below_trans hb02 hb3
  have hL0 : w.heap.size ≤ w1.heap.size := hb1.size
  obtain ⟨L, hL⟩ : ∃ L, L = w1.heap.size := ⟨_, rfl⟩
  rw [← hL] at hL3 hgne hL0 ⊢
  have hL3lt := heap_lt hL3
  obtain ⟨len, hlen⟩ : ∃ len, len = segs.length := ⟨_, rfl⟩
  have Hlen := Lib.hid hlen
  rw [← hlen] at hfew hgne ⊢
  clear hn2 hrow3 hnl hstr hL2 hL hlen hb1 hb2 hb3 hb02
  go_loopw [32, 7] (fun i gone wr => ∃ (k : Nat) (sv : Value) (css : List (List Value)) (KS : Nat → Prop), k ≤ len ∧ i = .int .i64 k ∧ gone = .bool false ∧ OpenE w3 L X sz segs k wr sv css KS ∧ Below w.heap.size w wr) (fun i _ _ => len - (intOf i).toNat)
  case atStart => exact ⟨0, .slice none 0 0, [], fun _ => False, Nat.zero_le _, rfl, rfl, ⟨hL3, ⟨World.ownsRow_nil _ _ _ _, by simp⟩, rfl, fun _ h => h.elim, fun j h => by simp at h, fun _ _ _ => rfl, Nat.le_refl _⟩, hb03⟩
  case round =>
    obtain ⟨k, sv, css, KS, hkl, rfl, rfl, hO, hbw⟩ := hrel
    by_cases hlt : k < len
    · have hks : k < segs.length := by rw [← Hlen.out]; exact hlt
      obtain ⟨gN, oN, rfl, cN⟩ := Hstr.out k hks
      have hgN : gN ≠ L := fun e => hgne (by rw [e]; rfl)
      have cNr : wr.cell? ⟨gN, oN + k, none⟩ = some (.string (nameS segs[k].n)) := cell_same (hO.same gN (World.block_lt_of_cell? _ _ cN) hgN) cN
      have m0 : (0 : Int) ≤ (k : Int) := by omega
      have m1 : (k : Int) < (len : Int) := by omega
      have hsok := Hok.out.ok _ (List.getElem_mem hks)
      have hnum := number_ok segs[k].n hsok.n wr (HE.out.below hbw)
      have hld := fun W (hb : Below w.heap.size w W) => sload_any W X D n sz segs K safe cur now saved epoch which (Hd.out.below hb) (HE.out.below hb) Hok.out Hk.out (by omega) h2 k hks
      unfold LoadOut at hld
      have Hld := Lib.hid hld
      have Hch := Lib.hid (chain_take Hok.out hks)
      have HO := Lib.hid hO
      have Hks := Lib.hid hks
      clear hld cN hsok hO
      generalize hsg : segs[k] = s at *
      have Hsg := Lib.hid hsg
      clear hsg
      obtain ⟨en, hen⟩ : ∃ en, en = (bytesS s).length := ⟨_, rfl⟩
      have Hen := Lib.hid hen
      rw [← hen] at Hld
      obtain ⟨ll, hll⟩ : ∃ ll, ll = s.l.length := ⟨_, rfl⟩
      have Hll := Lib.hid hll
      rw [← hll] at Hld
      unfold segV at Hld
      clear hen hll
      go_upto_region 12 with (first
        | (go_at_call 43; refine hnum.mono ?_; rintro e w4 ⟨rfl, hb4⟩; have hbw4 := below_trans hbw hb4; have hl4 := Hld.out w4 hbw4)
        | fail)
      go_upto_region 15 with (first
        | (go_at_call 44; refine hl4.mono ?_; rintro e w5 ⟨lq, lc, rfl, hheld, hb5⟩)
        | fail)
      generalize hW6 : World.alloc w5 _ = w6
      have hb6 : Below w5.heap.size w5 w6 := by rw [← hW6]; exact below_new _ _
      have s0 : w6.cell? ⟨w5.heap.size, 0, none⟩ = some (.int .i64 (s.first : Int)) := by rw [← hW6]; simp
      have s1 : w6.cell? ⟨w5.heap.size, 1, none⟩ = some (.int .i64 (en : Int)) := by rw [← hW6]; simp
      have s2 : w6.cell? ⟨w5.heap.size, 2, none⟩ = some (.int .i64 (s.n : Int)) := by rw [← hW6]; simp
      have s3 : w6.cell? ⟨w5.heap.size, 3, none⟩ = some (.slice lq ll lc) := by rw [← hW6]; simp
      have hlo : wr.heap.size ≤ w4.heap.size := hb4.size
      have hb45 := below_trans hb4 hb5
      have hb46 := below_trans hb45 hb6
      have hg6 := goesOn_any w6 L X sz (segs.take k) ((HO.out.below hb46).rd (by have := Hlen.out; omega) Hok.out.ok (by have := Hlen.out; omega)) s.first en s.n lq ll lc Hch.out
      unfold segV at hg6
      clear hW6 hl4 hnum
      go_upto_region 18 with (first
        | (go_at_call 45; refine hg6.mono ?_; rintro e w7 ⟨rfl, hb7⟩)
        | fail)
      have hb47 := below_trans hb46 hb7
      replace s0 := bcell hb7 s0
      replace s1 := bcell hb7 s1
      replace s2 := bcell hb7 s2
      replace s3 := bcell hb7 s3
      have hO7 := HO.out.below hb47
      obtain ⟨qs, cs, hqs⟩ := own_slice hO7.own.row
      rw [hO7.len] at hqs
      subst hqs
      have l2 : w7.cell? ⟨L, 2, none⟩ = some (.slice qs k cs) := by rw [block_cell hO7.log]; rfl
      have hL37 : w3.heap.size ≤ w7.heap.size := hO7.size
      have hown7 := hO7.own.row
      rw [hO7.len] at hown7
      have Hown7 := Lib.hid hown7
      have HO7 := Lib.hid hO7
      have Hsrc := Lib.hid (src_seg w7.drew s.first en s.n lq ll lc)
      clear hg6 hown7 hO7
      refine wp_region_last_of (S := (fun w' => w'.cell? ⟨L, 2, none⟩ = some (.slice qs k cs) ∧ w'.cell? ⟨w5.heap.size, 0, none⟩ = some (.int .i64 (s.first : Int)) ∧ w'.cell? ⟨w5.heap.size, 1, none⟩ = some (.int .i64 (en : Int)) ∧ w'.cell? ⟨w5.heap.size, 2, none⟩ = some (.int .i64 (s.n : Int)) ∧ w'.cell? ⟨w5.heap.size, 3, none⟩ = some (.slice lq ll lc))) 10 (by kernel_rfl) rfl rfl (by kernel_rfl) ?_
      have hHeld : (((fun w' => w'.cell? ⟨L, 2, none⟩ = some (.slice qs k cs) ∧ w'.cell? ⟨w5.heap.size, 0, none⟩ = some (.int .i64 (s.first : Int)) ∧ w'.cell? ⟨w5.heap.size, 1, none⟩ = some (.int .i64 (en : Int)) ∧ w'.cell? ⟨w5.heap.size, 2, none⟩ = some (.int .i64 (s.n : Int)) ∧ w'.cell? ⟨w5.heap.size, 3, none⟩ = some (.slice lq ll lc))) : World → Prop) _ := (by exact ⟨l2, s0, s1, s2, s3⟩)
      refine' takeL (v := _) 0 rfl (by kernel_rfl) (by kernel_rfl) (by kernel_rfl) (fun _ _ _ h => h) (by rfl) ?_ (by assumption) ?_; rotate_left 1; (focus (intro w hSw; (try dsimp only at hSw); go_simp; (try with_reducible rfl); done))
      (try simp only [Act.put, List.setIfInBounds_toArray, List.set_cons_zero, List.set_cons_succ])
      refine' takeL (v := _) 1 rfl (by kernel_rfl) (by kernel_rfl) (by kernel_rfl) (fun _ _ _ h => h) (by rfl) ?_ (by assumption) ?_; rotate_left 1; (focus (intro w hSw; (try dsimp only at hSw); go_simp; (try with_reducible rfl); done))
      (try simp only [Act.put, List.setIfInBounds_toArray, List.set_cons_zero, List.set_cons_succ])
      refine' takeL (v := _) 2 rfl (by kernel_rfl) (by kernel_rfl) (by kernel_rfl) (fun _ _ _ h => h) (by rfl) ?_ (by assumption) ?_; rotate_left 1; (focus (intro w hSw; (try dsimp only at hSw); go_simp; (try with_reducible rfl); done))
      (try simp only [Act.put, List.setIfInBounds_toArray, List.set_cons_zero, List.set_cons_succ])
      refine' takeL (v := _) 3 rfl (by kernel_rfl) (by kernel_rfl) (by kernel_rfl) (fun _ _ _ h => h) (by rfl) ?_ (by assumption) ?_; rotate_left 1; (focus (intro w hSw; (try dsimp only at hSw); go_simp; (try with_reducible rfl); done))
      (try simp only [Act.put, List.setIfInBounds_toArray, List.set_cons_zero, List.set_cons_succ])
      refine' takeL (v := _) 4 rfl (by kernel_rfl) (by kernel_rfl) (by kernel_rfl) (fun _ _ _ h => h) (by rfl) ?_ (by assumption) ?_; rotate_left 1; (focus (intro w hSw; (try dsimp only at hSw); go_simp; (try with_reducible rfl); done))
      (try simp only [Act.put, List.setIfInBounds_toArray, List.set_cons_zero, List.set_cons_succ])
      refine' takeL (v := _) 5 rfl (by kernel_rfl) (by kernel_rfl) (by kernel_rfl) (fun _ _ _ h => h) (by rfl) ?_ (by assumption) ?_; rotate_left 1; (focus (intro w hSw; (try dsimp only at hSw); go_simp; (try with_reducible rfl); done))
      (try simp only [Act.put, List.setIfInBounds_toArray, List.set_cons_zero, List.set_cons_succ])
      refine stepL 6 rfl (by kernel_rfl) (fun K hK => ?_)
      go_simp
      have hbA : ∀ o, Below w7.heap.size w7 (w7.alloc o).drew := fun o => (below_new w7 o).drew
      refine hK.out _ _ (by exact ⟨bcell (hbA _) l2, bcell (hbA _) s0, bcell (hbA _) s1, bcell (hbA _) s2, bcell (hbA _) s3⟩) (fun hHeld => ?_)
      clear hK K
      (try simp only [Act.put, List.setIfInBounds_toArray, List.set_cons_zero, List.set_cons_succ])
      refine stepL 7 rfl (by kernel_rfl) (fun K hK => ?_)
      refine step_app (v := .slice qs k cs) (by rfl) _ _ 30 30 (by rfl) w3.heap.size 72 4 48 segElt Tryz.underlying30 k css.flatten (by rfl) (owns_block Hown7.out fun j hj => (hbA _).block j (World.ownsRow.lt Hown7.out j hj).2) (by rfl) 1 [.int .i64 (s.first : Int), .int .i64 (en : Int), .int .i64 (s.n : Int), .slice lq ll lc] Hsrc.out (by unfold maxLen; omega) (by omega) (by simp; omega) ?_
      intro v10 w10 hown10 hg10 hv10
      obtain ⟨q10, c10, hq10⟩ := own_slice hown10
      subst hq10
      have hsvlt := World.ownsRow.lt HO7.out.own.row
      have hsvlt2 := World.ownsRow.lt HO.out.own.row
      have hw5 : wr.heap.size ≤ w5.heap.size := hb45.size
      have hB7 : w5.heap.size < w7.heap.size := World.block_lt_of_cell? _ _ s0
      have gL : w10.heap[L]? = w7.heap[L]? := (hg10.block L (by simp; omega) (fun e => by have := (hsvlt L e.symm).1; omega)).trans ((hbA _).block L (by omega))
      have gB : w10.heap[w5.heap.size]? = w7.heap[w5.heap.size]? := (hg10.block _ (by simp; omega) (fun e => by have := (hsvlt2 _ e.symm).2; omega)).trans ((hbA _).block _ hB7)
      have z2 := cell_same gL l2
      have hL10 := gL.trans HO7.out.log
      have zf := block_free hL10 2
      refine hK.out _ _ (by exact ⟨z2, cell_same gB s0, cell_same gB s1, cell_same gB s2, cell_same gB s3⟩) (fun hHeld => ?_)
      clear hK K
      (try simp only [Act.put, List.setIfInBounds_toArray, List.set_cons_zero, List.set_cons_succ])
      refine' takeL (v := _) 8 rfl (by kernel_rfl) (by kernel_rfl) (by kernel_rfl) (fun _ _ _ h => h) (by rfl) ?_ (by assumption) ?_; rotate_left 1; (focus (intro w hSw; (try dsimp only at hSw); go_simp; (try with_reducible rfl); done))
      (try simp only [Act.put, List.setIfInBounds_toArray, List.set_cons_zero, List.set_cons_succ])
      refine' takeL (v := _) 9 rfl (by kernel_rfl) (by kernel_rfl) (by kernel_rfl) (fun _ _ _ h => h) (by rfl) ?_ (by assumption) ?_; rotate_left 1; (focus (intro w hSw; (try dsimp only at hSw); go_simp; (try with_reducible rfl); done))
      (try simp only [Act.put, List.setIfInBounds_toArray, List.set_cons_zero, List.set_cons_succ])
      refine wpAnyH_done (by kernel_rfl) ?_ _
      unfold withLast
      have HownX := Lib.hid hown10
      have HgX := Lib.hid hg10
      have HvX := Lib.hid hv10
      clear hown10 hg10 hv10 gL gB s0 s1 s2 s3 l2
      go_wp2_with fail
      have esg : segs[k]'(Hks.out) = s := Hsg.out
      have hpush := HO.out.push hL3lt Hks.out hlo hb45 (lv := .slice lq ll lc) (by rw [esg]; exact hheld) (below_trans hb6 (below_trans hb7 (hbA _))) HgX.out (by rw [esg]; unfold segC; rw [← Hen.out]; exact HownX.out) HvX.out
      rw [esg] at hpush
      have hbw7 := below_trans hbw hb47
      have hs37 : w.heap.size ≤ w7.heap.size := hbw7.size
      have hb10 : Below w.heap.size w w10 := (hbw7.trans ((hbA _).mono hs37)).grown HgX.out (by simp; omega) (fun j hj => by have := (hsvlt j hj).1; have := hb03.size; omega)
      exact ⟨⟨k + 1, _, _, _, hlt, by go_num, rfl, hpush, hb10.setCell (p := ⟨L, 2, none⟩) hL0 _⟩, by simp [intOf]; omega⟩
    · obtain rfl : k = len := by omega
      have m1 : ¬ (k : Int) < (k : Int) := by omega
      have hR := hO.rd (by have := Hlen.out; omega) Hok.out.ok (by have := Hlen.out; omega)
      rw [Hlen.out, List.take_length] at hR
      have hlog := hO.log
      have HR := Lib.hid hR
      have hwp : Calls Tryz.prog 48 #[.pointer (some ⟨L, 0, none⟩)] wr (Gives wr (.int .i64 0)) := by
        by_cases hnil : segs = []
        · have hk0 : k = 0 := by rw [Hlen.out, hnil]; rfl
          obtain ⟨qs, cs, hqs⟩ := own_slice hO.own.row
          rw [hO.len, hk0] at hqs
          exact wipe_nil wr L qs cs (by rw [block_cell hlog, hqs]; rfl)
        · exact wipe_any wr L X D n sz segs K safe cur now saved epoch which hR (Hd.out.below hbw) (HE.out.below hbw) Hok.out Hk.out (by omega) h2 hnil
      clear hO hR hlog
      go_wp2_with (first
        | (go_at_call 48; refine hwp.mono ?_; rintro e w4 ⟨rfl, hb4⟩)
        | fail)
      go_ret2
      exact ⟨L, rfl, hL0, HR.out.below hb4, below_trans hbw hb4⟩
end Go.Proofs.YtlhefifejcoecaaGreatDoor
