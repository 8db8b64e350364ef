/- A log, opened once more. -/
/- SegmentResets, walked. -/
import Derived.Test.YtlhefifejcoecaaGreatDoorJOpD
import Derived.Test.YtlhefifejcoecaaGreatDoorJSegS
import Derived.Test.YtlhefifejcoecaaGreatDoorJSegR
import Derived.Lib.ConvBytes
namespace Go.Proofs.YtlhefifejcoecaaGreatDoor
open Go.RowKit Go.Proofs Go.Shelf
attribute [local go_sem ↓] Go.wp_at_zero Go.wp_at_succ

theorem sortF_id {sz n : Nat} {segs : List Seg} {now saved : Files} {safe cur : List UInt8} {epoch which : Nat} (h : LogOK sz segs now cur) (hd : DOK n safe cur now saved epoch which) : sortF now = now := by
  unfold sortF
  rw [sorted_names h, List.map_map]
  refine List.ext_getElem (by simp [h.len]) fun j h1 h2 => ?_
  simp only [List.getElem_map, Function.comp]
  obtain ⟨a, -, -⟩ := h.at (j := j) (by rw [← h.len]; exact h2) h2
  have hg := hd.gnow.mem_get (List.getElem_mem h2)
  have e1 : (⟨(nameL (segs[j]'(by rw [← h.len]; exact h2)).n).toArray⟩ : ByteArray) = now[j].1 := a.symm
  unfold fext
  rw [e1, hg]
  rfl

structure Reop (w : World) (X D n sz : Nat) (segs : List Seg) : Prop where
  ex : ∃ safe cur now epoch which, DirAt w (fun _ => False) X D n safe cur false now now epoch which ∧ LogOK sz segs now cur ∧ DOK n safe cur now now epoch which

theorem reopen_any (w : World) (K : Nat → Prop) (base L X D n sz E M : Nat) (ms : List MSeg) (h : LogS w K base L X D n sz E M ms) (hE : E ≤ 1000000) :
    Calls Tryz.prog 21 #[.pointer (some ⟨D, 0, none⟩)] w (fun e w' => ∃ X', e = .returned (.tuple #[.pointer (some ⟨X', 0, none⟩), .int .i64 0]) ∧ Below w.heap.size w w' ∧ Reop w' X' D n sz (MSeg.segs ms)) := by
  obtain ⟨⟨KL, safe, cur, now, epoch, which, hx, hok, hdok, hep, -⟩, henv, -⟩ := h
  obtain ⟨bn, bs, hX⟩ := hx.dir
  have hdisk : DiskAt w (fun _ => False) D n safe cur false := hX.disk.more fun _ _ h => h.elim
  have hn := hdok.sz
  refine (opend_any w _ D n safe cur hdisk (fun _ h => h.elim) henv.nib (by omega)).mono ?_
  rintro e w' ⟨hb, hc⟩
  rw [hdok.opens (by omega), sortF_id hok hdok] at hc
  obtain ⟨X', rfl, -, hdir⟩ := hc
  exact ⟨X', rfl, hb, ⟨safe, cur, now, epoch, which, hdir, hok, hdok⟩⟩

theorem Reop.open {w : World} {X D n sz : Nat} {segs : List Seg} (h : Reop w X D n sz segs) (hE : Env w) (h1 : 2 ≤ sz) (h2 : sz ≤ 512) : Calls Tryz.prog 19 #[.pointer (some ⟨X, 0, none⟩), .int .i64 (sz : Int)] w (OpenL w X sz segs) := by
  obtain ⟨safe, cur, now, epoch, which, hd, hok, hk⟩ := h
  exact sopen_any w _ X D n sz segs safe cur now now epoch which hd hE hok hk h1 h2

theorem LogS.chain {w : World} {K : Nat → Prop} {base L X D n sz E M : Nat} {ms : List MSeg} (h : LogS w K base L X D n sz E M ms) : Chain (MSeg.segs ms) := by
  obtain ⟨⟨KL, safe, cur, now, epoch, which, -, hok, -⟩, -⟩ := h
  exact hok.chain

theorem LogS.few {w : World} {K : Nat → Prop} {base L X D n sz E M : Nat} {ms : List MSeg} (h : LogS w K base L X D n sz E M ms) : ms.length ≤ 10 := by
  obtain ⟨⟨KL, safe, cur, now, epoch, which, -, hok, hdok, -⟩, -⟩ := h
  have h1 := hok.len
  have h2 := hdok.gnow.few
  rw [msegs_len] at h1
  omega

set_option maxRecDepth 100000 in
theorem ssync_any (w : World) (K : Nat → Prop) (base L X D n sz E M : Nat) (ms : List MSeg) (h : LogS w K base L X D n sz E M ms) :
    Calls Tryz.prog 13 #[.pointer (some ⟨L, 0, none⟩)] w (fun e w' => e = .returned (.int .i64 0) ∧ Kept K w w' ∧ LogS w' K base L X D n sz E M ms) := by
  have hfew := h.few
  have hR := h.rd (by omega)
  have hmade := smade_any w L X sz _ hR
  obtain ⟨q, cap, c0, -⟩ := hR.open_
  have HS := Lib.hid h
  have hsync : ∀ W, Below w.heap.size w W → Calls Tryz.prog 39 #[.pointer (some ⟨X, 0, none⟩)] W (fun e w' => e = .returned (.int .i64 0) ∧ Kept K W w' ∧ LogS w' K base L X D n sz E M ms) := fun W hb => by
    obtain ⟨⟨KL, safe, cur, now, epoch, which, hx, hok, hdok, hep, hM⟩, henv, hkn, hkp, hsz, hlow⟩ := h.below hb
    refine (dsync_any W _ X D n safe cur now now epoch which hx.dir hx.lt).mono ?_
    rintro e w' ⟨rfl, hd, hk'⟩
    exact ⟨rfl, hk'.less fun k hk => .inl hk, ⟨KL, cur, cur, now, epoch, which, hx.go hd hk', hok, hdok.sync, hep, hM⟩, henv.kept (K := K) (hk'.less fun k hk => .inl hk) hkn hkp, hkn, hkp, hsz, hlow⟩
  have Hsync := Lib.hid hsync
  have hlt := h.ltK
  clear hR h hsync
  go_enter Tryz.func13, Tryz.ntmps13
  go_wp2_with (first
    | (go_at_call 30; refine hmade.mono ?_; rintro e w1 ⟨rfl, hb1⟩; have d0 := bcell hb1 c0; have hs1 := Hsync.out w1 hb1)
    | (go_at_call 39; refine hs1.mono ?_; rintro e w2 ⟨rfl, hk2, hS2⟩)
    | fail)
  go_ret
  exact ⟨rfl, (kept_of_below hb1 hlt).trans hk2, hS2⟩

/-- What the segments hold is what was appended. -/
def Tells (segs : List Seg) (l : List (List UInt8)) : Prop := ∀ s ∈ segs, ∀ j (h : j < s.l.length), l[s.first + j]? = some s.l[j]

theorem Tells.nil (l : List (List UInt8)) : Tells [] l := fun s h => by simp at h
theorem Tells.sub {segs segs' : List Seg} {l : List (List UInt8)} (h : Tells segs l) (hs : ∀ s ∈ segs', s ∈ segs) : Tells segs' l := fun s h1 => h s (hs s h1)
theorem Tells.app {sz : Nat} {segs segs' : List Seg} {l : List (List UInt8)} {b : List UInt8} (h : Tells segs l) (ha : AppS sz segs b segs') (hn : nextS segs = l.length) : Tells segs' (l ++ [b]) := by
  have old : ∀ s ∈ segs, ∀ j (h : j < s.l.length), (l ++ [b])[s.first + j]? = some s.l[j] := fun s hs j hj => by
    have h1 := h s hs j hj
    have h2 : s.first + j < l.length := by
      rcases Nat.lt_or_ge (s.first + j) l.length with h3 | h3
      · exact h3
      · rw [List.getElem?_eq_none h3] at h1; cases h1
    rw [List.getElem?_append_left h2]; exact h1
  rcases ha with ⟨init, s, rfl, -, rfl⟩ | rfl
  · intro t ht j hj
    rcases List.mem_append.1 ht with h1 | h1
    · exact old t (by simp [h1]) j hj
    · simp only [List.mem_cons, List.not_mem_nil, or_false] at h1
      subst h1
      dsimp only at hj ⊢
      by_cases hjl : j < s.l.length
      · rw [List.getElem_append_left hjl]
        exact old s (by simp) j hjl
      · have hje : j = s.l.length := by simp at hj; omega
        subst hje
        have e1 : s.first + s.l.length = l.length := by
          rw [← hn]; simp [nextS, lastN]
        rw [e1, List.getElem?_append_right (Nat.le_refl _), Nat.sub_self, List.getElem_append_right (Nat.le_refl _)]
        simp
  · intro t ht j hj
    rcases List.mem_append.1 ht with h1 | h1
    · exact old t h1 j hj
    · simp only [List.mem_cons, List.not_mem_nil, or_false] at h1
      subst h1
      dsimp only at hj ⊢
      have hje : j = 0 := by simp at hj; exact hj
      subst hje
      rw [hn, Nat.add_zero, List.getElem?_append_right (Nat.le_refl _), Nat.sub_self]
      simp
end Go.Proofs.YtlhefifejcoecaaGreatDoor

namespace Go.Proofs.YtlhefifejcoecaaGreatDoor
open Go.RowKit Go.Proofs Go.Shelf
attribute [local go_sem ↓] Go.wp_at_zero Go.wp_at_succ

theorem below_bytes (W : World) (T : TypeId) (s : ByteArray) : Below W.heap.size W (Lib.bytesWorld W T s) := by
  unfold Lib.bytesWorld
  exact below_freeze (below_alloc ((Below.refl _ _).drew) _) (Nat.le_refl _)

theorem cell_freeze (w : World) (p a : Addr) (n : Nat) : (w.freeze p n).cell? a = w.cell? a := by
  unfold World.freeze
  split
  · rfl
  · unfold World.cell?
    dsimp only
    rw [Array.getElem?_modify]
    by_cases h : p.block = a.block
    · rw [if_pos h]
      cases hw : w.heap[a.block]? with
      | none => simp
      | some o => cases o <;> rfl
    · rw [if_neg h]

theorem size_freeze (w : World) (p : Addr) (n : Nat) : (w.freeze p n).heap.size = w.heap.size := by
  unfold World.freeze
  split
  · rfl
  · simp

theorem slp_bytes (W : World) (s : ByteArray) (hs : s.size ≤ 9223372036854775807) : SlP 1 ByteE (Lib.bytesWorld W 5 s) (.slice (some ⟨W.heap.size, 0, none⟩) s.size (grownCap W s.size 0 5)) s.data.toList := by
  have hl : s.data.toList.length = s.size := Array.length_toList
  refine ⟨some ⟨W.heap.size, 0, none⟩, grownCap W s.size 0 5, by rw [hl], by rw [hl]; exact grownCap_ge _ _ _ _, by omega, (fun h => by simp at h), fun j hj => ⟨W.heap.size, 0, [u8 s.data.toList[j]], rfl, rfl, rfl, fun i hi => ?_⟩⟩
  obtain rfl : i = 0 := by simpa using hi
  unfold Lib.bytesWorld
  rw [cell_freeze]
  have h0 : (W.drew.alloc (.cells (Lib.bytesCells W 5 s) 5)).heap[W.heap.size]? = some (.cells (Lib.bytesCells W 5 s) 5 (0, 0)) := heap_alloc_new W.drew _
  rw [block_cell h0]
  have hj2 : j < s.data.size := by simpa using hj
  unfold Lib.bytesCells
  rw [Array.getElem?_append_left (by simp; omega)]
  simp [u8, hj2]
  exact ⟨_, Array.getElem?_eq_getElem hj2, rfl⟩

theorem append_str (W : World) (K : Nat → Prop) (base L X D n sz E M : Nat) (ms : List MSeg) (hS : LogS W K base L X D n sz E M ms) (s : ByteArray) (hs : s.size ≤ 27) (h1 : nextS (MSeg.segs ms) ≤ 2199023255552) (h2 : nextN (MSeg.segs ms) ≤ 999999) (h3 : E ≤ 1000000) (h6 : ∀ t ∈ MSeg.segs ms, t.l.length < 100000) :
    Calls Tryz.prog 12 #[.pointer (some ⟨L, 0, none⟩), .slice (some ⟨W.heap.size, 0, none⟩) s.size (grownCap W s.size 0 5)] (Lib.bytesWorld W 5 s) (fun e w' => ∃ y : Int, e = .returned (.int .i64 y) ∧ Kept K W w' ∧
      ((y = 0 ∧ ∃ ms', AppS sz (MSeg.segs ms) s.data.toList (MSeg.segs ms') ∧ LogS w' K base L X D n sz (E + 1) (M + sz) ms') ∨ ((y = 13 ∨ y = 6) ∧ ¬ (M + sz ≤ n ∧ ms.length < 10) ∧ LogS w' K base L X D n sz E M ms))) := by
  have hlt := hS.ltK
  have hfew := hS.few
  have hb := below_bytes W 5 s
  have hsz1 : (Lib.bytesWorld W 5 s).heap.size = W.heap.size + 1 := by unfold Lib.bytesWorld; rw [size_freeze]; simp
  have hl : s.data.toList.length = s.size := Array.length_toList
  have hS2 : LogS (Lib.bytesWorld W 5 s) (fun k => K k ∨ k = W.heap.size) base L X D n sz E M ms := hS.more hb (fun k hk => .inl hk) (fun k hk h => h.elim id fun h => by omega) (fun k hk => by
    rcases hk with h | h
    · have := hlt k h; omega
    · omega)
  have hsz := hS.sz
  refine (sappend_any _ _ base L X D n sz E M ms hS2 _ s.data.toList (slp_bytes W s (by omega)) (fun _ q n c e a ha => by
    simp only [Value.slice.injEq] at e
    obtain ⟨rfl, -, -⟩ := e
    simp only [Option.some.injEq] at ha
    subst ha
    exact .inr rfl) (by omega) (by rw [padS_small (by omega)]; omega) h1 h2 h3 (by omega) h6).mono ?_
  rintro e w' ⟨y, rfl, hk, hc⟩
  have hkW : Kept K W w' := (kept_of_below hb hlt).trans (hk.less fun k hk => .inl hk)
  refine ⟨y, rfl, hkW, ?_⟩
  rcases hc with ⟨rfl, ms', hA, hS'⟩ | ⟨hy, hn, hS'⟩
  · exact .inl ⟨rfl, ms', hA, hS'.less (fun k hk => .inl hk) hS.kn hS.kp⟩
  · exact .inr ⟨hy, hn, hS'.less (fun k hk => .inl hk) hS.kn hS.kp⟩

def StrVE (_ : World) (cs : List Value) (s : ByteArray) : Prop := cs = [.string s] ∧ s.size ≤ 9223372036854775807
theorem StrVE.mono : Mono StrVE := ⟨fun _ h => h⟩

theorem conv_str (W : World) (s : ByteArray) : (convert 9 25 (.string s)).run Tryz.prog W = .ok (.slice (some ⟨W.heap.size, 0, none⟩) s.size (grownCap W s.size 0 5)) (Lib.bytesWorld W 5 s) :=
  Lib.run_convert_string_bytes W 9 25 5 s Tryz.underlying9 Tryz.underlying25 Tryz.underlying5

/-- What holds between the appends. -/
structure Rsts (w : World) (L X D : Nat) (k : Nat) (ms : List MSeg) (wr : World) : Prop where
  log : LogS wr (fun j => j < w.heap.size) w.heap.size L X D 200 3 (1 + k) (16 + 3 * k) ms
  next : nextS (MSeg.segs ms) = k
  num : nextN (MSeg.segs ms) ≤ k
  few : ms.length ≤ k
  short : ∀ t ∈ MSeg.segs ms, t.l.length ≤ k
  kept : Kept (fun j => j < w.heap.size) w wr

theorem Rsts.step {w : World} {L X D k : Nat} {ms ms' : List MSeg} {wr w2 : World} {b : List UInt8} (h : Rsts w L X D k ms wr) (hk : Kept (fun j => j < w.heap.size) wr w2) (hA : AppS 3 (MSeg.segs ms) b (MSeg.segs ms')) (hS : LogS w2 (fun j => j < w.heap.size) w.heap.size L X D 200 3 (1 + k + 1) (16 + 3 * k + 3) ms') : Rsts w L X D (k + 1) ms' w2 := by
  have e1 := hA.next
  have e2 := hA.nextN
  have e3 := hA.few
  rw [msegs_len, msegs_len] at e3
  have h1 := h.next
  have h2 := h.num
  have h3 := h.few
  exact ⟨hS, by omega, by omega, by omega, hA.short h.short, h.kept.trans hk⟩

theorem append_one2 (W : World) (K : Nat → Prop) (base L X D n sz E M : Nat) (ms : List MSeg) (hS : LogS W K base L X D n sz E M ms) (x : UInt8) (h1 : nextS (MSeg.segs ms) ≤ 2199023255552) (h2 : nextN (MSeg.segs ms) ≤ 1000) (h3 : E ≤ 1000) (h4 : ms.length < 10) (h5 : M + sz ≤ n) (h6 : ∀ s ∈ MSeg.segs ms, s.l.length ≤ 1000) :
    Calls Tryz.prog 12 #[.pointer (some ⟨L, 0, none⟩), .slice (some ⟨W.heap.size, 0, none⟩) 1 1] (W.alloc (.cells #[u8 x] 5 (1, 2))) (fun e w' => e = .returned (.int .i64 0) ∧ Kept K W w' ∧ ∃ ms', AppS sz (MSeg.segs ms) [x] (MSeg.segs ms') ∧ LogS w' K base L X D n sz (E + 1) (M + sz) ms') := by
  have hlt := hS.ltK
  have hS2 : LogS (W.alloc (.cells #[u8 x] 5 (1, 2))) (fun k => K k ∨ k = W.heap.size) base L X D n sz E M ms := hS.more (below_new _ _) (fun k hk => .inl hk) (fun k hk h => h.elim id fun h => by omega) (fun k hk => by
    rcases hk with h | h
    · have := hlt k h; simp; omega
    · subst h; simp)
  have hsz := hS.sz
  refine (sappend_any _ _ base L X D n sz E M ms hS2 _ [x] (slp_one W x) (fun _ q n c e a ha => by
    simp only [Value.slice.injEq] at e
    obtain ⟨rfl, -, -⟩ := e
    simp only [Option.some.injEq] at ha
    subst ha
    exact .inr rfl) (by simp) (by rw [padS_small (by simp)]; omega) (by omega) (by omega) (by omega) (by omega) (fun s hs => by have := h6 s hs; omega)).mono ?_
  rintro e w' ⟨y, rfl, hk, hc⟩
  have hkW : Kept K W w' := (kept_of_below (below_new W _) hlt).trans (hk.less fun k hk => .inl hk)
  rcases hc with ⟨rfl, ms', hA, hS'⟩ | ⟨-, hn, -⟩
  · exact ⟨rfl, hkW, ms', hA, hS'.less (fun k hk => .inl hk) hS.kn hS.kp⟩
  · exact absurd ⟨h5, h4⟩ hn

/-- One byte string behind a reset: where it is, and what. -/
theorem app_reset {f : Nat} {b : List UInt8} {segs' : List Seg} (h : AppS 3 [⟨f, 0, []⟩] b segs') : firstS segs' = f ∧ nextS segs' = f + 1 ∧ ∀ s ∈ segs', ∀ x ∈ s.l, x = b := by
  have h1 := h.next
  refine ⟨?_, by rw [h1]; simp [nextS, lastN], ?_⟩
  · rcases h with ⟨init, s, e, -, rfl⟩ | rfl
    · cases init with
      | nil =>
        simp only [List.nil_append, List.cons.injEq, and_true] at e
        subst e; rfl
      | cons a r => simp at e
    · rfl
  · rcases h with ⟨init, s, e, -, rfl⟩ | rfl
    · cases init with
      | nil =>
        simp only [List.nil_append, List.cons.injEq, and_true] at e
        subst e
        intro t ht x hx
        simp at ht
        subst ht
        simpa using hx
      | cons a r => simp at e
    · intro t ht x hx
      simp at ht
      rcases ht with rfl | rfl
      · simp at hx
      · simpa using hx

set_option maxRecDepth 100000 in
set_option maxHeartbeats 4000000 in
theorem segmentResets_any (v : Value) (l : List ByteArray) (tt : Int) (hto : I64 tt) (w : World) (hv : SlP 1 StrVE w v l) (hE : Env w) : Calls Tryz.prog 6 #[v, .int .i64 tt] w (Gives w (.bool true)) := by
  obtain ⟨q, cap, rfl, hlc, hll, -, hcells⟩ := hv
  have Hc : Hid (∀ j, (hj : j < l.length) → ∃ b o, q = some ⟨b, o, none⟩ ∧ w.cell? ⟨b, o + j, none⟩ = some (.string l[j]) ∧ l[j].size ≤ 9223372036854775807) := Lib.hid fun j hj => by
    obtain ⟨b, off, cs, e1, e2, ⟨rfl, e3⟩, e4⟩ := hcells j hj
    exact ⟨b, off, e1, by simpa using e4 0 (by simp), e3⟩
  clear hcells
  have hfr := fresh_any w hE 200 3 (by omega) (by omega) (by omega) (by omega)
  have hliv := fun W (hb : Below w.heap.size w W) => lives25_any W (hE.below hb)
  have Hliv := Lib.hid hliv
  have HE := Lib.hid hE
  clear hliv hE
  obtain ⟨len, hlen⟩ : ∃ len, len = l.length := ⟨_, rfl⟩
  have Hlen := Lib.hid hlen
  rw [← hlen] at hlc hll ⊢
  clear hlen
  unfold FreshOut at hfr
  by_cases h8 : 8 < len
  · have k0 : (8 : Int) < (len : Int) := by omega
    go_enter Tryz.func6, Tryz.ntmps6
    go_wp2_with (first
      | (go_at_call 20; refine hfr.mono ?_; rintro e w1 ⟨D, X, L, rfl, hS1, hb1⟩; have hl1 := Hliv.out w1 hb1)
      | (go_at_call 10; refine hl1.mono ?_; rintro e w2 ⟨rfl, hb2⟩)
      | fail)
    go_ret
    exact ⟨rfl, below_trans hb1 hb2⟩
  · have k0 : ¬ (8 : Int) < (len : Int) := by omega
    go_enter Tryz.func6, Tryz.ntmps6
    go_upto_region 5 with (first
      | (go_at_call 20; refine hfr.mono ?_; rintro e w1 ⟨D, X, L, rfl, hS1, hb1⟩)
      | fail)
    have hI0 : Rsts w L X D 0 [] w1 := ⟨hS1, rfl, Nat.le_refl _, Nat.le_refl _, by simp [MSeg.segs], kept_of_below hb1 fun _ h => h⟩
    clear hfr hS1
    go_loopw [38] (fun i wr => ∃ (k : Nat) (ms : List MSeg), k ≤ len ∧ i = .int .i64 k ∧ Rsts w L X D k ms wr) (fun i _ => len - (intOf i).toNat)
    case atStart => exact ⟨0, [], Nat.zero_le _, rfl, hI0⟩
    case round =>
      obtain ⟨k, ms, hkl, rfl, hI⟩ := hrel
      have HI := Lib.hid hI
      clear hI
      by_cases hlt : k < len
      · obtain ⟨b, o, rfl, c0, hsz⟩ := Hc.out k (by rw [← Hlen.out]; exact hlt)
        replace c0 := bcell HI.out.kept.below c0
        generalize l[k]'(by rw [← Hlen.out]; exact hlt) = s at *
        have m0 : (0 : Int) ≤ (k : Int) := by omega
        have m1 : (k : Int) < (len : Int) := by omega
        by_cases h20 : 20 < s.size
        · have k1 : (20 : Int) < (s.size : Int) := by omega
          have hl2 := Hliv.out wr HI.out.kept.below
          go_wp2_with (first
            | (go_at_call 10; refine hl2.mono ?_; rintro e w2 ⟨rfl, hb2⟩)
            | fail)
          go_ret
          exact ⟨rfl, below_trans HI.out.kept.below hb2⟩
        · have k1 : ¬ (20 : Int) < (s.size : Int) := by omega
          have hcv := conv_str wr s
          have hap := append_str wr _ _ L X D 200 3 (1 + k) (16 + 3 * k) ms HI.out.log s (by omega) (by rw [HI.out.next]; omega) (by have := HI.out.num; omega) (by omega) (fun t ht => by have := HI.out.short t ht; omega)
          go_wp2_with (first
            | (go_at_call 12; refine hap.mono ?_; rintro e w2 ⟨y, rfl, hk2, hc⟩; rcases hc with ⟨rfl, ms', hA, hS'⟩ | ⟨-, hn, -⟩; rotate_left; (exact absurd ⟨by omega, by have := HI.out.few; omega⟩ hn))
            | fail)
          exact ⟨⟨k + 1, ms', hlt, by go_num, HI.out.step hk2 hA hS'⟩, by simp [intOf]; omega⟩
      · obtain rfl : k = len := by omega
        have m1 : ¬ (k : Int) < (k : Int) := by omega
        have hbr := HI.out.kept.below
        have hnx := fun W (hb : Below wr.heap.size wr W) => lnext_any W L X 3 _ ((HI.out.log.below hb).rd (by have := HI.out.few; omega))
        rw [HI.out.next] at hnx
        have hrs := fun W (hb : Below wr.heap.size wr W) => sreset_any W _ _ L X D 200 3 _ _ ms (HI.out.log.below hb) tt hto (by omega) (by have := HI.out.few; omega)
        unfold ResetOut at hrs
        rw [HI.out.next] at hrs
        have Hnx := Lib.hid hnx
        have Hrs := Lib.hid hrs
        have hn1 := hnx wr (Below.refl _ _)
        have k9 : k ≤ 8 := by omega
        clear hnx hrs Hc hlc hll Hlen
        go_upto_region 11 with (first
          | (go_at_call 17; refine hn1.mono ?_; clear hn1; rintro e w2 ⟨rfl, hb2⟩; have hr2 := Hrs.out w2 hb2)
          | fail)
        go_upto_region 12 with (first
          | (go_at_call 15; refine hr2.mono ?_; clear hr2; rintro e w3 (⟨hbad, rfl, hb3, hS3⟩ | ⟨f, rfl, hf1, hf2, w4, hk4, hS4, x, rfl, hk5, hc5⟩))
          | fail)
        · have hn3 := lnext_any w3 L X 3 _ (hS3.rd (by have := HI.out.few; omega))
          rw [HI.out.next] at hn3
          have hb03 := below_trans hbr (below_trans hb2 hb3)
          have hl3 := fun W (hb : Below w3.heap.size w3 W) => Hliv.out W (below_trans hb03 hb)
          have Hl3 := Lib.hid hl3
          clear hS3 hl3
          by_cases hlo : tt < (k : Int)
          · have j1 : ¬ (k : Int) ≤ tt := by omega
            clear hbad
            go_wp2_with (first
              | (go_at_call 17; refine hn3.mono ?_; clear hn3; rintro e w5 ⟨rfl, hb5⟩; have hl5 := Hl3.out w5 hb5)
              | (go_at_call 10; refine hl5.mono ?_; rintro e w6 ⟨rfl, hb6⟩)
              | fail)
            go_ret
            exact ⟨rfl, below_trans hb03 (below_trans hb5 hb6)⟩
          · have j1 : (k : Int) ≤ tt := by omega
            have j2 : ¬ tt ≤ 1099511627776 := by omega
            clear hbad
            go_wp2_with (first
              | (go_at_call 17; refine hn3.mono ?_; clear hn3; rintro e w5 ⟨rfl, hb5⟩; have hl5 := Hl3.out w5 hb5)
              | (go_at_call 10; refine hl5.mono ?_; rintro e w6 ⟨rfl, hb6⟩)
              | fail)
            go_ret
            exact ⟨rfl, below_trans hb03 (below_trans hb5 hb6)⟩
        · rcases hc5 with ⟨rfl, hS3⟩ | ⟨-, hn, -⟩
          rotate_left
          · exact absurd ⟨by omega, by simp⟩ hn
          have j1 : (k : Int) ≤ (f : Int) := by omega
          have j2 : (f : Int) ≤ 1099511627776 := by omega
          have esg : MSeg.segs ([] ++ [⟨⟨f, nextN (MSeg.segs []), []⟩, .slice none 0 0, []⟩]) = [⟨f, 0, []⟩] := rfl
          have hS3' := hS3
          generalize ([] ++ [⟨⟨f, nextN (MSeg.segs []), []⟩, .slice none 0 0, []⟩] : List MSeg) = ms3 at *
          have hl3 : ms3.length = 1 := by rw [← msegs_len, esg]; rfl
          have hR3 := hS3.rd (by omega)
          have hn3 := fun W (hb : Below w3.heap.size w3 W) => lnext_any W L X 3 _ (hR3.below hb)
          have hf3 := fun W (hb : Below w3.heap.size w3 W) => first_any W L X 3 _ (hR3.below hb)
          have ap3 := fun W (hb : Below w3.heap.size w3 W) => append_one2 W _ _ L X D 200 3 _ _ ms3 (hS3.below hb) 120 (by rw [esg]; show f + 0 ≤ _; omega) (by rw [esg]; show 0 + 1 ≤ 1000; omega) (by omega) (by omega) (by omega) (by rw [esg]; simp)
          rw [esg] at hn3 hf3 ap3
          replace hn3 : ∀ W, Below w3.heap.size w3 W → Calls Tryz.prog 17 #[.pointer (some ⟨L, 0, none⟩)] W (Gives W (.int .i64 (f : Int))) := hn3
          replace hf3 : ∀ W, Below w3.heap.size w3 W → Calls Tryz.prog 16 #[.pointer (some ⟨L, 0, none⟩)] W (Gives W (.int .i64 (f : Int))) := hf3
          have hk03 : Kept (fun j => j < w.heap.size) w w3 := HI.out.kept.trans ((kept_of_below hb2 (fun j hj => Nat.lt_of_lt_of_le hj hbr.size)).trans (hk4.trans hk5))
          have hcv := conv_const
          have Hn3 := Lib.hid hn3
          have Hf3 := Lib.hid hf3
          have Hap := Lib.hid ap3
          have hn5 := hn3 w3 (Below.refl _ _)
          clear hn3 hf3 ap3 hS3 hS3' hR3 esg hS4 hk4 hk5
          go_upto_region 18 with (first
            | (go_at_call 17; refine hn5.mono ?_; clear hn5; rintro e w5 ⟨rfl, hb5⟩; have hf5 := Hf3.out w5 hb5)
            | (go_at_call 16; refine hf5.mono ?_; clear hf5; rintro e w6 ⟨rfl, hb6⟩; have hb36 := below_trans hb5 hb6; have ha6 := Hap.out w6 hb36)
            | (go_at_call 12; refine ha6.mono ?_; clear ha6; rintro e w7 ⟨rfl, hk7, ms7, hA7, hS7⟩; have hy7 := ssync_any w7 _ _ L X D 200 3 _ _ ms7 hS7)
            | (go_at_call 13; refine hy7.mono ?_; clear hy7; rintro e w8 ⟨rfl, hk8, hS8⟩)
            | fail)
          have hA : AppS 3 [⟨f, 0, []⟩] [120] (MSeg.segs ms7) := hA7
          obtain ⟨z1, z2, z3⟩ := app_reset hA
          have hk08 := hk03.trans (((kept_of_below hb36 (fun j hj => Nat.lt_of_lt_of_le hj hk03.size)).trans hk7).trans hk8)
          have hro := reopen_any w8 _ _ L X D 200 3 _ _ ms7 hS8 (by omega)
          have HS8 := Lib.hid hS8
          have Hz3 := Lib.hid z3
          have Hz1 := Lib.hid z1
          have Hz2 := Lib.hid z2
          have hchn := hS8.chain
          have Hch := Lib.hid hchn
          have hff : I64 (f : Int) := by unfold I64; omega
          have a1 : IntKind.i64.wrap ((f : Int) + 1) = ((f + 1 : Nat) : Int) := by rw [IntWalk.i64_in _ (by omega)]; omega
          clear hA7 hA hS7 hS8 z1 z2 z3 hchn hcv
          go_upto_region 20 with (first
            | (go_at_call 21; refine hro.mono ?_; clear hro; rintro e w9 ⟨X', rfl, hb9, hRe⟩; have hop := hRe.open (HS8.out.env.below hb9) (by omega) (by omega))
            | (go_at_call 19; refine hop.mono ?_; clear hop; rintro e w10 ⟨L2, rfl, -, hR10, hb10⟩)
            | fail)
          have hgt := sget_any w10 L2 X' 3 _ hR10 Hch.out (f : Int) hff
          unfold GetOut at hgt
          have Hbad : Hid (¬ ((f : Int) < (firstS (MSeg.segs ms7) : Int) ∨ (nextS (MSeg.segs ms7) : Int) ≤ (f : Int))) := Lib.hid (by rw [Hz1.out, Hz2.out]; omega)
          go_upto_region 21 with (first
            | (go_at_call 11; refine hgt.mono ?_; clear hgt; rintro e w11 ⟨gv, gx, rfl, hb11, (⟨rfl, gk, hgk, gj, hgj, -, hgo⟩ | ⟨rfl, hbad⟩)⟩; rotate_left; (exact absurd hbad Hbad.out))
            | fail)
          have hgb := Hz3.out _ (List.getElem_mem hgk) _ (List.getElem_mem hgj)
          rw [hgb] at hgo
          obtain ⟨gq, gc, hgv⟩ := own_slice hgo
          subst hgv
          have hcs : (convert 25 9 (.slice gq 1 gc)).run Tryz.prog w11 = .ok (.string ⟨#[120]⟩) w11 := conv_bytes (hgo.at (by simp))
          have hb80 := below_trans hb9 (below_trans hb10 hb11)
          have hb0B := below_trans hk08.below hb80
          have hR11 := hR10.below hb11
          have hF11 := first_any w11 L2 X' 3 _ hR11
          have hN11 := fun W (hb : Below w11.heap.size w11 W) => lnext_any W L2 X' 3 _ (hR11.below hb)
          rw [Hz1.out] at hF11
          rw [Hz2.out] at hN11
          have HN11 := Lib.hid hN11
          clear hgo hR11 hR10 hN11
          go_wp2_with (first
            | (go_at_call 16; refine hF11.mono ?_; clear hF11; rintro e w12 ⟨rfl, hb12⟩; have hN12 := HN11.out w12 hb12)
            | (go_at_call 17; refine hN12.mono ?_; clear hN12; rintro e w13 ⟨rfl, hb13⟩; have hb0D := below_trans hb0B (below_trans hb12 hb13); have hlD := Hliv.out w13 hb0D)
            | (go_at_call 10; refine hlD.mono ?_; rintro e w14 ⟨rfl, hb14⟩)
            | fail)
          go_ret
          exact ⟨rfl, below_trans hb0D hb14⟩
end Go.Proofs.YtlhefifejcoecaaGreatDoor
