/- SegmentTells, walked. -/
import Derived.Test.YtlhefifejcoecaaGreatDoorJRst
import Derived.Deep.CutBlock
namespace Go.Proofs.YtlhefifejcoecaaGreatDoor
open Go.RowKit Go.Proofs Go.Shelf
attribute [local go_sem ↓] Go.wp_at_zero Go.wp_at_succ

/-- What holds between the appends. -/
structure Tels (w : World) (L X D sz : Nat) (lb : List (List UInt8)) (k : Nat) (ms : List MSeg) (wr : World) : Prop where
  log : LogS wr (fun j => j < w.heap.size) w.heap.size L X D 300 sz (1 + k) (16 + sz * k) ms
  next : nextS (MSeg.segs ms) = k
  first : firstS (MSeg.segs ms) = 0
  num : nextN (MSeg.segs ms) ≤ k
  short : ∀ t ∈ MSeg.segs ms, t.l.length ≤ k
  tells : Tells (MSeg.segs ms) (lb.take k)
  kept : Kept (fun j => j < w.heap.size) w wr

theorem AppS.first {sz : Nat} {segs segs' : List Seg} {b : List UInt8} (h : AppS sz segs b segs') (h0 : firstS segs = 0) : firstS segs' = 0 := by
  rcases h with ⟨init, s, rfl, -, rfl⟩ | rfl
  · cases init with
    | nil => exact h0
    | cons a r => exact h0
  · cases segs with
    | nil => rfl
    | cons a r => exact h0

theorem Tels.step {w : World} {L X D sz k : Nat} {lb : List (List UInt8)} {ms ms' : List MSeg} {wr w2 : World} {b : List UInt8} (h : Tels w L X D sz lb k ms wr) (hb : lb[k]? = some b) (hk : Kept (fun j => j < w.heap.size) wr w2) (hA : AppS sz (MSeg.segs ms) b (MSeg.segs ms')) (hS : LogS w2 (fun j => j < w.heap.size) w.heap.size L X D 300 sz (1 + k + 1) (16 + sz * k + sz) ms') : Tels w L X D sz lb (k + 1) ms' w2 := by
  have e1 := hA.next
  have e2 := hA.nextN
  have h1 := h.next
  have h2 := h.num
  have hkl : k < lb.length := by
    rcases Nat.lt_or_ge k lb.length with h3 | h3
    · exact h3
    · rw [List.getElem?_eq_none h3] at hb; cases hb
  have ht : lb.take (k + 1) = lb.take k ++ [b] := by
    rw [List.getElem?_eq_getElem hkl, Option.some.injEq] at hb
    rw [List.take_succ_eq_append_getElem hkl, hb]
  have e3 : 16 + sz * (k + 1) = 16 + sz * k + sz := by rw [Nat.mul_succ, Nat.add_assoc]
  have e4 : 1 + (k + 1) = 1 + k + 1 := rfl
  refine ⟨by rw [e3, e4]; exact hS, by omega, hA.first h.first, by omega, hA.short h.short, ?_, h.kept.trans hk⟩
  rw [ht]
  exact h.tells.app hA (by rw [h1, List.length_take]; omega)

theorem Tels.below {w : World} {L X D sz k : Nat} {lb : List (List UInt8)} {ms : List MSeg} {wr w2 : World} (h : Tels w L X D sz lb k ms wr) (hb : Below wr.heap.size wr w2) : Tels w L X D sz lb k ms w2 :=
  ⟨h.log.below hb, h.next, h.first, h.num, h.short, h.tells, h.kept.trans (kept_of_below hb h.log.ltK)⟩

theorem Tels.same {w : World} {L X D sz k : Nat} {lb : List (List UInt8)} {ms : List MSeg} {wr w2 : World} (h : Tels w L X D sz lb k ms wr) (hk : Kept (fun j => j < w.heap.size) wr w2) (hS : LogS w2 (fun j => j < w.heap.size) w.heap.size L X D 300 sz (1 + k) (16 + sz * k) ms) : Tels w L X D sz lb k ms w2 :=
  ⟨hS, h.next, h.first, h.num, h.short, h.tells, h.kept.trans hk⟩

/-- Behind the cut. -/
structure Teld (w : World) (L X D sz : Nat) (lb : List (List UInt8)) (k c : Nat) (ms : List MSeg) (wr : World) : Prop where
  log : LogS wr (fun j => j < w.heap.size) w.heap.size L X D 300 sz (2 + k) (16 + sz * k) ms
  next : nextS (MSeg.segs ms) = k
  first : firstS (MSeg.segs ms) ≤ c
  tells : Tells (MSeg.segs ms) (lb.take k)
  kept : Kept (fun j => j < w.heap.size) w wr

theorem Teld.rd {w : World} {L X D sz k c : Nat} {lb : List (List UInt8)} {ms : List MSeg} {wr : World} (h : Teld w L X D sz lb k c ms wr) : LogR wr L X sz (MSeg.segs ms) := h.log.rd (Nat.le_trans h.log.few (by decide))
theorem Teld.below {w : World} {L X D sz k c : Nat} {lb : List (List UInt8)} {ms : List MSeg} {wr w2 : World} (h : Teld w L X D sz lb k c ms wr) (hb : Below wr.heap.size wr w2) : Teld w L X D sz lb k c ms w2 :=
  ⟨h.log.below hb, h.next, h.first, h.tells, h.kept.trans (kept_of_below hb h.log.ltK)⟩

/-- A log to be read, in the law's loop. -/
structure Telr (w : World) (Lx Xx sz : Nat) (lb : List (List UInt8)) (k c : Nat) (segs : List Seg) (wr : World) : Prop where
  rd : LogR wr Lx Xx sz segs
  next : nextS segs = k
  first : firstS segs ≤ c
  tells : Tells segs (lb.take k)
  chain : Chain segs

theorem Teld.r {w : World} {L X D sz k c : Nat} {lb : List (List UInt8)} {ms : List MSeg} {wr : World} (h : Teld w L X D sz lb k c ms wr) : Telr w L X sz lb k c (MSeg.segs ms) wr := ⟨h.rd, h.next, h.first, h.tells, h.log.chain⟩
theorem Telr.below {w : World} {Lx Xx sz k c : Nat} {lb : List (List UInt8)} {segs : List Seg} {wr w2 : World} (h : Telr w Lx Xx sz lb k c segs wr) (hb : Below wr.heap.size wr w2) : Telr w Lx Xx sz lb k c segs w2 := ⟨h.rd.below hb, h.next, h.first, h.tells, h.chain⟩
theorem Telr.firstC {w : World} {Lx Xx sz k c : Nat} {lb : List (List UInt8)} {segs : List Seg} {wr : World} (h : Telr w Lx Xx sz lb k c segs wr) : Calls Tryz.prog 16 #[.pointer (some ⟨Lx, 0, none⟩)] wr (Gives wr (.int .i64 (firstS segs : Nat))) := first_any wr Lx Xx sz _ h.rd
theorem Telr.nextC {w : World} {Lx Xx sz k c : Nat} {lb : List (List UInt8)} {segs : List Seg} {wr : World} (h : Telr w Lx Xx sz lb k c segs wr) : Calls Tryz.prog 17 #[.pointer (some ⟨Lx, 0, none⟩)] wr (Gives wr (.int .i64 (k : Int))) := by
  have h1 := lnext_any wr Lx Xx sz _ h.rd
  rw [h.next] at h1
  exact h1

theorem chain_up {segs : List Seg} (hc : Chain segs) (j : Nat) : ∀ d, (h : j + d < segs.length) → (segs[j]'(by omega)).first ≤ segs[j + d].first
  | 0, _ => Nat.le_refl _
  | d + 1, h => by
    have h1 := chain_up hc j d (by omega)
    have h2 := (hc (j + d) (by omega)).2
    have h3 : segs[j + (d + 1)].first = lastN (segs[j + d]'(by omega)) := h2
    unfold lastN at h3
    omega

theorem chain_in {segs : List Seg} (hc : Chain segs) {g j : Nat} (hg : g < segs.length) (hj : j < segs[g].l.length) : firstS segs ≤ segs[g].first + j ∧ segs[g].first + j < nextS segs := by
  have hlast := last_of (segs := segs) (m := segs.length - 1) (by omega)
  have e1 : nextS segs = lastN (segs[segs.length - 1]'(by omega)) := by unfold nextS; rw [hlast]
  have e2 : firstS segs = (segs[0]'(by omega)).first := by
    cases segs with
    | nil => simp at hg
    | cons a r => rfl
  have h1 := chain_up hc 0 g (by omega)
  simp only [Nat.zero_add] at h1
  refine ⟨by rw [e2]; omega, ?_⟩
  rw [e1]
  unfold lastN
  by_cases h2 : g + 1 < segs.length
  · have h3 := (hc g h2).2
    have h4 := chain_up hc (g + 1) (segs.length - 1 - (g + 1)) (by omega)
    have e3 : segs[g + 1 + (segs.length - 1 - (g + 1))]'(by omega) = segs[segs.length - 1]'(by omega) := by congr 1; omega
    rw [e3] at h4
    unfold lastN at h3
    omega
  · have e4 : g = segs.length - 1 := by omega
    subst e4
    omega

theorem bytes_back (s : ByteArray) : (⟨s.data.toList.toArray⟩ : ByteArray) = s := by simp

/-- What Get tells. -/
def TelG (l : List ByteArray) (k : Nat) (f i : Int) (w : World) (e : Ending) (w' : World) : Prop := ∃ (v : Value) (x : Int), e = .returned (.tuple #[v, .int .i64 x]) ∧ Below w.heap.size w w' ∧
  ((x = 0 ∧ f ≤ i ∧ i < k ∧ ∃ j : Nat, i = (j : Int) ∧ ∃ hj : j < l.length, SlP 1 ByteE w' v l[j].data.toList) ∨ (x = 2 ∧ (i < f ∨ (k : Int) ≤ i)))

theorem Telr.get {w : World} {Lx Xx sz k c : Nat} {l : List ByteArray} {segs : List Seg} {wr : World} (h : Telr w Lx Xx sz (l.map (·.data.toList)) k c segs wr) (i : Int) (hi : I64 i) : Calls Tryz.prog 11 #[.pointer (some ⟨Lx, 0, none⟩), .int .i64 i] wr (TelG l k (firstS segs : Nat) i wr) := by
  refine (sget_any wr Lx Xx sz segs h.rd h.chain i hi).mono ?_
  rintro e w' ⟨v, x, rfl, hb, ⟨rfl, g, hg, j, hj, rfl, ho⟩ | ⟨rfl, hbad⟩⟩
  · obtain ⟨h1, h2⟩ := chain_in h.chain hg hj
    rw [h.next] at h2
    have h3 := h.tells _ (List.getElem_mem hg) j hj
    rw [List.getElem?_take_of_lt h2, List.getElem?_map] at h3
    obtain ⟨s, hs1, hs2⟩ := Option.map_eq_some_iff.1 h3
    obtain ⟨hlt, hs3⟩ := List.getElem?_eq_some_iff.1 hs1
    refine ⟨v, 0, rfl, hb, .inl ⟨rfl, by omega, by omega, segs[g].first + j, rfl, hlt, ?_⟩⟩
    rw [hs3, hs2]
    exact ho.at (by have := (h.rd.ok _ (List.getElem_mem hg)).each _ (List.getElem_mem hj); omega)
  · exact ⟨v, 2, rfl, hb, .inr ⟨rfl, by rw [h.next] at hbad; exact hbad⟩⟩

theorem Tels.trunc {w : World} {L X D sz k c : Nat} {lb : List (List UInt8)} {ms : List MSeg} {wr w2 : World} {e : Ending} (h : Tels w L X D sz lb k ms wr) (hc : c ≤ k) (ho : TruncOut wr (fun j => j < w.heap.size) w.heap.size L X D 300 sz (1 + k) (16 + sz * k) ms (c : Int) e w2) :
    e = .returned (.int .i64 0) ∧ ∃ ms', Teld w L X D sz lb k c ms' w2 := by
  have h1 := h.next
  have h0 := h.first
  rcases ho with ⟨hbad, -⟩ | ⟨-, rfl, hk, kk, hat, -, hc2⟩
  · exfalso; omega
  · refine ⟨rfl, ?_⟩
    rcases hc2 with ⟨rfl, hS⟩ | ⟨hpos, hS⟩
    · exact ⟨ms, hS.up (by omega) (Nat.le_refl _), h1, by omega, h.tells, h.kept.trans hk⟩
    · rcases hat with h2 | ⟨h2, h3⟩
      · omega
      · have e1 : MSeg.segs (ms.drop kk) = (MSeg.segs ms).drop kk := by unfold MSeg.segs; rw [List.map_drop]
        refine ⟨ms.drop kk, hS.up (by omega) (Nat.le_refl _), ?_, ?_, ?_, h.kept.trans hk⟩
        · rw [e1, ← h1]
          unfold nextS
          rw [List.getLast?_drop, if_neg (by omega)]
        · rw [e1, List.drop_eq_getElem_cons h2]
          show (MSeg.segs ms)[kk].first ≤ c
          omega
        · rw [e1]; exact h.tells.sub fun s hs => List.mem_of_mem_drop hs

set_option maxRecDepth 100000 in
set_option maxHeartbeats 1000000 in
theorem segmentTells_any (size cut : Nat) (hsz : size < 18446744073709551616) (hcu : cut < 18446744073709551616) (v : Value) (l : List ByteArray) (w : World) (hv : SlP 1 StrVE w v l) (hE : Env w) : Calls Tryz.prog 5 #[.int .u64 (size : Int), v, .int .u64 (cut : Int)] w (Gives w (.bool true)) := by
  obtain ⟨q, cap, rfl, hlc, hll, -, hcells⟩ := hv
  have Hc : Hid (∀ j, (hj : j < l.length) → ∃ b o, q = some ⟨b, o, none⟩ ∧ w.cell? ⟨b, o + j, none⟩ = some (.string l[j]) ∧ l[j].size ≤ 9223372036854775807) := Lib.hid fun j hj => by
    obtain ⟨b, off, cs, e1, e2, ⟨rfl, e3⟩, e4⟩ := hcells j hj
    exact ⟨b, off, e1, by simpa using e4 0 (by simp), e3⟩
  clear hcells
  obtain ⟨r, hr⟩ : ∃ r, r = size % 6 := ⟨_, rfl⟩
  obtain ⟨sz, hs⟩ : ∃ sz, sz = 2 + r := ⟨_, rfl⟩
  have a1 : (size : Int) % 6 = (r : Int) := by omega
  have a2 : IntKind.i64.wrap (r : Int) = (r : Int) := by rw [IntWalk.i64_in _ (by omega)]
  have a3 : IntKind.i64.wrap (2 + (r : Int)) = (sz : Int) := by rw [IntWalk.i64_in _ (by omega)]; omega
  have b1 : 2 ≤ sz := by omega
  have b2 : sz ≤ 7 := by omega
  have b3 : r ≤ 5 := by omega
  have hfr := fresh_any w hE 300 sz (by omega) (by omega) b1 (by omega)
  have hliv := fun W (hb : Below w.heap.size w W) => lives25_any W (hE.below hb)
  have Hliv := Lib.hid hliv
  have HE := Lib.hid hE
  clear hliv hE hr hs
  obtain ⟨len, hlen⟩ : ∃ len, len = l.length := ⟨_, rfl⟩
  have Hlen := Lib.hid hlen
  rw [← hlen] at hlc hll ⊢
  clear hlen
  unfold FreshOut at hfr
  by_cases h8 : 20 < len
  · have k0 : (20 : Int) < (len : Int) := by omega
    go_enter Tryz.func5, Tryz.ntmps5
    go_wp2_with (first
      | (go_at_call 20; refine hfr.mono ?_; rintro e w1 ⟨D, X, L, rfl, hS1, hb1⟩; have hl1 := Hliv.out w1 hb1)
      | (go_at_call 10; refine hl1.mono ?_; rintro e w2 ⟨rfl, hb2⟩)
      | fail)
    go_ret
    exact ⟨rfl, below_trans hb1 hb2⟩
  · have k0 : ¬ (20 : Int) < (len : Int) := by omega
    go_enter Tryz.func5, Tryz.ntmps5
    go_upto_region 4 with (first
      | (go_at_call 20; refine hfr.mono ?_; rintro e w1 ⟨D, X, L, rfl, hS1, hb1⟩)
      | fail)
    have hI0 : Tels w L X D sz (l.map (·.data.toList)) 0 [] w1 := ⟨by simpa using hS1, rfl, rfl, Nat.le_refl _, by simp [MSeg.segs], Tells.nil _, kept_of_below hb1 fun _ h => h⟩
    clear hfr hS1
    go_upto_block 0 with fail
    go_cut [1, 11, 12, 13] from 44 to 75 (fun l1 _ _ _ wc => ∃ (k : Nat) (ms : List MSeg), k ≤ len ∧ l1 = .slice q k cap ∧ Tels w L X D sz (l.map (·.data.toList)) k ms wc)
    case first =>
      go_wp2_with fail
      go_loopw [44, 1] (fun i l1 wr => ∃ (k : Nat) (ms : List MSeg), k ≤ len ∧ i = .int .i64 k ∧ l1 = .slice q len cap ∧ Tels w L X D sz (l.map (·.data.toList)) k ms wr) (fun i _ _ => len - (intOf i).toNat)
      case atStart => exact ⟨0, [], Nat.zero_le _, rfl, rfl, hI0⟩
      case round =>
        obtain ⟨k, ms, hkl, rfl, rfl, hI⟩ := hrel
        have HI := Lib.hid hI
        clear hI
        by_cases hlt : k < len
        · have hkL : k < l.length := by rw [← Hlen.out]; exact hlt
          obtain ⟨b, o, rfl, c0, hsz⟩ := Hc.out k hkL
          replace c0 := bcell HI.out.kept.below c0
          have Hbk : Hid ((l.map (·.data.toList))[k]? = some (l[k]'hkL).data.toList) := Lib.hid (by simp [hkL])
          generalize l[k]'hkL = s at *
          have m0 : (0 : Int) ≤ (k : Int) := by omega
          have m1 : (k : Int) < (len : Int) := by omega
          by_cases h27 : 27 < s.size
          · have k1 : (27 : Int) < (s.size : Int) := by omega
            have hl2 := Hliv.out wr HI.out.kept.below
            go_wp2_with (first
              | (go_at_call 10; refine hl2.mono ?_; rintro e w2 ⟨rfl, hb2⟩)
              | fail)
            go_ret
            exact ⟨rfl, below_trans HI.out.kept.below hb2⟩
          · have k1 : ¬ (27 : Int) < (s.size : Int) := by omega
            have hcv := conv_str wr s
            have hap := append_str wr _ _ L X D 300 sz (1 + k) (16 + sz * k) ms HI.out.log s (by omega) (by rw [HI.out.next]; omega) (by have := HI.out.num; omega) (by omega) (fun t ht => by have := HI.out.short t ht; omega)
            have a5 : IntKind.i64.wrap ((k : Int) + 1) = ((k + 1 : Nat) : Int) := by rw [IntWalk.i64_in _ (by omega)]; omega
            go_upto_region 10 with (first
              | (go_at_call 12; refine hap.mono ?_; rintro e w2 ⟨y, rfl, hk2, hc⟩; rcases hc with ⟨rfl, ms', hA, hS'⟩ | ⟨rfl | rfl, -, hS'⟩)
              | fail)
            · have hI2 := HI.out.step Hbk.out hk2 hA hS'
              have hn2 := lnext_any w2 L X sz _ (hS'.rd (by have := hS'.few; omega))
              rw [hI2.next] at hn2
              have HI2 := Lib.hid hI2
              clear hap hS' hA hI2
              go_wp2_with (first
                | (go_at_call 17; refine hn2.mono ?_; clear hn2; rintro e w3 ⟨rfl, hb3⟩)
                | fail)
              go_roundw
              case rel => exact ⟨k + 1, ms', hlt, by go_num, rfl, HI2.out.below hb3⟩
              case measure => simp [intOf]; omega
            · have hI2 := HI.out.same hk2 hS'
              have HI2 := Lib.hid hI2
              clear hap hS' hI2
              go_wp2_with fail
              go_meet
              case rel => exact ⟨k, ms, hkl, rfl, HI2.out⟩
            · have hI2 := HI.out.same hk2 hS'
              have HI2 := Lib.hid hI2
              clear hap hS' hI2
              go_wp2_with fail
              go_meet
              case rel => exact ⟨k, ms, hkl, rfl, HI2.out⟩
        · obtain rfl : k = len := by omega
          have m1 : ¬ (k : Int) < (k : Int) := by omega
          go_wp2_with fail
          go_meet
          case rel => exact ⟨k, ms, Nat.le_refl _, rfl, HI.out⟩
    case rest =>
      obtain ⟨k, ms, hkl, rfl, hI⟩ := hcut
      obtain ⟨k1, hk1⟩ : ∃ k1, k1 = k + 1 := ⟨_, rfl⟩
      obtain ⟨c, hc⟩ : ∃ c, c = cut % k1 := ⟨_, rfl⟩
      have hck : c ≤ k := by have := Nat.mod_lt cut (show 0 < k1 by omega); omega
      have d1 : IntKind.i64.wrap ((k : Int) + 1) = (k1 : Int) := by rw [IntWalk.i64_in _ (by omega)]; omega
      have d2 : IntKind.u64.wrap (k1 : Int) = (k1 : Int) := IntWalk.u64_in _ (by omega)
      have d3 : (k1 : Int) % 18446744073709551616 = (k1 : Int) := by omega
      have d4 : (cut : Int) % (k1 : Int) = (c : Int) := by rw [hc]; rfl
      have d5 : IntKind.i64.wrap (c : Int) = (c : Int) := IntWalk.i64_in _ (by omega)
      have d6 : ¬ (k1 : Int) = 0 := by omega
      have d7 : ¬ k1 = 0 := by omega
      have hk20 : k ≤ 20 := by omega
      have hcI : I64 (c : Int) := ⟨by omega, by omega⟩
      have hkE : 1 + k ≤ 1000000 := by omega
      have hfewm : ms.length ≤ 10000 := Nat.le_trans hI.log.few (by decide)
      have htr := strunc_any wc _ _ L X D 300 sz (1 + k) (16 + sz * k) ms hI.log (c : Int) hcI hkE hfewm
      have htr2 := htr.mono (fun e w2 ho => hI.trunc hck ho)
      have HI := Lib.hid hI
      have d8 : (cut : Int) % ((k : Int) + 1) = (c : Int) := by rw [show (k : Int) + 1 = (k1 : Int) by omega]; exact d4
      have d9 : wrap64 (c : Int) = (c : Int) := IntWalk.wrap64_in _ (by omega)
      clear hI hc hk1
      go_upto_region 16 with fail
      clear d1 d2 d3 d4 d5 d6 d7 d8 d9
      have hfi : ∀ (ms2 : List MSeg), firstS (MSeg.segs ms2) ≤ c → ¬ (c : Int) < (firstS (MSeg.segs ms2) : Int) := fun ms2 h => by omega
      clear htr
      go_upto_region 18 with (first
        | (go_at_call 14; refine htr2.mono ?_; clear htr2; rintro e w2 ⟨rfl, ms2, hT⟩; have hf2 := hT.r.firstC; have k9 := hfi ms2 hT.first; clear hfi)
        | (go_at_call 16; refine hf2.mono ?_; clear hf2; rintro e w3 ⟨rfl, hb3⟩; have hT3 := hT.below hb3; have hn3 := hT3.r.nextC)
        | (go_at_call 17; refine hn3.mono ?_; clear hn3; rintro e w4 ⟨rfl, hb4⟩; have hT4 := hT3.below hb4)
        | fail)
      have hdec : decide (c < firstS (MSeg.segs ms2)) = false := decide_eq_false (by have := hT.first; omega)
      clear hT hT3 hb3 hb4 k9
      have HT4 := Lib.hid hT4
      clear hT4
      go_upto_region 19 with fail
      generalize hW5 : World.alloc w4 _ = w5
      have hb5 : Below w4.heap.size w4 w5 := by rw [← hW5]; exact below_new _ _
      have p0 : w5.cell? ⟨w4.heap.size, 0, none⟩ = some (.pointer (some ⟨X, 0, none⟩)) := by rw [← hW5]; simp
      have p1 : w5.cell? ⟨w4.heap.size, 1, none⟩ = some (.pointer none) := by rw [← hW5]; simp
      have HT5 := Lib.hid (HT4.out.below hb5)
      clear hW5 HT4 hb5
      simp only [hdec]
      clear hdec
      go_loopw [103, 9] (fun j lw wr => ∃ (jn Lx Xx : Nat), jn ≤ 2 ∧ j = .int .i64 jn ∧ lw = .pointer (some ⟨Lx, 0, none⟩) ∧ Below w5.heap.size w5 wr ∧ Telr w Lx Xx sz (l.map (·.data.toList)) k c (MSeg.segs ms2) wr) (fun j _ _ => 2 - (intOf j).toNat)
      case atStart => exact ⟨0, L, X, by omega, rfl, rfl, Below.refl _ _, HT5.out.r⟩
      case round =>
        obtain ⟨jn, Lx, Xx, hj2, rfl, rfl, hbr, hTr⟩ := hrel
        rcases (by omega : jn = 0 ∨ jn = 1 ∨ jn = 2) with rfl | rfl | rfl
        · rw [show ((0 : Nat) : Int) = 0 from rfl]
          have p0r := bcell hbr p0
          have HTr := Lib.hid hTr
          clear hTr
          have hb0 := Below.refl wr.heap.size wr
          go_upto_region 30 with fail
          obtain ⟨wo, hwo⟩ : ∃ wo : World, wo = wr := ⟨_, rfl⟩
          subst hwo
          go_loopw [18] (fun i wr => ∃ ii : Int, -1 ≤ ii ∧ ii ≤ (k : Int) + 1 ∧ i = .int .i64 ii ∧ Below wo.heap.size wo wr) (fun i _ => ((k : Int) + 1 - intOf i).toNat)
          case atStart => exact ⟨-1, by omega, by omega, rfl, Below.refl _ _⟩
          case round =>
            obtain ⟨ii, hi1, hi2, rfl, hbi⟩ := hrel
            have hTi := HTr.out.below hbi
            by_cases hle : ii ≤ (k : Int)
            · have hgt := hTi.get ii ⟨by omega, by omega⟩
              unfold TelG at hgt
              have a6 : IntKind.i64.wrap (ii + 1) = ii + 1 := IntWalk.i64_in _ (by omega)
              have HTi := Lib.hid hTi
              clear hTi
              go_upto_region 33 with (first
                | (go_at_call 11; refine hgt.mono ?_; clear hgt; rintro e wg ⟨gv, gx, rfl, hbg, (⟨rfl, hg1, hg2, gj, rfl, hgj, hgs⟩ | ⟨rfl, hbad⟩)⟩)
                | fail)
              · obtain ⟨b, o, rfl, cl0, -⟩ := Hc.out gj hgj
                have hbw : Below w.heap.size w wg := below_trans HT5.out.kept.below (below_trans hbr (below_trans hb0 (below_trans hbi hbg)))
                have cl := fun s => later_cell (bcell hbw cl0) s
                have hcv : ∀ s, (convert 25 9 gv).run Tryz.prog (later wg s) = .ok (.string l[gj]) (later wg s) := fun s => by
                  have h1 := conv_bytes (hgs.mono ByteE.mono (later_below wg s))
                  rw [bytes_back] at h1
                  exact h1
                obtain ⟨gq, gn, gc, hgv⟩ : ∃ gq gn gc, gv = .slice gq gn gc := by
                  obtain ⟨gq, gc, h1, -⟩ := bytes_len hgs
                  exact ⟨gq, _, gc, h1⟩
                subst hgv
                generalize l[gj] = st at *
                have hTg := HTi.out.below hbg
                have hF := fun s => (hTg.below (later_below wg s)).firstC
                have hX := fun s => (hTg.below (later_below wg s)).nextC
                have m0 : (0 : Int) ≤ (gj : Int) := by omega
                clear hgs HTi cl0 hTg
                refine wp_region_mild (by kernel_rfl) (by kernel_rfl) ?_
                repeat (any_goals (first | go_big_quiet_step ((first | (exact mild_of (hF _)) | (exact mild_of (hX _)))) | quiet_step ((first | (exact mild_of (hF _)) | (exact mild_of (hX _)))) | (refine wpQuiet_step (fun K hK => ?_); go_simp; split <;> (refine hK _ ?_; clear hK K))))
                all_goals (refine wpQuiet_nil ?_; intro W hW)
                all_goals
                  (go_wp2
                   go_roundw
                   case rel => exact ⟨(gj : Int) + 1, by omega, by omega, by go_num, below_trans hbi (below_trans hbg hW)⟩
                   case measure => simp [intOf]; omega)
              · have hTg := HTi.out.below hbg
                have hF := fun s => (hTg.below (later_below wg s)).firstC
                have hX := fun s => (hTg.below (later_below wg s)).nextC
                clear HTi hTg
                by_cases hlo : ii < (firstS (MSeg.segs ms2) : Int)
                · have j1 : ¬ (firstS (MSeg.segs ms2) : Int) ≤ ii := by omega
                  clear hbad
                  refine wp_region_mild (by kernel_rfl) (by kernel_rfl) ?_
                  repeat (any_goals (first | go_big_quiet_step ((first | (exact mild_of (hF _)) | (exact mild_of (hX _)))) | quiet_step ((first | (exact mild_of (hF _)) | (exact mild_of (hX _)))) | (refine wpQuiet_step (fun K hK => ?_); go_simp; split <;> (refine hK _ ?_; clear hK K))))
                  all_goals (refine wpQuiet_nil ?_; intro W hW)
                  all_goals
                    (go_wp2
                     go_roundw
                     case rel => exact ⟨ii + 1, by omega, by omega, by go_num, below_trans hbi (below_trans hbg hW)⟩
                     case measure => simp [intOf]; omega)
                · have j1 : (firstS (MSeg.segs ms2) : Int) ≤ ii := by omega
                  have j2 : ¬ ii < (k : Int) := by omega
                  clear hbad
                  refine wp_region_mild (by kernel_rfl) (by kernel_rfl) ?_
                  repeat (any_goals (first | go_big_quiet_step ((first | (exact mild_of (hF _)) | (exact mild_of (hX _)))) | quiet_step ((first | (exact mild_of (hF _)) | (exact mild_of (hX _)))) | (refine wpQuiet_step (fun K hK => ?_); go_simp; split <;> (refine hK _ ?_; clear hK K))))
                  all_goals (refine wpQuiet_nil ?_; intro W hW)
                  all_goals
                    (go_wp2
                     go_roundw
                     case rel => exact ⟨ii + 1, by omega, by omega, by go_num, below_trans hbi (below_trans hbg hW)⟩
                     case measure => simp [intOf]; omega)
            · have hle' : ¬ ii ≤ (k : Int) := hle
              have hf7 := hTi.firstC
              have k9 : ¬ (c : Int) < (firstS (MSeg.segs ms2) : Int) := by have := hTi.first; omega
              go_wp2_with (first
                | (go_at_call 16; refine hf7.mono ?_; clear hf7; rintro e w7 ⟨rfl, hb7⟩; have hn7 := (hTi.below hb7).nextC)
                | (go_at_call 17; refine hn7.mono ?_; clear hn7; rintro e w8 ⟨rfl, hb8⟩)
                | fail)
              go_roundw
              case rel => exact ⟨1, Lx, Xx, by omega, by go_num, rfl, below_trans hbr (below_trans hb0 (below_trans hbi (below_trans hb7 hb8))), hTi.below (below_trans hb7 hb8)⟩
              case measure => simp [intOf]
        · rw [show ((1 : Nat) : Int) = 1 from rfl]
          have p1r := bcell hbr p1
          have hTw := HT5.out.below hbr
          have hkE2 : 2 + k ≤ 1000000 := by omega
          have hro := reopen_any wr _ _ L X D 300 sz (2 + k) (16 + sz * k) ms2 hTw.log hkE2
          have hev := hTw.log.env
          have b4 : sz ≤ 512 := by omega
          have hrr := hTw.r
          have Hrr := Lib.hid hrr
          clear hTr hTw hrr
          go_upto_region 29 with (first
            | (go_at_call 21; refine hro.mono ?_; clear hro; rintro e w9 ⟨X', rfl, hb9, hRe⟩; have hop := hRe.open (hev.below hb9) b1 b4)
            | (go_at_call 19; refine hop.mono ?_; clear hop; rintro e w10 ⟨L2, rfl, -, hR10, hb10⟩)
            | fail)
          have hx10 := below_trans hb9 hb10
          have HTr : Hid (Telr w L2 X' sz (l.map (·.data.toList)) k c (MSeg.segs ms2) w10) := Lib.hid ⟨hR10, Hrr.out.next, Hrr.out.first, Hrr.out.tells, Hrr.out.chain⟩
          clear hR10 hRe hev hb9 hb10
          go_upto_region 30 with fail
          obtain ⟨wo, hwo⟩ : ∃ wo : World, wo = w10 := ⟨_, rfl⟩
          subst hwo
          go_loopw [18] (fun i wr => ∃ ii : Int, -1 ≤ ii ∧ ii ≤ (k : Int) + 1 ∧ i = .int .i64 ii ∧ Below wo.heap.size wo wr) (fun i _ => ((k : Int) + 1 - intOf i).toNat)
          case atStart => exact ⟨-1, by omega, by omega, rfl, Below.refl _ _⟩
          case round =>
            obtain ⟨ii, hi1, hi2, rfl, hbi⟩ := hrel
            have hTi := HTr.out.below hbi
            by_cases hle : ii ≤ (k : Int)
            · have hgt := hTi.get ii ⟨by omega, by omega⟩
              unfold TelG at hgt
              have a6 : IntKind.i64.wrap (ii + 1) = ii + 1 := IntWalk.i64_in _ (by omega)
              have HTi := Lib.hid hTi
              clear hTi
              go_upto_region 33 with (first
                | (go_at_call 11; refine hgt.mono ?_; clear hgt; rintro e wg ⟨gv, gx, rfl, hbg, (⟨rfl, hg1, hg2, gj, rfl, hgj, hgs⟩ | ⟨rfl, hbad⟩)⟩)
                | fail)
              · obtain ⟨b, o, rfl, cl0, -⟩ := Hc.out gj hgj
                have hbw : Below w.heap.size w wg := below_trans HT5.out.kept.below (below_trans hbr (below_trans hx10 (below_trans hbi hbg)))
                have cl := fun s => later_cell (bcell hbw cl0) s
                have hcv : ∀ s, (convert 25 9 gv).run Tryz.prog (later wg s) = .ok (.string l[gj]) (later wg s) := fun s => by
                  have h1 := conv_bytes (hgs.mono ByteE.mono (later_below wg s))
                  rw [bytes_back] at h1
                  exact h1
                obtain ⟨gq, gn, gc, hgv⟩ : ∃ gq gn gc, gv = .slice gq gn gc := by
                  obtain ⟨gq, gc, h1, -⟩ := bytes_len hgs
                  exact ⟨gq, _, gc, h1⟩
                subst hgv
                generalize l[gj] = st at *
                have hTg := HTi.out.below hbg
                have hF := fun s => (hTg.below (later_below wg s)).firstC
                have hX := fun s => (hTg.below (later_below wg s)).nextC
                have m0 : (0 : Int) ≤ (gj : Int) := by omega
                clear hgs HTi cl0 hTg
                refine wp_region_mild (by kernel_rfl) (by kernel_rfl) ?_
                repeat (any_goals (first | go_big_quiet_step ((first | (exact mild_of (hF _)) | (exact mild_of (hX _)))) | quiet_step ((first | (exact mild_of (hF _)) | (exact mild_of (hX _)))) | (refine wpQuiet_step (fun K hK => ?_); go_simp; split <;> (refine hK _ ?_; clear hK K))))
                all_goals (refine wpQuiet_nil ?_; intro W hW)
                all_goals
                  (go_wp2
                   go_roundw
                   case rel => exact ⟨(gj : Int) + 1, by omega, by omega, by go_num, below_trans hbi (below_trans hbg hW)⟩
                   case measure => simp [intOf]; omega)
              · have hTg := HTi.out.below hbg
                have hF := fun s => (hTg.below (later_below wg s)).firstC
                have hX := fun s => (hTg.below (later_below wg s)).nextC
                clear HTi hTg
                by_cases hlo : ii < (firstS (MSeg.segs ms2) : Int)
                · have j1 : ¬ (firstS (MSeg.segs ms2) : Int) ≤ ii := by omega
                  clear hbad
                  refine wp_region_mild (by kernel_rfl) (by kernel_rfl) ?_
                  repeat (any_goals (first | go_big_quiet_step ((first | (exact mild_of (hF _)) | (exact mild_of (hX _)))) | quiet_step ((first | (exact mild_of (hF _)) | (exact mild_of (hX _)))) | (refine wpQuiet_step (fun K hK => ?_); go_simp; split <;> (refine hK _ ?_; clear hK K))))
                  all_goals (refine wpQuiet_nil ?_; intro W hW)
                  all_goals
                    (go_wp2
                     go_roundw
                     case rel => exact ⟨ii + 1, by omega, by omega, by go_num, below_trans hbi (below_trans hbg hW)⟩
                     case measure => simp [intOf]; omega)
                · have j1 : (firstS (MSeg.segs ms2) : Int) ≤ ii := by omega
                  have j2 : ¬ ii < (k : Int) := by omega
                  clear hbad
                  refine wp_region_mild (by kernel_rfl) (by kernel_rfl) ?_
                  repeat (any_goals (first | go_big_quiet_step ((first | (exact mild_of (hF _)) | (exact mild_of (hX _)))) | quiet_step ((first | (exact mild_of (hF _)) | (exact mild_of (hX _)))) | (refine wpQuiet_step (fun K hK => ?_); go_simp; split <;> (refine hK _ ?_; clear hK K))))
                  all_goals (refine wpQuiet_nil ?_; intro W hW)
                  all_goals
                    (go_wp2
                     go_roundw
                     case rel => exact ⟨ii + 1, by omega, by omega, by go_num, below_trans hbi (below_trans hbg hW)⟩
                     case measure => simp [intOf]; omega)
            · have hle' : ¬ ii ≤ (k : Int) := hle
              have hf7 := hTi.firstC
              have k9 : ¬ (c : Int) < (firstS (MSeg.segs ms2) : Int) := by have := hTi.first; omega
              go_wp2_with (first
                | (go_at_call 16; refine hf7.mono ?_; clear hf7; rintro e w7 ⟨rfl, hb7⟩; have hn7 := (hTi.below hb7).nextC)
                | (go_at_call 17; refine hn7.mono ?_; clear hn7; rintro e w8 ⟨rfl, hb8⟩)
                | fail)
              go_roundw
              case rel => exact ⟨2, L2, X', by omega, by go_num, rfl, below_trans hbr (below_trans hx10 (below_trans hbi (below_trans hb7 hb8))), hTi.below (below_trans hb7 hb8)⟩
              case measure => simp [intOf]
        · have hlv := Hliv.out wr (below_trans HT5.out.kept.below hbr)
          go_wp2_with (first
            | (go_at_call 10; refine hlv.mono ?_; rintro e w6 ⟨rfl, hb6⟩)
            | fail)
          go_ret
          exact ⟨rfl, below_trans HT5.out.kept.below (below_trans hbr hb6)⟩
end Go.Proofs.YtlhefifejcoecaaGreatDoor
