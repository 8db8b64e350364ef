/- Append. -/
import Derived.Test.YtlhefifejcoecaaGreatDoorSegH
namespace Go.Proofs.YtlhefifejcoecaaGreatDoor
open Go.RowKit Go.Proofs Go.Shelf
attribute [local go_sem ↓] Go.wp_at_zero Go.wp_at_succ

def SrcE (K : Nat → Prop) (w : World) (v : Value) (bs : List UInt8) : Prop := SlP 1 ByteE w v bs ∧ (0 < bs.length → ∀ q n c, v = .slice q n c → ∀ a, q = some a → K a.block)

theorem SrcE.of {w : World} {v : Value} {bs : List UInt8} (h : SlP 1 ByteE w v bs) : SrcE (fun k => k < w.heap.size) w v bs := by
  refine ⟨h, fun h0 q n c e a ha => ?_⟩
  obtain ⟨q', cap, rfl, -, -, -, h3⟩ := h
  obtain ⟨b, off, cs, rfl, hcs, -, hc⟩ := h3 0 h0
  cases e
  simp only [Option.some.injEq] at ha
  subst ha
  exact World.block_lt_of_cell? _ _ (hc 0 (by omega))

theorem SrcE.kept {K : Nat → Prop} {w w' : World} {v : Value} {bs : List UInt8} (h : SrcE K w v bs) (hk : Kept K w w') : SrcE K w' v bs := by
  refine ⟨?_, h.2⟩
  obtain ⟨⟨q, cap, rfl, h1, h2, h0, h3⟩, hK⟩ := h
  refine ⟨q, cap, rfl, h1, h2, h0, fun j hj => ?_⟩
  obtain ⟨b, o, cs, rfl, hk2, he, hc⟩ := h3 j hj
  exact ⟨b, o, cs, rfl, hk2, he, fun i hi => (hk.cell (p := ⟨b, o + j * 1 + i, none⟩) (show K b from hK (by omega) _ _ _ rfl _ rfl)).trans (hc i hi)⟩

section
variable {w w' : World} {K K' : Nat → Prop} {base L X D n sz E M : Nat} {ms : List MSeg}

theorem LogX.less {KL : Nat → Prop} {safe cur : List UInt8} {now saved : Files} {epoch which : Nat} (h : LogX w K KL base L X D n sz safe cur now saved epoch which ms) (hK : ∀ k, K' k → K k) : LogX w K' KL base L X D n sz safe cur now saved epoch which ms :=
  ⟨h.mem, h.dir.more fun k _ h2 => h2.elim (fun h3 => .inl (hK k h3)) .inr, fun k hk h2 => h.apart k hk (hK k h2), h.ltL, fun k hk => h.ltK k (hK k hk), h.base⟩

theorem LogS.less (h : LogS w K base L X D n sz E M ms) (hK : ∀ k, K' k → K k) (kn : K' 2) (kp : K' 0) : LogS w K' base L X D n sz E M ms := by
  obtain ⟨⟨KL, safe, cur, now, epoch, which, hx, h2⟩, h3, -, -, h4, h5⟩ := h
  exact ⟨⟨KL, safe, cur, now, epoch, which, hx.less hK, h2⟩, h3, kn, kp, h4, h5⟩

theorem LogS.more (h : LogS w K base L X D n sz E M ms) (hb : Below w.heap.size w w') (h0 : ∀ k, K k → K' k) (h1 : ∀ k, k < w.heap.size → K' k → K k) (h2 : ∀ k, K' k → k < w'.heap.size) : LogS w' K' base L X D n sz E M ms := by
  obtain ⟨⟨KL, safe, cur, now, epoch, which, hx, h3⟩, h4, h5, h6, h7, h8⟩ := h
  exact ⟨⟨KL, safe, cur, now, epoch, which, hx.more hb h1 h2, h3⟩, h4.below hb, h0 _ h5, h0 _ h6, h7, h8⟩

theorem LogS.below (h : LogS w K base L X D n sz E M ms) (hb : Below w.heap.size w w') : LogS w' K base L X D n sz E M ms := by
  obtain ⟨⟨KL, safe, cur, now, epoch, which, hx, h3⟩, h4, h5, h6, h7, h8⟩ := h
  exact ⟨⟨KL, safe, cur, now, epoch, which, hx.below hb, h3⟩, h4.below hb, h5, h6, h7, h8⟩

theorem LogS.up (h : LogS w K base L X D n sz E M ms) {E' M' : Nat} (hE : E ≤ E') (hM : M ≤ M') : LogS w K base L X D n sz E' M' ms := by
  obtain ⟨⟨KL, safe, cur, now, epoch, which, hx, a, b, c, d⟩, h4, h5, h6, h7, h8⟩ := h
  exact ⟨⟨KL, safe, cur, now, epoch, which, hx, a, b, by omega, fun x hx => by have := d x hx; omega⟩, h4, h5, h6, h7, by omega⟩

theorem LogS.ltK (h : LogS w K base L X D n sz E M ms) : ∀ k, K k → k < w.heap.size := by
  obtain ⟨⟨KL, safe, cur, now, epoch, which, hx, -⟩, -⟩ := h
  exact hx.ltK

theorem LogS.rd (h : LogS w K base L X D n sz E M ms) (hl : ms.length ≤ 100000) : LogR w L X sz (MSeg.segs ms) := by
  obtain ⟨⟨KL, safe, cur, now, epoch, which, hx, hok, -⟩, -⟩ := h
  exact hx.mem.rd (fun m hm => hok.ok _ (List.mem_map.2 ⟨m, hm, rfl⟩)) (by omega)
end

/-- What Append may make of the segments. -/
def AppS (sz : Nat) (segs : List Seg) (b : List UInt8) (segs' : List Seg) : Prop :=
  (∃ init s, segs = init ++ [s] ∧ (bytesS s).length + (padS b).length ≤ 32 * sz ∧ segs' = init ++ [{ s with l := s.l ++ [b] }]) ∨ segs' = segs ++ [⟨nextS segs, nextN segs, [b]⟩]

def AppOut (w : World) (K : Nat → Prop) (base L X D n sz E M : Nat) (ms : List MSeg) (b : List UInt8) (e : Ending) (w' : World) : Prop := ∃ x : Int, e = .returned (.int .i64 x) ∧ Kept K w w' ∧
  ((x = 0 ∧ ∃ ms', AppS sz (MSeg.segs ms) b (MSeg.segs ms') ∧ LogS w' K base L X D n sz (E + 1) (M + sz) ms') ∨ ((x = 13 ∨ x = 6) ∧ ¬ (M + sz ≤ n ∧ ms.length < 10) ∧ LogS w' K base L X D n sz E M ms))

theorem strRowElt : Elt Tryz.prog 25 1 24 := by
  have h : (Tryz.prog.info? 25).map (fun i => (i.zero, i.size, i.bytes)) = some (some (.slice none 0 0), 1, 24) := by kernel_rfl
  obtain ⟨i0, hi, hz0, hz1, hz2⟩ := info_parts h
  exact ⟨⟨i0, _, hi, hz0, hz1, hz2, rfl⟩, by decide⟩

set_option maxRecDepth 100000 in
set_option maxHeartbeats 4000000 in
theorem sappend_any (w : World) (K : Nat → Prop) (base L X D n sz E M : Nat) (ms : List MSeg) (h : LogS w K base L X D n sz E M ms) (v : Value) (b : List UInt8) (hv : SlP 1 ByteE w v b) (hvK : 0 < b.length → ∀ q n c, v = .slice q n c → ∀ a, q = some a → K a.block)
    (hb : b.length ≤ 8192) (hfit : (padS b).length ≤ 32 * (sz - 1)) (hnx : nextS (MSeg.segs ms) ≤ 2199023255552) (hn : nextN (MSeg.segs ms) ≤ 999999) (hE : E ≤ 1000000) (hms : ms.length ≤ 10000) (hll : ∀ s ∈ MSeg.segs ms, s.l.length < 100000) :
    Calls Tryz.prog 12 #[.pointer (some ⟨L, 0, none⟩), v] w (AppOut w K base L X D n sz E M ms b) := by
  have hR := h.rd (by omega)
  have hmade := smade_any w L X sz _ hR
  have hpad := padded_any v b w hv h.env.nib hb
  have hsz := h.sz
  obtain ⟨q, cap, rfl, hlc, -⟩ := hv.bytesAt
  obtain ⟨-, -, -, c1, -⟩ := hR.open_
  obtain ⟨pl, hpl⟩ : ∃ pl, pl = (padS b).length := ⟨_, rfl⟩
  have Hpl := Lib.hid hpl
  have hplb : pl ≤ 32 * (sz - 1) := by rw [hpl]; exact hfit
  have hnext := fun W (hb : Below w.heap.size w W) => lnext_any W L X sz _ (hR.below hb)
  have hroom : ∀ W, Below w.heap.size w W → Calls Tryz.prog 36 #[.pointer (some ⟨L, 0, none⟩)] W (Gives W (.int .i64 (roomS sz (MSeg.segs ms) : Nat))) := fun W hb => by
    obtain ⟨⟨KL, safe, cur, now, epoch, which, hx, hok, hdok, -, -⟩, henv, -⟩ := h.below hb
    exact room_any W L X D n sz _ _ safe cur now now epoch which (hR.below hb) hx.dir henv hok hdok hsz.2
  have H := Lib.hid h
  have HR := Lib.hid hR
  have Hv := Lib.hid hv
  have HvK := Lib.hid hvK
  have Hll := Lib.hid hll
  obtain ⟨nx, hnxe⟩ : ∃ nx, nx = nextS (MSeg.segs ms) := ⟨_, rfl⟩
  have Hnx := Lib.hid hnxe
  rw [← hnxe] at hnext hnx
  obtain ⟨rm, hrme⟩ : ∃ rm, rm = roomS sz (MSeg.segs ms) := ⟨_, rfl⟩
  have Hrm := Lib.hid hrme
  rw [← hrme] at hroom
  have n1 : ¬ (8192 : Int) < (b.length : Int) := by omega
  have n2 : IntKind.i64.wrap ((sz : Int) - 1) = ((sz - 1 : Nat) : Int) := by rw [IntWalk.i64_in _ (by omega)]; omega
  obtain ⟨s1, hs1⟩ : ∃ s1, s1 = sz - 1 := ⟨_, rfl⟩
  rw [← hs1] at n2 hplb
  have n3 : IntKind.i64.wrap ((s1 : Int) * 32) = ((32 * s1 : Nat) : Int) := by rw [IntWalk.i64_in _ (by omega)]; omega
  obtain ⟨s2, hs2⟩ : ∃ s2, s2 = 32 * s1 := ⟨_, rfl⟩
  rw [← hs2] at n3 hplb
  have n4 : ¬ (s2 : Int) < (pl : Int) := by omega
  obtain ⟨nxi, hnxi⟩ : ∃ nxi : Int, nxi = (nx : Int) := ⟨_, rfl⟩
  rw [← hnxi] at hnext
  have n5 : ¬ (4611686018427387904 : Int) ≤ nxi := by omega
  have n6 : nxi < 4611686018427387904 := by omega
  have Hnxi := Lib.hid hnxi
  have Hnxb := Lib.hid hnx
  clear hnx hnxi
  have Hs1 := Lib.hid hs1
  have Hs2 := Lib.hid hs2
  clear h hR hv hvK hll hnxe hrme hpl hfit hs1 hs2
  go_enter Tryz.func12, Tryz.ntmps12
  go_upto_region 6 with (first
    | (go_at_call 30; refine hmade.mono ?_; rintro e w1 ⟨rfl, hb1⟩; have hpad1 := padded_any _ b w1 (Hv.out.mono ByteE.mono hb1) (H.out.env.nib.below hb1) hb)
    | (go_at_call 35; refine hpad1.mono ?_; rintro e w2 ⟨v2, rfl, hown2, hb2⟩)
    | fail)
  obtain ⟨q2, cap2, hq2, hc2, -⟩ := hown2.len
  rw [← Hpl.out] at hq2 hc2
  subst hq2
  have hb12 := below_trans hb1 hb2
  have d1 := bcell hb12 c1
  have hnext2 := hnext w2 hb12
  clear hmade hpad hpad1
  go_upto_region 8 with (first
    | (go_at_call 17; refine hnext2.mono ?_; rintro e w3 ⟨rfl, hb3⟩)
    | fail)
  have hb13 := below_trans hb12 hb3
  have hroom3 := hroom w3 hb13
  have hK1lt : ∀ k, (K k ∨ w.heap.size ≤ k ∧ k < w3.heap.size) → k < w3.heap.size := fun k hk => hk.elim (fun h1 => Nat.lt_of_lt_of_le (H.out.ltK k h1) hb13.size) fun h1 => h1.2
  have hS3 : LogS w3 (fun k => K k ∨ w.heap.size ≤ k ∧ k < w3.heap.size) base L X D n sz E M ms := H.out.more hb13 (fun k hk => .inl hk) (fun k hk h2 => h2.elim id fun h3 => by omega) hK1lt
  have hx3 : ∀ a, q2 = some a → w.heap.size ≤ a.block ∧ a.block < w3.heap.size := fun a ha => by
    subst ha
    have h1 := World.ownsRow.lt hown2 a.block rfl
    have := hb3.size
    have := hb1.size
    exact ⟨by omega, by omega⟩
  have HS3 := Lib.hid hS3
  have Hown2 := Lib.hid hown2
  have Hx3 := Lib.hid hx3
  clear hS3 hown2 hx3 hnext2 c1 d1
  by_cases hpr : pl ≤ rm
  · have n7 : ¬ (rm : Int) < (pl : Int) := by omega
    go_upto_region 12 with (first | (go_at_call 36; refine hroom3.mono ?_; rintro e w4 ⟨rfl, hb4⟩) | fail)
    have hms0 : ms ≠ [] := fun e => by
      have h1 := Hrm.out
      rw [e] at h1
      have h2 : rm = 0 := h1
      have h3 := Hpl.out
      have h4 := frameS_len b
      have h5 : (padS b).length = (frameS b).length + _ := List.length_append
      omega
    obtain ⟨init, m, hmsE⟩ : ∃ init m, ms = init ++ [m] := ⟨ms.dropLast, ms.getLast hms0, (List.dropLast_concat_getLast hms0).symm⟩
    have hsegE : MSeg.segs ms = MSeg.segs init ++ [m.s] := by rw [hmsE]; simp [MSeg.segs]
    have hroomf : (bytesS m.s).length + pl ≤ 32 * sz := by
      have h1 := Hrm.out
      rw [hsegE] at h1
      unfold roomS at h1
      rw [List.getLast?_append] at h1
      simp at h1
      have h3 := Hpl.out
      have h4 := frameS_len b
      have h5 : (padS b).length = (frameS b).length + _ := List.length_append
      omega
    have HSw : Hid (LogS w4 (fun k => K k ∨ w.heap.size ≤ k ∧ k < w3.heap.size) base L X D n sz E M (init ++ [m])) := Lib.hid (by rw [← hmsE]; exact HS3.out.below hb4)
    have Hkw : Hid (Kept (fun k => K k ∨ w.heap.size ≤ k ∧ k < w3.heap.size) w3 w4) := Lib.hid (kept_of_below hb4 hK1lt)
    have Hll2 : Hid (∀ s ∈ MSeg.segs init ++ [m.s], s.l.length < 100000) := Lib.hid (by rw [← hsegE]; exact Hll.out)
    have HappS : Hid (AppS sz (MSeg.segs ms) b (MSeg.segs init ++ [{ m.s with l := m.s.l ++ [b] }])) := Lib.hid (.inl ⟨_, _, hsegE, by rw [← Hpl.out]; exact hroomf, rfl⟩)
    obtain ⟨E2, hE2⟩ : ∃ E2, E2 = E := ⟨_, rfl⟩
    obtain ⟨M2, hM2⟩ : ∃ M2, M2 = M := ⟨_, rfl⟩
    rw [← hE2, ← hM2] at HSw
    have hE2' : E2 ≤ E + 1 := by omega
    have hM2' : M2 ≤ M + sz := by omega
    have hil : init.length ≤ 10001 := by have h1 := congrArg List.length hmsE; simp at h1; omega
    obtain ⟨wc, hwc⟩ : ∃ wc, wc = w4 := ⟨_, rfl⟩
    subst hwc
    obtain ⟨⟨KL, safe, cur, now, epoch, which, hx, hok, hdok, hep, hMn⟩, henv, hkn, hkp, -, hlow⟩ := HSw.out
    obtain ⟨sv, hblk, hown, hsk⟩ := hx.mem.ex
    have hm := hx.mem.each m (by simp)
    obtain ⟨p, capS, hsv, hcs, hpg⟩ := hown.form
    obtain ⟨g, hpe, -, hgw⟩ := hpg (by simp)
    subst hpe
    have hNl : ((init ++ [m]).map MSeg.cells).length = init.length + 1 := by simp
    rw [hNl] at hsv hcs
    subst hsv
    have hat : ((init ++ [m]).map MSeg.cells)[init.length]'(by simp) = m.cells := by simp
    obtain ⟨plv, clv, hlv, -, -⟩ := hm.own.form
    rw [List.length_map] at hlv
    have z1 := hown.cell init.length 1 (by simp) (by rw [hat]; simp [MSeg.cells])
    have z2 := hown.cell init.length 2 (by simp) (by rw [hat]; simp [MSeg.cells])
    have z3 := hown.cell init.length 3 (by simp) (by rw [hat]; simp [MSeg.cells])
    simp only [hat] at z1 z2 z3
    unfold MSeg.cells at z1 z2 z3
    simp only [List.getElem_cons_zero, List.getElem_cons_succ] at z1 z2 z3
    rw [hlv] at z3
    have hmo := hok.ok m.s (by simp [MSeg.segs])
    have hsegs : MSeg.segs (init ++ [m]) = MSeg.segs init ++ [m.s] := by simp [MSeg.segs]
    rw [hsegs] at hok
    have hll9 := Hll2.out m.s (by simp)
    obtain ⟨q9, hw9, hok9⟩ := hok.more hdok (b := b) (by rw [← Hpl.out]; exact hroomf) hsz.2 hb (by omega)
    have hdok9 := hdok.write (nameS m.s.n) ((bytesS m.s).length : Nat) (padS b)
    rw [hw9] at hdok9
    have e9 : wrCur cur (some q9) (padS b) = splice cur q9 (padS b) := rfl
    rw [e9] at hdok9
    have hname : ∀ W, Below wc.heap.size wc W → Calls Tryz.prog 8 #[.int .i64 (m.s.n : Int)] W (Gives W (.string (nameS m.s.n))) := fun W hb => name_ok _ hmo.n W (henv.below hb)
    have c0w : wc.cell? ⟨L, 0, none⟩ = some (.pointer (some ⟨X, 0, none⟩)) := by rw [block_cell hblk]; rfl
    have c2w : wc.cell? ⟨L, 2, none⟩ = some (.slice (some ⟨g, 0, none⟩) (init.length + 1) capS) := by rw [block_cell hblk]; rfl
    have hs3c := Hkw.out.size
    have hownc : OwnB wc w.heap.size (.slice q2 pl cap2) (padS b) := owns_block (owns_block (owns_base Hown2.out hb1.size) fun k hk => hb3.block k (World.ownsRow.lt Hown2.out k hk).2) fun k hk => Hkw.out.block k (by
      have h1 := Hx3.out ⟨k, 0, none⟩
      cases q2 with
      | none => simp [Value.ownBlock] at hk
      | some a =>
        simp only [Value.ownBlock, Option.some.injEq] at hk
        subst hk
        exact .inr (Hx3.out a rfl))
    have hplb2 : (padS b).length ≤ 20000 := by rw [← Hpl.out]; have := Hs1.out; have := Hs2.out; omega
    have hwrite := fun W (hbW : Below wc.heap.size wc W) => dwrite_any W _ X D n safe cur now now epoch which (hx.dir.below hbW) (fun k hk => Nat.lt_of_lt_of_le (hx.lt k hk) hbW.size) hdok.gnow.in_ (nameS m.s.n) ((bytesS m.s).length : Nat) (by omega) (.slice q2 pl cap2) (padS b)
      ⟨OwnB.at (owns_block hownc fun k hk => hbW.block k (World.ownsRow.lt hownc k hk).2) (by omega), fun q' n' c' e' a ha => by
        simp only [Value.slice.injEq] at e'
        obtain ⟨rfl, -, -⟩ := e'
        exact .inl (.inr (Hx3.out a ha))⟩
    rw [hw9] at hwrite
    obtain ⟨en, hen⟩ : ∃ en, en = (bytesS m.s).length := ⟨_, rfl⟩
    obtain ⟨sn, hsn⟩ : ∃ sn, sn = m.s.n := ⟨_, rfl⟩
    obtain ⟨N, hN⟩ : ∃ N, N = init.length + 1 := ⟨_, rfl⟩
    obtain ⟨k, hk⟩ : ∃ k, k = init.length := ⟨_, rfl⟩
    obtain ⟨nl, hnl⟩ : ∃ nl, nl = m.vs.length := ⟨_, rfl⟩
    rw [← hen] at z1 hwrite hroomf
    rw [← hsn] at z2 hwrite hname
    rw [← hN] at c2w
    rw [← hk] at z1 z2 z3
    rw [← hnl] at z3
    have hkN : k + 1 = N := by omega
    have n8 : IntKind.i64.wrap ((N : Int) - 1) = (k : Int) := by rw [IntWalk.i64_in _ (by omega)]; omega
    have n9 : (k : Int) < (N : Int) := by omega
    have n10 : IntKind.i64.wrap ((en : Int) + (pl : Int)) = ((en + pl : Nat) : Int) := by rw [IntWalk.i64_in _ (by omega)]; omega
    have n11 : (0 : Int) ≤ (k : Int) := by omega
    have Hen := Lib.hid hen
    have Hsn := Lib.hid hsn
    have HNk := Lib.hid hkN
    have Hk := Lib.hid hk
    have Hnl := Lib.hid hnl
    have Hx := Lib.hid hx
    have Hok9 := Lib.hid hok9
    have Hdok9 := Lib.hid hdok9
    have Henv := Lib.hid henv
    have Hm := Lib.hid hm
    have Hlv := Lib.hid hlv
    have Hblk := Lib.hid hblk
    have Hwr := Lib.hid hwrite
    have Hnm := Lib.hid hname
    have HMn := Lib.hid hMn
    have Hown := Lib.hid hown
    have Hw9 := Lib.hid hw9
    have hkl := hx.mem.kl
    have hkg : KL g := hsk g rfl
    clear hen hsn hN hk hnl hkN hx hok hok9 hdok hdok9 henv hm hlv hblk hwrite hname hMn hown hw9 hownc hsegs hat hNl hll9 hmo e9 hcs hpg
    refine wp_region_held_drew (S := (fun w' => w'.cell? ⟨L, 2, none⟩ = some (.slice (some ⟨g, 0, none⟩) N capS))) (by kernel_rfl) (by exact c2w) (fun hHeld => ?_)
    refine' takeL (v := _) 0 rfl (by kernel_rfl) (by kernel_rfl) (by kernel_rfl) (fun _ _ _ h => h) (by rfl) ?_ (by assumption) ?_; rotate_left 1; (focus (intro w hSw; (try dsimp only at hSw); go_simp; (try with_reducible rfl); done))
    (try simp only [Act.put, List.setIfInBounds_toArray, List.set_cons_zero, List.set_cons_succ])
    refine' takeL (v := _) 1 rfl (by kernel_rfl) (by kernel_rfl) (by kernel_rfl) (fun _ _ _ h => h) (by rfl) ?_ (by assumption) ?_; rotate_left 1; (focus (intro w hSw; (try dsimp only at hSw); go_simp; (try with_reducible rfl); done))
    (try simp only [Act.put, List.setIfInBounds_toArray, List.set_cons_zero, List.set_cons_succ])
    refine' takeL (v := _) 2 rfl (by kernel_rfl) (by kernel_rfl) (by kernel_rfl) (fun _ _ _ h => h) (by rfl) ?_ (by assumption) ?_; rotate_left 1; (focus (intro w hSw; (try dsimp only at hSw); go_simp; (try with_reducible rfl); done))
    (try simp only [Act.put, List.setIfInBounds_toArray, List.set_cons_zero, List.set_cons_succ])
    refine' takeL (v := _) 3 rfl (by kernel_rfl) (by kernel_rfl) (by kernel_rfl) (fun _ _ _ h => h) (by rfl) ?_ (by assumption) ?_; rotate_left 1; (focus (intro w hSw; (try dsimp only at hSw); go_simp; (try with_reducible rfl); done))
    (try simp only [Act.put, List.setIfInBounds_toArray, List.set_cons_zero, List.set_cons_succ])
    refine' takeL (v := _) 4 rfl (by kernel_rfl) (by kernel_rfl) (by kernel_rfl) (fun _ _ _ h => h) (by rfl) ?_ (by assumption) ?_; rotate_left 1; (focus (intro w hSw; (try dsimp only at hSw); go_simp; (try with_reducible rfl); done))
    (try simp only [Act.put, List.setIfInBounds_toArray, List.set_cons_zero, List.set_cons_succ])
    refine' takeL (v := _) 5 rfl (by kernel_rfl) (by kernel_rfl) (by kernel_rfl) (fun _ _ _ h => h) (by rfl) ?_ (by assumption) ?_; rotate_left 1; (focus (intro w hSw; (try dsimp only at hSw); go_simp; (try with_reducible rfl); done))
    (try simp only [Act.put, List.setIfInBounds_toArray, List.set_cons_zero, List.set_cons_succ])
    refine' takeL (v := _) 6 rfl (by kernel_rfl) (by kernel_rfl) (by kernel_rfl) (fun _ _ _ h => h) (by rfl) ?_ (by assumption) ?_; rotate_left 1; (focus (intro w hSw; (try dsimp only at hSw); go_simp; (try with_reducible rfl); done))
    (try simp only [Act.put, List.setIfInBounds_toArray, List.set_cons_zero, List.set_cons_succ])
    refine' takeL (v := _) 7 rfl (by kernel_rfl) (by kernel_rfl) (by kernel_rfl) (fun _ _ _ h => h) (by rfl) ?_ (by assumption) ?_; rotate_left 1; (focus (intro w hSw; (try dsimp only at hSw); go_simp; (try with_reducible rfl); done))
    (try simp only [Act.put, List.setIfInBounds_toArray, List.set_cons_zero, List.set_cons_succ])
    refine' takeL (v := _) 8 rfl (by kernel_rfl) (by kernel_rfl) (by kernel_rfl) (fun _ _ _ h => h) (by rfl) ?_ (by assumption) ?_; rotate_left 1; (focus (intro w hSw; (try dsimp only at hSw); go_simp; (try with_reducible rfl); done))
    (try simp only [Act.put, List.setIfInBounds_toArray, List.set_cons_zero, List.set_cons_succ])
    refine' takeL (v := _) 9 rfl (by kernel_rfl) (by kernel_rfl) (by kernel_rfl) (fun _ _ _ h => h) (by rfl) ?_ (by assumption) ?_; rotate_left 1; (focus (intro w hSw; (try dsimp only at hSw); go_simp; (try with_reducible rfl); done))
    (try simp only [Act.put, List.setIfInBounds_toArray, List.set_cons_zero, List.set_cons_succ])
    refine' takeL (v := _) 10 rfl (by kernel_rfl) (by kernel_rfl) (by kernel_rfl) (fun _ _ _ h => h) (by rfl) ?_ (by assumption) ?_; rotate_left 1; (focus (intro w hSw; (try dsimp only at hSw); go_simp; (try with_reducible rfl); done))
    (try simp only [Act.put, List.setIfInBounds_toArray, List.set_cons_zero, List.set_cons_succ])
    refine' takeL (v := _) 11 rfl (by kernel_rfl) (by kernel_rfl) (by kernel_rfl) (fun _ _ _ h => h) (by rfl) ?_ (by assumption) ?_; rotate_left 1; (focus (intro w hSw; (try dsimp only at hSw); go_simp; (try with_reducible rfl); done))
    (try simp only [Act.put, List.setIfInBounds_toArray, List.set_cons_zero, List.set_cons_succ])
    refine wpAnyH_done (by kernel_rfl) ?_ _
    go_upto_region 13 with fail
    have hbd : Below wc.heap.size wc wc.drew.drew := ((Below.refl _ _).drew).drew
    refine wp_region_held_drew (S := (fun w' => w'.cell? ⟨L, 0, none⟩ = some (.pointer (some ⟨X, 0, none⟩)) ∧ w'.cell? ⟨g, k * 4 + 1, none⟩ = some (.int .i64 (en : Int)) ∧ w'.cell? ⟨g, k * 4 + 2, none⟩ = some (.int .i64 (sn : Int)))) (by kernel_rfl) (by exact ⟨c0w, z1, z2⟩) (fun hHeld => ?_)
    refine' takeL (v := _) 0 rfl (by kernel_rfl) (by kernel_rfl) (by kernel_rfl) (fun _ _ _ h => h) (by rfl) ?_ (by assumption) ?_; rotate_left 1; (focus (intro w hSw; (try dsimp only at hSw); go_simp; (try with_reducible rfl); done))
    (try simp only [Act.put, List.setIfInBounds_toArray, List.set_cons_zero, List.set_cons_succ])
    refine' takeL (v := _) 1 rfl (by kernel_rfl) (by kernel_rfl) (by kernel_rfl) (fun _ _ _ h => h) (by rfl) ?_ (by assumption) ?_; rotate_left 1; (focus (intro w hSw; (try dsimp only at hSw); go_simp; (try with_reducible rfl); done))
    (try simp only [Act.put, List.setIfInBounds_toArray, List.set_cons_zero, List.set_cons_succ])
    refine' takeL (v := _) 2 rfl (by kernel_rfl) (by kernel_rfl) (by kernel_rfl) (fun _ _ _ h => h) (by rfl) ?_ (by assumption) ?_; rotate_left 1; (focus (intro w hSw; (try dsimp only at hSw); go_simp; (try with_reducible rfl); done))
    (try simp only [Act.put, List.setIfInBounds_toArray, List.set_cons_zero, List.set_cons_succ])
    refine' takeL (v := _) 3 rfl (by kernel_rfl) (by kernel_rfl) (by kernel_rfl) (fun _ _ _ h => h) (by rfl) ?_ (by assumption) ?_; rotate_left 1; (focus (intro w hSw; (try dsimp only at hSw); go_simp; (try with_reducible rfl); done))
    (try simp only [Act.put, List.setIfInBounds_toArray, List.set_cons_zero, List.set_cons_succ])
    refine' takeL (v := _) 4 rfl (by kernel_rfl) (by kernel_rfl) (by kernel_rfl) (fun _ _ _ h => h) (by rfl) ?_ (by assumption) ?_; rotate_left 1; (focus (intro w hSw; (try dsimp only at hSw); go_simp; (try with_reducible rfl); done))
    (try simp only [Act.put, List.setIfInBounds_toArray, List.set_cons_zero, List.set_cons_succ])
    refine' takeL (v := _) 5 rfl (by kernel_rfl) (by kernel_rfl) (by kernel_rfl) (fun _ _ _ h => h) (by rfl) ?_ (by assumption) ?_; rotate_left 1; (focus (intro w hSw; (try dsimp only at hSw); go_simp; (try with_reducible rfl); done))
    (try simp only [Act.put, List.setIfInBounds_toArray, List.set_cons_zero, List.set_cons_succ])
    refine' takeL (v := _) 6 rfl (by kernel_rfl) (by kernel_rfl) (by kernel_rfl) (fun _ _ _ h => h) (by rfl) ?_ (by assumption) ?_; rotate_left 1; (focus (intro w hSw; (try dsimp only at hSw); go_simp; (try with_reducible rfl); done))
    (try simp only [Act.put, List.setIfInBounds_toArray, List.set_cons_zero, List.set_cons_succ])
    refine' takeL (v := _) 7 rfl (by kernel_rfl) (by kernel_rfl) (by kernel_rfl) (fun _ _ _ h => h) (by rfl) ?_ (by assumption) ?_; rotate_left 1; (focus (intro w hSw; (try dsimp only at hSw); go_simp; (try with_reducible rfl); done))
    (try simp only [Act.put, List.setIfInBounds_toArray, List.set_cons_zero, List.set_cons_succ])
    refine' takeL (v := _) 9 rfl (by kernel_rfl) (by kernel_rfl) (by kernel_rfl) (fun _ _ _ h => h) (by rfl) ?_ (by assumption) ?_; rotate_left 1; (focus (intro w hSw; (try dsimp only at hSw); go_simp; (try with_reducible rfl); done))
    (try simp only [Act.put, List.setIfInBounds_toArray, List.set_cons_zero, List.set_cons_succ])
    refine' takeL (v := _) 10 rfl (by kernel_rfl) (by kernel_rfl) (by kernel_rfl) (fun _ _ _ h => h) (by rfl) ?_ (by assumption) ?_; rotate_left 1; (focus (intro w hSw; (try dsimp only at hSw); go_simp; (try with_reducible rfl); done))
    (try simp only [Act.put, List.setIfInBounds_toArray, List.set_cons_zero, List.set_cons_succ])
    refine' takeL (v := _) 11 rfl (by kernel_rfl) (by kernel_rfl) (by kernel_rfl) (fun _ _ _ h => h) (by rfl) ?_ (by assumption) ?_; rotate_left 1; (focus (intro w hSw; (try dsimp only at hSw); go_simp; (try with_reducible rfl); done))
    (try simp only [Act.put, List.setIfInBounds_toArray, List.set_cons_zero, List.set_cons_succ])
    refine' takeL (v := _) 12 rfl (by kernel_rfl) (by kernel_rfl) (by kernel_rfl) (fun _ _ _ h => h) (by rfl) ?_ (by assumption) ?_; rotate_left 1; (focus (intro w hSw; (try dsimp only at hSw); go_simp; (try with_reducible rfl); done))
    (try simp only [Act.put, List.setIfInBounds_toArray, List.set_cons_zero, List.set_cons_succ])
    refine' takeL (v := _) 13 rfl (by kernel_rfl) (by kernel_rfl) (by kernel_rfl) (fun _ _ _ h => h) (by rfl) ?_ (by assumption) ?_; rotate_left 1; (focus (intro w hSw; (try dsimp only at hSw); go_simp; (try with_reducible rfl); done))
    (try simp only [Act.put, List.setIfInBounds_toArray, List.set_cons_zero, List.set_cons_succ])
    refine' takeL (v := _) 14 rfl (by kernel_rfl) (by kernel_rfl) (by kernel_rfl) (fun _ _ _ h => h) (by rfl) ?_ (by assumption) ?_; rotate_left 1; (focus (intro w hSw; (try dsimp only at hSw); go_simp; (try with_reducible rfl); done))
    (try simp only [Act.put, List.setIfInBounds_toArray, List.set_cons_zero, List.set_cons_succ])
    refine stepL 8 rfl (by kernel_rfl) (fun K hK => ?_)
    go_simp
    go_at_call 8
    refine (Hnm.out _ hbd).mono ?_
    rintro e w7 ⟨rfl, hb7⟩
    have hb7' := below_trans hbd hb7
    refine hK.out _ _ (by exact ⟨bcell hb7' c0w, bcell hb7' z1, bcell hb7' z2⟩) (fun hHeld => ?_)
    clear hK K
    (try simp only [Act.put, List.setIfInBounds_toArray, List.set_cons_zero, List.set_cons_succ])
    refine stepL 15 rfl (by kernel_rfl) (fun K hK => ?_)
    go_simp
    go_at_call 38
    refine (Hwr.out w7 hb7').mono ?_
    rintro e w8 ⟨x8, rfl, hx8, hd8, hk8⟩
    have hx80 : x8 = 0 := hx8.2 rfl
    subst hx80
    have hkc8 := (kept_of_below hb7' Hx.out.lt).trans hk8
    have f0 := (hkc8.cell (p := ⟨L, 0, none⟩) (.inr hkl)).trans c0w
    have f1 := (hkc8.cell (p := ⟨g, k * 4 + 1, none⟩) (.inr hkg)).trans z1
    have f2 := (hkc8.cell (p := ⟨g, k * 4 + 2, none⟩) (.inr hkg)).trans z2
    have f3 := (hkc8.cell (p := ⟨g, k * 4 + 3, none⟩) (.inr hkg)).trans z3
    have Hd8 := Lib.hid hd8
    clear hx8 hd8
    refine hK.out _ _ (by exact ⟨f0, f1, f2⟩) (fun hHeld => ?_)
    clear hK K
    (try simp only [Act.put, List.setIfInBounds_toArray, List.set_cons_zero, List.set_cons_succ])
    refine' takeL (v := _) 16 rfl (by kernel_rfl) (by kernel_rfl) (by kernel_rfl) (fun _ _ _ h => h) (by rfl) ?_ (by assumption) ?_; rotate_left 1; (focus (intro w hSw; (try dsimp only at hSw); go_simp; (try with_reducible rfl); done))
    (try simp only [Act.put, List.setIfInBounds_toArray, List.set_cons_zero, List.set_cons_succ])
    refine wpAnyH_done (by kernel_rfl) ?_ _
    go_upto_region 16 with fail
    have hx8 := (Hx.out.below hb7').go Hd8.out hk8
    have hm8 := hx8.mem.each m (by simp)
    have hlr : w8.ownsRow base 25 1 (.slice plv nl clv) nl m.vs := by
      have h1 := hm8.own.row
      have e1 : (m.vs.map fun v => [v]).flatten = m.vs := by
        generalize m.vs = l
        induction l with
        | nil => rfl
        | cons x l ih => simp [ih]
      rw [e1, Hlv.out, List.length_map, ← Hnl.out] at h1
      exact h1
    have hsrcb : SlP 1 ByteE w8 (.slice q b.length cap) b := by
      have h1 : SrcE (fun k => K k ∨ w.heap.size ≤ k ∧ k < w3.heap.size) w3 (.slice q b.length cap) b := ⟨Hv.out.mono ByteE.mono hb13, fun h0 q n c e a ha => .inl (HvK.out h0 q n c e a ha)⟩
      exact ((h1.kept Hkw.out).kept (hkc8.less fun k hk => .inl hk)).1
    have hclone := fun W (hb : Below w8.heap.size w8 W) => clone_bytes (.slice q b.length cap) b W (hsrcb.mono ByteE.mono hb) (by omega)
    have hnl9 : nl ≤ 1000000 := by
      have h1 := hm8.len
      have h2 := Hll2.out m.s (by simp)
      have h3 := Hnl.out
      omega
    have hneg : (Value.slice plv nl clv).ownBlock ≠ some g := by
      obtain ⟨cs8, hc8⟩ := owns_at Hown.out.row (g := g) rfl
      have h1 := owns_ne Hm.out.own.row hc8 tStrSeg
      rw [Hlv.out, ← Hnl.out] at h1
      exact h1
    have hbs8 := hx8.base
    have hgw8 : g < w8.heap.size := Nat.lt_of_lt_of_le hgw hkc8.size
    have Hx8 := Lib.hid hx8
    have Hlr := Lib.hid hlr
    clear hx8 hm8 hlr hsrcb
    refine wp_region_last_of (S := (fun w' => w'.cell? ⟨g, k * 4 + 3, none⟩ = some (.slice plv nl clv))) 11 (by kernel_rfl) rfl rfl (by kernel_rfl) ?_
    have hHeld : (((fun w' => w'.cell? ⟨g, k * 4 + 3, none⟩ = some (.slice plv nl clv))) : World → Prop) _ := (by exact f3)
    refine' takeL (v := _) 0 rfl (by kernel_rfl) (by kernel_rfl) (by kernel_rfl) (fun _ _ _ h => h) (by rfl) ?_ (by assumption) ?_; rotate_left 1; (focus (intro w hSw; (try dsimp only at hSw); go_simp; (try with_reducible rfl); done))
    (try simp only [Act.put, List.setIfInBounds_toArray, List.set_cons_zero, List.set_cons_succ])
    refine' takeL (v := _) 1 rfl (by kernel_rfl) (by kernel_rfl) (by kernel_rfl) (fun _ _ _ h => h) (by rfl) ?_ (by assumption) ?_; rotate_left 1; (focus (intro w hSw; (try dsimp only at hSw); go_simp; (try with_reducible rfl); done))
    (try simp only [Act.put, List.setIfInBounds_toArray, List.set_cons_zero, List.set_cons_succ])
    refine' takeL (v := _) 2 rfl (by kernel_rfl) (by kernel_rfl) (by kernel_rfl) (fun _ _ _ h => h) (by rfl) ?_ (by assumption) ?_; rotate_left 1; (focus (intro w hSw; (try dsimp only at hSw); go_simp; (try with_reducible rfl); done))
    (try simp only [Act.put, List.setIfInBounds_toArray, List.set_cons_zero, List.set_cons_succ])
    refine' takeL (v := _) 3 rfl (by kernel_rfl) (by kernel_rfl) (by kernel_rfl) (fun _ _ _ h => h) (by rfl) ?_ (by assumption) ?_; rotate_left 1; (focus (intro w hSw; (try dsimp only at hSw); go_simp; (try with_reducible rfl); done))
    (try simp only [Act.put, List.setIfInBounds_toArray, List.set_cons_zero, List.set_cons_succ])
    refine' takeL (v := _) 4 rfl (by kernel_rfl) (by kernel_rfl) (by kernel_rfl) (fun _ _ _ h => h) (by rfl) ?_ (by assumption) ?_; rotate_left 1; (focus (intro w hSw; (try dsimp only at hSw); go_simp; (try with_reducible rfl); done))
    (try simp only [Act.put, List.setIfInBounds_toArray, List.set_cons_zero, List.set_cons_succ])
    refine' takeL (v := _) 5 rfl (by kernel_rfl) (by kernel_rfl) (by kernel_rfl) (fun _ _ _ h => h) (by rfl) ?_ (by assumption) ?_; rotate_left 1; (focus (intro w hSw; (try dsimp only at hSw); go_simp; (try with_reducible rfl); done))
    (try simp only [Act.put, List.setIfInBounds_toArray, List.set_cons_zero, List.set_cons_succ])
    refine stepL 6 rfl (by kernel_rfl) (fun K hK => ?_)
    go_simp
    go_at_call 34
    refine (hclone _ (Below.refl _ _).drew).mono ?_
    rintro e w9 ⟨vb, rfl, hownb, hb9⟩
    obtain ⟨qb, cb, hvb, -⟩ := hownb.len
    subst hvb
    have hb89 : Below w8.heap.size w8 w9 := below_trans ((Below.refl _ _).drew) hb9
    refine hK.out _ _ (by exact bcell hb89 f3) (fun hHeld => ?_)
    clear hK K
    (try simp only [Act.put, List.setIfInBounds_toArray, List.set_cons_zero, List.set_cons_succ])
    refine stepL 7 rfl (by kernel_rfl) (fun K hK => ?_)
    go_simp
    have hb8a : ∀ o, Below w8.heap.size w8 (w9.alloc o) := fun o => below_alloc hb89 o
    refine hK.out _ _ (by exact bcell (hb8a _) f3) (fun hHeld => ?_)
    clear hK K
    (try simp only [Act.put, List.setIfInBounds_toArray, List.set_cons_zero, List.set_cons_succ])
    refine stepL 8 rfl (by kernel_rfl) (fun K hK => ?_)
    refine step_app (v := .slice plv nl clv) (by rfl) _ _ 70 70 (by rfl) base 25 1 24 strRowElt Tryz.underlying70 nl m.vs (by rfl) (owns_block Hlr.out fun k hk => (hb8a _).block k (World.ownsRow.lt Hlr.out k hk).2) (by rfl) 1 [.slice qb b.length cb] (Src.ofSlice _ Tryz.underlying70 _ _ _ _ rfl (cell_one_new _ _ _) (by simp [Value.oneCell'])) (by unfold maxLen; omega) (by omega) (Nat.le_trans hbs8 (hb8a (.cells #[.slice qb b.length cb] 25)).size) ?_
    intro v10 w10 hown10 hg10 hv10
    obtain ⟨q10, c10, hq10⟩ := own_slice hown10
    subst hq10
    have hsz8 := (hb8a (.cells #[.slice qb b.length cb] 25)).size
    have hgb10 : w10.heap[g]? = w8.heap[g]? := (hg10.block g (by omega) (fun e => hneg e.symm)).trans ((hb8a _).block g hgw8)
    have y3 : w10.cell? ⟨g, k * 4 + 3, none⟩ = some (.slice plv nl clv) := (World.cell?_of_block (w := w8) (a := ⟨g, k * 4 + 3, none⟩) hgb10).trans f3
    have y1 : w10.cell? ⟨g, k * 4 + 1, none⟩ = some (.int .i64 (en : Int)) := (World.cell?_of_block (w := w8) (a := ⟨g, k * 4 + 1, none⟩) hgb10).trans f1
    refine hK.out _ _ (by exact y3) (fun hHeld => ?_)
    clear hK K
    (try simp only [Act.put, List.setIfInBounds_toArray, List.set_cons_zero, List.set_cons_succ])
    refine' takeL (v := _) 9 rfl (by kernel_rfl) (by kernel_rfl) (by kernel_rfl) (fun _ _ _ h => h) (by rfl) ?_ (by assumption) ?_; rotate_left 1; (focus (intro w hSw; (try dsimp only at hSw); go_simp; (try with_reducible rfl); done))
    (try simp only [Act.put, List.setIfInBounds_toArray, List.set_cons_zero, List.set_cons_succ])
    refine' takeL (v := _) 10 rfl (by kernel_rfl) (by kernel_rfl) (by kernel_rfl) (fun _ _ _ h => h) (by rfl) ?_ (by assumption) ?_; rotate_left 1; (focus (intro w hSw; (try dsimp only at hSw); go_simp; (try with_reducible rfl); done))
    (try simp only [Act.put, List.setIfInBounds_toArray, List.set_cons_zero, List.set_cons_succ])
    refine wpAnyH_done (by kernel_rfl) ?_ _
    unfold withLast
    obtain ⟨gc, hgc⟩ := owns_at Hown.out.row (g := g) rfl
    have hgc8 : w8.heap[g]? = some (.cells gc 72 (0, 0)) := (hkc8.block g (.inr hkg)).trans hgc
    have hfz : ∀ i, w10.frozen? ⟨g, i, none⟩ = false := fun i => block_free (hgb10.trans hgc8) i
    have Hgc8 := Lib.hid hgc8
    clear hgc hgc8
    go_wp2_with fail
    go_ret
    obtain rfl := Hk.out
    rw [Hnl.out] at hown10
    rw [← Hnl.out] at hown10
    have hL8 : w8.heap[L]? = some (.cells #[.pointer (some ⟨X, 0, none⟩), .int .i64 (sz : Int), .slice (some ⟨g, 0, none⟩) (init.length + 1) capS] 32 (0, 0)) := (hkc8.block L (.inr hkl)).trans Hblk.out
    obtain ⟨hpm, hpu⟩ := Hx8.out.mem.put (b := b) (vb := .slice qb b.length cb) (v' := .slice q10 (nl + 1) c10) (w1 := w9.alloc (.cells #[.slice qb b.length cb] 25)) (w2 := w10) Hx8.out.ltL hbs8 hL8 (hb8a _)
      (owns_block (show w9.ownsRow w8.heap.size 5 1 (.slice qb b.length cb) b.length (b.map u8) from hownb) fun k hk => (below_new w9 _).block k (World.ownsRow.lt hownb k hk).2)
      (by rw [← Hnl.out]; exact hown10) (by rw [Hlv.out, ← Hnl.out]; exact hg10) (by rw [Hlv.out, ← Hnl.out]; exact hv10) (.int .i64 ((en + pl : Nat) : Int)) (by rw [← Hen.out, ← Hpl.out])
    have hs10 := hg10.size
    have hsn : w8.heap.size ≤ w10.heap.size := by omega
    have hturn := Hx8.out.turn (w' := (w10.setCell ⟨g, init.length * 4 + 3, none⟩ (.slice q10 (nl + 1) c10)).setCell ⟨g, init.length * 4 + 1, none⟩ (.int .i64 ((en + pl : Nat) : Int))) (by simpa using hsn) hpu hpm (fun k hk => .inl hk) (fun k hk h2 => h2.elim id fun h3 => by omega) (fun k hk => by
      rcases hk with h1 | h1
      · have := Hx8.out.ltL k h1; simp; omega
      · simp; omega)
    have hnK : ¬ K g := fun h => Hx8.out.apart g hkg (.inl h)
    have hltK8 : ∀ k, K k → k < w8.heap.size := fun k hk => Hx8.out.ltK k (.inl hk)
    have hkK : Kept K w8 ((w10.setCell ⟨g, init.length * 4 + 3, none⟩ (.slice q10 (nl + 1) c10)).setCell ⟨g, init.length * 4 + 1, none⟩ (.int .i64 ((en + pl : Nat) : Int))) :=
      ((((kept_of_below (hb8a _) hltK8).grown hg10 (fun k hk => by have := hltK8 k hk; omega) (fun k hk h2 => by
        have h3 := Hx8.out.mem.each m (by simp)
        refine Hx8.out.apart k (h3.bk k ?_) (.inl h2)
        rw [Hlv.out, ← Hnl.out]; exact hk)).setCell (p := ⟨g, init.length * 4 + 3, none⟩) hnK _).setCell (p := ⟨g, init.length * 4 + 1, none⟩) hnK _)
    have hkw8 : Kept K w w8 := (kept_of_below hb13 H.out.ltK).trans ((Hkw.out.less (K' := K) fun k hk => .inl hk).trans (hkc8.less (K' := K) fun k hk => .inl (.inl hk)))
    have hkF := hkw8.trans hkK
    have esg : MSeg.segs (init ++ [⟨{ m.s with l := m.s.l ++ [b] }, .slice q10 (nl + 1) c10, m.vs ++ [.slice qb b.length cb]⟩]) = MSeg.segs init ++ [{ m.s with l := m.s.l ++ [b] }] := by simp [MSeg.segs]
    have hfin : LogS ((w10.setCell ⟨g, init.length * 4 + 3, none⟩ (.slice q10 (nl + 1) c10)).setCell ⟨g, init.length * 4 + 1, none⟩ (.int .i64 ((en + pl : Nat) : Int))) K base L X D n sz E2 M2 (init ++ [⟨{ m.s with l := m.s.l ++ [b] }, .slice q10 (nl + 1) c10, m.vs ++ [.slice qb b.length cb]⟩]) :=
      ⟨⟨_, _, _, _, _, _, hturn.less fun k hk => .inl hk, by rw [esg]; exact Hok9.out, Hdok9.out, hep, HMn.out⟩, H.out.env.kept (K := K) hkF H.out.kn H.out.kp, H.out.kn, H.out.kp, hsz, hlow⟩
    exact ⟨0, rfl, hkF, .inl ⟨rfl, _, by rw [esg]; exact HappS.out, hfin.up hE2' hM2'⟩⟩
  · have n7 : (rm : Int) < (pl : Int) := by omega
    go_upto_region 9 with (first | (go_at_call 36; refine hroom3.mono ?_; rintro e w4 ⟨rfl, hb4⟩) | fail)
    have hnext4 := hnext w4 (below_trans hb13 hb4)
    have hadd : ∀ W, Below w4.heap.size w4 W → Calls Tryz.prog 37 #[.pointer (some ⟨L, 0, none⟩), .int .i64 nxi] W (AddOut W (fun k => K k ∨ w.heap.size ≤ k ∧ k < w3.heap.size) base L X D n sz E M ms nx) := fun W hb => by
      have h1 := sadd_any W _ base L X D n sz E M ms ((HS3.out.below hb4).below hb) nx (.inr Hnx.out) Hnxb.out hn hE (by omega)
      rw [← Hnxi.out] at h1
      exact h1
    have Hadd := Lib.hid hadd
    clear hadd
    go_upto_region 10 with (first
      | (go_at_call 17; refine hnext4.mono ?_; rintro e w5 ⟨rfl, hb5⟩)
      | (go_at_call 37; refine (Hadd.out w5 hb5).mono ?_; rintro e w6 ⟨x, rfl, hk6, hcase⟩)
      | fail)
    have hb35 := below_trans hb4 hb5
    have hkw6 := (kept_of_below hb35 hK1lt).trans hk6
    rcases hcase with ⟨rfl, hS6⟩ | ⟨hx, hnot, hS6⟩
    · obtain ⟨m, hmE⟩ : ∃ m, m = MSeg.mk ⟨nx, nextN (MSeg.segs ms), []⟩ (.slice none 0 0) [] := ⟨_, rfl⟩
      rw [← hmE] at hS6
      obtain ⟨init, hinit⟩ : ∃ init, init = ms := ⟨_, rfl⟩
      have hms9 : m.s.l = [] ∧ m.s.first = nx ∧ m.s.n = nextN (MSeg.segs ms) := by rw [hmE]; exact ⟨rfl, rfl, rfl⟩
      have hil : init.length ≤ 10001 := by rw [hinit]; omega
      have hroomf : (bytesS m.s).length + pl ≤ 32 * sz := by
        have h1 : bytesS m.s = headS nx := by unfold bytesS; rw [hms9.1, hms9.2.1]; simp
        have h2 := headS_len Hnxb.out
        have := Hs1.out
        have := Hs2.out
        rw [h1, h2]; omega
      have HSw : Hid (LogS w6 (fun k => K k ∨ w.heap.size ≤ k ∧ k < w3.heap.size) base L X D n sz (E + 1) (M + sz) (init ++ [m])) := Lib.hid (by rw [hinit]; exact hS6)
      have Hkw := Lib.hid hkw6
      have Hll2 : Hid (∀ s ∈ MSeg.segs init ++ [m.s], s.l.length < 100000) := Lib.hid (fun s hs => by
        rcases List.mem_append.1 hs with h1 | h1
        · exact Hll.out s (by rw [← hinit]; exact h1)
        · simp only [List.mem_cons, List.not_mem_nil, or_false] at h1
          rw [h1, hms9.1]; simp)
      have HappS : Hid (AppS sz (MSeg.segs ms) b (MSeg.segs init ++ [{ m.s with l := m.s.l ++ [b] }])) := Lib.hid (.inr (by
        rw [hinit, hmE]
        dsimp only
        rw [Hnx.out]; rfl))
      obtain ⟨E2, hE2⟩ : ∃ E2, E2 = E + 1 := ⟨_, rfl⟩
      obtain ⟨M2, hM2⟩ : ∃ M2, M2 = M + sz := ⟨_, rfl⟩
      rw [← hE2, ← hM2] at HSw
      have hE2' : E2 ≤ E + 1 := by omega
      have hM2' : M2 ≤ M + sz := by omega
      clear hS6 hkw6 hk6 hmE hinit hms9 hE2 hM2 Hadd hnext4
      obtain ⟨wc, hwc⟩ : ∃ wc, wc = w6 := ⟨_, rfl⟩
      subst hwc
      go_upto_region 12 with fail
      obtain ⟨⟨KL, safe, cur, now, epoch, which, hx, hok, hdok, hep, hMn⟩, henv, hkn, hkp, -, hlow⟩ := HSw.out
      obtain ⟨sv, hblk, hown, hsk⟩ := hx.mem.ex
      have hm := hx.mem.each m (by simp)
      obtain ⟨p, capS, hsv, hcs, hpg⟩ := hown.form
      obtain ⟨g, hpe, -, hgw⟩ := hpg (by simp)
      subst hpe
      have hNl : ((init ++ [m]).map MSeg.cells).length = init.length + 1 := by simp
      rw [hNl] at hsv hcs
      subst hsv
      have hat : ((init ++ [m]).map MSeg.cells)[init.length]'(by simp) = m.cells := by simp
      obtain ⟨plv, clv, hlv, -, -⟩ := hm.own.form
      rw [List.length_map] at hlv
      have z1 := hown.cell init.length 1 (by simp) (by rw [hat]; simp [MSeg.cells])
      have z2 := hown.cell init.length 2 (by simp) (by rw [hat]; simp [MSeg.cells])
      have z3 := hown.cell init.length 3 (by simp) (by rw [hat]; simp [MSeg.cells])
      simp only [hat] at z1 z2 z3
      unfold MSeg.cells at z1 z2 z3
      simp only [List.getElem_cons_zero, List.getElem_cons_succ] at z1 z2 z3
      rw [hlv] at z3
      have hmo := hok.ok m.s (by simp [MSeg.segs])
      have hsegs : MSeg.segs (init ++ [m]) = MSeg.segs init ++ [m.s] := by simp [MSeg.segs]
      rw [hsegs] at hok
      have hll9 := Hll2.out m.s (by simp)
      obtain ⟨q9, hw9, hok9⟩ := hok.more hdok (b := b) (by rw [← Hpl.out]; exact hroomf) hsz.2 hb (by omega)
      have hdok9 := hdok.write (nameS m.s.n) ((bytesS m.s).length : Nat) (padS b)
      rw [hw9] at hdok9
      have e9 : wrCur cur (some q9) (padS b) = splice cur q9 (padS b) := rfl
      rw [e9] at hdok9
      have hname : ∀ W, Below wc.heap.size wc W → Calls Tryz.prog 8 #[.int .i64 (m.s.n : Int)] W (Gives W (.string (nameS m.s.n))) := fun W hb => name_ok _ hmo.n W (henv.below hb)
      have c0w : wc.cell? ⟨L, 0, none⟩ = some (.pointer (some ⟨X, 0, none⟩)) := by rw [block_cell hblk]; rfl
      have c2w : wc.cell? ⟨L, 2, none⟩ = some (.slice (some ⟨g, 0, none⟩) (init.length + 1) capS) := by rw [block_cell hblk]; rfl
      have hs3c := Hkw.out.size
      have hownc : OwnB wc w.heap.size (.slice q2 pl cap2) (padS b) := owns_block (owns_block (owns_base Hown2.out hb1.size) fun k hk => hb3.block k (World.ownsRow.lt Hown2.out k hk).2) fun k hk => Hkw.out.block k (by
        have h1 := Hx3.out ⟨k, 0, none⟩
        cases q2 with
        | none => simp [Value.ownBlock] at hk
        | some a =>
          simp only [Value.ownBlock, Option.some.injEq] at hk
          subst hk
          exact .inr (Hx3.out a rfl))
      have hplb2 : (padS b).length ≤ 20000 := by rw [← Hpl.out]; have := Hs1.out; have := Hs2.out; omega
      have hwrite := fun W (hbW : Below wc.heap.size wc W) => dwrite_any W _ X D n safe cur now now epoch which (hx.dir.below hbW) (fun k hk => Nat.lt_of_lt_of_le (hx.lt k hk) hbW.size) hdok.gnow.in_ (nameS m.s.n) ((bytesS m.s).length : Nat) (by omega) (.slice q2 pl cap2) (padS b)
        ⟨OwnB.at (owns_block hownc fun k hk => hbW.block k (World.ownsRow.lt hownc k hk).2) (by omega), fun q' n' c' e' a ha => by
          simp only [Value.slice.injEq] at e'
          obtain ⟨rfl, -, -⟩ := e'
          exact .inl (.inr (Hx3.out a ha))⟩
      rw [hw9] at hwrite
      obtain ⟨en, hen⟩ : ∃ en, en = (bytesS m.s).length := ⟨_, rfl⟩
      obtain ⟨sn, hsn⟩ : ∃ sn, sn = m.s.n := ⟨_, rfl⟩
      obtain ⟨N, hN⟩ : ∃ N, N = init.length + 1 := ⟨_, rfl⟩
      obtain ⟨k, hk⟩ : ∃ k, k = init.length := ⟨_, rfl⟩
      obtain ⟨nl, hnl⟩ : ∃ nl, nl = m.vs.length := ⟨_, rfl⟩
      rw [← hen] at z1 hwrite hroomf
      rw [← hsn] at z2 hwrite hname
      rw [← hN] at c2w
      rw [← hk] at z1 z2 z3
      rw [← hnl] at z3
      have hkN : k + 1 = N := by omega
      have n8 : IntKind.i64.wrap ((N : Int) - 1) = (k : Int) := by rw [IntWalk.i64_in _ (by omega)]; omega
      have n9 : (k : Int) < (N : Int) := by omega
      have n10 : IntKind.i64.wrap ((en : Int) + (pl : Int)) = ((en + pl : Nat) : Int) := by rw [IntWalk.i64_in _ (by omega)]; omega
      have n11 : (0 : Int) ≤ (k : Int) := by omega
      have Hen := Lib.hid hen
      have Hsn := Lib.hid hsn
      have HNk := Lib.hid hkN
      have Hk := Lib.hid hk
      have Hnl := Lib.hid hnl
      have Hx := Lib.hid hx
      have Hok9 := Lib.hid hok9
      have Hdok9 := Lib.hid hdok9
      have Henv := Lib.hid henv
      have Hm := Lib.hid hm
      have Hlv := Lib.hid hlv
      have Hblk := Lib.hid hblk
      have Hwr := Lib.hid hwrite
      have Hnm := Lib.hid hname
      have HMn := Lib.hid hMn
      have Hown := Lib.hid hown
      have Hw9 := Lib.hid hw9
      have hkl := hx.mem.kl
      have hkg : KL g := hsk g rfl
      clear hen hsn hN hk hnl hkN hx hok hok9 hdok hdok9 henv hm hlv hblk hwrite hname hMn hown hw9 hownc hsegs hat hNl hll9 hmo e9 hcs hpg
      refine wp_region_held_drew (S := (fun w' => w'.cell? ⟨L, 2, none⟩ = some (.slice (some ⟨g, 0, none⟩) N capS))) (by kernel_rfl) (by exact c2w) (fun hHeld => ?_)
      refine' takeL (v := _) 0 rfl (by kernel_rfl) (by kernel_rfl) (by kernel_rfl) (fun _ _ _ h => h) (by rfl) ?_ (by assumption) ?_; rotate_left 1; (focus (intro w hSw; (try dsimp only at hSw); go_simp; (try with_reducible rfl); done))
      (try simp only [Act.put, List.setIfInBounds_toArray, List.set_cons_zero, List.set_cons_succ])
      refine' takeL (v := _) 1 rfl (by kernel_rfl) (by kernel_rfl) (by kernel_rfl) (fun _ _ _ h => h) (by rfl) ?_ (by assumption) ?_; rotate_left 1; (focus (intro w hSw; (try dsimp only at hSw); go_simp; (try with_reducible rfl); done))
      (try simp only [Act.put, List.setIfInBounds_toArray, List.set_cons_zero, List.set_cons_succ])
      refine' takeL (v := _) 2 rfl (by kernel_rfl) (by kernel_rfl) (by kernel_rfl) (fun _ _ _ h => h) (by rfl) ?_ (by assumption) ?_; rotate_left 1; (focus (intro w hSw; (try dsimp only at hSw); go_simp; (try with_reducible rfl); done))
      (try simp only [Act.put, List.setIfInBounds_toArray, List.set_cons_zero, List.set_cons_succ])
      refine' takeL (v := _) 3 rfl (by kernel_rfl) (by kernel_rfl) (by kernel_rfl) (fun _ _ _ h => h) (by rfl) ?_ (by assumption) ?_; rotate_left 1; (focus (intro w hSw; (try dsimp only at hSw); go_simp; (try with_reducible rfl); done))
      (try simp only [Act.put, List.setIfInBounds_toArray, List.set_cons_zero, List.set_cons_succ])
      refine' takeL (v := _) 4 rfl (by kernel_rfl) (by kernel_rfl) (by kernel_rfl) (fun _ _ _ h => h) (by rfl) ?_ (by assumption) ?_; rotate_left 1; (focus (intro w hSw; (try dsimp only at hSw); go_simp; (try with_reducible rfl); done))
      (try simp only [Act.put, List.setIfInBounds_toArray, List.set_cons_zero, List.set_cons_succ])
      refine' takeL (v := _) 5 rfl (by kernel_rfl) (by kernel_rfl) (by kernel_rfl) (fun _ _ _ h => h) (by rfl) ?_ (by assumption) ?_; rotate_left 1; (focus (intro w hSw; (try dsimp only at hSw); go_simp; (try with_reducible rfl); done))
      (try simp only [Act.put, List.setIfInBounds_toArray, List.set_cons_zero, List.set_cons_succ])
      refine' takeL (v := _) 6 rfl (by kernel_rfl) (by kernel_rfl) (by kernel_rfl) (fun _ _ _ h => h) (by rfl) ?_ (by assumption) ?_; rotate_left 1; (focus (intro w hSw; (try dsimp only at hSw); go_simp; (try with_reducible rfl); done))
      (try simp only [Act.put, List.setIfInBounds_toArray, List.set_cons_zero, List.set_cons_succ])
      refine' takeL (v := _) 7 rfl (by kernel_rfl) (by kernel_rfl) (by kernel_rfl) (fun _ _ _ h => h) (by rfl) ?_ (by assumption) ?_; rotate_left 1; (focus (intro w hSw; (try dsimp only at hSw); go_simp; (try with_reducible rfl); done))
      (try simp only [Act.put, List.setIfInBounds_toArray, List.set_cons_zero, List.set_cons_succ])
      refine' takeL (v := _) 8 rfl (by kernel_rfl) (by kernel_rfl) (by kernel_rfl) (fun _ _ _ h => h) (by rfl) ?_ (by assumption) ?_; rotate_left 1; (focus (intro w hSw; (try dsimp only at hSw); go_simp; (try with_reducible rfl); done))
      (try simp only [Act.put, List.setIfInBounds_toArray, List.set_cons_zero, List.set_cons_succ])
      refine' takeL (v := _) 9 rfl (by kernel_rfl) (by kernel_rfl) (by kernel_rfl) (fun _ _ _ h => h) (by rfl) ?_ (by assumption) ?_; rotate_left 1; (focus (intro w hSw; (try dsimp only at hSw); go_simp; (try with_reducible rfl); done))
      (try simp only [Act.put, List.setIfInBounds_toArray, List.set_cons_zero, List.set_cons_succ])
      refine' takeL (v := _) 10 rfl (by kernel_rfl) (by kernel_rfl) (by kernel_rfl) (fun _ _ _ h => h) (by rfl) ?_ (by assumption) ?_; rotate_left 1; (focus (intro w hSw; (try dsimp only at hSw); go_simp; (try with_reducible rfl); done))
      (try simp only [Act.put, List.setIfInBounds_toArray, List.set_cons_zero, List.set_cons_succ])
      refine' takeL (v := _) 11 rfl (by kernel_rfl) (by kernel_rfl) (by kernel_rfl) (fun _ _ _ h => h) (by rfl) ?_ (by assumption) ?_; rotate_left 1; (focus (intro w hSw; (try dsimp only at hSw); go_simp; (try with_reducible rfl); done))
      (try simp only [Act.put, List.setIfInBounds_toArray, List.set_cons_zero, List.set_cons_succ])
      refine wpAnyH_done (by kernel_rfl) ?_ _
      go_upto_region 13 with fail
      have hbd : Below wc.heap.size wc wc.drew.drew := ((Below.refl _ _).drew).drew
      refine wp_region_held_drew (S := (fun w' => w'.cell? ⟨L, 0, none⟩ = some (.pointer (some ⟨X, 0, none⟩)) ∧ w'.cell? ⟨g, k * 4 + 1, none⟩ = some (.int .i64 (en : Int)) ∧ w'.cell? ⟨g, k * 4 + 2, none⟩ = some (.int .i64 (sn : Int)))) (by kernel_rfl) (by exact ⟨c0w, z1, z2⟩) (fun hHeld => ?_)
      refine' takeL (v := _) 0 rfl (by kernel_rfl) (by kernel_rfl) (by kernel_rfl) (fun _ _ _ h => h) (by rfl) ?_ (by assumption) ?_; rotate_left 1; (focus (intro w hSw; (try dsimp only at hSw); go_simp; (try with_reducible rfl); done))
      (try simp only [Act.put, List.setIfInBounds_toArray, List.set_cons_zero, List.set_cons_succ])
      refine' takeL (v := _) 1 rfl (by kernel_rfl) (by kernel_rfl) (by kernel_rfl) (fun _ _ _ h => h) (by rfl) ?_ (by assumption) ?_; rotate_left 1; (focus (intro w hSw; (try dsimp only at hSw); go_simp; (try with_reducible rfl); done))
      (try simp only [Act.put, List.setIfInBounds_toArray, List.set_cons_zero, List.set_cons_succ])
      refine' takeL (v := _) 2 rfl (by kernel_rfl) (by kernel_rfl) (by kernel_rfl) (fun _ _ _ h => h) (by rfl) ?_ (by assumption) ?_; rotate_left 1; (focus (intro w hSw; (try dsimp only at hSw); go_simp; (try with_reducible rfl); done))
      (try simp only [Act.put, List.setIfInBounds_toArray, List.set_cons_zero, List.set_cons_succ])
      refine' takeL (v := _) 3 rfl (by kernel_rfl) (by kernel_rfl) (by kernel_rfl) (fun _ _ _ h => h) (by rfl) ?_ (by assumption) ?_; rotate_left 1; (focus (intro w hSw; (try dsimp only at hSw); go_simp; (try with_reducible rfl); done))
      (try simp only [Act.put, List.setIfInBounds_toArray, List.set_cons_zero, List.set_cons_succ])
      refine' takeL (v := _) 4 rfl (by kernel_rfl) (by kernel_rfl) (by kernel_rfl) (fun _ _ _ h => h) (by rfl) ?_ (by assumption) ?_; rotate_left 1; (focus (intro w hSw; (try dsimp only at hSw); go_simp; (try with_reducible rfl); done))
      (try simp only [Act.put, List.setIfInBounds_toArray, List.set_cons_zero, List.set_cons_succ])
      refine' takeL (v := _) 5 rfl (by kernel_rfl) (by kernel_rfl) (by kernel_rfl) (fun _ _ _ h => h) (by rfl) ?_ (by assumption) ?_; rotate_left 1; (focus (intro w hSw; (try dsimp only at hSw); go_simp; (try with_reducible rfl); done))
      (try simp only [Act.put, List.setIfInBounds_toArray, List.set_cons_zero, List.set_cons_succ])
      refine' takeL (v := _) 6 rfl (by kernel_rfl) (by kernel_rfl) (by kernel_rfl) (fun _ _ _ h => h) (by rfl) ?_ (by assumption) ?_; rotate_left 1; (focus (intro w hSw; (try dsimp only at hSw); go_simp; (try with_reducible rfl); done))
      (try simp only [Act.put, List.setIfInBounds_toArray, List.set_cons_zero, List.set_cons_succ])
      refine' takeL (v := _) 7 rfl (by kernel_rfl) (by kernel_rfl) (by kernel_rfl) (fun _ _ _ h => h) (by rfl) ?_ (by assumption) ?_; rotate_left 1; (focus (intro w hSw; (try dsimp only at hSw); go_simp; (try with_reducible rfl); done))
      (try simp only [Act.put, List.setIfInBounds_toArray, List.set_cons_zero, List.set_cons_succ])
      refine' takeL (v := _) 9 rfl (by kernel_rfl) (by kernel_rfl) (by kernel_rfl) (fun _ _ _ h => h) (by rfl) ?_ (by assumption) ?_; rotate_left 1; (focus (intro w hSw; (try dsimp only at hSw); go_simp; (try with_reducible rfl); done))
      (try simp only [Act.put, List.setIfInBounds_toArray, List.set_cons_zero, List.set_cons_succ])
      refine' takeL (v := _) 10 rfl (by kernel_rfl) (by kernel_rfl) (by kernel_rfl) (fun _ _ _ h => h) (by rfl) ?_ (by assumption) ?_; rotate_left 1; (focus (intro w hSw; (try dsimp only at hSw); go_simp; (try with_reducible rfl); done))
      (try simp only [Act.put, List.setIfInBounds_toArray, List.set_cons_zero, List.set_cons_succ])
      refine' takeL (v := _) 11 rfl (by kernel_rfl) (by kernel_rfl) (by kernel_rfl) (fun _ _ _ h => h) (by rfl) ?_ (by assumption) ?_; rotate_left 1; (focus (intro w hSw; (try dsimp only at hSw); go_simp; (try with_reducible rfl); done))
      (try simp only [Act.put, List.setIfInBounds_toArray, List.set_cons_zero, List.set_cons_succ])
      refine' takeL (v := _) 12 rfl (by kernel_rfl) (by kernel_rfl) (by kernel_rfl) (fun _ _ _ h => h) (by rfl) ?_ (by assumption) ?_; rotate_left 1; (focus (intro w hSw; (try dsimp only at hSw); go_simp; (try with_reducible rfl); done))
      (try simp only [Act.put, List.setIfInBounds_toArray, List.set_cons_zero, List.set_cons_succ])
      refine' takeL (v := _) 13 rfl (by kernel_rfl) (by kernel_rfl) (by kernel_rfl) (fun _ _ _ h => h) (by rfl) ?_ (by assumption) ?_; rotate_left 1; (focus (intro w hSw; (try dsimp only at hSw); go_simp; (try with_reducible rfl); done))
      (try simp only [Act.put, List.setIfInBounds_toArray, List.set_cons_zero, List.set_cons_succ])
      refine' takeL (v := _) 14 rfl (by kernel_rfl) (by kernel_rfl) (by kernel_rfl) (fun _ _ _ h => h) (by rfl) ?_ (by assumption) ?_; rotate_left 1; (focus (intro w hSw; (try dsimp only at hSw); go_simp; (try with_reducible rfl); done))
      (try simp only [Act.put, List.setIfInBounds_toArray, List.set_cons_zero, List.set_cons_succ])
      refine stepL 8 rfl (by kernel_rfl) (fun K hK => ?_)
      go_simp
      go_at_call 8
      refine (Hnm.out _ hbd).mono ?_
      rintro e w7 ⟨rfl, hb7⟩
      have hb7' := below_trans hbd hb7
      refine hK.out _ _ (by exact ⟨bcell hb7' c0w, bcell hb7' z1, bcell hb7' z2⟩) (fun hHeld => ?_)
      clear hK K
      (try simp only [Act.put, List.setIfInBounds_toArray, List.set_cons_zero, List.set_cons_succ])
      refine stepL 15 rfl (by kernel_rfl) (fun K hK => ?_)
      go_simp
      go_at_call 38
      refine (Hwr.out w7 hb7').mono ?_
      rintro e w8 ⟨x8, rfl, hx8, hd8, hk8⟩
      have hx80 : x8 = 0 := hx8.2 rfl
      subst hx80
      have hkc8 := (kept_of_below hb7' Hx.out.lt).trans hk8
      have f0 := (hkc8.cell (p := ⟨L, 0, none⟩) (.inr hkl)).trans c0w
      have f1 := (hkc8.cell (p := ⟨g, k * 4 + 1, none⟩) (.inr hkg)).trans z1
      have f2 := (hkc8.cell (p := ⟨g, k * 4 + 2, none⟩) (.inr hkg)).trans z2
      have f3 := (hkc8.cell (p := ⟨g, k * 4 + 3, none⟩) (.inr hkg)).trans z3
      have Hd8 := Lib.hid hd8
      clear hx8 hd8
      refine hK.out _ _ (by exact ⟨f0, f1, f2⟩) (fun hHeld => ?_)
      clear hK K
      (try simp only [Act.put, List.setIfInBounds_toArray, List.set_cons_zero, List.set_cons_succ])
      refine' takeL (v := _) 16 rfl (by kernel_rfl) (by kernel_rfl) (by kernel_rfl) (fun _ _ _ h => h) (by rfl) ?_ (by assumption) ?_; rotate_left 1; (focus (intro w hSw; (try dsimp only at hSw); go_simp; (try with_reducible rfl); done))
      (try simp only [Act.put, List.setIfInBounds_toArray, List.set_cons_zero, List.set_cons_succ])
      refine wpAnyH_done (by kernel_rfl) ?_ _
      go_upto_region 16 with fail
      have hx8 := (Hx.out.below hb7').go Hd8.out hk8
      have hm8 := hx8.mem.each m (by simp)
      have hlr : w8.ownsRow base 25 1 (.slice plv nl clv) nl m.vs := by
        have h1 := hm8.own.row
        have e1 : (m.vs.map fun v => [v]).flatten = m.vs := by
          generalize m.vs = l
          induction l with
          | nil => rfl
          | cons x l ih => simp [ih]
        rw [e1, Hlv.out, List.length_map, ← Hnl.out] at h1
        exact h1
      have hsrcb : SlP 1 ByteE w8 (.slice q b.length cap) b := by
        have h1 : SrcE (fun k => K k ∨ w.heap.size ≤ k ∧ k < w3.heap.size) w3 (.slice q b.length cap) b := ⟨Hv.out.mono ByteE.mono hb13, fun h0 q n c e a ha => .inl (HvK.out h0 q n c e a ha)⟩
        exact ((h1.kept Hkw.out).kept (hkc8.less fun k hk => .inl hk)).1
      have hclone := fun W (hb : Below w8.heap.size w8 W) => clone_bytes (.slice q b.length cap) b W (hsrcb.mono ByteE.mono hb) (by omega)
      have hnl9 : nl ≤ 1000000 := by
        have h1 := hm8.len
        have h2 := Hll2.out m.s (by simp)
        have h3 := Hnl.out
        omega
      have hneg : (Value.slice plv nl clv).ownBlock ≠ some g := by
        obtain ⟨cs8, hc8⟩ := owns_at Hown.out.row (g := g) rfl
        have h1 := owns_ne Hm.out.own.row hc8 tStrSeg
        rw [Hlv.out, ← Hnl.out] at h1
        exact h1
      have hbs8 := hx8.base
      have hgw8 : g < w8.heap.size := Nat.lt_of_lt_of_le hgw hkc8.size
      have Hx8 := Lib.hid hx8
      have Hlr := Lib.hid hlr
      clear hx8 hm8 hlr hsrcb
      refine wp_region_last_of (S := (fun w' => w'.cell? ⟨g, k * 4 + 3, none⟩ = some (.slice plv nl clv))) 11 (by kernel_rfl) rfl rfl (by kernel_rfl) ?_
      have hHeld : (((fun w' => w'.cell? ⟨g, k * 4 + 3, none⟩ = some (.slice plv nl clv))) : World → Prop) _ := (by exact f3)
      refine' takeL (v := _) 0 rfl (by kernel_rfl) (by kernel_rfl) (by kernel_rfl) (fun _ _ _ h => h) (by rfl) ?_ (by assumption) ?_; rotate_left 1; (focus (intro w hSw; (try dsimp only at hSw); go_simp; (try with_reducible rfl); done))
      (try simp only [Act.put, List.setIfInBounds_toArray, List.set_cons_zero, List.set_cons_succ])
      refine' takeL (v := _) 1 rfl (by kernel_rfl) (by kernel_rfl) (by kernel_rfl) (fun _ _ _ h => h) (by rfl) ?_ (by assumption) ?_; rotate_left 1; (focus (intro w hSw; (try dsimp only at hSw); go_simp; (try with_reducible rfl); done))
      (try simp only [Act.put, List.setIfInBounds_toArray, List.set_cons_zero, List.set_cons_succ])
      refine' takeL (v := _) 2 rfl (by kernel_rfl) (by kernel_rfl) (by kernel_rfl) (fun _ _ _ h => h) (by rfl) ?_ (by assumption) ?_; rotate_left 1; (focus (intro w hSw; (try dsimp only at hSw); go_simp; (try with_reducible rfl); done))
      (try simp only [Act.put, List.setIfInBounds_toArray, List.set_cons_zero, List.set_cons_succ])
      refine' takeL (v := _) 3 rfl (by kernel_rfl) (by kernel_rfl) (by kernel_rfl) (fun _ _ _ h => h) (by rfl) ?_ (by assumption) ?_; rotate_left 1; (focus (intro w hSw; (try dsimp only at hSw); go_simp; (try with_reducible rfl); done))
      (try simp only [Act.put, List.setIfInBounds_toArray, List.set_cons_zero, List.set_cons_succ])
      refine' takeL (v := _) 4 rfl (by kernel_rfl) (by kernel_rfl) (by kernel_rfl) (fun _ _ _ h => h) (by rfl) ?_ (by assumption) ?_; rotate_left 1; (focus (intro w hSw; (try dsimp only at hSw); go_simp; (try with_reducible rfl); done))
      (try simp only [Act.put, List.setIfInBounds_toArray, List.set_cons_zero, List.set_cons_succ])
      refine' takeL (v := _) 5 rfl (by kernel_rfl) (by kernel_rfl) (by kernel_rfl) (fun _ _ _ h => h) (by rfl) ?_ (by assumption) ?_; rotate_left 1; (focus (intro w hSw; (try dsimp only at hSw); go_simp; (try with_reducible rfl); done))
      (try simp only [Act.put, List.setIfInBounds_toArray, List.set_cons_zero, List.set_cons_succ])
      refine stepL 6 rfl (by kernel_rfl) (fun K hK => ?_)
      go_simp
      go_at_call 34
      refine (hclone _ (Below.refl _ _).drew).mono ?_
      rintro e w9 ⟨vb, rfl, hownb, hb9⟩
      obtain ⟨qb, cb, hvb, -⟩ := hownb.len
      subst hvb
      have hb89 : Below w8.heap.size w8 w9 := below_trans ((Below.refl _ _).drew) hb9
      refine hK.out _ _ (by exact bcell hb89 f3) (fun hHeld => ?_)
      clear hK K
      (try simp only [Act.put, List.setIfInBounds_toArray, List.set_cons_zero, List.set_cons_succ])
      refine stepL 7 rfl (by kernel_rfl) (fun K hK => ?_)
      go_simp
      have hb8a : ∀ o, Below w8.heap.size w8 (w9.alloc o) := fun o => below_alloc hb89 o
      refine hK.out _ _ (by exact bcell (hb8a _) f3) (fun hHeld => ?_)
      clear hK K
      (try simp only [Act.put, List.setIfInBounds_toArray, List.set_cons_zero, List.set_cons_succ])
      refine stepL 8 rfl (by kernel_rfl) (fun K hK => ?_)
      refine step_app (v := .slice plv nl clv) (by rfl) _ _ 70 70 (by rfl) base 25 1 24 strRowElt Tryz.underlying70 nl m.vs (by rfl) (owns_block Hlr.out fun k hk => (hb8a _).block k (World.ownsRow.lt Hlr.out k hk).2) (by rfl) 1 [.slice qb b.length cb] (Src.ofSlice _ Tryz.underlying70 _ _ _ _ rfl (cell_one_new _ _ _) (by simp [Value.oneCell'])) (by unfold maxLen; omega) (by omega) (Nat.le_trans hbs8 (hb8a (.cells #[.slice qb b.length cb] 25)).size) ?_
      intro v10 w10 hown10 hg10 hv10
      obtain ⟨q10, c10, hq10⟩ := own_slice hown10
      subst hq10
      have hsz8 := (hb8a (.cells #[.slice qb b.length cb] 25)).size
      have hgb10 : w10.heap[g]? = w8.heap[g]? := (hg10.block g (by omega) (fun e => hneg e.symm)).trans ((hb8a _).block g hgw8)
      have y3 : w10.cell? ⟨g, k * 4 + 3, none⟩ = some (.slice plv nl clv) := (World.cell?_of_block (w := w8) (a := ⟨g, k * 4 + 3, none⟩) hgb10).trans f3
      have y1 : w10.cell? ⟨g, k * 4 + 1, none⟩ = some (.int .i64 (en : Int)) := (World.cell?_of_block (w := w8) (a := ⟨g, k * 4 + 1, none⟩) hgb10).trans f1
      refine hK.out _ _ (by exact y3) (fun hHeld => ?_)
      clear hK K
      (try simp only [Act.put, List.setIfInBounds_toArray, List.set_cons_zero, List.set_cons_succ])
      refine' takeL (v := _) 9 rfl (by kernel_rfl) (by kernel_rfl) (by kernel_rfl) (fun _ _ _ h => h) (by rfl) ?_ (by assumption) ?_; rotate_left 1; (focus (intro w hSw; (try dsimp only at hSw); go_simp; (try with_reducible rfl); done))
      (try simp only [Act.put, List.setIfInBounds_toArray, List.set_cons_zero, List.set_cons_succ])
      refine' takeL (v := _) 10 rfl (by kernel_rfl) (by kernel_rfl) (by kernel_rfl) (fun _ _ _ h => h) (by rfl) ?_ (by assumption) ?_; rotate_left 1; (focus (intro w hSw; (try dsimp only at hSw); go_simp; (try with_reducible rfl); done))
      (try simp only [Act.put, List.setIfInBounds_toArray, List.set_cons_zero, List.set_cons_succ])
      refine wpAnyH_done (by kernel_rfl) ?_ _
      unfold withLast
      obtain ⟨gc, hgc⟩ := owns_at Hown.out.row (g := g) rfl
      have hgc8 : w8.heap[g]? = some (.cells gc 72 (0, 0)) := (hkc8.block g (.inr hkg)).trans hgc
      have hfz : ∀ i, w10.frozen? ⟨g, i, none⟩ = false := fun i => block_free (hgb10.trans hgc8) i
      have Hgc8 := Lib.hid hgc8
      clear hgc hgc8
      go_wp2_with fail
      go_ret
      obtain rfl := Hk.out
      rw [Hnl.out] at hown10
      rw [← Hnl.out] at hown10
      have hL8 : w8.heap[L]? = some (.cells #[.pointer (some ⟨X, 0, none⟩), .int .i64 (sz : Int), .slice (some ⟨g, 0, none⟩) (init.length + 1) capS] 32 (0, 0)) := (hkc8.block L (.inr hkl)).trans Hblk.out
      obtain ⟨hpm, hpu⟩ := Hx8.out.mem.put (b := b) (vb := .slice qb b.length cb) (v' := .slice q10 (nl + 1) c10) (w1 := w9.alloc (.cells #[.slice qb b.length cb] 25)) (w2 := w10) Hx8.out.ltL hbs8 hL8 (hb8a _)
        (owns_block (show w9.ownsRow w8.heap.size 5 1 (.slice qb b.length cb) b.length (b.map u8) from hownb) fun k hk => (below_new w9 _).block k (World.ownsRow.lt hownb k hk).2)
        (by rw [← Hnl.out]; exact hown10) (by rw [Hlv.out, ← Hnl.out]; exact hg10) (by rw [Hlv.out, ← Hnl.out]; exact hv10) (.int .i64 ((en + pl : Nat) : Int)) (by rw [← Hen.out, ← Hpl.out])
      have hs10 := hg10.size
      have hsn : w8.heap.size ≤ w10.heap.size := by omega
      have hturn := Hx8.out.turn (w' := (w10.setCell ⟨g, init.length * 4 + 3, none⟩ (.slice q10 (nl + 1) c10)).setCell ⟨g, init.length * 4 + 1, none⟩ (.int .i64 ((en + pl : Nat) : Int))) (by simpa using hsn) hpu hpm (fun k hk => .inl hk) (fun k hk h2 => h2.elim id fun h3 => by omega) (fun k hk => by
        rcases hk with h1 | h1
        · have := Hx8.out.ltL k h1; simp; omega
        · simp; omega)
      have hnK : ¬ K g := fun h => Hx8.out.apart g hkg (.inl h)
      have hltK8 : ∀ k, K k → k < w8.heap.size := fun k hk => Hx8.out.ltK k (.inl hk)
      have hkK : Kept K w8 ((w10.setCell ⟨g, init.length * 4 + 3, none⟩ (.slice q10 (nl + 1) c10)).setCell ⟨g, init.length * 4 + 1, none⟩ (.int .i64 ((en + pl : Nat) : Int))) :=
        ((((kept_of_below (hb8a _) hltK8).grown hg10 (fun k hk => by have := hltK8 k hk; omega) (fun k hk h2 => by
          have h3 := Hx8.out.mem.each m (by simp)
          refine Hx8.out.apart k (h3.bk k ?_) (.inl h2)
          rw [Hlv.out, ← Hnl.out]; exact hk)).setCell (p := ⟨g, init.length * 4 + 3, none⟩) hnK _).setCell (p := ⟨g, init.length * 4 + 1, none⟩) hnK _)
      have hkw8 : Kept K w w8 := (kept_of_below hb13 H.out.ltK).trans ((Hkw.out.less (K' := K) fun k hk => .inl hk).trans (hkc8.less (K' := K) fun k hk => .inl (.inl hk)))
      have hkF := hkw8.trans hkK
      have esg : MSeg.segs (init ++ [⟨{ m.s with l := m.s.l ++ [b] }, .slice q10 (nl + 1) c10, m.vs ++ [.slice qb b.length cb]⟩]) = MSeg.segs init ++ [{ m.s with l := m.s.l ++ [b] }] := by simp [MSeg.segs]
      have hfin : LogS ((w10.setCell ⟨g, init.length * 4 + 3, none⟩ (.slice q10 (nl + 1) c10)).setCell ⟨g, init.length * 4 + 1, none⟩ (.int .i64 ((en + pl : Nat) : Int))) K base L X D n sz E2 M2 (init ++ [⟨{ m.s with l := m.s.l ++ [b] }, .slice q10 (nl + 1) c10, m.vs ++ [.slice qb b.length cb]⟩]) :=
        ⟨⟨_, _, _, _, _, _, hturn.less fun k hk => .inl hk, by rw [esg]; exact Hok9.out, Hdok9.out, hep, HMn.out⟩, H.out.env.kept (K := K) hkF H.out.kn H.out.kp, H.out.kn, H.out.kp, hsz, hlow⟩
      exact ⟨0, rfl, hkF, .inl ⟨rfl, _, by rw [esg]; exact HappS.out, hfin.up hE2' hM2'⟩⟩
    · have hxn : ¬ x = 0 := by omega
      have Hxx := Lib.hid hx
      clear hx
      go_wp2_with fail
      go_ret
      exact ⟨x, rfl, (kept_of_below hb13 H.out.ltK).trans (hkw6.less fun k hk => .inl hk), .inr ⟨Hxx.out, hnot, hS6.less (fun k hk => .inl hk) H.out.kn H.out.kp⟩⟩
end Go.Proofs.YtlhefifejcoecaaGreatDoor
