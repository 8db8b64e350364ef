/- A segment more: add. -/
import Derived.Test.YtlhefifejcoecaaGreatDoorJSegF
namespace Go.Proofs.YtlhefifejcoecaaGreatDoor
open Go.RowKit Go.Proofs Go.Shelf
attribute [local go_sem ↓] Go.wp_at_zero Go.wp_at_succ

theorem Env.kept {K : Nat → Prop} {w w' : World} (h : Env w) (hk : Kept K w w') (k1 : K 2) (k2 : K 0) : Env w' := ⟨h.nib.kept hk k1, h.pow.block (hk.block _ k2)⟩

def MSeg.segs (ms : List MSeg) : List Seg := ms.map (·.s)
theorem msegs_len (ms : List MSeg) : (MSeg.segs ms).length = ms.length := by simp [MSeg.segs]

/-- A log in a law: in memory, on its disk, and right. E: what its epoch is at most; M: where its files end at most. -/
structure LogS (w : World) (K : Nat → Prop) (base L X D n sz E M : Nat) (ms : List MSeg) : Prop where
  ex : ∃ KL safe cur now epoch which, LogX w K KL base L X D n sz safe cur now now epoch which ms ∧ LogOK sz (MSeg.segs ms) now cur ∧ DOK n safe cur now now epoch which ∧ epoch ≤ E ∧ ∀ x ∈ now, x.2.1 + x.2.2 ≤ M
  env : Env w
  kn : K 2
  kp : K 0
  sz : 2 ≤ sz ∧ sz ≤ 512
  low : 16 ≤ M

theorem tk_low {now : Files} {M i : Nat} (h : ∀ x ∈ now, x.2.1 + x.2.2 ≤ M) (hi : M ≤ i) : tk now now i = false := by
  cases ht : tk now now i with
  | false => rfl
  | true =>
    exfalso
    have hx : anyMeets (i, 1) now = true := by
      unfold tk takenS at ht
      simpa using ht
    unfold anyMeets at hx
    rw [List.any_eq_true] at hx
    obtain ⟨x, hx1, hx2⟩ := hx
    rw [meets_iff] at hx2
    have := h x hx1
    dsimp only at hx2
    omega

theorem make_low {now : Files} {n M sz : Nat} {s : ByteArray} {e : Nat × Nat} (hM : 16 ≤ M) (h : ∀ x ∈ now, x.2.1 + x.2.2 ≤ M) (hm : MakeS now now n s (sz : Int) (some e)) : ∀ x ∈ makeNow now s (some e), x.2.1 + x.2.2 ≤ M + sz := by
  obtain ⟨-, -, -, h4, h5, -, -, -, h9⟩ := hm
  have he : e.1 ≤ M := by
    rcases Nat.lt_or_ge M e.1 with h1 | h1
    · obtain ⟨i, h6, -, h8⟩ := h9 M hM h1
      rw [tk_low h h6] at h8; cases h8
    · exact h1
  intro x hx
  rcases List.mem_append.1 hx with h1 | h1
  · have := h x h1; omega
  · simp only [List.mem_cons, List.not_mem_nil, or_false] at h1
    subst h1
    dsimp only
    omega

theorem make_full {now : Files} {n M sz : Nat} {s : ByteArray} (hM : 16 ≤ M) (h : ∀ x ∈ now, x.2.1 + x.2.2 ≤ M) (hs : goodNameS s = true) (hf : fget now s = none) (h1 : 1 ≤ sz) (hm : MakeS now now n s (sz : Int) none) : ¬ (M + sz ≤ n ∧ now.length < 10) := by
  rintro ⟨h2, h3⟩
  rcases hm with hm | hm
  · exact hm ⟨hs, by omega, hf, h3⟩
  · obtain ⟨i, h6, -, h8⟩ := hm M hM (by omega)
    rw [tk_low h h6] at h8; cases h8

def AddOut (w : World) (K : Nat → Prop) (base L X D n sz E M : Nat) (ms : List MSeg) (f : Nat) (e : Ending) (w' : World) : Prop := ∃ x : Int, e = .returned (.int .i64 x) ∧ Kept K w w' ∧
  ((x = 0 ∧ LogS w' K base L X D n sz (E + 1) (M + sz) (ms ++ [⟨⟨f, nextN (MSeg.segs ms), []⟩, .slice none 0 0, []⟩])) ∨ ((x = 13 ∨ x = 6) ∧ ¬ (M + sz ≤ n ∧ ms.length < 10) ∧ LogS w' K base L X D n sz E M ms))

theorem nextN_of {segs : List Seg} {m : Nat} (hm : m + 1 = segs.length) : nextN segs = (segs[m]'(by omega)).n + 1 := by unfold nextN; rw [last_of hm]

theorem segElt : Elt Tryz.prog 72 4 48 := by
  have h : (Tryz.prog.info? 72).map (fun i => (i.zero, i.size, i.bytes)) = some (some (.agg #[.int .i64 0, .int .i64 0, .int .i64 0, .slice none 0 0]), 4, 48) := by kernel_rfl
  obtain ⟨i0, hi, hz0, hz1, hz2⟩ := info_parts h
  exact ⟨⟨i0, _, hi, hz0, hz1, hz2, rfl⟩, by decide⟩

theorem src_seg (W : World) (f e m : Nat) (q : Option Addr) (k c : Nat) : Src Tryz.prog 4 30 (.slice (some ⟨W.heap.size, 0, none⟩) 1 1) 1 [.int .i64 (f : Int), .int .i64 (e : Int), .int .i64 (m : Int), .slice q k c] (W.alloc (.cells #[.int .i64 (f : Int), .int .i64 (e : Int), .int .i64 (m : Int), .slice q k c] 72)) :=
  Src.ofSlice _ Tryz.underlying30 _ _ _ _ rfl (fun j u hj => by
    rw [Addr.add_lit]
    have h1 : j < 4 := by
      rcases Nat.lt_or_ge j 4 with h | h
      · exact h
      · rw [List.getElem?_eq_none (by simpa using h)] at hj; cases hj
    rcases (by omega : j = 0 ∨ j = 1 ∨ j = 2 ∨ j = 3) with rfl | rfl | rfl | rfl <;> (simp at hj; subst hj; simp)) (by simp [Value.oneCell'])

def two (a b : Value) : Value := .agg #[a, b]
theorem arr0 (a b : Value) (W : World) : (Instr.index 115 (.agg #[a, b]) (.int .i64 0)).run Tryz.prog W = .ok a W := by kernel_rfl
theorem arr1 (a b : Value) (W : World) : (Instr.index 115 (.agg #[a, b]) (.int .i64 1)).run Tryz.prog W = .ok b W := by kernel_rfl

/-- What holds within add's steps: ahead of Sync, of Save, and behind. -/
def AddR (w6 : World) (K KL : Nat → Prop) (base L X D n sz : Nat) (safe cur2 : List UInt8) (now1 now : Files) (epoch which : Nat) (ms : List MSeg) (k : Nat) (wr : World) : Prop := Kept (fun k => K k ∨ KL k) w6 wr ∧
  match k with
  | 0 => LogX wr K KL base L X D n sz safe cur2 now1 now epoch which ms
  | 1 => LogX wr K KL base L X D n sz cur2 cur2 now1 now epoch which ms
  | _ => LogX wr K KL base L X D n sz (saveS cur2 which epoch now1) (saveS cur2 which epoch now1) now1 now1 (epoch + 1) (1 - which) ms

theorem addR_sync {w6 wr : World} {K KL : Nat → Prop} {base L X D n sz : Nat} {safe cur2 : List UInt8} {now1 now : Files} {epoch which : Nat} {ms : List MSeg} (h : AddR w6 K KL base L X D n sz safe cur2 now1 now epoch which ms 0 wr) :
    Calls Tryz.prog 39 #[.pointer (some ⟨X, 0, none⟩)] wr (fun e w' => e = .returned (.int .i64 0) ∧ AddR w6 K KL base L X D n sz safe cur2 now1 now epoch which ms 1 w') := by
  obtain ⟨hk, hx⟩ := h
  replace hx : LogX wr K KL base L X D n sz safe cur2 now1 now epoch which ms := hx
  refine (dsync_any wr _ X D n safe cur2 now1 now epoch which hx.dir hx.lt).mono ?_
  rintro e w' ⟨rfl, hd, hk'⟩
  exact ⟨rfl, hk.trans hk', hx.go hd hk'⟩

theorem addR_save {w6 wr : World} {K KL : Nat → Prop} {base L X D n sz : Nat} {safe cur2 : List UInt8} {now1 now : Files} {epoch which : Nat} {ms : List MSeg} (h : AddR w6 K KL base L X D n sz safe cur2 now1 now epoch which ms 1 wr)
    (hE : Env w6) (kn : K 2) (hd : DOK n safe cur2 now1 now epoch which) (he : epoch ≤ 1000000) :
    Calls Tryz.prog 47 #[.pointer (some ⟨X, 0, none⟩)] wr (fun e w' => e = .returned (.int .i64 0) ∧ AddR w6 K KL base L X D n sz safe cur2 now1 now epoch which ms 2 w') := by
  obtain ⟨hk, hx⟩ := h
  replace hx : LogX wr K KL base L X D n sz cur2 cur2 now1 now epoch which ms := hx
  refine (save_any wr _ X D n cur2 cur2 now1 now epoch which hx.dir hx.lt (.inl kn) (hE.nib.kept hk (.inl kn)) (by have := hd.sz; omega) hd.wh (by omega) (hd.fits (by omega))).mono ?_
  rintro e w' ⟨rfl, hd', hk'⟩
  exact ⟨rfl, hk.trans hk', hx.go hd' hk'⟩

set_option maxRecDepth 100000 in
set_option maxHeartbeats 4000000 in
theorem sadd_any (w : World) (K : Nat → Prop) (base L X D n sz E M : Nat) (ms : List MSeg) (h : LogS w K base L X D n sz E M ms) (f : Nat) (hf : ms = [] ∨ f = nextS (MSeg.segs ms)) (hf2 : f ≤ 2199023255552) (hn : nextN (MSeg.segs ms) ≤ 999999) (hE : E ≤ 1000000) (hms : ms.length ≤ 100000) :
    Calls Tryz.prog 37 #[.pointer (some ⟨L, 0, none⟩), .int .i64 (f : Int)] w (AddOut w K base L X D n sz E M ms f) := by
  obtain ⟨⟨KL, safe, cur, now, epoch, which, hx, hok, hdok, hep, hM⟩, henv, hkn, hkp, ⟨hsz1, hsz2⟩, hlow⟩ := id h
  have Hh := Lib.hid h
  have hR : LogR w L X sz (MSeg.segs ms) := hx.mem.rd (fun m hm => hok.ok _ (List.mem_map.2 ⟨m, hm, rfl⟩)) (by omega)
  have hlt := hx.lt
  have hkl := hx.mem.kl
  have hname := fun W (hb : Below w.heap.size w W) => name_ok _ hn W (henv.below hb)
  have hmake := fun W (hb : Below w.heap.size w W) => make_anyE W _ X D n safe cur now now epoch which (hx.dir.below hb) (fun k hk => Nat.lt_of_lt_of_le (hlt k hk) hb.size) (by have := hdok.sz; omega) (nameS (nextN (MSeg.segs ms))) (by rw [nameS_size]; omega) (sz : Int) (by omega)
  have Hgood := Lib.hid (good_name (nextN (MSeg.segs ms)))
  have Hfresh := Lib.hid (hok.fresh hn)
  obtain ⟨q, cap, c0, c1, c2, hL, hlc, hll, hc⟩ := hR.open_
  have hlms : (MSeg.segs ms).length = ms.length := msegs_len ms
  obtain ⟨nm, hnm⟩ : ∃ nm, nm = nextN (MSeg.segs ms) := ⟨_, rfl⟩
  have Hnm := Lib.hid hnm
  rw [← hnm] at hname hmake Hgood Hfresh hn
  obtain ⟨name, hnmS⟩ : ∃ name, name = nameS nm := ⟨_, rfl⟩
  have HnmS := Lib.hid hnmS
  rw [← hnmS] at hname hmake Hgood Hfresh
  have HN := Lib.hid hname
  have HMk := Lib.hid hmake
  have Hx := Lib.hid hx
  have Hok := Lib.hid hok
  have Hdok := Lib.hid hdok
  have HM := Lib.hid hM
  have Henv := Lib.hid henv
  have Hf := Lib.hid hf
  obtain ⟨N, hNl⟩ : ∃ N, N = (MSeg.segs ms).length := ⟨_, rfl⟩
  have c2N := c2
  rw [← hNl] at c2N hlc hll
  have HNl := Lib.hid hNl
  have Hc := Lib.hid hc
  have Hlms := Lib.hid hlms
  have Hms := Lib.hid hms
  clear hR hx hok hdok hM henv hf hname hmake hnm hnmS hc hlms hms c2 hNl
  have hconv : (f : Int) % 18446744073709551616 = (f : Int) := by omega
  have hconv2 : IntKind.u64.wrap (f : Int) = (f : Int) := IntWalk.u64_in _ (by omega)
  have hhl := headS_len hf2
  have Hhead : Hid (headS f = padS (numS f)) := Lib.hid rfl
  have Hhl := Lib.hid hhl
  clear hhl
  have hnumc := fun W => num_any (.slice none 0 0) [] f W (slp_nil W) (by simp) (by unfold U64; omega)
  simp only [List.nil_append] at hnumc
  have hnl := numS_length f
  by_cases hn0 : N = 0
  · subst hn0
    go_enter Tryz.func37, Tryz.ntmps37
    go_upto_region 5 with fail
    have hs0 : MSeg.segs ms = [] := List.eq_nil_of_length_eq_zero HNl.out.symm
    have hnm0 : nm = 0 := by rw [Hnm.out, hs0]; rfl
    subst hnm0
    have HN' : Hid (∀ W, Below w.heap.size w W → Calls Tryz.prog 8 #[.int .i64 0] W (Gives W (.string name))) := Lib.hid HN.out
    clear HN hs0
    go_upto_region 6 with (first | (go_at_call 8; refine (HN'.out _ (Below.refl _ _)).mono ?_; rintro e w1 ⟨rfl, hb1⟩) | fail)
    have d0 := bcell hb1 c0
    have d1 := bcell hb1 c1
    have hb1d := hb1.drew
    refine wp_region_held_drew (S := (fun w' => w'.cell? ⟨L, 0, none⟩ = some (.pointer (some ⟨X, 0, none⟩)) ∧ w'.cell? ⟨L, 1, none⟩ = some (.int .i64 (sz : Int)))) (by kernel_rfl) (by exact ⟨d0, d1⟩) (fun hHeld => ?_)
    refine' takeL (v := _) 0 rfl (by kernel_rfl) (by kernel_rfl) (by kernel_rfl) (fun _ _ _ h => h) (by rfl) ?_ (by assumption) ?_; rotate_left 1; (focus (intro w hSw; (try dsimp only at hSw); go_simp; (try with_reducible rfl); done))
    (try simp only [Act.put, List.setIfInBounds_toArray, List.set_cons_zero, List.set_cons_succ])
    refine' takeL (v := _) 1 rfl (by kernel_rfl) (by kernel_rfl) (by kernel_rfl) (fun _ _ _ h => h) (by rfl) ?_ (by assumption) ?_; rotate_left 1; (focus (intro w hSw; (try dsimp only at hSw); go_simp; (try with_reducible rfl); done))
    (try simp only [Act.put, List.setIfInBounds_toArray, List.set_cons_zero, List.set_cons_succ])
    refine' takeL (v := _) 2 rfl (by kernel_rfl) (by kernel_rfl) (by kernel_rfl) (fun _ _ _ h => h) (by rfl) ?_ (by assumption) ?_; rotate_left 1; (focus (intro w hSw; (try dsimp only at hSw); go_simp; (try with_reducible rfl); done))
    (try simp only [Act.put, List.setIfInBounds_toArray, List.set_cons_zero, List.set_cons_succ])
    refine' takeL (v := _) 3 rfl (by kernel_rfl) (by kernel_rfl) (by kernel_rfl) (fun _ _ _ h => h) (by rfl) ?_ (by assumption) ?_; rotate_left 1; (focus (intro w hSw; (try dsimp only at hSw); go_simp; (try with_reducible rfl); done))
    (try simp only [Act.put, List.setIfInBounds_toArray, List.set_cons_zero, List.set_cons_succ])
    refine' takeL (v := _) 4 rfl (by kernel_rfl) (by kernel_rfl) (by kernel_rfl) (fun _ _ _ h => h) (by rfl) ?_ (by assumption) ?_; rotate_left 1; (focus (intro w hSw; (try dsimp only at hSw); go_simp; (try with_reducible rfl); done))
    (try simp only [Act.put, List.setIfInBounds_toArray, List.set_cons_zero, List.set_cons_succ])
    refine' takeL (v := _) 5 rfl (by kernel_rfl) (by kernel_rfl) (by kernel_rfl) (fun _ _ _ h => h) (by rfl) ?_ (by assumption) ?_; rotate_left 1; (focus (intro w hSw; (try dsimp only at hSw); go_simp; (try with_reducible rfl); done))
    (try simp only [Act.put, List.setIfInBounds_toArray, List.set_cons_zero, List.set_cons_succ])
    refine' takeL (v := _) 6 rfl (by kernel_rfl) (by kernel_rfl) (by kernel_rfl) (fun _ _ _ h => h) (by rfl) ?_ (by assumption) ?_; rotate_left 1; (focus (intro w hSw; (try dsimp only at hSw); go_simp; (try with_reducible rfl); done))
    (try simp only [Act.put, List.setIfInBounds_toArray, List.set_cons_zero, List.set_cons_succ])
    refine' takeL (v := _) 7 rfl (by kernel_rfl) (by kernel_rfl) (by kernel_rfl) (fun _ _ _ h => h) (by rfl) ?_ (by assumption) ?_; rotate_left 1; (focus (intro w hSw; (try dsimp only at hSw); go_simp; (try with_reducible rfl); done))
    (try simp only [Act.put, List.setIfInBounds_toArray, List.set_cons_zero, List.set_cons_succ])
    refine' takeL (v := _) 8 rfl (by kernel_rfl) (by kernel_rfl) (by kernel_rfl) (fun _ _ _ h => h) (by rfl) ?_ (by assumption) ?_; rotate_left 1; (focus (intro w hSw; (try dsimp only at hSw); go_simp; (try with_reducible rfl); done))
    (try simp only [Act.put, List.setIfInBounds_toArray, List.set_cons_zero, List.set_cons_succ])
    refine stepL 9 rfl (by kernel_rfl) (fun K hK => ?_)
    go_simp
    go_at_call 70
    refine (HMk.out _ hb1d).mono ?_
    rintro e w3 ⟨x, r, rfl, hx0, hms3, hd3, hk3, hmE⟩
    have hk03 := (kept_of_below hb1d hlt).trans hk3
    have e0 := (hk03.cell (p := ⟨L, 0, none⟩) (.inr hkl)).trans c0
    have e1 := (hk03.cell (p := ⟨L, 1, none⟩) (.inr hkl)).trans c1
    have e2 := (hk03.cell (p := ⟨L, 2, none⟩) (.inr hkl)).trans c2N
    have hx13 := hmE Hgood.out (by omega) Hfresh.out
    have Hx0 := Lib.hid hx0
    have Hms3 := Lib.hid hms3
    have Hd3 := Lib.hid hd3
    clear hmE hx0 hms3 hd3 HN' HMk
    refine hK.out _ _ (by exact ⟨e0, e1⟩) (fun hHeld => ?_)
    clear hK K
    (try simp only [Act.put, List.setIfInBounds_toArray, List.set_cons_zero, List.set_cons_succ])
    refine' takeL (v := _) 10 rfl (by kernel_rfl) (by kernel_rfl) (by kernel_rfl) (fun _ _ _ h => h) (by rfl) ?_ (by assumption) ?_; rotate_left 1; (focus (intro w hSw; (try dsimp only at hSw); go_simp; (try with_reducible rfl); done))
    (try simp only [Act.put, List.setIfInBounds_toArray, List.set_cons_zero, List.set_cons_succ])
    refine wpAnyH_done (by kernel_rfl) ?_ _
    cases r with
    | none =>
      have hxn : ¬ x = 0 := fun e => by have := Hx0.out.1 e; cases this
      have Hx13 := Lib.hid hx13
      clear hx13
      go_wp2_with fail
      go_ret
      have hd3 : DirAt w3 (fun k => K k ∨ KL k) X D n safe cur false now now epoch which := Hd3.out
      refine ⟨x, rfl, hk03.less (fun k hk => .inl hk), .inr ⟨?_, fun h2 => ?_, ⟨⟨KL, safe, cur, now, epoch, which, Hx.out.go hd3 hk03, Hok.out, Hdok.out, hep, HM.out⟩, Henv.out.kept hk03 (.inl hkn) (.inl hkp), hkn, hkp, ⟨hsz1, hsz2⟩, hlow⟩⟩⟩
      · rcases Hx13.out with h1 | h1
        · exact absurd h1 hxn
        · exact h1
      · refine make_full hlow HM.out Hgood.out Hfresh.out (by omega) Hms3.out ⟨h2.1, ?_⟩
        rw [Hok.out.len, Hlms.out]; exact h2.2
    | some ex =>
      have hxz : x = 0 := Hx0.out.2 rfl
      subst hxz
      clear hx13
      have hms3' : MakeS now now n (nameS (nextN (MSeg.segs ms))) (sz : Int) (some ex) := by have h1 := Hms3.out; rw [HnmS.out, Hnm.out] at h1; exact h1
      obtain ⟨q2, hw2, hok2⟩ := Hok.out.add Hdok.out hms3' (Hf.out.imp (fun h => by rw [h]; rfl) id) (by rw [← Hnm.out]; exact hn) hf2 (by omega)
      rw [← Hnm.out, ← HnmS.out] at hw2 hok2
      have hlow2 := make_low hlow HM.out Hms3.out
      have hdok1 := Hdok.out.make Hms3.out
      have hdok2 := hdok1.write name 0 (headS f)
      have hin := hdok1.gnow.in_
      have hd3 := Hd3.out
      generalize makeNow now name (some ex) = now1 at *
      generalize makeCur cur (some ex) = cur1 at *
      rw [hw2] at hdok2
      have hx3 := Hx.out.go hd3 hk03
      have henv3 := Henv.out.kept hk03 (.inl hkn) (.inl hkp)
      have hlt3 := hx3.lt
      have Hx3 := Lib.hid hx3
      have Hw2 := Lib.hid hw2
      have Hok2 := Lib.hid hok2
      have Hdok1 := Lib.hid hdok1
      have Hdok2 := Lib.hid hdok2
      have Hlow2 := Lib.hid hlow2
      have Hin := Lib.hid hin
      clear hms3' hd3 hx3 hw2 hok2 hdok1 hdok2 hlow2 hin
      go_upto_region 10 with (first
        | (go_at_call 71; refine (hnumc _).mono ?_; rintro e w4 ⟨v4, rfl, hown4, hb4⟩; have hpadc := padded_any v4 (numS f) w4 (hown4.at (by omega)) (henv3.nib.below hb4) (by omega))
        | (go_at_call 35; refine hpadc.mono ?_; rintro e w5 ⟨v5, rfl, hown5, hb5⟩)
        | fail)
      rw [← Hhead.out] at hown5
      obtain ⟨q5, cap5, rfl, hc5, -⟩ := hown5.len
      have hb35 := below_trans hb4 hb5
      have hs4 := hb4.size
      have hs5 := hb5.size
      have hlt5 := World.ownsRow.lt hown5
      have hdir5 : DirAt w5 (fun k => (K k ∨ KL k) ∨ w3.heap.size ≤ k ∧ k < w5.heap.size) X D n safe cur1 false now1 now epoch which := (Hx3.out.dir.more (K' := fun k => (K k ∨ KL k) ∨ w3.heap.size ≤ k ∧ k < w5.heap.size) fun k hk h2 => h2.elim id fun h3 => by omega).below hb35
      have hK5 : ∀ k, ((K k ∨ KL k) ∨ w3.heap.size ≤ k ∧ k < w5.heap.size) → k < w5.heap.size := fun k hk => hk.elim (fun h1 => by have := hlt3 k h1; omega) fun h1 => h1.2
      have hwrite := dwrite_any w5 _ X D n safe cur1 now1 now epoch which hdir5 hK5 Hin.out name 0 (by omega) (.slice q5 (headS f).length cap5) (headS f) ⟨hown5.at (by rw [Hhl.out]; omega), fun q' n' c' e' a ha => by
        simp only [Value.slice.injEq] at e'
        obtain ⟨rfl, -, -⟩ := e'
        subst ha
        have := hlt5 a.block rfl
        exact .inr ⟨by omega, this.2⟩⟩
      rw [Hw2.out] at hwrite
      have g0 := bcell hb35 e0
      have g2 := bcell hb35 e2
      have Hwr := Lib.hid hwrite
      clear hwrite hdir5 hown4 hpadc hnumc
      go_upto_region 11 with (first
        | (go_at_call 38; refine Hwr.out.mono ?_; rintro e w6 ⟨x6, rfl, hx6, hd6, hk6⟩)
        | fail)
      have hx60 : x6 = 0 := hx6.2 rfl
      subst hx60
      have e6 : wrCur cur1 (some q2) (headS f) = splice cur1 q2 (headS f) := rfl
      rw [e6] at hd6
      have hdok2 := Hdok2.out
      rw [e6] at hdok2
      have hok2 := Hok2.out
      have hx3b := (Hx3.out.below hb35).go (hd6.more (K' := fun k => K k ∨ KL k) fun k _ h => .inl h) (hk6.less fun k hk => .inl hk)
      have hk36 := (kept_of_below hb35 hlt3).trans (hk6.less (K' := fun k => K k ∨ KL k) fun k hk => .inl hk)
      generalize splice cur1 q2 (headS f) = cur2 at *
      have henv6 := henv3.kept hk36 (.inl hkn) (.inl hkp)
      have k0 := (hk36.cell (p := ⟨L, 0, none⟩) (.inr hkl)).trans e0
      have Hdk2 := Lib.hid hdok2
      have Hk2 := Lib.hid hok2
      have Hx6 := Lib.hid hx3b
      have hs36 := hk36.size
      clear hd6 hdok2 hok2 hx3b hx6 e6 Hwr Hdok2 Hok2 hlt5 hK5
      refine wp_region_held_drew (S := (fun w' => w'.cell? ⟨L, 0, none⟩ = some (.pointer (some ⟨X, 0, none⟩)))) (by kernel_rfl) (by exact k0) (fun hHeld => ?_)
      refine' takeL (v := _) 0 rfl (by kernel_rfl) (by kernel_rfl) (by kernel_rfl) (fun _ _ _ h => h) (by rfl) ?_ (by assumption) ?_; rotate_left 1; (focus (intro w hSw; (try dsimp only at hSw); go_simp; (try with_reducible rfl); done))
      (try simp only [Act.put, List.setIfInBounds_toArray, List.set_cons_zero, List.set_cons_succ])
      refine' takeL (v := _) 1 rfl (by kernel_rfl) (by kernel_rfl) (by kernel_rfl) (fun _ _ _ h => h) (by rfl) ?_ (by assumption) ?_; rotate_left 1; (focus (intro w hSw; (try dsimp only at hSw); go_simp; (try with_reducible rfl); done))
      (try simp only [Act.put, List.setIfInBounds_toArray, List.set_cons_zero, List.set_cons_succ])
      refine' takeL (v := _) 2 rfl (by kernel_rfl) (by kernel_rfl) (by kernel_rfl) (fun _ _ _ h => h) (by rfl) ?_ (by assumption) ?_; rotate_left 1; (focus (intro w hSw; (try dsimp only at hSw); go_simp; (try with_reducible rfl); done))
      (try simp only [Act.put, List.setIfInBounds_toArray, List.set_cons_zero, List.set_cons_succ])
      refine' takeL (v := _) 3 rfl (by kernel_rfl) (by kernel_rfl) (by kernel_rfl) (fun _ _ _ h => h) (by rfl) ?_ (by assumption) ?_; rotate_left 1; (focus (intro w hSw; (try dsimp only at hSw); go_simp; (try with_reducible rfl); done))
      (try simp only [Act.put, List.setIfInBounds_toArray, List.set_cons_zero, List.set_cons_succ])
      refine' takeL (v := _) 4 rfl (by kernel_rfl) (by kernel_rfl) (by kernel_rfl) (fun _ _ _ h => h) (by rfl) ?_ (by assumption) ?_; rotate_left 1; (focus (intro w hSw; (try dsimp only at hSw); go_simp; (try with_reducible rfl); done))
      (try simp only [Act.put, List.setIfInBounds_toArray, List.set_cons_zero, List.set_cons_succ])
      refine' takeL (v := _) 5 rfl (by kernel_rfl) (by kernel_rfl) (by kernel_rfl) (fun _ _ _ h => h) (by rfl) ?_ (by assumption) ?_; rotate_left 1; (focus (intro w hSw; (try dsimp only at hSw); go_simp; (try with_reducible rfl); done))
      (try simp only [Act.put, List.setIfInBounds_toArray, List.set_cons_zero, List.set_cons_succ])
      refine' takeL (v := _) 6 rfl (by kernel_rfl) (by kernel_rfl) (by kernel_rfl) (fun _ _ _ h => h) (by rfl) ?_ (by assumption) ?_; rotate_left 1; (focus (intro w hSw; (try dsimp only at hSw); go_simp; (try with_reducible rfl); done))
      (try simp only [Act.put, List.setIfInBounds_toArray, List.set_cons_zero, List.set_cons_succ])
      refine' takeL (v := _) 7 rfl (by kernel_rfl) (by kernel_rfl) (by kernel_rfl) (fun _ _ _ h => h) (by rfl) ?_ (by assumption) ?_; rotate_left 1; (focus (intro w hSw; (try dsimp only at hSw); go_simp; (try with_reducible rfl); done))
      (try simp only [Act.put, List.setIfInBounds_toArray, List.set_cons_zero, List.set_cons_succ])
      refine' takeL (v := _) 8 rfl (by kernel_rfl) (by kernel_rfl) (by kernel_rfl) (fun _ _ _ h => h) (by rfl) ?_ (by assumption) ?_; rotate_left 1; (focus (intro w hSw; (try dsimp only at hSw); go_simp; (try with_reducible rfl); done))
      (try simp only [Act.put, List.setIfInBounds_toArray, List.set_cons_zero, List.set_cons_succ])
      refine' takeL (v := _) 9 rfl (by kernel_rfl) (by kernel_rfl) (by kernel_rfl) (fun _ _ _ h => h) (by rfl) ?_ (by assumption) ?_; rotate_left 1; (focus (intro w hSw; (try dsimp only at hSw); go_simp; (try with_reducible rfl); done))
      (try simp only [Act.put, List.setIfInBounds_toArray, List.set_cons_zero, List.set_cons_succ])
      refine' takeL (v := _) 10 rfl (by kernel_rfl) (by kernel_rfl) (by kernel_rfl) (fun _ _ _ h => h) (by rfl) ?_ (by assumption) ?_; rotate_left 1; (focus (intro w hSw; (try dsimp only at hSw); go_simp; (try with_reducible rfl); done))
      (try simp only [Act.put, List.setIfInBounds_toArray, List.set_cons_zero, List.set_cons_succ])
      refine' takeL (v := _) 11 rfl (by kernel_rfl) (by kernel_rfl) (by kernel_rfl) (fun _ _ _ h => h) (by rfl) ?_ (by assumption) ?_; rotate_left 1; (focus (intro w hSw; (try dsimp only at hSw); go_simp; (try with_reducible rfl); done))
      (try simp only [Act.put, List.setIfInBounds_toArray, List.set_cons_zero, List.set_cons_succ])
      refine wpAnyH_done (by kernel_rfl) ?_ _
      have a0 := fun W => arr0 (.func (.func 39) #[.pointer (some ⟨X, 0, none⟩)] #[]) (.func (.func 47) #[.pointer (some ⟨X, 0, none⟩)] #[]) W
      have a1 := fun W => arr1 (.func (.func 39) #[.pointer (some ⟨X, 0, none⟩)] #[]) (.func (.func 47) #[.pointer (some ⟨X, 0, none⟩)] #[]) W
      go_upto_region 12 with fail
      go_loopw [10, 67] (fun e i wr => ∃ k : Nat, k ≤ 2 ∧ e = .int .i64 0 ∧ i = .int .i64 k ∧ AddR w6 K KL base L X D n sz safe cur2 now1 now epoch which ms k wr) (fun _ i _ => 2 - (intOf i).toNat)
      case atStart => exact ⟨0, by omega, rfl, rfl, (Kept.refl _ _).drew, Hx6.out.below (Below.refl _ _).drew⟩
      case round =>
        obtain ⟨k, hk, rfl, rfl, hR⟩ := hrel
        rcases (by omega : k = 0 ∨ k = 1 ∨ k = 2) with rfl | rfl | rfl
        · have hsy := addR_sync hR
          clear hR
          go_wp2_with (first | (go_at_call 39; refine hsy.mono ?_; rintro e w7 ⟨rfl, hR7⟩) | fail)
          go_roundw
          case rel => exact ⟨1, by omega, rfl, rfl, hR7⟩
          case measure => simp [intOf]
        · have hsa := addR_save hR henv6 hkn Hdk2.out (by omega)
          clear hR
          go_wp2_with (first | (go_at_call 47; refine hsa.mono ?_; rintro e w7 ⟨rfl, hR7⟩) | fail)
          go_roundw
          case rel => exact ⟨2, by omega, rfl, rfl, hR7⟩
          case measure => simp [intOf]
        · obtain ⟨hkr, hxr⟩ := hR
          replace hxr : LogX wr K KL base L X D n sz (saveS cur2 which epoch now1) (saveS cur2 which epoch now1) now1 now1 (epoch + 1) (1 - which) ms := hxr
          obtain ⟨sv, hblk, hown, hsk⟩ := hxr.mem.ex
          obtain ⟨qs, cs, hqs⟩ := own_slice hown.row
          rw [List.length_map] at hqs
          subst hqs
          have r2 : wr.cell? ⟨L, 2, none⟩ = some (.slice qs ms.length cs) := by rw [block_cell hblk]; rfl
          have hownb : ∀ o, (wr.alloc o).ownsRow base 72 4 (.slice qs ms.length cs) ms.length (ms.map MSeg.cells).flatten := fun o => by
            have h1 := (hown.below (below_new wr o)).row
            rwa [List.length_map] at h1
          have hgrow : ∀ o w9, (wr.alloc o).grownBy w9 (Value.slice qs ms.length cs).ownBlock → w9.heap[L]? = some (.cells #[.pointer (some ⟨X, 0, none⟩), .int .i64 (sz : Int), .slice qs ms.length cs] 32 (0, 0)) := fun o w9 hg => by
            have hne := owns_ne hown.row hblk tSegLog
            have hl := heap_lt hblk
            exact (hg.block L (by simp; omega) (fun e => hne e.symm)).trans (((below_new wr o).block L hl).trans hblk)
          have Hgrow := Lib.hid hgrow
          have Hownb := Lib.hid hownb
          have Hblk := Lib.hid hblk
          have Hxr := Lib.hid hxr
          have hbs := hxr.base
          have hml : ms.length ≤ 100000 := Hms.out
          have Hsrc := Lib.hid (src_seg wr f (headS f).length 0 none 0 0)
          clear hown hownb hblk hxr a0 a1 hgrow
          go_wp2_with (first
            | (at_builtin; refine wpList_app (v := .slice qs ms.length cs) rfl _ _ 30 30 rfl base 72 4 48 segElt Tryz.underlying30 _ _ rfl (Hownb.out _) rfl 1 _ Hsrc.out (by unfold maxLen; omega) (by omega) (Nat.le_trans hbs (by simp)) ?_; intro v9 w9 hown9 hg9 hv9; obtain ⟨q9, c9, hq9⟩ := own_slice hown9; subst hq9; have hL9 := Hgrow.out _ w9 hg9; have z2 : w9.cell? ⟨L, 2, none⟩ = some (.slice qs ms.length cs) := (by rw [block_cell hL9]; rfl); have zf := block_free hL9 2)
            | fail)
          go_ret
          have eb : bytesS ⟨f, 0, []⟩ = headS f := by simp [bytesS]
          obtain ⟨hpm, hpu⟩ := Hxr.out.mem.push (s := ⟨f, 0, []⟩) (w1 := wr.alloc (.cells #[.int .i64 (f : Int), .int .i64 ((headS f).length : Int), .int .i64 ((0 : Nat) : Int), .slice none 0 0] 72)) (v' := .slice q9 (ms.length + 1) c9) Hxr.out.ltL hbs rfl Hblk.out (below_new _ _)
            (by unfold MSeg.cells; rw [eb]; exact hown9) hg9 hv9
          have hs9 := hg9.size
          have hsn : wr.heap.size ≤ w9.heap.size := by simp at hs9; omega
          have hturn := Hxr.out.turn (w' := w9.setCell ⟨L, 2, none⟩ (.slice q9 (ms.length + 1) c9)) (by simpa using hsn) hpu hpm (fun k hk => .inl hk) (fun k hk h2 => h2.elim id fun h3 => by omega) (fun k hk => by
            rcases hk with h1 | h1
            · have := Hxr.out.ltL k h1; simp; omega
            · simp; omega)
          have hkK : Kept K wr (w9.setCell ⟨L, 2, none⟩ (.slice q9 (ms.length + 1) c9)) :=
            ((kept_of_below (below_new wr _) Hxr.out.ltK).grown hg9 (fun k hk => by have := Hxr.out.ltK k hk; simp; omega) (fun k hk h2 => Hxr.out.apart k (hsk k hk) h2)).setCell (p := ⟨L, 2, none⟩) (Hxr.out.apart L hkl) _
          have hk3 := (hk03.less (K' := K) fun k hk => .inl hk).trans ((hk36.less (K' := K) fun k hk => .inl hk).trans ((hkr.less (K' := K) fun k hk => .inl hk).trans hkK))
          have he1 : epoch ≤ 1000000000000 := by omega
          have hsync := Hdk2.out.sync.save he1
          have hokf := Hk2.out.kept Hdk2.out he1
          have esg : MSeg.segs (ms ++ [⟨⟨f, 0, []⟩, .slice none 0 0, []⟩]) = MSeg.segs ms ++ [⟨f, 0, []⟩] := by simp [MSeg.segs]
          refine ⟨0, rfl, hk3, .inl ⟨rfl, ?_⟩⟩
          rw [← Hnm.out]
          refine ⟨⟨_, _, _, _, _, _, hturn, ?_, hsync, by omega, Hlow2.out⟩, Henv.out.kept (K := K) hk3 hkn hkp, hkn, hkp, ⟨hsz1, hsz2⟩, by omega⟩
          rw [esg]; exact hokf
  · obtain ⟨m, hm⟩ : ∃ m, m + 1 = N := ⟨N - 1, by omega⟩
    obtain ⟨b, off, lv, rfl, hsok, f0, f1, f2, f3, hlv⟩ := Hc.out m (by rw [← HNl.out]; omega)
    have hnx : nm = ((MSeg.segs ms)[m]'(by rw [← HNl.out]; omega)).n + 1 := by rw [Hnm.out]; exact nextN_of (by rw [hm]; exact HNl.out)
    generalize ((MSeg.segs ms)[m]'(by rw [← HNl.out]; omega)).n = ln at *
    have n0 : (0 : Int) < (N : Int) := by omega
    have n2 : IntKind.i64.wrap ((N : Int) - 1) = (m : Int) := by rw [IntWalk.i64_in _ (by omega)]; omega
    have n3 : (m : Int) < (N : Int) := by omega
    have n4 : IntKind.i64.wrap ((ln : Int) + 1) = (nm : Int) := by rw [IntWalk.i64_in _ (by omega)]; omega
    have Hm := Lib.hid hm
    clear hnx hm hsok hlv f0 f1 f3
    go_enter Tryz.func37, Tryz.ntmps37
    go_upto_region 5 with fail
    go_upto_region 6 with (first | (go_at_call 8; refine (HN.out _ (Below.refl _ _)).mono ?_; rintro e w1 ⟨rfl, hb1⟩) | fail)
    have d0 := bcell hb1 c0
    have d1 := bcell hb1 c1
    have hb1d := hb1.drew
    refine wp_region_held_drew (S := (fun w' => w'.cell? ⟨L, 0, none⟩ = some (.pointer (some ⟨X, 0, none⟩)) ∧ w'.cell? ⟨L, 1, none⟩ = some (.int .i64 (sz : Int)))) (by kernel_rfl) (by exact ⟨d0, d1⟩) (fun hHeld => ?_)
    refine' takeL (v := _) 0 rfl (by kernel_rfl) (by kernel_rfl) (by kernel_rfl) (fun _ _ _ h => h) (by rfl) ?_ (by assumption) ?_; rotate_left 1; (focus (intro w hSw; (try dsimp only at hSw); go_simp; (try with_reducible rfl); done))
    (try simp only [Act.put, List.setIfInBounds_toArray, List.set_cons_zero, List.set_cons_succ])
    refine' takeL (v := _) 1 rfl (by kernel_rfl) (by kernel_rfl) (by kernel_rfl) (fun _ _ _ h => h) (by rfl) ?_ (by assumption) ?_; rotate_left 1; (focus (intro w hSw; (try dsimp only at hSw); go_simp; (try with_reducible rfl); done))
    (try simp only [Act.put, List.setIfInBounds_toArray, List.set_cons_zero, List.set_cons_succ])
    refine' takeL (v := _) 2 rfl (by kernel_rfl) (by kernel_rfl) (by kernel_rfl) (fun _ _ _ h => h) (by rfl) ?_ (by assumption) ?_; rotate_left 1; (focus (intro w hSw; (try dsimp only at hSw); go_simp; (try with_reducible rfl); done))
    (try simp only [Act.put, List.setIfInBounds_toArray, List.set_cons_zero, List.set_cons_succ])
    refine' takeL (v := _) 3 rfl (by kernel_rfl) (by kernel_rfl) (by kernel_rfl) (fun _ _ _ h => h) (by rfl) ?_ (by assumption) ?_; rotate_left 1; (focus (intro w hSw; (try dsimp only at hSw); go_simp; (try with_reducible rfl); done))
    (try simp only [Act.put, List.setIfInBounds_toArray, List.set_cons_zero, List.set_cons_succ])
    refine' takeL (v := _) 4 rfl (by kernel_rfl) (by kernel_rfl) (by kernel_rfl) (fun _ _ _ h => h) (by rfl) ?_ (by assumption) ?_; rotate_left 1; (focus (intro w hSw; (try dsimp only at hSw); go_simp; (try with_reducible rfl); done))
    (try simp only [Act.put, List.setIfInBounds_toArray, List.set_cons_zero, List.set_cons_succ])
    refine' takeL (v := _) 5 rfl (by kernel_rfl) (by kernel_rfl) (by kernel_rfl) (fun _ _ _ h => h) (by rfl) ?_ (by assumption) ?_; rotate_left 1; (focus (intro w hSw; (try dsimp only at hSw); go_simp; (try with_reducible rfl); done))
    (try simp only [Act.put, List.setIfInBounds_toArray, List.set_cons_zero, List.set_cons_succ])
    refine' takeL (v := _) 6 rfl (by kernel_rfl) (by kernel_rfl) (by kernel_rfl) (fun _ _ _ h => h) (by rfl) ?_ (by assumption) ?_; rotate_left 1; (focus (intro w hSw; (try dsimp only at hSw); go_simp; (try with_reducible rfl); done))
    (try simp only [Act.put, List.setIfInBounds_toArray, List.set_cons_zero, List.set_cons_succ])
    refine' takeL (v := _) 7 rfl (by kernel_rfl) (by kernel_rfl) (by kernel_rfl) (fun _ _ _ h => h) (by rfl) ?_ (by assumption) ?_; rotate_left 1; (focus (intro w hSw; (try dsimp only at hSw); go_simp; (try with_reducible rfl); done))
    (try simp only [Act.put, List.setIfInBounds_toArray, List.set_cons_zero, List.set_cons_succ])
    refine' takeL (v := _) 8 rfl (by kernel_rfl) (by kernel_rfl) (by kernel_rfl) (fun _ _ _ h => h) (by rfl) ?_ (by assumption) ?_; rotate_left 1; (focus (intro w hSw; (try dsimp only at hSw); go_simp; (try with_reducible rfl); done))
    (try simp only [Act.put, List.setIfInBounds_toArray, List.set_cons_zero, List.set_cons_succ])
    refine stepL 9 rfl (by kernel_rfl) (fun K hK => ?_)
    go_simp
    go_at_call 70
    refine (HMk.out _ hb1d).mono ?_
    rintro e w3 ⟨x, r, rfl, hx0, hms3, hd3, hk3, hmE⟩
    have hk03 := (kept_of_below hb1d hlt).trans hk3
    have e0 := (hk03.cell (p := ⟨L, 0, none⟩) (.inr hkl)).trans c0
    have e1 := (hk03.cell (p := ⟨L, 1, none⟩) (.inr hkl)).trans c1
    have e2 := (hk03.cell (p := ⟨L, 2, none⟩) (.inr hkl)).trans c2N
    have hx13 := hmE Hgood.out (by omega) Hfresh.out
    have Hx0 := Lib.hid hx0
    have Hms3 := Lib.hid hms3
    have Hd3 := Lib.hid hd3
    clear hmE hx0 hms3 hd3 HN HMk
    refine hK.out _ _ (by exact ⟨e0, e1⟩) (fun hHeld => ?_)
    clear hK K
    (try simp only [Act.put, List.setIfInBounds_toArray, List.set_cons_zero, List.set_cons_succ])
    refine' takeL (v := _) 10 rfl (by kernel_rfl) (by kernel_rfl) (by kernel_rfl) (fun _ _ _ h => h) (by rfl) ?_ (by assumption) ?_; rotate_left 1; (focus (intro w hSw; (try dsimp only at hSw); go_simp; (try with_reducible rfl); done))
    (try simp only [Act.put, List.setIfInBounds_toArray, List.set_cons_zero, List.set_cons_succ])
    refine wpAnyH_done (by kernel_rfl) ?_ _
    cases r with
    | none =>
      have hxn : ¬ x = 0 := fun e => by have := Hx0.out.1 e; cases this
      have Hx13 := Lib.hid hx13
      clear hx13
      go_wp2_with fail
      go_ret
      have hd3 : DirAt w3 (fun k => K k ∨ KL k) X D n safe cur false now now epoch which := Hd3.out
      refine ⟨x, rfl, hk03.less (fun k hk => .inl hk), .inr ⟨?_, fun h2 => ?_, ⟨⟨KL, safe, cur, now, epoch, which, Hx.out.go hd3 hk03, Hok.out, Hdok.out, hep, HM.out⟩, Henv.out.kept hk03 (.inl hkn) (.inl hkp), hkn, hkp, ⟨hsz1, hsz2⟩, hlow⟩⟩⟩
      · rcases Hx13.out with h1 | h1
        · exact absurd h1 hxn
        · exact h1
      · refine make_full hlow HM.out Hgood.out Hfresh.out (by omega) Hms3.out ⟨h2.1, ?_⟩
        rw [Hok.out.len, Hlms.out]; exact h2.2
    | some ex =>
      have hxz : x = 0 := Hx0.out.2 rfl
      subst hxz
      clear hx13
      have hms3' : MakeS now now n (nameS (nextN (MSeg.segs ms))) (sz : Int) (some ex) := by have h1 := Hms3.out; rw [HnmS.out, Hnm.out] at h1; exact h1
      obtain ⟨q2, hw2, hok2⟩ := Hok.out.add Hdok.out hms3' (Hf.out.imp (fun h => by rw [h]; rfl) id) (by rw [← Hnm.out]; exact hn) hf2 (by omega)
      rw [← Hnm.out, ← HnmS.out] at hw2 hok2
      have hlow2 := make_low hlow HM.out Hms3.out
      have hdok1 := Hdok.out.make Hms3.out
      have hdok2 := hdok1.write name 0 (headS f)
      have hin := hdok1.gnow.in_
      have hd3 := Hd3.out
      generalize makeNow now name (some ex) = now1 at *
      generalize makeCur cur (some ex) = cur1 at *
      rw [hw2] at hdok2
      have hx3 := Hx.out.go hd3 hk03
      have henv3 := Henv.out.kept hk03 (.inl hkn) (.inl hkp)
      have hlt3 := hx3.lt
      have Hx3 := Lib.hid hx3
      have Hw2 := Lib.hid hw2
      have Hok2 := Lib.hid hok2
      have Hdok1 := Lib.hid hdok1
      have Hdok2 := Lib.hid hdok2
      have Hlow2 := Lib.hid hlow2
      have Hin := Lib.hid hin
      clear hms3' hd3 hx3 hw2 hok2 hdok1 hdok2 hlow2 hin
      go_upto_region 10 with (first
        | (go_at_call 71; refine (hnumc _).mono ?_; rintro e w4 ⟨v4, rfl, hown4, hb4⟩; have hpadc := padded_any v4 (numS f) w4 (hown4.at (by omega)) (henv3.nib.below hb4) (by omega))
        | (go_at_call 35; refine hpadc.mono ?_; rintro e w5 ⟨v5, rfl, hown5, hb5⟩)
        | fail)
      rw [← Hhead.out] at hown5
      obtain ⟨q5, cap5, rfl, hc5, -⟩ := hown5.len
      have hb35 := below_trans hb4 hb5
      have hs4 := hb4.size
      have hs5 := hb5.size
      have hlt5 := World.ownsRow.lt hown5
      have hdir5 : DirAt w5 (fun k => (K k ∨ KL k) ∨ w3.heap.size ≤ k ∧ k < w5.heap.size) X D n safe cur1 false now1 now epoch which := (Hx3.out.dir.more (K' := fun k => (K k ∨ KL k) ∨ w3.heap.size ≤ k ∧ k < w5.heap.size) fun k hk h2 => h2.elim id fun h3 => by omega).below hb35
      have hK5 : ∀ k, ((K k ∨ KL k) ∨ w3.heap.size ≤ k ∧ k < w5.heap.size) → k < w5.heap.size := fun k hk => hk.elim (fun h1 => by have := hlt3 k h1; omega) fun h1 => h1.2
      have hwrite := dwrite_any w5 _ X D n safe cur1 now1 now epoch which hdir5 hK5 Hin.out name 0 (by omega) (.slice q5 (headS f).length cap5) (headS f) ⟨hown5.at (by rw [Hhl.out]; omega), fun q' n' c' e' a ha => by
        simp only [Value.slice.injEq] at e'
        obtain ⟨rfl, -, -⟩ := e'
        subst ha
        have := hlt5 a.block rfl
        exact .inr ⟨by omega, this.2⟩⟩
      rw [Hw2.out] at hwrite
      have g0 := bcell hb35 e0
      have g2 := bcell hb35 e2
      have Hwr := Lib.hid hwrite
      clear hwrite hdir5 hown4 hpadc hnumc
      go_upto_region 11 with (first
        | (go_at_call 38; refine Hwr.out.mono ?_; rintro e w6 ⟨x6, rfl, hx6, hd6, hk6⟩)
        | fail)
      have hx60 : x6 = 0 := hx6.2 rfl
      subst hx60
      have e6 : wrCur cur1 (some q2) (headS f) = splice cur1 q2 (headS f) := rfl
      rw [e6] at hd6
      have hdok2 := Hdok2.out
      rw [e6] at hdok2
      have hok2 := Hok2.out
      have hx3b := (Hx3.out.below hb35).go (hd6.more (K' := fun k => K k ∨ KL k) fun k _ h => .inl h) (hk6.less fun k hk => .inl hk)
      have hk36 := (kept_of_below hb35 hlt3).trans (hk6.less (K' := fun k => K k ∨ KL k) fun k hk => .inl hk)
      generalize splice cur1 q2 (headS f) = cur2 at *
      have henv6 := henv3.kept hk36 (.inl hkn) (.inl hkp)
      have k0 := (hk36.cell (p := ⟨L, 0, none⟩) (.inr hkl)).trans e0
      have Hdk2 := Lib.hid hdok2
      have Hk2 := Lib.hid hok2
      have Hx6 := Lib.hid hx3b
      have hs36 := hk36.size
      clear hd6 hdok2 hok2 hx3b hx6 e6 Hwr Hdok2 Hok2 hlt5 hK5
      refine wp_region_held_drew (S := (fun w' => w'.cell? ⟨L, 0, none⟩ = some (.pointer (some ⟨X, 0, none⟩)))) (by kernel_rfl) (by exact k0) (fun hHeld => ?_)
      refine' takeL (v := _) 0 rfl (by kernel_rfl) (by kernel_rfl) (by kernel_rfl) (fun _ _ _ h => h) (by rfl) ?_ (by assumption) ?_; rotate_left 1; (focus (intro w hSw; (try dsimp only at hSw); go_simp; (try with_reducible rfl); done))
      (try simp only [Act.put, List.setIfInBounds_toArray, List.set_cons_zero, List.set_cons_succ])
      refine' takeL (v := _) 1 rfl (by kernel_rfl) (by kernel_rfl) (by kernel_rfl) (fun _ _ _ h => h) (by rfl) ?_ (by assumption) ?_; rotate_left 1; (focus (intro w hSw; (try dsimp only at hSw); go_simp; (try with_reducible rfl); done))
      (try simp only [Act.put, List.setIfInBounds_toArray, List.set_cons_zero, List.set_cons_succ])
      refine' takeL (v := _) 2 rfl (by kernel_rfl) (by kernel_rfl) (by kernel_rfl) (fun _ _ _ h => h) (by rfl) ?_ (by assumption) ?_; rotate_left 1; (focus (intro w hSw; (try dsimp only at hSw); go_simp; (try with_reducible rfl); done))
      (try simp only [Act.put, List.setIfInBounds_toArray, List.set_cons_zero, List.set_cons_succ])
      refine' takeL (v := _) 3 rfl (by kernel_rfl) (by kernel_rfl) (by kernel_rfl) (fun _ _ _ h => h) (by rfl) ?_ (by assumption) ?_; rotate_left 1; (focus (intro w hSw; (try dsimp only at hSw); go_simp; (try with_reducible rfl); done))
      (try simp only [Act.put, List.setIfInBounds_toArray, List.set_cons_zero, List.set_cons_succ])
      refine' takeL (v := _) 4 rfl (by kernel_rfl) (by kernel_rfl) (by kernel_rfl) (fun _ _ _ h => h) (by rfl) ?_ (by assumption) ?_; rotate_left 1; (focus (intro w hSw; (try dsimp only at hSw); go_simp; (try with_reducible rfl); done))
      (try simp only [Act.put, List.setIfInBounds_toArray, List.set_cons_zero, List.set_cons_succ])
      refine' takeL (v := _) 5 rfl (by kernel_rfl) (by kernel_rfl) (by kernel_rfl) (fun _ _ _ h => h) (by rfl) ?_ (by assumption) ?_; rotate_left 1; (focus (intro w hSw; (try dsimp only at hSw); go_simp; (try with_reducible rfl); done))
      (try simp only [Act.put, List.setIfInBounds_toArray, List.set_cons_zero, List.set_cons_succ])
      refine' takeL (v := _) 6 rfl (by kernel_rfl) (by kernel_rfl) (by kernel_rfl) (fun _ _ _ h => h) (by rfl) ?_ (by assumption) ?_; rotate_left 1; (focus (intro w hSw; (try dsimp only at hSw); go_simp; (try with_reducible rfl); done))
      (try simp only [Act.put, List.setIfInBounds_toArray, List.set_cons_zero, List.set_cons_succ])
      refine' takeL (v := _) 7 rfl (by kernel_rfl) (by kernel_rfl) (by kernel_rfl) (fun _ _ _ h => h) (by rfl) ?_ (by assumption) ?_; rotate_left 1; (focus (intro w hSw; (try dsimp only at hSw); go_simp; (try with_reducible rfl); done))
      (try simp only [Act.put, List.setIfInBounds_toArray, List.set_cons_zero, List.set_cons_succ])
      refine' takeL (v := _) 8 rfl (by kernel_rfl) (by kernel_rfl) (by kernel_rfl) (fun _ _ _ h => h) (by rfl) ?_ (by assumption) ?_; rotate_left 1; (focus (intro w hSw; (try dsimp only at hSw); go_simp; (try with_reducible rfl); done))
      (try simp only [Act.put, List.setIfInBounds_toArray, List.set_cons_zero, List.set_cons_succ])
      refine' takeL (v := _) 9 rfl (by kernel_rfl) (by kernel_rfl) (by kernel_rfl) (fun _ _ _ h => h) (by rfl) ?_ (by assumption) ?_; rotate_left 1; (focus (intro w hSw; (try dsimp only at hSw); go_simp; (try with_reducible rfl); done))
      (try simp only [Act.put, List.setIfInBounds_toArray, List.set_cons_zero, List.set_cons_succ])
      refine' takeL (v := _) 10 rfl (by kernel_rfl) (by kernel_rfl) (by kernel_rfl) (fun _ _ _ h => h) (by rfl) ?_ (by assumption) ?_; rotate_left 1; (focus (intro w hSw; (try dsimp only at hSw); go_simp; (try with_reducible rfl); done))
      (try simp only [Act.put, List.setIfInBounds_toArray, List.set_cons_zero, List.set_cons_succ])
      refine' takeL (v := _) 11 rfl (by kernel_rfl) (by kernel_rfl) (by kernel_rfl) (fun _ _ _ h => h) (by rfl) ?_ (by assumption) ?_; rotate_left 1; (focus (intro w hSw; (try dsimp only at hSw); go_simp; (try with_reducible rfl); done))
      (try simp only [Act.put, List.setIfInBounds_toArray, List.set_cons_zero, List.set_cons_succ])
      refine wpAnyH_done (by kernel_rfl) ?_ _
      have a0 := fun W => arr0 (.func (.func 39) #[.pointer (some ⟨X, 0, none⟩)] #[]) (.func (.func 47) #[.pointer (some ⟨X, 0, none⟩)] #[]) W
      have a1 := fun W => arr1 (.func (.func 39) #[.pointer (some ⟨X, 0, none⟩)] #[]) (.func (.func 47) #[.pointer (some ⟨X, 0, none⟩)] #[]) W
      go_upto_region 12 with fail
      go_loopw [10, 67] (fun e i wr => ∃ k : Nat, k ≤ 2 ∧ e = .int .i64 0 ∧ i = .int .i64 k ∧ AddR w6 K KL base L X D n sz safe cur2 now1 now epoch which ms k wr) (fun _ i _ => 2 - (intOf i).toNat)
      case atStart => exact ⟨0, by omega, rfl, rfl, (Kept.refl _ _).drew, Hx6.out.below (Below.refl _ _).drew⟩
      case round =>
        obtain ⟨k, hk, rfl, rfl, hR⟩ := hrel
        rcases (by omega : k = 0 ∨ k = 1 ∨ k = 2) with rfl | rfl | rfl
        · have hsy := addR_sync hR
          clear hR
          go_wp2_with (first | (go_at_call 39; refine hsy.mono ?_; rintro e w7 ⟨rfl, hR7⟩) | fail)
          go_roundw
          case rel => exact ⟨1, by omega, rfl, rfl, hR7⟩
          case measure => simp [intOf]
        · have hsa := addR_save hR henv6 hkn Hdk2.out (by omega)
          clear hR
          go_wp2_with (first | (go_at_call 47; refine hsa.mono ?_; rintro e w7 ⟨rfl, hR7⟩) | fail)
          go_roundw
          case rel => exact ⟨2, by omega, rfl, rfl, hR7⟩
          case measure => simp [intOf]
        · obtain ⟨hkr, hxr⟩ := hR
          replace hxr : LogX wr K KL base L X D n sz (saveS cur2 which epoch now1) (saveS cur2 which epoch now1) now1 now1 (epoch + 1) (1 - which) ms := hxr
          obtain ⟨sv, hblk, hown, hsk⟩ := hxr.mem.ex
          obtain ⟨qs, cs, hqs⟩ := own_slice hown.row
          rw [List.length_map] at hqs
          subst hqs
          have r2 : wr.cell? ⟨L, 2, none⟩ = some (.slice qs ms.length cs) := by rw [block_cell hblk]; rfl
          have hownb : ∀ o, (wr.alloc o).ownsRow base 72 4 (.slice qs ms.length cs) ms.length (ms.map MSeg.cells).flatten := fun o => by
            have h1 := (hown.below (below_new wr o)).row
            rwa [List.length_map] at h1
          have hgrow : ∀ o w9, (wr.alloc o).grownBy w9 (Value.slice qs ms.length cs).ownBlock → w9.heap[L]? = some (.cells #[.pointer (some ⟨X, 0, none⟩), .int .i64 (sz : Int), .slice qs ms.length cs] 32 (0, 0)) := fun o w9 hg => by
            have hne := owns_ne hown.row hblk tSegLog
            have hl := heap_lt hblk
            exact (hg.block L (by simp; omega) (fun e => hne e.symm)).trans (((below_new wr o).block L hl).trans hblk)
          have Hgrow := Lib.hid hgrow
          have Hownb := Lib.hid hownb
          have Hblk := Lib.hid hblk
          have Hxr := Lib.hid hxr
          have hbs := hxr.base
          have hml : ms.length ≤ 100000 := Hms.out
          have Hsrc := Lib.hid (src_seg wr f (headS f).length nm none 0 0)
          clear hown hownb hblk hxr a0 a1 hgrow
          go_wp2_with (first
            | (at_builtin; refine wpList_app (v := .slice qs ms.length cs) rfl _ _ 30 30 rfl base 72 4 48 segElt Tryz.underlying30 _ _ rfl (Hownb.out _) rfl 1 _ Hsrc.out (by unfold maxLen; omega) (by omega) (Nat.le_trans hbs (by simp)) ?_; intro v9 w9 hown9 hg9 hv9; obtain ⟨q9, c9, hq9⟩ := own_slice hown9; subst hq9; have hL9 := Hgrow.out _ w9 hg9; have z2 : w9.cell? ⟨L, 2, none⟩ = some (.slice qs ms.length cs) := (by rw [block_cell hL9]; rfl); have zf := block_free hL9 2)
            | fail)
          go_ret
          have eb : bytesS ⟨f, nm, []⟩ = headS f := by simp [bytesS]
          obtain ⟨hpm, hpu⟩ := Hxr.out.mem.push (s := ⟨f, nm, []⟩) (w1 := wr.alloc (.cells #[.int .i64 (f : Int), .int .i64 ((headS f).length : Int), .int .i64 ((nm : Nat) : Int), .slice none 0 0] 72)) (v' := .slice q9 (ms.length + 1) c9) Hxr.out.ltL hbs rfl Hblk.out (below_new _ _)
            (by unfold MSeg.cells; rw [eb]; exact hown9) hg9 hv9
          have hs9 := hg9.size
          have hsn : wr.heap.size ≤ w9.heap.size := by simp at hs9; omega
          have hturn := Hxr.out.turn (w' := w9.setCell ⟨L, 2, none⟩ (.slice q9 (ms.length + 1) c9)) (by simpa using hsn) hpu hpm (fun k hk => .inl hk) (fun k hk h2 => h2.elim id fun h3 => by omega) (fun k hk => by
            rcases hk with h1 | h1
            · have := Hxr.out.ltL k h1; simp; omega
            · simp; omega)
          have hkK : Kept K wr (w9.setCell ⟨L, 2, none⟩ (.slice q9 (ms.length + 1) c9)) :=
            ((kept_of_below (below_new wr _) Hxr.out.ltK).grown hg9 (fun k hk => by have := Hxr.out.ltK k hk; simp; omega) (fun k hk h2 => Hxr.out.apart k (hsk k hk) h2)).setCell (p := ⟨L, 2, none⟩) (Hxr.out.apart L hkl) _
          have hk3 := (hk03.less (K' := K) fun k hk => .inl hk).trans ((hk36.less (K' := K) fun k hk => .inl hk).trans ((hkr.less (K' := K) fun k hk => .inl hk).trans hkK))
          have he1 : epoch ≤ 1000000000000 := by omega
          have hsync := Hdk2.out.sync.save he1
          have hokf := Hk2.out.kept Hdk2.out he1
          have esg : MSeg.segs (ms ++ [⟨⟨f, nm, []⟩, .slice none 0 0, []⟩]) = MSeg.segs ms ++ [⟨f, nm, []⟩] := by simp [MSeg.segs]
          refine ⟨0, rfl, hk3, .inl ⟨rfl, ?_⟩⟩
          rw [← Hnm.out]
          refine ⟨⟨_, _, _, _, _, _, hturn, ?_, hsync, by omega, Hlow2.out⟩, Henv.out.kept (K := K) hk3 hkn hkp, hkn, hkp, ⟨hsz1, hsz2⟩, by omega⟩
          rw [esg]; exact hokf
end Go.Proofs.YtlhefifejcoecaaGreatDoor
