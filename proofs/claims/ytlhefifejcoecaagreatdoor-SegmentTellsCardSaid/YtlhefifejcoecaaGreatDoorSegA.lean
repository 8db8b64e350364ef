/- A segment's name and what it leans on: the listed variables; strconv.Itoa, strings.Repeat off the shelf. -/
import Derived.Test.YtlhefifejcoecaaGreatDoorSegP
import Derived.Test.YtlhefifejcoecaaGreatDoorSg
import Derived.Test.YtlhefifejcoecaaGreatDoorJSum
namespace Go.Proofs.YtlhefifejcoecaaGreatDoor
open Go.RowKit Go.Proofs Go.Shelf
attribute [local go_sem ↓] Go.wp_at_zero Go.wp_at_succ

def PowT (w : World) : Prop := Lib.TabIs Tryz.prog w "internal/strconv.uint64pow10" .u64 Lib.pow10Tab
/-- The variables that the laws list. -/
structure Env (w : World) : Prop where
  nib : Nib w
  pow : PowT w

theorem pow_named : (Tryz.prog).globalNamed "internal/strconv.uint64pow10" = some 0 := by kernel_rfl
theorem PowT.block {w w' : World} (h : PowT w) (hb : w'.heap[(0 : Nat)]? = w.heap[(0 : Nat)]?) : PowT w' := by
  unfold PowT Lib.TabIs World.var? at *
  rw [pow_named] at *
  simp only [Option.bind_some] at *
  rw [hb]; exact h
theorem PowT.lt {w : World} (h : PowT w) : 0 < w.heap.size := by
  unfold PowT Lib.TabIs World.var? at h
  rw [pow_named] at h
  simp only [Option.bind_some] at h
  rcases Nat.lt_or_ge 0 w.heap.size with h1 | h1
  · exact h1
  · rw [Array.getElem?_eq_none h1] at h; cases h
theorem PowT.below {w w' : World} (h : PowT w) (hb : Below w.heap.size w w') : PowT w' := h.block (hb.block _ h.lt)
theorem Env.below {w w' : World} (h : Env w) (hb : Below w.heap.size w w') : Env w' := ⟨h.nib.below hb, h.pow.below hb⟩

theorem below_grown {w w' : World} (h : ∃ k os, w' = Sort.grow (w.drewN k) os) : Below w.heap.size w w' := by
  obtain ⟨k, os, rfl⟩ := h
  refine ⟨rfl, rfl, rfl, ?_, fun b hb => ?_⟩
  · simp [Sort.grow]
  · show ((w.drewN k).heap ++ os)[b]? = _
    have e : (w.drewN k).heap = w.heap := by simp
    rw [e, Array.getElem?_append_left hb]

theorem itoa_any (u : Nat) (hu : u ≤ 999999) (w : World) (h : PowT w) : Calls Tryz.prog 27 #[.int .i64 (u : Int)] w (Gives w (.string ⟨(Lib.decDigits u).toArray⟩)) := by
  have e : Tryz.laysItoa_ren.f 171 = 27 := by kernel_rfl
  have h1 := Any.strconv_Itoa Tryz.laysItoa (u : Int) (by omega) (by omega) w h
  rw [e] at h1
  refine h1.mono fun e w' ⟨he, hw⟩ => ⟨?_, below_grown hw⟩
  rw [he, Lib.itoa_nonneg]

theorem repExtra : Builder.Extra Tryz.prog Tryz.laysRepeat_ren where
  sizeBuilder := by kernel_rfl
  liesBuilder := by kernel_rfl
  t5 := Tryz.laysRepeat.t5
  a5 := Tryz.laysRepeat.a5
  z5 := Tryz.laysRepeat.z5
  v5 := Tryz.laysRepeat.v5
  infoByte := by kernel_rfl
  cellsByte := by kernel_rfl
  sizeByte := by kernel_rfl
  neB5 := by decide

theorem repeat_any (c : Nat) (hc : c ≤ 6) (w : World) : Calls Tryz.prog 28 #[.string ⟨#[48]⟩, .int .i64 (c : Int)] w (Gives w (.string ⟨(Lib.repeatL [48] c).toArray⟩)) := by
  have e : Tryz.laysRepeat_ren.f 105 = 28 := by kernel_rfl
  have h1 := Any.strings_Repeat Tryz.laysRepeat repExtra ⟨#[48]⟩ c w (by omega) (by show 1 * c ≤ _; omega)
  rw [e] at h1
  exact h1.mono fun e w' ⟨he, hw⟩ => ⟨he, hw⟩

set_option maxRecDepth 100000 in
theorem name_ok (u : Nat) (hu : u ≤ 999999) (w : World) (h : Env w) : Calls Tryz.prog 8 #[.int .i64 (u : Int)] w (Gives w (.string (nameS u))) := by
  have hito := itoa_any u hu w h.pow
  have hl := dec_len hu
  have hpad := pad_dec hu
  have hrep := fun W => repeat_any (6 - (Lib.decDigits u).length) (by omega) W
  have h0 : (0 : Int) ≤ (u : Int) := by omega
  have h1 : (u : Int) ≤ 999999 := by omega
  have hw : IntKind.i64.wrap (6 - ((Lib.decDigits u).length : Int)) = ((6 - (Lib.decDigits u).length : Nat) : Int) := by rw [IntWalk.i64_in _ (by omega)]; omega
  generalize Lib.decDigits u = ds at *
  have hrl : (Lib.repeatL [48] (6 - ds.length)).length ≤ 6 := by rw [Lib.repeatL_length]; simp
  generalize Lib.repeatL [48] (6 - ds.length) = rs at *
  have k1 : ¬ 9223372036854775807 < 1 + rs.length := by omega
  have Hpad := Lib.hid hpad
  clear hpad h
  go_enter Tryz.func8, Tryz.ntmps8
  go_upto_region 4 with (first | (go_at_call 27; refine hito.mono ?_; rintro e w1 ⟨rfl, hb1⟩) | fail)
  go_wp2_with (first | (go_at_call 28; refine (hrep _).mono ?_; rintro e w2 ⟨rfl, hb2⟩) | fail)
  go_ret
  refine ⟨?_, below_trans hb1 hb2⟩
  have e : (({ data := #[115] } : ByteArray) ++ { data := rs.toArray } ++ { data := ds.toArray }) = nameS u := by
    apply ByteArray.ext
    unfold nameS nameL
    rw [← Hpad.out]
    simp
  rw [e]; rfl

set_option maxRecDepth 100000 in
theorem name_bad (n : Int) (hn : n < 0 ∨ 999999 < n) (w : World) : Calls Tryz.prog 8 #[.int .i64 n] w (Gives w (.string ⟨#[]⟩)) := by
  by_cases h0 : n < 0
  · go_enter Tryz.func8, Tryz.ntmps8
    go_wp2_with fail
    go_ret
    exact ⟨rfl, Below.refl _ _⟩
  · have h1 : 999999 < n := by omega
    go_enter Tryz.func8, Tryz.ntmps8
    go_wp2_with fail
    go_ret
    exact ⟨rfl, Below.refl _ _⟩
end Go.Proofs.YtlhefifejcoecaaGreatDoor
