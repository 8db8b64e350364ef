/- The directory's laws: acts as they are read; the listed variable. -/
import Derived.Test.YtnpnchociegmpaaDoorDirSv
import Derived.Test.YtnpnchociegmpaaDoorOpenG
import Derived.Test.YtnpnchociegmpaaDoorRows
import Derived.WalkKit
import Derived.ProofKit
import Derived.OpenShut
import Derived.ShutString
import Derived.ChangeOld
import Derived.Carry
import Derived.LaidMore
import Derived.Stop.Joined
namespace Go.Proofs.YtnpnchociegmpaaDoor
open Go.RowKit Go.Proofs Go.ChangeShapes Go.WideShapes Go.ChangeAt Go.Deep

section
variable {H : Type} {enc : TypeId × Value → H} {w : World} {base : Nat} {spare : Nat → Bool} {held : Bool}

theorem opens_byte : Opens enc Tryd.prog w base spare held 5 ByteE := by
  intro fuel cs x h
  obtain ⟨n, rfl, -, hw⟩ := DataW.trod_int Tryd.underlying5 h
  obtain ⟨h1, h2⟩ := wf_u8 hw
  refine ⟨UInt8.ofNat n.toNat, ?_⟩
  unfold ByteE u8
  rw [ofNat_toNat (by omega)]
  congr 2
  omega

theorem opens_int : Opens enc Tryd.prog w base spare held 3 IntE := by
  intro fuel cs x h
  obtain ⟨n, rfl, -, hw⟩ := DataW.trod_int Tryd.underlying3 h
  exact ⟨n, rfl⟩

theorem six_act : Tryd.prog.cellsOf 35 = 6 := by kernel_rfl

set_option maxRecDepth 100000 in
theorem opens_act : Opens enc Tryd.prog w base spare held 35 ActE := by
  intro fuel cs x h
  obtain ⟨xs, n, -, -, hlen, hxl, hg⟩ := DataW.trod_struct Tryd.underlying35 h
  rw [six_act] at hlen
  match cs, hlen with
  | [c0, c1, c2, c3, c4, c5], _ =>
    have h0 := hg 0 _ rfl
    have h1 := hg 1 _ rfl
    have h2 := hg 2 _ rfl
    have h3 := hg 3 _ rfl
    have h4 := hg 4 _ rfl
    have h5 := hg 5 _ rfl
    simp only [List.getElem_toArray, List.getElem_cons_zero, List.getElem_cons_succ, one_int, one_string, one_bytes, one_ints] at h0 h1 h2 h3 h4 h5
    obtain ⟨y0, h0⟩ := some_of hxl (by decide) h0
    obtain ⟨y1, h1⟩ := some_of hxl (by decide) h1
    obtain ⟨y2, h2⟩ := some_of hxl (by decide) h2
    obtain ⟨y3, h3⟩ := some_of hxl (by decide) h3
    obtain ⟨y4, h4⟩ := some_of hxl (by decide) h4
    obtain ⟨y5, h5⟩ := some_of hxl (by decide) h5
    obtain ⟨n0, e0, -, w0⟩ := DataW.trod_int Tryd.underlying3 h0
    obtain ⟨n1, e1, -, w1⟩ := DataW.trod_int Tryd.underlying3 h1
    obtain ⟨n2, e2, -, w2⟩ := DataW.trod_int Tryd.underlying3 h2
    obtain ⟨s3, e3, -, l3⟩ := DataW.trod_string Tryd.underlying9 h3
    obtain ⟨bs, bv, e4, hbs⟩ := opens_slice (k := 1) Tryd.underlying32 cells_u8 (by decide) opens_byte _ _ _ h4
    obtain ⟨ks, kv, e5, hks⟩ := opens_slice (k := 1) Tryd.underlying33 one_int (by decide) opens_int _ _ _ h5
    cases e0; cases e1; cases e2; cases e3; cases e4; cases e5
    exact ⟨⟨n0, n1, n2, s3, bs, ks⟩, _, _, rfl, wf_I64 w0, wf_I64 w1, wf_I64 w2, Nat.le_trans l3 maxLen_nat, hbs, hks⟩

theorem opens_acts : Opens enc Tryd.prog w base spare held 22 (SlE 6 ActE) := opens_slice Tryd.underlying22 six_act (by decide) opens_act
end

theorem law_own : ownKnob Tryd.prog.godebug = none := by kernel_rfl
theorem law_laid : laidOutB Tryd.prog = true := by kernel_rfl
theorem gNib : Tryd.prog.globalNamed "indenture/sum.nibbles" = some 0 := by kernel_rfl
theorem tNib : (Tryd.prog.globals[0]?).map (·.type) = some 118 := by kernel_rfl
theorem one_u32 : Tryd.prog.cellsOf 108 = 1 := by kernel_rfl

def laidN : List (String × DataW Unit) := [("indenture/sum.nibbles", Rows.laid_indenture_sum_nibbles)]

theorem nibs_datum {H : Type} : (Rows.laid_indenture_sum_nibbles : DataW H) = .agg (nibs.map fun (n : Nat) => DataW.lit (.int .u32 (n : Int))) := rfl

/-- The door's own heap meets the condition. -/
theorem door_met (os : Os) (args : Array Value) : laidMetH Tryd.prog laidN ((World.doorLaid Tryd.prog 14 os).forCall (fun _ _ => 0) ⟨#[], args, []⟩).memory :=
  laidMetH_of_parts3 (fuel := 8) (laidMet_of_run' 8 (by kernel_rfl) (by kernel_rfl)) (by kernel_rfl) (by kernel_rfl)

/-- What the condition gives the walks. -/
theorem nib_of_laid {W : World} (h : laidMetH Tryd.prog laidN W) : Nib W := by
  rw [MakeChecks.laidMetH_plain _ _ _ (by kernel_rfl)] at h
  obtain ⟨ps, ⟨g0, t0, cs0, f0, p0, q0, hg0, ht0, hv0, hd0, _, _⟩, _, _⟩ := h
  obtain rfl := Option.some.inj (gNib.symm.trans hg0)
  obtain rfl := Option.some.inj (tNib.symm.trans ht0)
  obtain ⟨xs, m1, rfl, hx1, hlen, hn, hel⟩ := DataW.trod_array Tryd.underlying118 hd0
  simp only [Prod.mk.injEq] at hx1
  have hx2 := hx1.1
  rw [nibs_datum] at hx2
  simp only [DataW.agg.injEq] at hx2
  intro j hj
  have h0 := hel j hj
  obtain ⟨y, hy⟩ := some_of hn hj h0
  have hxy : xs[j]? = some y := h0.symm.trans hy
  obtain ⟨k, e1, e2, -⟩ := DataW.trod_int Tryd.underlying108 hy
  have hk : (k : Int) = ((nibs.getD j 0 : Nat) : Int) := by
    have h3 := congrArg (fun l => l[j]?) hx2
    simp only [List.getElem?_map, hxy, Option.map_some] at h3
    have hj2 : j < nibs.length := hj
    rw [List.getElem?_eq_getElem hj2, Option.map_some, e2] at h3
    simp only [Option.some.injEq, DataW.lit.injEq, Lit.int.injEq, true_and] at h3
    rw [List.getD_eq_getElem?_getD, List.getElem?_eq_getElem hj2]
    simpa using h3.symm
  rw [one_u32, Nat.mul_one] at e1
  have hcell := World.var?_cell hg0 hv0 j
  rw [hcell]
  have h4 := congrArg (fun l => l[0]?) e1
  simp only [List.getElem?_take, List.getElem?_drop] at h4
  simp at h4
  rw [← hk]
  simpa using h4

end Go.Proofs.YtnpnchociegmpaaDoor
