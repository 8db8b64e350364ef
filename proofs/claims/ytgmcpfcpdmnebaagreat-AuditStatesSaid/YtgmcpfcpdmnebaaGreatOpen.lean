/- Arguments opened: slices of structs that hold slices. -/
import Derived.Test.YtgmcpfcpdmnebaaGreatB2
import Derived.Deep.Slices
import Derived.Deep.Fields
import Derived.ChangeSame
import Derived.ProofKit
import Derived.WalkKit
namespace Go.Proofs.YtgmcpfcpdmnebaaGreat
open Go.RowKit Go.Proofs Go.ChangeShapes Go.WideShapes Go.Deep

/-- Whatever reads as a type's is so. -/
def Opens {H : Type} (enc : TypeId × Value → H) (P : Program) (w : World) (base : Nat) (spare : Nat → Bool) (held : Bool) (t : TypeId) {α : Type} (E : World → List Value → α → Prop) : Prop :=
  ∀ (fuel : Nat) (cs : List Value) (x : DataW H × List MemPlace), DataW.trod enc P w base spare held fuel t cs = some x → ∃ a : α, E w cs a

section
variable {H : Type} {enc : TypeId × Value → H} {P : Program} {w : World} {base : Nat} {spare : Nat → Bool} {held : Bool}

theorem cell_spot (w : World) (b off q : Nat) : w.cell? ⟨b, off, some q⟩ = none := by
  unfold World.cell?
  cases w.heap[b]? with
  | none => rfl
  | some o => cases o <;> rfl

/-- A slice in one cell. -/
def SlE {α : Type} (k : Nat) (E : World → List Value → α → Prop) (w : World) (cs : List Value) (l : List α) : Prop := ∃ v, cs = [v] ∧ SlP k E w v l

theorem opens_slice {α : Type} {E : World → List Value → α → Prop} {t e : TypeId} {k : Nat} (ht : P.underlying t = some (.slice e)) (hk : P.cellsOf e = k) (hk0 : 0 < k) (he : Opens enc P w base spare held e E) : Opens enc P w base spare held t (SlE k E) := by
  intro fuel cs x h
  rcases open_slice ht h with ⟨rfl, -⟩ | ⟨a, len, cap, m, n, D, Pl, rfl, hb, hl, hm, hmm, -, hi⟩
  · exact ⟨[], _, rfl, none, 0, rfl, by simp, by simp, fun _ => rfl, fun j hj => by simp at hj⟩
  · have hlm : len ≤ m := by rw [hmm]; split <;> omega
    have hch : ∀ j : Fin len, ∃ (cs' : List Value) (y : α), cs'.length = k ∧ E w cs' y ∧ (∀ i, i < k → w.cell? (a.add (j * k + i)) = cs'[i]?) := fun j => by
      obtain ⟨cs', hc, ht'⟩ := hi j (by omega)
      obtain ⟨_, hcl, hat⟩ := World.cells?_some hc
      rw [hk] at hcl hat
      obtain ⟨y, hy⟩ := he _ _ _ ht'
      exact ⟨cs', y, hcl, hy, fun i hik => by rw [← add_add]; exact hat i hik⟩
    have hlen : cap ≤ 9223372036854775807 := by have h := hm; simp only [maxLen] at h; omega
    refine ⟨List.ofFn fun j => (hch j).choose_spec.choose, _, rfl, some a, cap, by simp, by simpa using hl, by simp; omega, fun h => by simp at h, fun j hj => ?_⟩
    have hj' : j < len := by simpa using hj
    obtain ⟨h1, h2, h3⟩ := (hch ⟨j, hj'⟩).choose_spec.choose_spec
    have hsp : a = ⟨a.block, a.off, none⟩ := by
      obtain ⟨b, off, sp⟩ := a
      cases sp with
      | none => rfl
      | some q =>
        exfalso
        obtain ⟨cs0, y0, g1, -, g3⟩ := hch ⟨0, by omega⟩
        have h4 := g3 0 hk0
        simp only [Nat.zero_mul, Nat.add_zero] at h4
        rw [List.getElem?_eq_getElem (by rw [g1]; exact hk0)] at h4
        change w.cell? ⟨b, off, some q⟩ = _ at h4
        rw [cell_spot] at h4
        cases h4
    refine ⟨a.block, a.off, (hch ⟨j, hj'⟩).choose, by rw [← hsp], h1, ?_, fun i hi' => ?_⟩
    · simp only [List.getElem_ofFn]; exact h2
    · have h5 := h3 i (by omega)
      rw [List.getElem?_eq_getElem hi'] at h5
      rw [← h5]
      simp only
      have e : a.add (j * k + i) = ⟨a.block, a.off + j * k + i, none⟩ := by
        rw [hsp, Addr.add_lit, Nat.add_assoc]
      rw [e]
end

section
variable {H : Type} {enc : TypeId × Value → H} {w : World} {base : Nat} {spare : Nat → Bool} {held : Bool}

theorem maxLen_nat : maxLen ≤ 9223372036854775807 := by decide +kernel

theorem one_string : Tryz.prog.cellsOf 9 = 1 := by kernel_rfl
theorem one_bool : Tryz.prog.cellsOf 4 = 1 := by kernel_rfl
theorem one_int : Tryz.prog.cellsOf 3 = 1 := by kernel_rfl
theorem one_pairs : Tryz.prog.cellsOf 26 = 1 := by kernel_rfl
theorem one_reads : Tryz.prog.cellsOf 30 = 1 := by kernel_rfl
theorem three_pair : Tryz.prog.cellsOf 35 = 3 := by kernel_rfl
theorem four_read : Tryz.prog.cellsOf 37 = 4 := by kernel_rfl
theorem five_record : Tryz.prog.cellsOf 32 = 5 := by kernel_rfl

theorem some_of {α : Type} {xs : List α} {n i : Nat} (h : xs.length = n) (hi : i < n) {o : Option α} (ho : o = xs[i]?) : ∃ y, o = some y := ⟨xs[i], by rw [ho, List.getElem?_eq_getElem (by omega)]⟩

theorem wf_I64 {n : Int} (h : (Lit.int .i64 n).wf = true) : I64 n := by
  have e1 : IntKind.i64.min = -9223372036854775808 := by decide
  have e2 : IntKind.i64.max = 9223372036854775807 := by decide
  unfold I64
  simp only [Lit.wf, decide_eq_true_eq, Bool.and_eq_true, e1, e2] at h
  omega

set_option maxRecDepth 100000 in
theorem opens_pair : Opens enc Tryz.prog w base spare held 35 PairE := by
  intro fuel cs x h
  obtain ⟨xs, n, -, -, hlen, hxl, hg⟩ := DataW.trod_struct Tryz.underlying35 h
  rw [three_pair] at hlen
  match cs, hlen with
  | [c0, c1, c2], _ =>
    have h0 := hg 0 _ rfl
    have h1 := hg 1 _ rfl
    have h2 := hg 2 _ rfl
    simp only [List.getElem_toArray, List.getElem_cons_zero, List.getElem_cons_succ, one_string, one_bool] at h0 h1 h2
    obtain ⟨y0, h0⟩ := some_of hxl (by decide) h0
    obtain ⟨y1, h1⟩ := some_of hxl (by decide) h1
    obtain ⟨y2, h2⟩ := some_of hxl (by decide) h2
    obtain ⟨s0, e0, -, l0⟩ := DataW.trod_string Tryz.underlying9 h0
    obtain ⟨s1, e1, -, l1⟩ := DataW.trod_string Tryz.underlying9 h1
    obtain ⟨b2, e2, -⟩ := DataW.trod_bool Tryz.underlying4 h2
    cases e0; cases e1; cases e2
    exact ⟨⟨s0, s1, b2⟩, rfl, Nat.le_trans l0 maxLen_nat, Nat.le_trans l1 maxLen_nat⟩

set_option maxRecDepth 100000 in
theorem opens_read : Opens enc Tryz.prog w base spare held 37 RdE := by
  intro fuel cs x h
  obtain ⟨xs, n, -, -, hlen, hxl, hg⟩ := DataW.trod_struct Tryz.underlying37 h
  rw [four_read] at hlen
  match cs, hlen with
  | [c0, c1, c2, c3], _ =>
    have h0 := hg 0 _ rfl
    have h1 := hg 1 _ rfl
    have h2 := hg 2 _ rfl
    have h3 := hg 3 _ rfl
    simp only [List.getElem_toArray, List.getElem_cons_zero, List.getElem_cons_succ, one_string, one_bool, one_pairs] at h0 h1 h2 h3
    obtain ⟨y0, h0⟩ := some_of hxl (by decide) h0
    obtain ⟨y1, h1⟩ := some_of hxl (by decide) h1
    obtain ⟨y2, h2⟩ := some_of hxl (by decide) h2
    obtain ⟨y3, h3⟩ := some_of hxl (by decide) h3
    obtain ⟨b0, e0, -⟩ := DataW.trod_bool Tryz.underlying4 h0
    obtain ⟨s1, e1, -, l1⟩ := DataW.trod_string Tryz.underlying9 h1
    obtain ⟨s2, e2, -, l2⟩ := DataW.trod_string Tryz.underlying9 h2
    obtain ⟨ps, pv, e3, hps⟩ := opens_slice (k := 3) Tryz.underlying26 three_pair (by decide) opens_pair _ _ _ h3
    cases e0; cases e1; cases e2; cases e3
    exact ⟨⟨b0, s1, s2, ps⟩, _, rfl, Nat.le_trans l1 maxLen_nat, Nat.le_trans l2 maxLen_nat, hps⟩

set_option maxRecDepth 100000 in
theorem opens_record : Opens enc Tryz.prog w base spare held 32 RecE := by
  intro fuel cs x h
  obtain ⟨xs, n, -, -, hlen, hxl, hg⟩ := DataW.trod_struct Tryz.underlying32 h
  rw [five_record] at hlen
  match cs, hlen with
  | [c0, c1, c2, c3, c4], _ =>
    have h0 := hg 0 _ rfl
    have h1 := hg 1 _ rfl
    have h2 := hg 2 _ rfl
    have h3 := hg 3 _ rfl
    have h4 := hg 4 _ rfl
    simp only [List.getElem_toArray, List.getElem_cons_zero, List.getElem_cons_succ, one_int, one_bool, one_pairs, one_reads] at h0 h1 h2 h3 h4
    obtain ⟨y0, h0⟩ := some_of hxl (by decide) h0
    obtain ⟨y1, h1⟩ := some_of hxl (by decide) h1
    obtain ⟨y2, h2⟩ := some_of hxl (by decide) h2
    obtain ⟨y3, h3⟩ := some_of hxl (by decide) h3
    obtain ⟨y4, h4⟩ := some_of hxl (by decide) h4
    obtain ⟨n0, e0, -, w0⟩ := DataW.trod_int Tryz.underlying3 h0
    obtain ⟨n1, e1, -, w1⟩ := DataW.trod_int Tryz.underlying3 h1
    obtain ⟨b2, e2, -⟩ := DataW.trod_bool Tryz.underlying4 h2
    obtain ⟨rs, rv, e3, hrs⟩ := opens_slice (k := 4) Tryz.underlying30 four_read (by decide) opens_read _ _ _ h3
    obtain ⟨ps, pv, e4, hps⟩ := opens_slice (k := 3) Tryz.underlying26 three_pair (by decide) opens_pair _ _ _ h4
    cases e0; cases e1; cases e2; cases e3; cases e4
    exact ⟨⟨n0, n1, b2, rs, ps⟩, _, _, rfl, wf_I64 w0, wf_I64 w1, hrs, hps⟩

theorem opens_records : Opens enc Tryz.prog w base spare held 22 (SlE 5 RecE) := opens_slice Tryz.underlying22 five_record (by decide) opens_record
end

end Go.Proofs.YtgmcpfcpdmnebaaGreat
