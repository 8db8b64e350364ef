/- Arguments that are slices of structs that hold slices: what reads as such is so. -/
import Derived.Test.YtlhefifejcoecaaGreatDoorJB
import Derived.Deep.Slices
import Derived.Deep.Fields
import Derived.ChangeSame
import Derived.ProofKit
import Derived.WalkKit
namespace Go.Proofs.YtlhefifejcoecaaGreatDoor
open Go.RowKit Go.Proofs Go.ChangeShapes Go.WideShapes Go.Deep

/-- Whatever reads as a type's is so. -/
def Opens {H : Type} (enc : TypeId × Value → H) (P : Program) (w : World) (base : Nat) (spare : Nat → Bool) (held : Bool) (t : TypeId) {α : Type} (E : World → List Value → α → Prop) : Prop :=
  ∀ (fuel : Nat) (cs : List Value) (x : DataW H × List MemPlace), DataW.trod enc P w base spare held fuel t cs = some x → ∃ a : α, E w cs a

section
variable {H : Type} {enc : TypeId × Value → H} {P : Program} {w : World} {base : Nat} {spare : Nat → Bool} {held : Bool}

theorem cell_spot (w : World) (b off q : Nat) : w.cell? ⟨b, off, some q⟩ = none := by
  unfold World.cell?
  cases w.heap[b]? with
  | none => rfl
  | some o => cases o <;> rfl

/-- A slice in one cell. -/
def SlE {α : Type} (k : Nat) (E : World → List Value → α → Prop) (w : World) (cs : List Value) (l : List α) : Prop := ∃ v, cs = [v] ∧ SlP k E w v l

theorem opens_slice {α : Type} {E : World → List Value → α → Prop} {t e : TypeId} {k : Nat} (ht : P.underlying t = some (.slice e)) (hk : P.cellsOf e = k) (hk0 : 0 < k) (he : Opens enc P w base spare held e E) : Opens enc P w base spare held t (SlE k E) := by
  intro fuel cs x h
  rcases open_slice ht h with ⟨rfl, -⟩ | ⟨a, len, cap, m, n, D, Pl, rfl, hb, hl, hm, hmm, -, hi⟩
  · exact ⟨[], _, rfl, none, 0, rfl, by simp, by simp, fun _ => rfl, fun j hj => by simp at hj⟩
  · have hlm : len ≤ m := by rw [hmm]; split <;> omega
    have hch : ∀ j : Fin len, ∃ (cs' : List Value) (y : α), cs'.length = k ∧ E w cs' y ∧ (∀ i, i < k → w.cell? (a.add (j * k + i)) = cs'[i]?) := fun j => by
      obtain ⟨cs', hc, ht'⟩ := hi j (by omega)
      obtain ⟨_, hcl, hat⟩ := World.cells?_some hc
      rw [hk] at hcl hat
      obtain ⟨y, hy⟩ := he _ _ _ ht'
      exact ⟨cs', y, hcl, hy, fun i hik => by rw [← add_add]; exact hat i hik⟩
    have hlen : cap ≤ 9223372036854775807 := by have h := hm; simp only [maxLen] at h; omega
    refine ⟨List.ofFn fun j => (hch j).choose_spec.choose, _, rfl, some a, cap, by simp, by simpa using hl, by simp; omega, fun h => by simp at h, fun j hj => ?_⟩
    have hj' : j < len := by simpa using hj
    obtain ⟨h1, h2, h3⟩ := (hch ⟨j, hj'⟩).choose_spec.choose_spec
    have hsp : a = ⟨a.block, a.off, none⟩ := by
      obtain ⟨b, off, sp⟩ := a
      cases sp with
      | none => rfl
      | some q =>
        exfalso
        obtain ⟨cs0, y0, g1, -, g3⟩ := hch ⟨0, by omega⟩
        have h4 := g3 0 hk0
        simp only [Nat.zero_mul, Nat.add_zero] at h4
        rw [List.getElem?_eq_getElem (by rw [g1]; exact hk0)] at h4
        change w.cell? ⟨b, off, some q⟩ = _ at h4
        rw [cell_spot] at h4
        cases h4
    refine ⟨a.block, a.off, (hch ⟨j, hj'⟩).choose, by rw [← hsp], h1, ?_, fun i hi' => ?_⟩
    · simp only [List.getElem_ofFn]; exact h2
    · have h5 := h3 i (by omega)
      rw [List.getElem?_eq_getElem hi'] at h5
      rw [← h5]
      simp only
      have e : a.add (j * k + i) = ⟨a.block, a.off + j * k + i, none⟩ := by
        rw [hsp, Addr.add_lit, Nat.add_assoc]
      rw [e]
end

section
variable {H : Type} {enc : TypeId × Value → H} {w : World} {base : Nat} {spare : Nat → Bool} {held : Bool}

theorem maxLen_nat : maxLen ≤ 9223372036854775807 := by decide +kernel
theorem one_string : Tryz.prog.cellsOf 9 = 1 := by kernel_rfl
theorem one_int : Tryz.prog.cellsOf 3 = 1 := by kernel_rfl
theorem cells_u8 : Tryz.prog.cellsOf 5 = 1 := by kernel_rfl
theorem one_bytes : Tryz.prog.cellsOf 25 = 1 := by kernel_rfl
theorem one_ints : Tryz.prog.cellsOf 26 = 1 := by kernel_rfl

theorem some_of {α : Type} {xs : List α} {n i : Nat} (h : xs.length = n) (hi : i < n) {o : Option α} (ho : o = xs[i]?) : ∃ y, o = some y := ⟨xs[i], by rw [ho, List.getElem?_eq_getElem (by omega)]⟩

theorem wf_I64 {n : Int} (h : (Lit.int .i64 n).wf = true) : I64 n := by
  have e1 : IntKind.i64.min = -9223372036854775808 := by decide
  have e2 : IntKind.i64.max = 9223372036854775807 := by decide
  unfold I64
  simp only [Lit.wf, decide_eq_true_eq, Bool.and_eq_true, e1, e2] at h
  omega

theorem wf_u8 {n : Int} (h : (Lit.int .u8 n).wf = true) : 0 ≤ n ∧ n ≤ 255 := by
  have e1 : IntKind.u8.min = 0 := by decide
  have e2 : IntKind.u8.max = 255 := by decide
  simp only [Lit.wf, decide_eq_true_eq, Bool.and_eq_true, e1, e2] at h
  omega
end

end Go.Proofs.YtlhefifejcoecaaGreatDoor
