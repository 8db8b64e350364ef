/- Package pack: numbers, texts and truths behind bytes. -/
import Derived.Test.YtlhefifejcoecaaGreatDoorApp
import Derived.Shelf.Abstract
namespace Go.Proofs.YtlhefifejcoecaaGreatDoor
open Go.RowKit Go.Proofs Go.Shelf

def u8 (b : UInt8) : Value := .int .u8 b.toNat
def ByteE (_ : World) (cs : List Value) (b : UInt8) : Prop := cs = [u8 b]
theorem ByteE.mono : Mono ByteE := ⟨fun _ h => h⟩
/-- Bytes of the call's own. -/
def OwnB (w : World) (base : Nat) (v : Value) (bs : List UInt8) : Prop := w.ownsRow base 5 1 v bs.length (bs.map u8)
/-- A call hands back new bytes. -/
def OutB (w : World) (bs : List UInt8) (e : Ending) (w' : World) : Prop := ∃ v, e = .returned v ∧ OwnB w' w.heap.size v bs ∧ Below w.heap.size w w'

theorem u8_size : (Tryz.prog.info? 5).map (·.size) = some 1 := by kernel_rfl

theorem byteElt : Elt Tryz.prog 5 1 1 := by
  have h : (Tryz.prog.info? 5).map (fun i => (i.zero, i.size, i.bytes)) = some (some (.int .u8 0), 1, 1) := by kernel_rfl
  obtain ⟨i0, hi, hz0, hz1, hz2⟩ := info_parts h
  exact ⟨⟨i0, _, hi, hz0, hz1, hz2, rfl⟩, by decide⟩

theorem OwnB.len {w : World} {base : Nat} {v : Value} {bs : List UInt8} (h : OwnB w base v bs) : ∃ p cap, v = .slice p bs.length cap ∧ bs.length ≤ cap ∧ (p = none → cap = 0) := by
  rcases h.2 with ⟨rfl, hn⟩ | ⟨g, cap, cur, rfl, _, _, hc, _⟩
  · exact ⟨none, 0, by rw [hn], by omega, fun _ => rfl⟩
  · exact ⟨_, cap, rfl, hc, fun h => by simp at h⟩

theorem OwnB.at {w : World} {base : Nat} {v : Value} {bs : List UInt8} (h : OwnB w base v bs) (hl : bs.length ≤ 9223372036854775807) : SlP 1 ByteE w v bs := by
  rcases h.2 with ⟨rfl, hn⟩ | ⟨g, cap, cur, rfl, hb, hg, hc, hm, hs, ht⟩
  · exact ⟨none, 0, by rw [hn], by omega, hl, fun _ => rfl, fun j hj => by omega⟩
  · refine ⟨_, cap, rfl, hc, hl, fun h => by simp at h, fun j hj => ⟨g, 0, [u8 bs[j]], rfl, rfl, rfl, fun i hi => ?_⟩⟩
    have hi0 : i = 0 := by simpa using hi
    subst hi0
    have := h.cells (g := g) rfl j (u8 bs[j]) (by simp [hj])
    simpa [Addr.add_lit] using this

theorem OwnB.mono {w w' : World} {base : Nat} {v : Value} {bs : List UInt8} (hb : Below w.heap.size w w') (h : OwnB w base v bs) : OwnB w' base v bs := by
  refine h.kept (row := none) ⟨hb.os, hb.tape, hb.output, hb.size, fun k hk _ => hb.block k hk⟩ ?_
  cases hv : v.ownBlock with
  | none => exact .inl rfl
  | some k => exact .inr (by simp)

theorem OwnB.base {w : World} {base base' : Nat} {v : Value} {bs : List UInt8} (h : OwnB w base v bs) (hle : base' ≤ base) : OwnB w base' v bs := by
  refine ⟨h.1, ?_⟩
  rcases h.2 with h | ⟨g, cap, cur, h1, h2, h3⟩
  · exact .inl h
  · exact .inr ⟨g, cap, cur, h1, by omega, h3⟩

/-- What an append yields of bytes that lie anywhere. -/
theorem src_bytes {P : Program} {tx e' : TypeId} (hk : P.underlying tx = some (.slice e')) {w : World} {v : Value} {bs : List UInt8} (h : SlP 1 ByteE w v bs) : Src P 1 tx v bs.length (bs.map u8) w := by
  obtain ⟨p, cap, rfl, hc, hl, h0, hcells⟩ := h
  cases p with
  | none =>
    have hc0 := h0 rfl
    have : bs = [] := List.eq_nil_of_length_eq_zero (by omega)
    subst this
    exact Src.ofNil w hk cap
  | some a =>
    refine Src.ofSlice w hk a _ cap _ (by simp) (fun j u hu => ?_) (fun u hu => ?_)
    · have hj : j < bs.length := by
        rcases Nat.lt_or_ge j bs.length with h | h
        · exact h
        · rw [List.getElem?_eq_none (by simpa using h)] at hu; cases hu
      obtain ⟨b, off, cs, hp, hk1, he, hcell⟩ := hcells j hj
      simp only [Option.some.injEq] at hp
      subst hp
      have he' : cs = [u8 bs[j]] := he
      subst he'
      have := hcell 0 (by simp)
      simp only [Nat.mul_one, Nat.add_zero, List.getElem_cons_zero] at this
      rw [Addr.add_lit, this]
      simpa [hj] using hu
    · obtain ⟨b, _, rfl⟩ := List.mem_map.1 hu
      rfl

/-- slices.Clone -/
theorem clone_bytes (v : Value) (bs : List UInt8) (w : World) (hv : SlP 1 ByteE w v bs) (hl9 : bs.length ≤ 100000000000) : Calls Tryz.prog 34 #[v] w (OutB w bs) := by
  have hsrc := src_bytes (P := Tryz.prog) Tryz.underlying25 (hv.mono ByteE.mono (below_new w (.cells #[] 5)))
  have hown := World.ownsRow_lit (base := w.heap.size) (e := 5) (size := 1) w #[] 0 (Nat.le_refl _) (by decide) (by decide)
  have hq := fun (w : World) (a : Option Addr) (n c : Nat) => Lib.run_eql_slice_nil (P := Tryz.prog) w 25 5 a n c 0 0 Tryz.underlying25
  obtain ⟨p, cap, rfl, hc, hl, h0, hcells⟩ := hv
  cases p with
  | none =>
    have hc0 := h0 rfl
    subst hc0
    have : bs = [] := List.eq_nil_of_length_eq_zero (by omega)
    subst this
    clear hsrc hown hcells h0
    go_enter Tryz.func34, Tryz.ntmps34
    go_wp2_with fail
    go_ret
    exact ⟨_, rfl, World.ownsRow_nil _ _ _ _, Below.refl _ _⟩
  | some a =>
    clear hcells h0
    go_enter Tryz.func34, Tryz.ntmps34
    go_wp2_with (at_builtin; refine wpList_app (v := .slice (some ⟨w.heap.size, 0, none⟩) 0 0) rfl _ _ 25 25 rfl w.heap.size 5 1 1 byteElt Tryz.underlying25 0 [] rfl hown rfl _ _ hsrc (by unfold maxLen; omega) (by omega) (by simp) ?_; intro v' w1 hown1 hg1 _)
    go_ret
    refine ⟨_, rfl, ?_, grown_below (below_new _ _) hg1 (by simp) (by simp [Value.ownBlock])⟩
    unfold OwnB
    simpa using hown1

/-- A number's bytes, the greatest first, without noughts ahead. -/
def be : Nat → Nat → List UInt8
  | 0, _ => []
  | f + 1, n => if n = 0 then [] else be f (n / 256) ++ [UInt8.ofNat (n % 256)]

def numS (n : Nat) : List UInt8 := if n < 248 then [UInt8.ofNat n] else UInt8.ofNat (247 + (be 8 n).length) :: be 8 n

def digit (n t : Nat) : Nat := n / 256 ^ t % 256

theorem be_len : ∀ (f n k : Nat), k ≤ f → n / 256 ^ k = 0 → (k = 0 ∨ n / 256 ^ (k - 1) ≠ 0) → be f n = (List.range k).reverse.map fun t => UInt8.ofNat (digit n t)
  | 0, n, k, hk, h0, h1 => by
    have : k = 0 := by omega
    subst this; rfl
  | f + 1, n, k, hk, h0, h1 => by
    cases k with
    | zero =>
      have : n = 0 := by simpa using h0
      subst this; simp [be]
    | succ k =>
      have hn : n ≠ 0 := by
        rintro rfl
        rcases h1 with h1 | h1
        · omega
        · simp at h1
      have hd : ∀ t, n / 256 / 256 ^ t = n / 256 ^ (t + 1) := fun t => by rw [Nat.div_div_eq_div_mul, Nat.pow_succ, Nat.mul_comm]
      have ih := be_len f (n / 256) k (by omega) (by rw [hd]; exact h0) (by
        cases k with
        | zero => exact .inl rfl
        | succ k => right; rw [Nat.add_sub_cancel, hd]; rcases h1 with h1 | h1; (· omega); simpa using h1)
      simp only [be, if_neg hn, ih]
      rw [List.range_succ_eq_map, List.reverse_cons, List.map_append]
      congr 1
      · rw [← List.map_reverse, List.map_map]
        refine List.map_congr_left fun t _ => ?_
        simp only [Function.comp, digit, hd]
      · simp [digit]

theorem be_fits {n : Nat} (h : n < 18446744073709551616) : ∃ k, k ≤ 8 ∧ n / 256 ^ k = 0 ∧ (k = 0 ∨ n / 256 ^ (k - 1) ≠ 0) := by
  have key : ∀ j, n / 256 ^ j = 0 → ∃ k, k ≤ j ∧ n / 256 ^ k = 0 ∧ (k = 0 ∨ n / 256 ^ (k - 1) ≠ 0) := by
    intro j
    induction j with
    | zero => intro h; exact ⟨0, Nat.le_refl _, h, .inl rfl⟩
    | succ j ih =>
      intro h
      by_cases hj : n / 256 ^ j = 0
      · obtain ⟨k, h1, h2, h3⟩ := ih hj
        exact ⟨k, by omega, h2, h3⟩
      · exact ⟨j + 1, Nat.le_refl _, h, .inr hj⟩
  exact key 8 (Nat.div_eq_of_lt (by simpa using h))

end Go.Proofs.YtlhefifejcoecaaGreatDoor
