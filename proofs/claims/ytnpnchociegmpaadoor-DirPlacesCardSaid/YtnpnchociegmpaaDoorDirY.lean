/- The directory's laws: acts, light; a write from memory. -/
import Derived.Test.YtnpnchociegmpaaDoorDirX
namespace Go.Proofs.YtnpnchociegmpaaDoor
open Go.RowKit Go.Proofs Go.Shelf
attribute [local go_sem ↓] Go.wp_at_zero Go.wp_at_succ

/-- An act. -/
structure Act24 where
  kind : Int
  at_ : Int
  n : Int
  name : ByteArray
  b : List UInt8
  keep : List Int

def IntE (_ : World) (cs : List Value) (x : Int) : Prop := cs = [.int .i64 x]
theorem IntE.mono : Mono IntE := ⟨fun _ h => h⟩
def ActE (w : World) (cs : List Value) (a : Act24) : Prop := ∃ bv kv, cs = [.int .i64 a.kind, .int .i64 a.at_, .int .i64 a.n, .string a.name, bv, kv] ∧ I64 a.kind ∧ I64 a.at_ ∧ I64 a.n ∧ a.name.size ≤ 9223372036854775807 ∧ SlP 1 ByteE w bv a.b ∧ SlP 1 IntE w kv a.keep
theorem ActE.mono : Mono ActE := ⟨fun hb ⟨bv, kv, h, h1, h2, h3, h4, h5, h6⟩ => ⟨bv, kv, h, h1, h2, h3, h4, h5.mono ByteE.mono hb, h6.mono IntE.mono hb⟩⟩

theorem int_len {w : World} {v : Value} {l : List Int} (h : SlP 1 IntE w v l) : ∃ q cap, v = .slice q l.length cap := by
  obtain ⟨q, cap, rfl, -⟩ := h
  exact ⟨q, cap, rfl⟩

def LightOut (k : Nat) (w : World) (e : Ending) (w' : World) : Prop := ∃ r, e = .returned (.bool r) ∧ (r = true → k ≤ 50) ∧ Below w.heap.size w w'

set_option maxRecDepth 100000 in
set_option maxHeartbeats 2000000 in
theorem light_any (v : Value) (l : List Act24) (w : World) (hv : SlP 6 ActE w v l) : Calls Tryd.prog 9 #[v] w (LightOut l.length w) := by
  obtain ⟨q, cap, rfl, hlc, hcap, -, hcells⟩ := hv
  by_cases h50 : (50 : Int) < (l.length : Int)
  · clear hcells
    go_enter Tryd.func9, Tryd.ntmps9
    go_wp2_with fail
    go_ret
    exact ⟨_, rfl, by simp, Below.refl _ _⟩
  · have Hc := Lib.hid hcells
    clear hcells
    go_enter Tryd.func9, Tryd.ntmps9
    go_wp2_with fail
    go_loopw [12, 3, 5] (fun i nv _ wr => ∃ (k : Nat) (m : Int), k ≤ l.length ∧ i = .int .i64 k ∧ nv = .int .i64 m ∧ 0 ≤ m ∧ m ≤ 400 ∧ Below w.heap.size w wr) (fun i _ _ _ => l.length - (intOf i).toNat)
    case atStart => exact ⟨0, l.length, Nat.zero_le _, rfl, rfl, by omega, by omega, Below.refl _ _⟩
    case round =>
      obtain ⟨k, m, hk, rfl, rfl, hm0, hm1, hb⟩ := hrel
      by_cases hlt : k < l.length
      · obtain ⟨b, off, cs, rfl, hcs, he, hc⟩ := Hc.out k hlt
        obtain ⟨bv, kv, rfl, -, -, -, hnm, hbv, hkv⟩ := he
        obtain ⟨qb, cb, rfl, hbl⟩ := bytes_len hbv
        obtain ⟨qk, ck, rfl⟩ := int_len hkv
        have c0 := bcell hb (hc 0 (by simp))
        have c1 := bcell hb (hc 1 (by simp))
        have c2 := bcell hb (hc 2 (by simp))
        have c3 := bcell hb (hc 3 (by simp))
        have c4 := bcell hb (hc 4 (by simp))
        have c5 := bcell hb (hc 5 (by simp))
        simp only [List.getElem_cons_zero, List.getElem_cons_succ, Nat.add_zero] at c0 c1 c2 c3 c4 c5
        have n0 : (0 : Int) ≤ (k : Int) := by omega
        have n1 : (k : Int) < (l.length : Int) := by omega
        clear hc hbv hkv hcs
        generalize l[k] = a at *
        obtain ⟨kd, at_, n, nm, bs, ks⟩ := a
        dsimp only at *
        obtain ⟨lb, hlb⟩ : ∃ lb, lb = bs.length := ⟨_, rfl⟩
        obtain ⟨lk, hlk⟩ : ∃ lk, lk = ks.length := ⟨_, rfl⟩
        rw [← hlb] at hbl c4
        rw [← hlk] at c5
        clear hlb hlk
        go_upto_region 7 with fail
        generalize hW2 : World.alloc wr _ = w2
        have hb2 : Below wr.heap.size wr w2 := by rw [← hW2]; exact below_new _ _
        have f3 : w2.cell? ⟨wr.heap.size, 3, none⟩ = some (.string nm) := by rw [← hW2]; simp
        have f4 : w2.cell? ⟨wr.heap.size, 4, none⟩ = some (.slice qb lb cb) := by rw [← hW2]; simp
        have f5 : w2.cell? ⟨wr.heap.size, 5, none⟩ = some (.slice qk lk ck) := by rw [← hW2]; simp
        clear hW2 c0 c1 c2 c3 c4 c5
        have hbw := below_trans hb hb2
        by_cases h1 : (300 : Int) < (lb : Int)
        · go_wp2_with fail
          go_ret
          exact ⟨_, rfl, by simp, hbw⟩
        · by_cases h2 : (60 : Int) < (lk : Int)
          · go_wp2_with fail
            go_ret
            exact ⟨_, rfl, by simp, hbw⟩
          · by_cases h3 : (100 : Int) < (nm.size : Int)
            · go_wp2_with fail
              go_ret
              exact ⟨_, rfl, by simp, hbw⟩
            · obtain ⟨ad, had⟩ : ∃ ad : Nat, ad = lb / 16 := ⟨_, rfl⟩
              have e0 : (lb : Int) / 16 = (ad : Int) := by omega
              have had2 : ad ≤ 18 := by omega
              have hlb2 : lb ≤ 300 := by omega
              clear had hbl
              have e1 : IntKind.i64.wrap (m + (ad : Int)) = m + (ad : Int) := IntWalk.i64_in _ (by omega)
              by_cases h4 : (400 : Int) < m + (ad : Int)
              · go_wp2_with fail
                go_ret
                exact ⟨_, rfl, by simp, hbw⟩
              · go_wp2_with fail
                go_roundw
                case rel => exact ⟨k + 1, m + ad, hlt, by go_num, rfl, by omega, by omega, hbw⟩
                case measure => simp [intOf]; omega
      · have hke : k = l.length := by omega
        subst hke
        go_wp2_with fail
        go_ret
        exact ⟨_, rfl, fun _ => by omega, hb⟩

/-- Bytes that lie in kept memory (or none). -/
def SrcE (K : Nat → Prop) (w : World) (v : Value) (bs : List UInt8) : Prop := SlP 1 ByteE w v bs ∧ (0 < bs.length → ∀ q n c, v = .slice q n c → ∀ a, q = some a → K a.block)

theorem SrcE.of {w : World} {v : Value} {bs : List UInt8} (h : SlP 1 ByteE w v bs) : SrcE (fun k => k < w.heap.size) w v bs := by
  refine ⟨h, fun h0 q n c e a ha => ?_⟩
  obtain ⟨q', cap, rfl, -, -, -, h3⟩ := h
  obtain ⟨b, off, cs, rfl, hcs, -, hc⟩ := h3 0 h0
  cases e
  simp only [Option.some.injEq] at ha
  subst ha
  exact World.block_lt_of_cell? _ _ (hc 0 (by omega))

theorem SrcE.kept {K : Nat → Prop} {w w' : World} {v : Value} {bs : List UInt8} (h : SrcE K w v bs) (hk : Kept K w w') : SrcE K w' v bs := by
  refine ⟨?_, h.2⟩
  obtain ⟨⟨q, cap, rfl, h1, h2, h0, h3⟩, hK⟩ := h
  refine ⟨q, cap, rfl, h1, h2, h0, fun j hj => ?_⟩
  obtain ⟨b, o, cs, rfl, hk2, he, hc⟩ := h3 j hj
  exact ⟨b, o, cs, rfl, hk2, he, fun i hi => (hk.cell (p := ⟨b, o + j * 1 + i, none⟩) (show K b from hK (by omega) _ _ _ rfl _ rfl)).trans (hc i hi)⟩

set_option maxRecDepth 100000 in
set_option maxHeartbeats 2000000 in
theorem write_nil (w : World) (K : Nat → Prop) (D n : Nat) (safe cur : List UInt8) (h : DiskAt w K D n safe cur false) (a : Nat) (q : Option Addr) (cap : Nat) (hin : a ≤ 32 * n) :
    Calls Tryd.prog 31 #[.pointer (some ⟨D, 0, none⟩), .int .i64 a, .slice q 0 cap] w (Gives w (.int .i64 0)) := by
  have hmay := fun W hb => may_any W K D n safe cur false (h.below (w' := W) hb)
  have hsize := fun W hb => size_any W K D n safe cur false (h.below (w' := W) hb)
  obtain ⟨-, hcl, hn1, hn2⟩ := h.lens
  simp only [Bool.false_eq_true, if_false] at hmay
  clear h
  have n0 : (0 : Int) ≤ (a : Int) := by omega
  have n1 : ¬ ((32 * n : Nat) : Int) < (a : Int) := by omega
  have n3 : IntKind.i64.wrap (((32 * n : Nat) : Int) - (a : Int)) = ((32 * n - a : Nat) : Int) := by rw [IntWalk.i64_in _ (by omega)]; omega
  have n4 : ¬ ((32 * n - a : Nat) : Int) < 0 := by omega
  generalize hN : 32 * n = N at *
  have HN := Lib.hid hN
  clear hN
  go_enter Tryd.func31, Tryd.ntmps31
  go_wp2_with (first
    | (go_at_call 48; refine (hmay _ (Below.refl _ _)).mono ?_; rintro e w1 ⟨rfl, hb1⟩)
    | (go_at_call 27; refine (hsize _ (by assumption)).mono ?_; rintro e w2 ⟨rfl, hb2⟩; have hb1 := below_trans hb1 hb2)
    | fail)
  go_ret
  exact ⟨rfl, hb1⟩

set_option maxRecDepth 100000 in
set_option maxHeartbeats 4000000 in
/-- Write, of bytes of any kept memory. -/
theorem dwriteE_any (w : World) (Kp : Nat → Prop) (X D n : Nat) (safe cur : List UInt8) (now saved : Files) (epoch which : Nat) (h : DirAt w Kp X D n safe cur false now saved epoch which) (hKp : ∀ k, Kp k → k < w.heap.size) (hm : ∀ x ∈ now, x.2.1 + x.2.2 ≤ n)
    (s : ByteArray) (a : Int) (ha : -9223372036854775808 ≤ a ∧ a ≤ 9223372036854775807) (v : Value) (bs : List UInt8) (hv : SrcE Kp w v bs) :
    Calls Tryd.prog 13 #[.pointer (some ⟨X, 0, none⟩), .string s, .int .i64 a, v] w (fun e w' => ∃ x : Int, e = .returned (.int .i64 x) ∧ (x = 0 ↔ (wrS now s a bs.length).isSome = true) ∧
      DirAt w' Kp X D n safe (wrCur cur (wrS now s a bs.length) bs) false now saved epoch which ∧ Kept Kp w w') := by
  cases bs with
  | cons y r => exact dwrite_any w Kp X D n safe cur now saved epoch which h hKp hm s a ha v (y :: r) ⟨hv.1, hv.2 (by simp)⟩
  | nil =>
    obtain ⟨q0, cap, rfl, -⟩ := bytes_len hv.1
    have hcur : wrCur cur (wrS now s a ([] : List UInt8).length) [] = cur := by
      unfold wrCur
      split
      · exact splice_nil
      · rfl
    rw [hcur]
    have hwi := within_any w Kp X D n safe cur false now saved epoch which h s a ([] : List UInt8).length 6 ha (by simp) (by decide)
    have hin := @wrS_in now n hm s a ([] : List UInt8).length
    obtain ⟨bn, bs', hX⟩ := h
    obtain ⟨c0, -, -, -, -, lX⟩ := hX.cells
    have HX := Lib.hid hX
    clear hX hv hcur
    unfold WithinOut at hwi
    cases hr : wrS now s a ([] : List UInt8).length with
    | none =>
      rw [hr] at hwi
      clear hin
      go_enter Tryd.func13, Tryd.ntmps13
      go_wp2_with (first | (go_at_call 38; refine hwi.mono ?_; rintro e w1 ⟨p, x, rfl, ⟨hx, rfl⟩, hb1⟩; have hx1 : decide (x = 0) = false := decide_eq_false hx) | fail)
      go_ret
      exact ⟨x, rfl, by simp [hx], ⟨bn, bs', HX.out.below hb1⟩, kept_of_below hb1 hKp⟩
    | some q =>
      rw [hr] at hwi
      have hin2 := (hin hr).1
      clear hin hr
      have hwr := fun W (hb : Below w.heap.size w W) => write_nil W _ D n safe cur (HX.out.disk.below hb) q q0 cap (by omega)
      go_enter Tryd.func13, Tryd.ntmps13
      go_wp2_with (first
        | (go_at_call 38; refine hwi.mono ?_; rintro e w1 ⟨p, x, rfl, ⟨rfl, rfl⟩, hb1⟩; have d0 := bcell hb1 c0)
        | (go_at_call 31; refine (hwr w1 hb1).mono ?_; rintro e w2 ⟨rfl, hb2⟩)
        | fail)
      go_ret
      have hb12 := below_trans hb1 hb2
      exact ⟨0, rfl, by simp, ⟨bn, bs', HX.out.below hb12⟩, kept_of_below hb12 hKp⟩

end Go.Proofs.YtnpnchociegmpaaDoor
