/- Package pack: the number at the begin of bytes. -/
import Derived.Test.YtlhefifejcoecaaGreatDoorJSum
import Derived.Test.YtlhefifejcoecaaGreatDoorReg
import Derived.Laws.CopyRow
import Derived.Deep.MidRow
import Derived.Laws.Bits64b
namespace Go.Proofs.YtlhefifejcoecaaGreatDoor
open Go.RowKit Go.Proofs Go.Shelf
attribute [local go_sem ↓] Go.wp_at_zero Go.wp_at_succ

def valB (xs : List UInt8) : Nat := xs.foldl (fun n x => n * 256 + x.toNat) 0
def getNumS : List UInt8 → Nat × Nat × Bool
  | [] => (0, 0, false)
  | x :: r => if x.toNat < 248 then (x.toNat, 1, true)
    else if r.length < x.toNat - 247 ∨ r.head? = some 0 then (0, 0, false)
    else if valB (r.take (x.toNat - 247)) < 248 then (0, 0, false) else (valB (r.take (x.toNat - 247)), 1 + (x.toNat - 247), true)

theorem valB_snoc (l : List UInt8) (x : UInt8) : valB (l ++ [x]) = valB l * 256 + x.toNat := by unfold valB; rw [List.foldl_append]; rfl
theorem fold_lt : ∀ (l : List UInt8) (n : Nat), l.foldl (fun n x => n * 256 + x.toNat) n < (n + 1) * 256 ^ l.length
  | [], n => by simp
  | x :: l, n => by
    have ih := fold_lt l (n * 256 + x.toNat)
    have hx := UInt8.toNat_lt x
    rw [List.foldl_cons, List.length_cons, Nat.pow_succ]
    refine Nat.lt_of_lt_of_le ih ?_
    rw [Nat.mul_comm (256 ^ l.length) 256, ← Nat.mul_assoc]
    exact Nat.mul_le_mul_right _ (by omega)

theorem valB_lt (l : List UInt8) : valB l < 256 ^ l.length := by
  have := fold_lt l 0
  simpa [valB] using this

theorem getNumS_cons (x : UInt8) (r : List UInt8) : getNumS (x :: r) = if x.toNat < 248 then (x.toNat, 1, true)
    else if r.length < x.toNat - 247 ∨ r.head? = some 0 then (0, 0, false)
    else if valB (r.take (x.toNat - 247)) < 248 then (0, 0, false) else (valB (r.take (x.toNat - 247)), 1 + (x.toNat - 247), true) := rfl

theorem or_byte (m z : Nat) (hm : m < 72057594037927936) (hz : z < 256) : bits .or .u64 ((m : Int) * 256) (z : Int) = ((m * 256 + z : Nat) : Int) := by
  have h := bits_or_u64_nat (m * 256) z (by omega) (by omega)
  rw [show ((m * 256 : Nat) : Int) = (m : Int) * 256 by omega] at h
  rw [h]
  have e := Nat.shiftLeft_add_eq_or_of_lt (b := z) (i := 8) (by simpa using hz) m
  rw [Nat.shiftLeft_eq] at e
  simp only [show (2 : Nat) ^ 8 = 256 from rfl] at e
  rw [e]

theorem valB_zeros (n : Nat) (l : List UInt8) : valB (List.replicate n (0 : UInt8) ++ l) = valB l := by
  unfold valB
  rw [List.foldl_append]
  congr 1
  induction n with
  | zero => rfl
  | succ n ih => rw [List.replicate_succ, List.foldl_cons]; exact ih

theorem u8_noagg (w : World) : (isAgg 5).run Tryz.prog w = .ok false w := by kernel_rfl

theorem run_index_u8 (w : World) (Ac : List Value) (t : Nat) (v : Value) (h : Ac[t]? = some v) (ht : t < 8) : (Instr.index 157 (.agg Ac.toArray) (.int .i64 (t : Int))).run Tryz.prog w = .ok v w := by
  obtain ⟨⟨i0, z, hi, hz, hz1, hz2, -⟩, -⟩ := byteElt
  have h1 : (0 : Int) ≤ (t : Int) ∧ (t : Int) < 8 := by omega
  unfold Instr.index
  simp [asIntOf, run_underlying Tryz.underlying157, h1, part, sizeOf, typeInfo, hi, hz1, u8_noagg, h, ht, Result.andThen]

def NumOut (b : List UInt8) (w : World) (e : Ending) (w' : World) : Prop := e = .returned (.tuple #[.int .u64 ((getNumS b).1 : Nat), .int .i64 ((getNumS b).2.1 : Nat), .bool (getNumS b).2.2]) ∧ Below w.heap.size w w'

theorem step_copy_row {P : Program} {w : World} {ops : Array Oper} {o : Oper} {a : Act} {K : Act → World → Prop} {Q : Exit → Act → World → Prop} {E : Prop} (hgd : o.guard = none) (d s : Operand) (dT sT : TypeId)
    (ho : o.op = .call { callee := .builtin .copy, args := #[d, s], argTypes := #[dT, sT] }) (elem : TypeId) (hu : P.underlying dT = some (.slice elem)) (hsz : (P.info? elem).map (·.size) = some 1)
    (g off dLen dCap : Nat) (ad : Addr) (sLen sCap : Nat) (hd : a.eval d = .slice (some ⟨g, off, none⟩) dLen dCap) (hs : a.eval s = .slice (some ad) sLen sCap)
    (cur : Array Value) (t : TypeId) (hg : w.heap[g]? = some (.cells cur t (0, 0))) (cs : List Value) (hn : cs.length = Nat.min sLen dLen)
    (hsrc : ∀ j v, cs[j]? = some v → w.cell? (ad.add j) = some v) (hfit : off + cs.length ≤ cur.size) (h1 : ∀ v ∈ cs, v.oneCell' = true)
    (h : K (a.put o.dst (goInt cs.length)) (w.setRow g (cur.toList.take off ++ cs ++ cur.toList.drop (off + cs.length)).toArray)) :
    if Region.wanted o (yielded ops a.tmps) = true then Oper.wp P o a w K Q else E := by
  have hw : Region.wanted o (yielded ops a.tmps) = true := by simp [Region.wanted, hgd]
  rw [if_pos hw]
  have hrun := run_copy_row (P := P) w dT sT o.type elem g off dLen dCap ad sLen sCap cur t cs hu hsz hg hn hsrc hfit h1
  unfold Oper.wp
  simp only [execOp, ho, resolve, invoke, builtin, Sem.run_bind, Sem.run_pure, Result.andThen_ok, List.map_toArray, List.map_cons, List.map_nil, hd, hs, hrun]
  exact h

set_option maxRecDepth 100000 in
set_option maxHeartbeats 4000000 in
theorem getnum_any (v : Value) (b : List UInt8) (w : World) (hv : SlP 1 ByteE w v b) : Calls Tryz.prog 94 #[v] w (NumOut b w) := by
  unfold NumOut
  obtain ⟨q, cap, rfl, hlc, hll, hcell⟩ := hv.bytesAt
  cases b with
  | nil =>
    clear hcell hv
    go_enter Tryz.func94, Tryz.ntmps94
    go_wp2_with fail
    go_ret3
    exact ⟨rfl, Below.refl _ _⟩
  | cons x r =>
    obtain ⟨g, o, rfl, c0⟩ := hcell 0 (by simp)
    simp only [List.getElem_cons_zero, Nat.add_zero] at c0
    unfold YtlhefifejcoecaaGreatDoor.u8 at c0
    have l0 := World.block_lt_of_cell? _ _ c0
    have hlen : (x :: r).length = r.length + 1 := rfl
    have hcell' : ∀ j, (hj : j < r.length) → w.cell? ⟨g, o + (j + 1), none⟩ = some (YtlhefifejcoecaaGreatDoor.u8 r[j]) := fun j hj => by
      obtain ⟨g', o', e, h⟩ := hcell (j + 1) (by simp; omega)
      simp only [Option.some.injEq, Addr.mk.injEq] at e
      obtain ⟨rfl, rfl, -⟩ := e
      exact h
    have n1 : (0 : Int) < ((x :: r).length : Int) := by rw [hlen]; omega
    have n2 : (((x :: r).length : Int) == 0) = false := beq_false_of_ne (by rw [hlen]; omega)
    by_cases hx : x.toNat < 248
    · have e : getNumS (x :: r) = (x.toNat, 1, true) := by rw [getNumS_cons, if_pos hx]
      rw [e]
      have m1 : (x.toNat : Int) < 248 := by omega
      have m2 : (x.toNat : Int) % 18446744073709551616 = (x.toNat : Int) := by omega
      clear hcell hcell' e hv hlen
      go_enter Tryz.func94, Tryz.ntmps94
      go_wp2_with fail
      go_ret3
      exact ⟨rfl, Below.refl _ _⟩
    · have m1 : ¬ (x.toNat : Int) < 248 := by omega
      have hx2 := UInt8.toNat_lt x
      obtain ⟨k, hk⟩ : ∃ k, k = x.toNat - 247 := ⟨_, rfl⟩
      have hk1 : 1 ≤ k ∧ k ≤ 8 := by omega
      have m2 : ((x.toNat : Int) - 247) % 256 = (k : Int) := by omega
      have m3 : (x.toNat : Int) - 247 = (k : Int) := by omega
      by_cases hs : r.length < k
      · have e : getNumS (x :: r) = (0, 0, false) := by rw [getNumS_cons, if_neg hx, if_pos (.inl (by omega))]
        rw [e]
        have m4 : ((x :: r).length : Int) ≤ (k : Int) := by rw [hlen]; omega
        clear hcell hcell' e hv hlen hk
        go_enter Tryz.func94, Tryz.ntmps94
        go_wp2_with fail
        go_ret3
        exact ⟨rfl, below_new _ _⟩
      · cases r with
        | nil => simp at hs; omega
        | cons y r =>
        have c1 := hcell' 0 (by simp)
        simp only [List.getElem_cons_zero, Nat.zero_add] at c1
        unfold YtlhefifejcoecaaGreatDoor.u8 at c1
        have m4 : (k : Int) < ((x :: y :: r).length : Int) := by rw [hlen]; omega
        have m5 : (1 : Int) < ((x :: y :: r).length : Int) := by rw [hlen]; simp only [List.length_cons]; omega
        by_cases hy : y = 0
        · subst hy
          have e : getNumS (x :: 0 :: r) = (0, 0, false) := by rw [getNumS_cons, if_neg hx, if_pos (.inr rfl)]
          rw [e]
          simp only [show ((0 : UInt8).toNat : Int) = 0 from rfl] at c1
          clear hcell hcell' e hv hlen hk
          go_enter Tryz.func94, Tryz.ntmps94
          go_wp2_with fail
          go_ret3
          exact ⟨rfl, below_new _ _⟩
        · have m6 : ((y.toNat : Int) == 0) = false := beq_false_of_ne (fun h => hy (by
            have : y.toNat = 0 := by omega
            exact UInt8.toNat_inj.1 this))
          have m7 : ¬ (y.toNat : Int) = 0 := by
            intro h; rw [h] at m6; simp at m6
          obtain ⟨k8, hk8⟩ : ∃ j, j = 8 - k := ⟨_, rfl⟩
          obtain ⟨k9, hk9⟩ : ∃ j, j = 1 + k := ⟨_, rfl⟩
          have w8 : IntKind.i64.wrap (8 - (k : Int)) = (k8 : Int) := by rw [IntWalk.i64_in _ (by omega)]; omega
          have w9 : IntKind.i64.wrap (1 + (k : Int)) = (k9 : Int) := by rw [IntWalk.i64_in _ (by omega)]; omega
          have b1 : (0 : Int) ≤ (k8 : Int) := by omega
          have b2 : (k8 : Int) ≤ 8 := by omega
          have b3 : (1 : Int) ≤ (k9 : Int) := by omega
          have b4 : (k9 : Int) ≤ (cap : Int) := by rw [hlen] at hlc; omega
          have b5 : ¬ cap = 1 := by omega
          have b6 : ¬ 8 = k8 := by omega
          have b7 : ¬ (8 : Int) = (k8 : Int) := by omega
          have Hk8 := Lib.hid hk8
          have Hk9 := Lib.hid hk9
          have Hk := Lib.hid hk
          clear hcell hk8 hk9 hk
          have hlenI := Lib.hid hlen
          clear hlen hv
          generalize hNl : (x :: y :: r).length = N at m4 m5 n1 n2 b4 hlc hll ⊢
          have HNl := Lib.hid hNl
          clear hNl
          have hny : (y.toNat : Int) ≠ 0 := m7
          have Hcell := Lib.hid hcell'
          clear hcell' m6 m7
          generalize hyn : y.toNat = ny at c1 hny
          have Hyn := Lib.hid hyn
          clear hyn
          have p1 : ¬ ny = 0 := by omega
          have p2 : ((ny : Int) == 0) = false := beq_false_of_ne hny
          clear hy
          go_enter Tryz.func94, Tryz.ntmps94
          go_upto_region 9 with fail
          refine wp_region_held_drew (S := (fun _ => True)) (by kernel_rfl) (by trivial) (fun hHeld => ?_)
          refine' takeL (v := _) 0 rfl (by kernel_rfl) (by kernel_rfl) (by kernel_rfl) (fun _ _ _ h => h) (by rfl) ?_ (by assumption) ?_; rotate_left 1; (focus (intro w hSw; (try dsimp only at hSw); go_simp; (try with_reducible rfl); done))
          (try simp only [Act.put, List.setIfInBounds_toArray, List.set_cons_zero, List.set_cons_succ])
          refine' takeL (v := _) 1 rfl (by kernel_rfl) (by kernel_rfl) (by kernel_rfl) (fun _ _ _ h => h) (by rfl) ?_ (by assumption) ?_; rotate_left 1; (focus (intro w hSw; (try dsimp only at hSw); go_simp; (try with_reducible rfl); done))
          (try simp only [Act.put, List.setIfInBounds_toArray, List.set_cons_zero, List.set_cons_succ])
          refine' takeL (v := _) 2 rfl (by kernel_rfl) (by kernel_rfl) (by kernel_rfl) (fun _ _ _ h => h) (by rfl) ?_ (by assumption) ?_; rotate_left 1; (focus (intro w hSw; (try dsimp only at hSw); go_simp; (try with_reducible rfl); done))
          (try simp only [Act.put, List.setIfInBounds_toArray, List.set_cons_zero, List.set_cons_succ])
          refine' takeL (v := _) 3 rfl (by kernel_rfl) (by kernel_rfl) (by kernel_rfl) (fun _ _ _ h => h) (by rfl) ?_ (by assumption) ?_; rotate_left 1; (focus (intro w hSw; (try dsimp only at hSw); go_simp; (try with_reducible rfl); done))
          (try simp only [Act.put, List.setIfInBounds_toArray, List.set_cons_zero, List.set_cons_succ])
          refine' takeL (v := _) 4 rfl (by kernel_rfl) (by kernel_rfl) (by kernel_rfl) (fun _ _ _ h => h) (by rfl) ?_ (by assumption) ?_; rotate_left 1; (focus (intro w hSw; (try dsimp only at hSw); go_simp; (try with_reducible rfl); done))
          (try simp only [Act.put, List.setIfInBounds_toArray, List.set_cons_zero, List.set_cons_succ])
          refine' takeL (v := _) 5 rfl (by kernel_rfl) (by kernel_rfl) (by kernel_rfl) (fun _ _ _ h => h) (by rfl) ?_ (by assumption) ?_; rotate_left 1; (focus (intro w hSw; (try dsimp only at hSw); go_simp; (try with_reducible rfl); done))
          (try simp only [Act.put, List.setIfInBounds_toArray, List.set_cons_zero, List.set_cons_succ])
          refine' takeL (v := _) 6 rfl (by kernel_rfl) (by kernel_rfl) (by kernel_rfl) (fun _ _ _ h => h) (by rfl) ?_ (by assumption) ?_; rotate_left 1; (focus (intro w hSw; (try dsimp only at hSw); go_simp; (try with_reducible rfl); done))
          (try simp only [Act.put, List.setIfInBounds_toArray, List.set_cons_zero, List.set_cons_succ])
          refine stepL 7 rfl (by kernel_rfl) (fun K hK => ?_)
          obtain ⟨A, hA⟩ : ∃ A : List UInt8, A = List.replicate k8 (0 : UInt8) ++ (y :: r).take k := ⟨_, rfl⟩
          obtain ⟨cs, hcs⟩ : ∃ cs, cs = ((y :: r).take k).map YtlhefifejcoecaaGreatDoor.u8 := ⟨_, rfl⟩
          have hcl : cs.length = k := by rw [hcs, List.length_map, List.length_take]; omega
          have hAm : ((Array.replicate 8 (Value.int .u8 0)).toList.take k8 ++ cs ++ (Array.replicate 8 (Value.int .u8 0)).toList.drop (k8 + cs.length)) = A.map YtlhefifejcoecaaGreatDoor.u8 := by
            have h8 := Hk8.out
            rw [hcl, hA, hcs, List.map_append, List.map_replicate, Array.toList_replicate, List.take_replicate, List.drop_replicate, show min k8 8 = k8 by omega, show 8 - (k8 + k) = 0 by omega]
            simp [YtlhefifejcoecaaGreatDoor.u8]
          have hsrcw : ∀ j v, cs[j]? = some v → ((w.alloc (.cells #[.int .u8 0, .int .u8 0, .int .u8 0, .int .u8 0, .int .u8 0, .int .u8 0, .int .u8 0, .int .u8 0] 157)).drew).cell? ((⟨g, o + 1, none⟩ : Addr).add j) = some v := fun j v hv => by
            have hj : j < k := by
              rcases Nat.lt_or_ge j k with h | h
              · exact h
              · rw [List.getElem?_eq_none (by omega)] at hv; cases hv
            have hj2 : j < (y :: r).length := by omega
            rw [Addr.add_lit, Nat.add_assoc, Nat.add_comm 1 j]
            rw [hcs, List.getElem?_map, List.getElem?_take, if_pos hj, List.getElem?_eq_getElem hj2] at hv
            exact ((below_new w _).drew.cell (p := ⟨g, o + (j + 1), none⟩) l0).trans ((Hcell.out j hj2).trans hv)
          have hone : ∀ v ∈ cs, v.oneCell' = true := fun v hv => by
            rw [hcs] at hv
            obtain ⟨x, -, rfl⟩ := List.mem_map.1 hv
            rfl
          refine step_copy_row (by rfl) _ _ 25 25 rfl 5 Tryz.underlying25 u8_size w.heap.size k8 (8 - k8) (8 - k8) ⟨g, o + 1, none⟩ (k9 - 1) (cap - 1) rfl rfl (Array.replicate 8 (.int .u8 0)) 157 (heap_alloc_new _ _) cs
            (by have h8 := Hk8.out; have h9 := Hk9.out; have : Nat.min (k9 - 1) (8 - k8) = min (k9 - 1) (8 - k8) := rfl; omega) hsrcw (by have h8 := Hk8.out; rw [hcl]; simp; omega) hone ?_
          rw [hAm]
          have hAl : A.length = 8 := by have h8 := Hk8.out; rw [hA, List.length_append, List.length_replicate, List.length_take]; simp only [List.length_cons] at hs ⊢; omega
          have hB5 := setRow_heap ((w.alloc (.cells #[.int .u8 0, .int .u8 0, .int .u8 0, .int .u8 0, .int .u8 0, .int .u8 0, .int .u8 0, .int .u8 0] 157)).drew) w.heap.size _ (A.map YtlhefifejcoecaaGreatDoor.u8).toArray _ _ (heap_alloc_new w _)
          have hb5 : Below w.heap.size w (((w.alloc (.cells #[.int .u8 0, .int .u8 0, .int .u8 0, .int .u8 0, .int .u8 0, .int .u8 0, .int .u8 0, .int .u8 0] 157)).drew).setRow w.heap.size (A.map YtlhefifejcoecaaGreatDoor.u8).toArray) :=
            (below_new w _).drew.trans ⟨rfl, rfl, rfl, by simp [World.setRow], fun k hk => setRow_other _ _ _ _ (by omega)⟩
          refine hK.out _ _ (by trivial) (fun hHeld => ?_)
          clear hK K
          (try simp only [Act.put, List.setIfInBounds_toArray, List.set_cons_zero, List.set_cons_succ])
          generalize World.setRow _ _ _ = w5 at *
          rw [hcl]
          have hra : w5.rangeAt w.heap.size 0 (A.map YtlhefifejcoecaaGreatDoor.u8) := fun j v hv => by
            rw [Nat.zero_add, block_cell hB5]
            simpa using hv
          have hsz8 : (Tryz.prog.info? 157).map (·.size) = some (A.map YtlhefifejcoecaaGreatDoor.u8).length := by rw [List.length_map, hAl]; kernel_rfl
          have Hcs := Lib.hid hcs
          have HA := Lib.hid hA
          have HAl := Lib.hid hAl
          have Hra := Lib.hid hra
          clear hcs hA hAl hAm hB5 hsrcw hone hra
          generalize hAc : A.map YtlhefifejcoecaaGreatDoor.u8 = Ac at *
          have HAc := Lib.hid hAc
          clear hAc
          refine wpAnyH_done (by kernel_rfl) ?_ _
          go_wp2_with (first
            | (refine wpList_load_mid rfl 157 _ rfl w.heap.size 0 rfl _ _ Hra.out Tryz.underlying157 rfl hsz8 ?_)
            | fail)
          go_loopw [7, 45] (fun n j wr => ∃ t : Nat, t ≤ 8 ∧ j = .int .i64 t ∧ n = .int .u64 (valB (A.take t) : Nat) ∧ Below w.heap.size w wr) (fun _ j _ => 8 - (intOf j).toNat)
          case atStart => exact ⟨0, by omega, rfl, by simp [valB], hb5⟩
          case round =>
            obtain ⟨t, ht, rfl, rfl, hb⟩ := hrel
            by_cases hlt : t < 8
            · have n0 : (0 : Int) ≤ (t : Int) := by omega
              have q1 : (t : Int) < 8 := by omega
              have htA : t < A.length := by rw [HAl.out]; exact hlt
              have hsn := valB_snoc (A.take t) A[t]
              rw [← List.take_succ_eq_append_getElem htA] at hsn
              have hvl := valB_lt (A.take t)
              rw [List.length_take, HAl.out, show min t 8 = t by omega] at hvl
              have hvl7 : valB (A.take t) < 72057594037927936 := Nat.lt_of_lt_of_le hvl (Nat.le_trans (Nat.pow_le_pow_right (by decide) (show t ≤ 7 by omega)) (by decide))
              have hAt : Ac[t]? = some (.int .u8 (A[t].toNat : Int)) := by rw [← HAc.out, List.getElem?_map, List.getElem?_eq_getElem htA]; rfl
              have Hsn := Lib.hid hsn
              have hxt := UInt8.toNat_lt A[t]
              clear hsn hvl
              generalize valB (A.take t) = m at *
              generalize A[t] = z at *
              have hix := run_index_u8 wr Ac t _ hAt hlt
              have hor := or_byte m z.toNat hvl7 hxt
              go_wp2_with fail
              exact ⟨⟨t + 1, hlt, by go_num, by rw [Hsn.out]; congr 1, hb⟩, by simp [intOf]; omega⟩
            · have hte : t = 8 := by omega
              subst hte
              have hv8 : valB (A.take 8) = valB ((y :: r).take k) := by rw [List.take_of_length_le (by rw [HAl.out]; omega), HA.out, valB_zeros]
              rw [hv8]
              have hk' := Hk.out
              have hcond : ¬ ((y :: r).length < x.toNat - 247 ∨ (y :: r).head? = some 0) := by
                rintro (h | h)
                · omega
                · simp only [List.head?_cons, Option.some.injEq] at h
                  have := Hyn.out
                  rw [h] at this
                  exact p1 this.symm
              have hge : getNumS (x :: y :: r) = if valB ((y :: r).take k) < 248 then (0, 0, false) else (valB ((y :: r).take k), 1 + k, true) := by
                rw [getNumS_cons, if_neg hx, if_neg hcond, ← hk']
              have Hge := Lib.hid hge
              clear hge hcond hv8 hk'
              generalize valB ((y :: r).take k) = m at *
              by_cases hm : m < 248
              · have hm1 : (m : Int) < 248 := by omega
                have Hm := Lib.hid hm
                clear hm
                go_wp2_with fail
                go_ret3
                exact ⟨by rw [Hge.out, if_pos Hm.out]; rfl, hb⟩
              · have hm1 : ¬ (m : Int) < 248 := by omega
                have Hm := Lib.hid hm
                clear hm
                go_wp2_with fail
                go_ret3
                refine ⟨?_, hb⟩
                rw [Hge.out, if_neg Hm.out, ← Hk9.out]
                rfl

end Go.Proofs.YtlhefifejcoecaaGreatDoor
