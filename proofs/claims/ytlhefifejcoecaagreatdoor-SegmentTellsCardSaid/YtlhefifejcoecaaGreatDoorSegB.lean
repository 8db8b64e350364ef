/- 'append(x, make([]byte, n)...)'; a frame, padded. -/
import Derived.Test.YtlhefifejcoecaaGreatDoorJSum
namespace Go.Proofs.YtlhefifejcoecaaGreatDoor
open Go.RowKit Go.Proofs Go.Shelf
attribute [local go_sem ↓] Go.wp_at_zero Go.wp_at_succ

def zstr (m : Nat) : ByteArray := ⟨(List.replicate m (0 : UInt8)).toArray⟩
theorem zstr_size (m : Nat) : (zstr m).size = m := by show (List.replicate m (0 : UInt8)).toArray.size = m; simp

theorem zeroCells_u8 (m : Nat) : Builtin.zeroCells #[.int .u8 0] m = (List.replicate m (Value.int .u8 0)).toArray := by
  unfold Builtin.zeroCells
  apply Array.ext
  · simp
  · intro i h1 h2
    simp [Nat.mod_one]

theorem run_app_make {P : Program} (w : World) (t tx ts ty e : TypeId) (i : TypeInfo) (z : Value) (ht : P.underlying t = some (.slice e)) (htx : P.underlying tx = some (.int .i64)) (hts : P.underlying ts = some .string)
    (hi : P.info? e = some i) (hz : i.zero = some z) (hzc : z.cells = #[.int .u8 0]) (hs1 : i.size = 1) (hb1 : i.bytes = 1) (q : Option Addr) (n cap m : Nat) (hm : m ≤ 1000000) (hm1 : 0 < m) (hn : n ≤ 1000000000) :
    (Builtin.append_ #[t, tx] ty #[.slice q n cap, .int .i64 (m : Int)]).run P w = (Builtin.append_ #[t, ts] ty #[.slice q n cap, .string (zstr m)]).run P w := by
  have hw : IntKind.i64.wrap (m : Int) = (m : Int) := IntWalk.i64_in _ (by omega)
  have e1 : ∀ W : World, (Builtin.firstCells 1 m (.string (zstr m))).run P W = .ok (List.replicate m (Value.int .u8 0)).toArray W := fun W => by
    have h1 := firstCells_string (P := P) (zstr m) W
    rw [zstr_size] at h1
    rw [h1]
    simp [byteCells, zstr]
  have e2 : ∀ W : World, (Builtin.lenOf (.string (zstr m))).run P W = .ok m W := fun W => by
    have := zstr_size m
    simp [Builtin.lenOf, this]
  have l0 : ¬ (m : Int) < 0 := by omega
  have l1 : ¬ (281474976710656 : Int) < (m : Int) := by omega
  have l5 : ¬ (m : Int) ≤ 0 := by omega
  have l6 : m ≠ 0 := by omega
  have e4 : ∀ W : World, (asInt (.int .i64 (m : Int))).run P W = .ok (m : Int) W := fun W => rfl
  have e5 : ∀ W : World, (zeroValue e).run P W = .ok z W := fun W => by simp [zeroValue, typeInfo, hi, hz]
  by_cases hroom : n + m ≤ cap
  · simp [Builtin.append_, run_underlying ht, run_underlying htx, run_underlying hts, sizeOf, typeInfo, hi, hs1, hb1, e4, e5, hw, hz, hzc, zeroCells_u8, e1, e2, hroom, l0, l1, l5, l6]
  · have hfit : Builtin.nextslicecap (n + m) cap * 1 ≤ 281474976710656 := growslice_fits (by omega) (by omega)
    have l2 : ¬ (9223372036854775807 : Int) < (n : Int) + max (m : Int) 0 := by omega
    have l2' : ¬ (9223372036854775807 : Int) < (n : Int) + (m : Int) := by omega
    have l3 : ¬ 281474976710656 < Builtin.nextslicecap (n + m) cap := by omega
    simp [Builtin.append_, run_underlying ht, run_underlying htx, run_underlying hts, sizeOf, typeInfo, hi, hs1, hb1, e4, e5, hw, hz, hzc, zeroCells_u8, e1, e2, hroom, l0, l1, l2, l2', l3, l5, l6]

theorem u8_all : ∃ i z, Tryz.prog.info? 5 = some i ∧ i.zero = some z ∧ z.cells = #[.int .u8 0] ∧ i.size = 1 ∧ i.bytes = 1 := by
  have h : (Tryz.prog.info? 5).map (fun i => (i.zero, i.size, i.bytes)) = some (some (.int .u8 0), 1, 1) := by kernel_rfl
  obtain ⟨i0, hi, hz0, hz1, hz2⟩ := info_parts h
  exact ⟨i0, _, hi, hz0, rfl, hz1, hz2⟩

theorem wpList_make {w : World} {ops : Array Oper} {rest : List Oper} {o : Oper} {a : Act} {Q : Exit → Act → World → Prop} (hgd : o.guard = none) (s x : Operand)
    (ho : o.op = .call { callee := .builtin .append, args := #[s, x], argTypes := #[25, 3] })
    (base : Nat) {q : Option Addr} {cap : Nat} (bs : List UInt8) (hs : a.eval s = .slice q bs.length cap) (hown : OwnB w base (.slice q bs.length cap) bs) (m : Nat) (hx : a.eval x = .int .i64 (m : Int)) (hm : m ≤ 1000000) (hm1 : 0 < m) (hn : bs.length ≤ 1000000000)
    (hbase : base ≤ w.heap.size)
    (h : ∀ v' w', OwnB w' base v' (bs ++ List.replicate m 0) → w.grownBy w' (Value.slice q bs.length cap).ownBlock → wpList Tryz.prog ops Q rest (a.put o.dst v') w') :
    wpList Tryz.prog ops Q (o :: rest) a w := by
  refine wpList_plain hgd fun K hK => ?_
  obtain ⟨i, z, hi, hz, hzc, hs1, hb1⟩ := u8_all
  have hr0 := run_app_make w 25 3 9 o.type 5 i z Tryz.underlying25 Tryz.underlying3 Tryz.underlying9 hi hz hzc hs1 hb1 q bs.length cap m hm hm1 hn
  have hsrc : Src Tryz.prog 1 9 (.string (zstr m)) m ((List.replicate m (0 : UInt8)).map u8) w := by
    have h1 := Src.ofString (P := Tryz.prog) w (tx := 9) Tryz.underlying9 (zstr m)
    rw [zstr_size] at h1
    have e : byteCells (zstr m) = (List.replicate m (0 : UInt8)).map u8 := by simp [byteCells, zstr, u8]
    rw [e] at h1
    exact h1
  obtain ⟨v', w', hr, h2, h3, h4⟩ := run_app (P := Tryz.prog) w base 25 9 o.type 5 1 1 byteElt Tryz.underlying25 _ _ _ hown (.string (zstr m)) m _ hsrc (by unfold maxLen; omega) (by omega) hbase
  rw [← hr0] at hr
  unfold Oper.wp execOp
  simp only [ho, resolve, invoke, builtin, Sem.run_bind, Sem.run_pure, Result.andThen_ok, List.map_toArray, List.map_cons, List.map_nil, hs, hx, hr]
  refine hK _ _ (h v' w' ?_ h3)
  unfold OwnB
  rw [List.map_append, List.length_append, List.length_replicate]
  exact h2

def padS (b : List UInt8) : List UInt8 := frameS b ++ List.replicate ((32 - (frameS b).length % 32) % 32) 0

theorem frameS_len (b : List UInt8) : (frameS b).length = (numS b.length).length + b.length + 4 := by
  unfold frameS sumB
  simp only [List.length_append, List.length_cons, List.length_nil]
theorem padS_len (b : List UInt8) : (padS b).length % 32 = 0 := by
  unfold padS
  rw [List.length_append, List.length_replicate]; omega

set_option maxRecDepth 100000 in
theorem padded_any (v : Value) (bs : List UInt8) (w : World) (hv : SlP 1 ByteE w v bs) (hN : Nib w) (hl : bs.length ≤ 8192) : Calls Tryz.prog 35 #[v] w (OutB w (padS bs)) := by
  have hfr := frame_any v bs w hv hN hl
  have hfl := frameS_len bs
  have hnl := numS_length bs.length
  have Hpad : Hid (padS bs = frameS bs ++ List.replicate ((32 - (frameS bs).length % 32) % 32) 0) := Lib.hid rfl
  generalize frameS bs = F at *
  obtain ⟨r, hr⟩ : ∃ r, r = F.length % 32 := ⟨_, rfl⟩
  have hr1 : (F.length : Int) % 32 = (r : Int) := by omega
  have hr2 : r < 32 := by omega
  have hrw : IntKind.i64.wrap (32 - (r : Int)) = ((32 - r : Nat) : Int) := by rw [IntWalk.i64_in _ (by omega)]; omega
  have hF : F.length ≤ 9000 := by omega
  have Hr := Lib.hid hr
  clear hr hfl hnl hl
  go_enter Tryz.func35, Tryz.ntmps35
  go_upto_region 2 with (first | (go_at_call 68; refine hfr.mono ?_; rintro e w1 ⟨v1, rfl, hown1, hb1⟩; obtain ⟨q1, cap1, rfl, hc1, -⟩ := hown1.len; have hlt1 := World.ownsRow.lt hown1) | fail)
  have hsz := hb1.size
  by_cases h0 : r = 0
  · subst h0
    go_wp2_with fail
    go_ret
    refine ⟨_, rfl, ?_, hb1⟩
    rw [Hpad.out, ← Hr.out]
    simpa using hown1
  · have h1 : (0 : Int) < (r : Int) := by omega
    go_wp2_with (first
      | (at_builtin; refine wpList_make (by rfl) _ _ (by rfl) w.heap.size F (by rfl) hown1 (32 - r) (by rfl) (by omega) (by omega) (by omega) hsz ?_; intro v2 w2 hown2 hg2; have hb2 : Below w.heap.size w w2 := grown_below hb1 hg2 hsz (fun k hk => (hlt1 k hk).1))
      | fail)
    go_ret
    refine ⟨_, rfl, ?_, hb2⟩
    have e : (32 - F.length % 32) % 32 = 32 - r := by have := Hr.out; omega
    rw [Hpad.out, e]
    exact hown2
end Go.Proofs.YtlhefifejcoecaaGreatDoor
