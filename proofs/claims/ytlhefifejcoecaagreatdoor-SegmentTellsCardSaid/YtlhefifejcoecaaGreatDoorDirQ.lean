/- The directory: Remove, Make. -/
import Derived.Test.YtlhefifejcoecaaGreatDoorJDirN
import Derived.Test.YtlhefifejcoecaaGreatDoorJDirI
namespace Go.Proofs.YtlhefifejcoecaaGreatDoor
open Go.RowKit Go.Proofs Go.Shelf
attribute [local go_sem ↓] Go.wp_at_zero Go.wp_at_succ

theorem step_make_full {P : Program} (w : World) {ops : Array Oper} {o : Oper} {a : Act} {K : Act → World → Prop} {Q : Exit → Act → World → Prop} {E : Prop} (hg : o.guard = none) (l c : Operand) (t : TypeId) (hop : o.op = Op.makeSlice t l c)
    (base : Nat) (e : TypeId) (i : TypeInfo) (z : Value) (size : Nat) (h1 : P.underlying t = some (.slice e)) (h2 : P.info? e = some i) (h3 : i.zero = some z) (h4 : i.size = size)
    (kl kc : IntKind) (L C : Int) (n : Nat) (hl : a.eval l = .int kl L) (hc : a.eval c = .int kc C) (hL : L = (n : Int)) (hC : C = (n : Int)) (b2 : i.bytes * n ≤ 281474976710656) (b3 : n ≤ maxLen) (b4 : base ≤ w.heap.size)
    (hK : ∀ w', w'.ownsRow base e size (.slice (some ⟨w.heap.size, 0, none⟩) n n) n (madeCells z.cells (n * size)).toList → w.grownBy w' none → K (a.put o.dst (.slice (some ⟨w.heap.size, 0, none⟩) n n)) w') :
    if Region.wanted o (yielded ops a.tmps) = true then Oper.wp P o a w K Q else E := by
  have hw : Region.wanted o (yielded ops a.tmps) = true := by simp [Region.wanted, hg]
  rw [if_pos hw]
  obtain ⟨w', hrun, r1, r2⟩ := run_make_full (P := P) w base t e i z size h1 h2 h3 h4 kl kc n b2 b3 b4
  subst hL
  subst hC
  unfold Oper.wp
  simp [execOp, hop, hl, hc, hrun, Result.andThen]
  exact hK w' r1 r2

theorem step_mapSet {P : Program} {w : World} {ops : Array Oper} {o : Oper} {a : Act} {K' : Act → World → Prop} {Q : Exit → Act → World → Prop} {E' : Prop} (hgd : o.guard = none) (mo x v : Operand) (T : TypeId) (hop : o.op = .mapUpdate T mo x v)
    {K E : TypeId} {α : Type} [DecidableEq α] {enc : α → Value} (hK : KeyK P K enc) (ht : P.underlying T = some (.map K E)) {b : Nat} {m : List (α × Value)} (hm : a.eval mo = .map (some b)) (h : MapA enc w b m) (k : α) (hx : a.eval x = enc k) (val : Value) (hv : a.eval v = val)
    (hn : ∀ W, MapA enc W b (mset m k val) → w.grownBy W (some b) → K' (a.put o.dst undef) W) : if Region.wanted o (yielded ops a.tmps) = true then Oper.wp P o a w K' Q else E' := by
  have hw : Region.wanted o (yielded ops a.tmps) = true := by simp [Region.wanted, hgd]
  rw [if_pos hw]
  obtain ⟨ob, hrun, h1⟩ := h.update (P := P) hK ht k val
  unfold Oper.wp
  simp [execOp, hop, hm, hx, hv, hrun, Result.andThen]
  exact hn _ h1 (grownBy_setBlock _ _ _)

theorem FilesAt.len {w : World} {b : Nat} {m : Files} (h : FilesAt w b m) : (Builtin.len_ #[35] 3 #[.map (some b)]).run Tryz.prog w = .ok (goInt m.length) w := by
  obtain ⟨⟨es, clock, h1, h2, -⟩, -, -⟩ := h
  rw [maplen h1]
  have := congrArg List.length h2
  simp [filesV] at this
  rw [this]

def fdel (m : Files) (k : ByteArray) : Files := match fidx m k with
  | some j => m.eraseIdx j
  | none => m

theorem midx_files (m : Files) (k : ByteArray) : midx (filesV m) k = fidx m k := by
  unfold midx fidx filesV
  rw [List.findIdx?_map]; rfl

theorem mdel_files (m : Files) (k : ByteArray) : mdel (filesV m) k = filesV (fdel m k) := by
  unfold mdel fdel
  rw [midx_files]
  cases fidx m k with
  | none => rfl
  | some j => unfold filesV; exact (ChangeMaps.map_eraseIdx _ _ _).symm

theorem mset_files (m : Files) (k : ByteArray) (e : Nat × Nat) : mset (filesV m) k (extV e) = filesV (fset m k e) := by
  unfold mset fset
  rw [midx_files]
  cases fidx m k with
  | none => simp [filesV]
  | some j => unfold filesV; simp [List.map_set]

/-- The directory with other files, its other blocks as they were. -/
theorem DirX.setNow {w W : World} {K : Nat → Prop} {X D n : Nat} {safe cur : List UInt8} {off : Bool} {bn bs : Nat} {now saved now' : Files} {epoch which : Nat} (h : DirX w K X D n safe cur off bn bs now saved epoch which)
    (hb : ∀ k, k < w.heap.size → k ≠ bn → W.heap[k]? = w.heap[k]?) (hf : FilesAt W bn now') : DirX W K X D n safe cur off bn bs now' saved epoch which := by
  have hXb : X ≠ bn := fun e => by
    obtain ⟨es, ck, h1, -⟩ := h.now.map
    rw [← e, h.blk] at h1; cases h1
  exact ⟨(hb X (heap_lt h.blk) hXb).trans h.blk, hf, ⟨h.saved.map.block (hb bs h.saved.map.lt h.ne.symm), h.saved.small, h.saved.few⟩, h.disk.only fun k hk h2 => hb k hk fun e => h2 (.inr (.inr (.inl e))), h.free, h.ne⟩

theorem DirX.lt {w : World} {K : Nat → Prop} {X D n : Nat} {safe cur : List UInt8} {off : Bool} {bn bs : Nat} {now saved : Files} {epoch which : Nat} (h : DirX w K X D n safe cur off bn bs now saved epoch which) (hKp : ∀ k, K k → k < w.heap.size) :
    ∀ k, (K k ∨ k = X ∨ k = bn ∨ k = bs) → k < w.heap.size := fun k hk => by
  rcases hk with hk | rfl | rfl | rfl
  · exact hKp k hk
  · exact heap_lt h.blk
  · exact h.now.map.lt
  · exact h.saved.map.lt

theorem fdel_mem {m : Files} {k : ByteArray} {x : ByteArray × Nat × Nat} (h : x ∈ fdel m k) : x ∈ m := by
  unfold fdel at h
  cases hi : fidx m k with
  | none => rw [hi] at h; exact h
  | some j => rw [hi] at h; exact List.mem_of_mem_eraseIdx h

theorem fdel_len (m : Files) (k : ByteArray) : (fdel m k).length ≤ m.length := by
  unfold fdel
  cases hi : fidx m k with
  | none => exact Nat.le_refl _
  | some j => dsimp only; rw [List.length_eraseIdx]; split <;> omega

set_option maxRecDepth 100000 in
set_option maxHeartbeats 4000000 in
theorem remove_any (w : World) (Kp : Nat → Prop) (X D n : Nat) (safe cur : List UInt8) (off : Bool) (now saved : Files) (epoch which : Nat) (h : DirAt w Kp X D n safe cur off now saved epoch which) (hKp : ∀ k, Kp k → k < w.heap.size) (s : ByteArray) :
    Calls Tryz.prog 46 #[.pointer (some ⟨X, 0, none⟩), .string s] w (fun e w' => ∃ x : Int, e = .returned (.int .i64 x) ∧ (x = 0 ↔ (fget now s).isSome = true) ∧
      DirAt w' Kp X D n safe cur off (if (fget now s).isSome = true then fdel now s else now) saved epoch which ∧ Kept Kp w w') := by
  have hmade := dmade_any w Kp X D n safe cur off now saved epoch which h
  obtain ⟨bn, bs, hX⟩ := h
  obtain ⟨-, c1, -, -, -, lX⟩ := hX.cells
  have hlk := fun W (hb : Below w.heap.size w W) => (hX.now.below hb).look_ok s
  have HX := Lib.hid hX
  have hfr := hX.free
  have hlbn := hX.now.map.lt
  clear hX
  cases hf : fget now s with
  | none =>
    rw [hf] at hlk
    have hlk2 : ∀ W, Below w.heap.size w W → (Instr.lookup 35 (.map (some bn)) (.string s) true).run Tryz.prog W = .ok (.tuple #[.agg #[.int .i64 0, .int .i64 0], .bool false]) W := hlk
    clear hlk
    go_enter Tryz.func46, Tryz.ntmps46
    go_wp2_with (first | (go_at_call 58; refine hmade.mono ?_; rintro e w1 ⟨rfl, hb1⟩; have d1 := bcell hb1 c1; have hl1 := hlk2 w1 hb1) | fail)
    go_ret
    have hb2 := below_trans hb1 (below_new w1 (.cells #[.int .i64 0, .int .i64 0] 90))
    exact ⟨8, rfl, by simp, ⟨bn, bs, HX.out.below hb2⟩, kept_of_below hb2 hKp⟩
  | some e =>
    rw [hf] at hlk
    have hlk2 : ∀ W, Below w.heap.size w W → (Instr.lookup 35 (.map (some bn)) (.string s) true).run Tryz.prog W = .ok (.tuple #[.agg #[.int .i64 e.1, .int .i64 e.2], .bool true]) W := hlk
    clear hlk hf
    generalize e.1 = x1 at *
    generalize e.2 = x2 at *
    go_enter Tryz.func46, Tryz.ntmps46
    go_upto_region 4 with (first | (go_at_call 58; refine hmade.mono ?_; rintro e w1 ⟨rfl, hb1⟩; have d1 := bcell hb1 c1; have hl1 := hlk2 w1 hb1) | fail)
    generalize hW2 : World.alloc w1 _ = w2
    have hb2 : Below w.heap.size w w2 := by rw [← hW2]; exact below_trans hb1 (below_new _ _)
    have d2 : w2.cell? ⟨X, 1, none⟩ = some (.map (some bn)) := by rw [← hW2]; exact bcell (below_new _ _) d1
    clear hW2
    have hm2 := (HX.out.now.below hb2).map
    go_wp2_with (first | (at_delete; refine wpList_mapDel rfl _ _ 35 9 rfl extKey Tryz.underlying35 rfl hm2 s rfl ?_; intro w3 hm3 hg3) | fail)
    go_ret
    have hX2 := HX.out.below hb2
    have hs2 := hb2.size
    rw [mdel_files] at hm3
    refine ⟨0, rfl, by simp, ⟨bn, bs, hX2.setNow (fun k hk hne => hg3.block k hk (fun e => hne (by simpa using e))) ⟨hm3, fun x hx => hX2.now.small x (fdel_mem hx), Nat.le_trans (fdel_len _ _) hX2.now.few⟩⟩, (kept_of_below hb2 hKp).trans ?_⟩
    exact (Kept.refl Kp w2).grown hg3 (fun k hk => by have := hKp k hk; omega) (fun k hk => by simp only [Option.some.injEq] at hk; subst hk; exact hfr.2.1)

theorem fget_none {m : Files} {s : ByteArray} (h : fget m s = none) : ∀ x ∈ m, x.1 ≠ s := fun x hx e => by
  unfold fget at h
  simp only [Option.map_eq_none_iff, List.find?_eq_none] at h
  exact h x hx (by simp [e])

def zerosB (n : Nat) : List UInt8 := List.replicate n 0

/-- What Make may come to. -/
def MakeS (now saved : Files) (n : Nat) (s : ByteArray) (c : Int) (r : Option (Nat × Nat)) : Prop := match r with
  | some e => goodNameS s = true ∧ fget now s = none ∧ now.length < 10 ∧ c = (e.2 : Int) ∧ 1 ≤ e.2 ∧ PlaceS now saved n c (some e.1)
  | none => ¬ (goodNameS s = true ∧ 1 ≤ c ∧ fget now s = none ∧ now.length < 10) ∨ PlaceS now saved n c none

def makeNow (now : Files) (s : ByteArray) (r : Option (Nat × Nat)) : Files := match r with | some e => now ++ [(s, e)] | none => now
def makeCur (cur : List UInt8) (r : Option (Nat × Nat)) : List UInt8 := match r with | some e => splice cur (32 * e.1) (zerosB (32 * e.2)) | none => cur

/-- Which error Make tells. -/
def MakeE (now : Files) (s : ByteArray) (c : Int) (x : Int) : Prop := goodNameS s = true → 1 ≤ c → fget now s = none → x = 0 ∨ x = 13 ∨ x = 6

set_option maxRecDepth 100000 in
set_option maxHeartbeats 4000000 in
theorem make_anyE (w : World) (Kp : Nat → Prop) (X D n : Nat) (safe cur : List UInt8) (now saved : Files) (epoch which : Nat) (h : DirAt w Kp X D n safe cur false now saved epoch which) (hKp : ∀ k, Kp k → k < w.heap.size) (hn : 16 ≤ n)
    (s : ByteArray) (hs : s.size ≤ 9223372036854775807) (c : Int) (hc : -9223372036854775808 ≤ c ∧ c ≤ 9223372036854775807) :
    Calls Tryz.prog 70 #[.pointer (some ⟨X, 0, none⟩), .string s, .int .i64 c] w (fun e w' => ∃ (x : Int) (r : Option (Nat × Nat)), e = .returned (.int .i64 x) ∧ (x = 0 ↔ r.isSome = true) ∧ MakeS now saved n s c r ∧
      DirAt w' Kp X D n safe (makeCur cur r) false (makeNow now s r) saved epoch which ∧ Kept Kp w w' ∧ MakeE now s c x) := by
  have hmade := dmade_any w Kp X D n safe cur false now saved epoch which h
  have hplace := fun W (hb : Below w.heap.size w W) (h1 : 1 ≤ c) => place_any W Kp X D n safe cur false now saved epoch which (h.below hb) c h1 hc.2 hn
  have hgood := fun W => goodname_any s W hs
  obtain ⟨bn, bs, hX⟩ := h
  obtain ⟨c0, c1, -, -, -, lX⟩ := hX.cells
  have hlk := fun W (hb : Below w.heap.size w W) => (hX.now.below hb).look_ok s
  have hln := fun W (hb : Below w.heap.size w W) => (hX.now.below hb).len
  have HX := Lib.hid hX
  have hfr := hX.free
  have hlbn := hX.now.map.lt
  clear hX
  cases hf : fget now s with
  | some e =>
    have HmE : Hid (∀ x, MakeE now s c x) := Lib.hid fun x _ _ h => by rw [hf] at h; cases h
    have Hmk : Hid (MakeS now saved n s c none) := Lib.hid (.inl fun h => by rw [hf] at h; exact absurd h.2.2.1 (by simp))
    rw [hf] at hlk
    have hlk2 : ∀ W, Below w.heap.size w W → (Instr.lookup 35 (.map (some bn)) (.string s) true).run Tryz.prog W = .ok (.tuple #[.agg #[.int .i64 e.1, .int .i64 e.2], .bool true]) W := hlk
    clear hlk hf hln hplace
    generalize e.1 = x1 at *
    generalize e.2 = x2 at *
    cases hgn : goodNameS s <;> rw [hgn] at hgood <;> by_cases hc1 : c < 1 <;>
    (go_enter Tryz.func70, Tryz.ntmps70
     go_wp2_with (first
       | (go_at_call 58; refine hmade.mono ?_; rintro e w1 ⟨rfl, hb1⟩; have d1 := bcell hb1 c1; have hl1 := hlk2 w1 hb1)
       | (go_at_call 107; refine (hgood _).mono ?_; rintro e w3 ⟨rfl, hb3⟩)
       | fail)
     go_ret
     have hbw := below_trans (below_trans hb1 (below_new w1 (.cells #[.int .i64 x1, .int .i64 x2] 90))) hb3
     exact ⟨_, none, rfl, by simp, Hmk.out, ⟨bn, bs, HX.out.below hbw⟩, kept_of_below hbw hKp, HmE.out _⟩)
  | none =>
    rw [hf] at hlk
    have hlk2 : ∀ W, Below w.heap.size w W → (Instr.lookup 35 (.map (some bn)) (.string s) true).run Tryz.prog W = .ok (.tuple #[.agg #[.int .i64 0, .int .i64 0], .bool false]) W := hlk
    clear hlk
    by_cases hbad : goodNameS s = false ∨ c < 1
    · have Hmk : Hid (MakeS now saved n s c none) := Lib.hid (.inl fun h => by rcases hbad with h1 | h1; exact absurd (h1.symm.trans h.1) (by decide); exact absurd h.2.1 (by omega))
      have HmE : Hid (∀ x, MakeE now s c x) := Lib.hid fun x h2 h3 _ => by rcases hbad with h1 | h1; exact absurd (h1.symm.trans h2) (by decide); omega
      clear hf hln hplace
      cases hgn : goodNameS s <;> rw [hgn] at hgood hbad <;> by_cases hc1 : c < 1 <;>
      first
      | (exfalso; rcases hbad with h | h; exact absurd h (by decide); exact hc1 h; done)
      | (clear hbad
         go_enter Tryz.func70, Tryz.ntmps70
         go_wp2_with (first
           | (go_at_call 58; refine hmade.mono ?_; rintro e w1 ⟨rfl, hb1⟩; have d1 := bcell hb1 c1; have hl1 := hlk2 w1 hb1)
           | (go_at_call 107; refine (hgood _).mono ?_; rintro e w3 ⟨rfl, hb3⟩)
           | fail)
         go_ret
         have hbw := below_trans (below_trans hb1 (below_new w1 (.cells #[.int .i64 0, .int .i64 0] 90))) hb3
         exact ⟨_, none, rfl, by simp, Hmk.out, ⟨bn, bs, HX.out.below hbw⟩, kept_of_below hbw hKp, HmE.out _⟩)
    · have hgn : goodNameS s = true := by
        cases h : goodNameS s
        · exact absurd (.inl h) hbad
        · rfl
      have hc1 : 1 ≤ c := by omega
      rw [hgn] at hgood
      clear hbad
      by_cases hmany : 10 ≤ now.length
      · have Hmk : Hid (MakeS now saved n s c none) := Lib.hid (.inl fun h => by omega)
        have hm2 : (10 : Int) ≤ (now.length : Int) := by omega
        clear hf hplace
        go_enter Tryz.func70, Tryz.ntmps70
        go_upto_region 5 with (first
           | (go_at_call 58; refine hmade.mono ?_; rintro e w1 ⟨rfl, hb1⟩; have d1 := bcell hb1 c1; have hl1 := hlk2 w1 hb1)
           | (go_at_call 107; refine (hgood _).mono ?_; rintro e w3 ⟨rfl, hb3⟩; have hbw := below_trans (below_trans hb1 (below_new w1 (.cells #[.int .i64 0, .int .i64 0] 90))) hb3; have hl3 := hln w3 hbw; have d3 := bcell hbw c1)
           | fail)
        go_wp2_with fail
        go_ret
        exact ⟨_, none, rfl, by simp, Hmk.out, ⟨bn, bs, HX.out.below hbw⟩, kept_of_below hbw hKp, fun _ _ _ => .inr (.inl rfl)⟩
      · have hm2 : ¬ (10 : Int) ≤ (now.length : Int) := by omega
        have Hmk : Hid (∀ r, PlaceS now saved n c r → MakeS now saved n s c (r.map fun b => (b, c.toNat))) := Lib.hid fun r h => by
          cases r with
          | none => exact .inr h
          | some b => exact ⟨hgn, hf, by omega, by dsimp only; omega, by dsimp only; omega, h⟩
        have Hf := Lib.hid hf
        clear hf
        go_enter Tryz.func70, Tryz.ntmps70
        go_upto_region 5 with (first
           | (go_at_call 58; refine hmade.mono ?_; rintro e w1 ⟨rfl, hb1⟩; have d1 := bcell hb1 c1; have hl1 := hlk2 w1 hb1)
           | (go_at_call 107; refine (hgood _).mono ?_; rintro e w3 ⟨rfl, hb3⟩; have hbw := below_trans (below_trans hb1 (below_new w1 (.cells #[.int .i64 0, .int .i64 0] 90))) hb3; have hl3 := hln w3 hbw; have d3 := bcell hbw c1; have hp3 := hplace w3 hbw hc1)
           | fail)
        unfold PlaceOut at hp3
        clear hln hlk2 hgood hmade hplace
        go_upto_region 11 with (first
           | (go_at_call 108; refine hp3.mono ?_; rintro e w4 ⟨r, hps, rfl, hb4⟩; obtain ⟨p, q, hpq, hpb⟩ : ∃ p q : Int, placeV r c = .agg #[.int .i64 p, .int .i64 q] ∧ ∀ b, r = some b → p = b ∧ q = c := (by
               cases r with
               | none => exact ⟨0, 0, rfl, fun b h => by cases h⟩
               | some b => exact ⟨b, c, rfl, fun b' h => by cases h; exact ⟨rfl, rfl⟩⟩); rw [hpq])
           | fail)
        generalize hW5 : World.alloc w4 _ = w5
        have hb5' : Below w4.heap.size w4 w5 := by rw [← hW5]; exact below_new _ _
        have f0 : w5.cell? ⟨w4.heap.size, 0, none⟩ = some (.int .i64 p) := by rw [← hW5]; simp
        have f1 : w5.cell? ⟨w4.heap.size, 1, none⟩ = some (.int .i64 q) := by rw [← hW5]; simp
        clear hW5
        have hb5 := below_trans hbw (below_trans hb4 hb5')
        have lq := World.block_lt_of_cell? _ _ f0
        cases r with
        | none =>
          have Hm2 := Lib.hid (Hmk.out none hps)
          rw [show Option.isSome (none : Option Nat) = false from rfl]
          clear hps hpq hpb hp3
          go_wp2_with fail
          go_ret
          exact ⟨_, rfl, none, by simp, Hm2.out, ⟨bn, bs, HX.out.below hb5⟩, kept_of_below hb5 hKp, fun _ _ _ => .inr (.inr rfl)⟩
        | some b =>
          obtain ⟨rfl, rfl⟩ := hpb b rfl
          have Hm2 := Lib.hid (Hmk.out (some b) hps)
          obtain ⟨hq1, hq2, -⟩ := id hps
          have hn4 := HX.out.disk.lens.2.2.2
          obtain ⟨cn, rfl⟩ : ∃ cn : Nat, q = cn := ⟨q.toNat, by omega⟩
          rw [show Option.isSome (some b) = true from rfl]
          obtain ⟨pa, hpa⟩ : ∃ pa : Nat, pa = 32 * b := ⟨_, rfl⟩
          obtain ⟨za, hza⟩ : ∃ za : Nat, za = 32 * cn := ⟨_, rfl⟩
          have z1 : IntKind.i64.wrap ((b : Int) * 32) = (pa : Int) := by rw [IntWalk.i64_in _ (by omega)]; omega
          have z2 : IntKind.i64.wrap ((cn : Int) * 32) = (za : Int) := by rw [IntWalk.i64_in _ (by omega)]; omega
          have hzle : pa + za ≤ 32 * n := by omega
          have hza4 : za ≤ 131072 := by omega
          have hl4 : w.heap.size ≤ w4.heap.size := (below_trans hbw hb4).size
          have hd5 : DiskAt w5 (fun k => (Kp k ∨ k = X ∨ k = bn ∨ k = bs) ∨ k = w4.heap.size) D n safe cur false := (HX.out.disk.more (fun k hk h2 => by
            rcases h2 with h2 | h2
            · exact h2
            · omega)).below hb5
          have hK5 : ∀ k, ((Kp k ∨ k = X ∨ k = bn ∨ k = bs) ∨ k = w4.heap.size) → k < w5.heap.size := fun k hk => by
            rcases hk with hk | rfl
            · have := HX.out.lt hKp k hk; have := hb5.size; omega
            · exact lq
          have hput := fun W v (hb : Below w5.heap.size w5 W) (hv : OwnB W w5.heap.size v (zerosB za)) => put_any w5 W _ D n safe cur hd5 hb hK5 pa v (zerosB za) hv (by simp [zerosB]; omega) (by simp [zerosB]; omega)
          clear hd5
          have Hput := Lib.hid hput
          have Hpa := Lib.hid hpa
          have Hza := Lib.hid hza
          clear hps hpq hpb hp3 hpa hza hput
          obtain ⟨i0, z, hi, hz, hz1, hz2, -⟩ := byteElt.has
          have hz0 : i0.zero = some (.int .u8 0) := by
            have h : (Tryz.prog.info? 5).map (·.zero) = some (some (.int .u8 0)) := by kernel_rfl
            rw [hi] at h
            simpa using h
          have d5 := bcell hb5 c0
          have d15 := bcell hb5 c1
          go_upto_region 13 with fail
          refine wp_region_held_drew (S := (fun w' => w'.cell? ⟨X, 0, none⟩ = some (.pointer (some ⟨D, 0, none⟩)) ∧ w'.cell? ⟨w4.heap.size, 0, none⟩ = some (.int .i64 b))) (by kernel_rfl) (by exact ⟨d5, f0⟩) (fun hHeld => ?_)
          refine' takeL (v := _) 0 rfl (by kernel_rfl) (by kernel_rfl) (by kernel_rfl) (fun _ _ _ h => h) (by rfl) ?_ (by assumption) ?_; rotate_left 1; (focus (intro w hSw; (try dsimp only at hSw); go_simp; (try with_reducible rfl); done))
          (try simp only [Act.put, List.setIfInBounds_toArray, List.set_cons_zero, List.set_cons_succ])
          refine' takeL (v := _) 1 rfl (by kernel_rfl) (by kernel_rfl) (by kernel_rfl) (fun _ _ _ h => h) (by rfl) ?_ (by assumption) ?_; rotate_left 1; (focus (intro w hSw; (try dsimp only at hSw); go_simp; (try with_reducible rfl); done))
          (try simp only [Act.put, List.setIfInBounds_toArray, List.set_cons_zero, List.set_cons_succ])
          refine' takeL (v := _) 2 rfl (by kernel_rfl) (by kernel_rfl) (by kernel_rfl) (fun _ _ _ h => h) (by rfl) ?_ (by assumption) ?_; rotate_left 1; (focus (intro w hSw; (try dsimp only at hSw); go_simp; (try with_reducible rfl); done))
          (try simp only [Act.put, List.setIfInBounds_toArray, List.set_cons_zero, List.set_cons_succ])
          refine' takeL (v := _) 3 rfl (by kernel_rfl) (by kernel_rfl) (by kernel_rfl) (fun _ _ _ h => h) (by rfl) ?_ (by assumption) ?_; rotate_left 1; (focus (intro w hSw; (try dsimp only at hSw); go_simp; (try with_reducible rfl); done))
          (try simp only [Act.put, List.setIfInBounds_toArray, List.set_cons_zero, List.set_cons_succ])
          refine' takeL (v := _) 4 rfl (by kernel_rfl) (by kernel_rfl) (by kernel_rfl) (fun _ _ _ h => h) (by rfl) ?_ (by assumption) ?_; rotate_left 1; (focus (intro w hSw; (try dsimp only at hSw); go_simp; (try with_reducible rfl); done))
          (try simp only [Act.put, List.setIfInBounds_toArray, List.set_cons_zero, List.set_cons_succ])
          refine' takeL (v := _) 5 rfl (by kernel_rfl) (by kernel_rfl) (by kernel_rfl) (fun _ _ _ h => h) (by rfl) ?_ (by assumption) ?_; rotate_left 1; (focus (intro w hSw; (try dsimp only at hSw); go_simp; (try with_reducible rfl); done))
          (try simp only [Act.put, List.setIfInBounds_toArray, List.set_cons_zero, List.set_cons_succ])
          refine' takeL (v := _) 6 rfl (by kernel_rfl) (by kernel_rfl) (by kernel_rfl) (fun _ _ _ h => h) (by rfl) ?_ (by assumption) ?_; rotate_left 1; (focus (intro w hSw; (try dsimp only at hSw); go_simp; (try with_reducible rfl); done))
          (try simp only [Act.put, List.setIfInBounds_toArray, List.set_cons_zero, List.set_cons_succ])
          refine' takeL (v := _) 7 rfl (by kernel_rfl) (by kernel_rfl) (by kernel_rfl) (fun _ _ _ h => h) (by rfl) ?_ (by assumption) ?_; rotate_left 1; (focus (intro w hSw; (try dsimp only at hSw); go_simp; (try with_reducible rfl); done))
          (try simp only [Act.put, List.setIfInBounds_toArray, List.set_cons_zero, List.set_cons_succ])
          refine' takeL (v := _) 8 rfl (by kernel_rfl) (by kernel_rfl) (by kernel_rfl) (fun _ _ _ h => h) (by rfl) ?_ (by assumption) ?_; rotate_left 1; (focus (intro w hSw; (try dsimp only at hSw); go_simp; (try with_reducible rfl); done))
          (try simp only [Act.put, List.setIfInBounds_toArray, List.set_cons_zero, List.set_cons_succ])
          refine stepL 9 rfl (by kernel_rfl) (fun K hK => ?_)
          refine step_make_full _ (by rfl) _ _ 25 (by rfl) w5.heap.size 5 i0 (.int .u8 0) 1 Tryz.underlying25 hi hz0 hz1 .i64 .i64 _ _ za (by rfl) (by rfl) (by rfl) (by rfl) (by rw [hz2]; omega) (by unfold maxLen; omega) (Nat.le_refl _) ?_
          intro w8 hown8 hg8
          have hb8 : Below w5.heap.size w5 w8 := grown_below (Below.refl _ _).drew hg8 (Nat.le_refl _) (by simp)
          have hob8 : OwnB w8 w5.heap.size (.slice (some ⟨w5.heap.size, 0, none⟩) za za) (zerosB za) := by
            have e : (madeCells (Value.int .u8 0).cells (za * 1)).toList = (zerosB za).map u8 := by
              rw [Nat.mul_one]
              refine (toList_madeCells_one (.int .u8 0) za).trans ?_
              unfold zerosB
              rw [List.map_replicate]; rfl
            rw [e] at hown8
            unfold OwnB
            rw [show (zerosB za).length = za by simp [zerosB]]
            exact hown8
          have hbw8 := below_trans hb5 hb8
          refine hK.out _ _ (by exact ⟨bcell hb8 d5, bcell hb8 f0⟩) (fun hHeld => ?_)
          clear hK K
          (try simp only [Act.put, List.setIfInBounds_toArray, List.set_cons_zero, List.set_cons_succ])
          refine stepL 10 rfl (by kernel_rfl) (fun K hK => ?_)
          go_simp
          go_at_call 73
          refine (Hput.out w8 _ hb8 hob8).mono ?_
          rintro e w9 ⟨rfl, hd9, hk9⟩
          have hX9 := (HX.out.below hbw8).kept (hk9.less fun k hk => .inl hk) (hd9.more fun k _ hk => .inl hk)
          have kX : (fun k => (Kp k ∨ k = X ∨ k = bn ∨ k = bs) ∨ k = w4.heap.size) X := .inl (.inr (.inl rfl))
          have k4 : (fun k => (Kp k ∨ k = X ∨ k = bn ∨ k = bs) ∨ k = w4.heap.size) w4.heap.size := .inr rfl
          have d9 := (hk9.cell (p := ⟨X, 0, none⟩) kX).trans (bcell hb8 d5)
          have d19 := (hk9.cell (p := ⟨X, 1, none⟩) kX).trans (bcell hb8 d15)
          have f09 := (hk9.cell (p := ⟨w4.heap.size, 0, none⟩) k4).trans (bcell hb8 f0)
          have f19 := (hk9.cell (p := ⟨w4.heap.size, 1, none⟩) k4).trans (bcell hb8 f1)
          have hs9 := hk9.size
          have hs8 := hb8.size
          refine hK.out _ _ (by exact ⟨d9, f09⟩) (fun hHeld => ?_)
          clear hK K
          (try simp only [Act.put, List.setIfInBounds_toArray, List.set_cons_zero, List.set_cons_succ])
          refine' takeL (v := _) 11 rfl (by kernel_rfl) (by kernel_rfl) (by kernel_rfl) (fun _ _ _ h => h) (by rfl) ?_ (by assumption) ?_; rotate_left 1; (focus (intro w hSw; (try dsimp only at hSw); go_simp; (try with_reducible rfl); done))
          (try simp only [Act.put, List.setIfInBounds_toArray, List.set_cons_zero, List.set_cons_succ])
          refine wpAnyH_done (by kernel_rfl) ?_ _
          have HX9 := Lib.hid hX9
          clear hX9 hd9
          go_upto_region 16 with fail
          have hm9 := HX9.out.now.map
          refine wp_region_held_drew (S := (fun w' => w'.cell? ⟨X, 1, none⟩ = some (.map (some bn)) ∧ w'.cell? ⟨w4.heap.size, 0, none⟩ = some (.int .i64 b) ∧ w'.cell? ⟨w4.heap.size, 1, none⟩ = some (.int .i64 cn))) (by kernel_rfl) (by exact ⟨d19, f09, f19⟩) (fun hHeld => ?_)
          refine' takeL (v := _) 0 rfl (by kernel_rfl) (by kernel_rfl) (by kernel_rfl) (fun _ _ _ h => h) (by rfl) ?_ (by assumption) ?_; rotate_left 1; (focus (intro w hSw; (try dsimp only at hSw); go_simp; (try with_reducible rfl); done))
          (try simp only [Act.put, List.setIfInBounds_toArray, List.set_cons_zero, List.set_cons_succ])
          refine' takeL (v := _) 1 rfl (by kernel_rfl) (by kernel_rfl) (by kernel_rfl) (fun _ _ _ h => h) (by rfl) ?_ (by assumption) ?_; rotate_left 1; (focus (intro w hSw; (try dsimp only at hSw); go_simp; (try with_reducible rfl); done))
          (try simp only [Act.put, List.setIfInBounds_toArray, List.set_cons_zero, List.set_cons_succ])
          refine' takeL (v := _) 2 rfl (by kernel_rfl) (by kernel_rfl) (by kernel_rfl) (fun _ _ _ h => h) (by rfl) ?_ (by assumption) ?_; rotate_left 1; (focus (intro w hSw; (try dsimp only at hSw); go_simp; (try with_reducible rfl); done))
          (try simp only [Act.put, List.setIfInBounds_toArray, List.set_cons_zero, List.set_cons_succ])
          refine' takeL (v := _) 3 rfl (by kernel_rfl) (by kernel_rfl) (by kernel_rfl) (fun _ _ _ h => h) (by rfl) ?_ (by assumption) ?_; rotate_left 1; (focus (intro w hSw; (try dsimp only at hSw); go_simp; (try with_reducible rfl); done))
          (try simp only [Act.put, List.setIfInBounds_toArray, List.set_cons_zero, List.set_cons_succ])
          refine' takeL (v := _) 4 rfl (by kernel_rfl) (by kernel_rfl) (by kernel_rfl) (fun _ _ _ h => h) (by rfl) ?_ (by assumption) ?_; rotate_left 1; (focus (intro w hSw; (try dsimp only at hSw); go_simp; (try with_reducible rfl); done))
          (try simp only [Act.put, List.setIfInBounds_toArray, List.set_cons_zero, List.set_cons_succ])
          refine' takeL (v := _) 5 rfl (by kernel_rfl) (by kernel_rfl) (by kernel_rfl) (fun _ _ _ h => h) (by rfl) ?_ (by assumption) ?_; rotate_left 1; (focus (intro w hSw; (try dsimp only at hSw); go_simp; (try with_reducible rfl); done))
          (try simp only [Act.put, List.setIfInBounds_toArray, List.set_cons_zero, List.set_cons_succ])
          refine stepL 6 rfl (by kernel_rfl) (fun K hK => ?_)
          refine step_mapSet (by rfl) _ _ _ _ (by rfl) extKey Tryz.underlying35 (by rfl) (m := filesV now) (b := bn) hm9 s (by rfl) (extV (b, cn)) (by rfl) ?_
          intro w10 hm10 hg10
          have hXb : X ≠ bn := fun e => by
            obtain ⟨es, ck, h1, -⟩ := HX.out.now.map
            rw [← e, HX.out.blk] at h1; cases h1
          have hne4 : w4.heap.size ≠ bn := by omega
          have hat : ∀ (p : Addr) (v : Value), p.block ≠ bn → w9.cell? p = some v → w10.cell? p = some v := fun p v hp hv =>
            (World.cell?_of_block (w := w9.drew) (hg10.block p.block (World.block_lt_of_cell? w9 _ hv) (fun e => hp (by simpa using e)))).trans hv
          refine hK.out _ _ (by exact ⟨hat _ _ hXb d19, hat _ _ hne4 f09, hat _ _ hne4 f19⟩) (fun hHeld => ?_)
          clear hK K
          (try simp only [Act.put, List.setIfInBounds_toArray, List.set_cons_zero, List.set_cons_succ])
          refine wpAnyH_done (by kernel_rfl) ?_ _
          go_wp2_with fail
          go_ret
          rw [mset_files, fset_new _ (fget_none Hf.out)] at hm10
          have hX10 : DirX w10 Kp X D n safe (splice cur pa (zerosB za)) false bn bs (now ++ [(s, (b, cn))]) saved epoch which := HX9.out.setNow (fun k hk hne => hg10.block k hk (fun e => hne (by simpa using e))) ⟨hm10, fun x hx => by
            rcases List.mem_append.1 hx with hx | hx
            · exact HX9.out.now.small x hx
            · simp only [List.mem_cons, List.not_mem_nil, or_false] at hx
              subst hx
              have := good_size hgn
              dsimp only; omega, by rw [List.length_append]; simp only [List.length_cons, List.length_nil]; omega⟩
          have hk10 : Kept Kp w9 w10 := ((Kept.refl Kp w9).drew).grown hg10 (fun k hk => by have := hKp k hk; show k < w9.heap.size; have := hbw8.size; omega) (fun k hk => by simp only [Option.some.injEq] at hk; subst hk; exact hfr.2.1)
          refine ⟨_, rfl, some (b, cn), by simp, ?_, ⟨bn, bs, by rw [Hpa.out, Hza.out] at hX10; exact hX10⟩, (kept_of_below hbw8 hKp).trans ((hk9.less fun k hk => .inl (.inl hk)).trans hk10), fun _ _ _ => .inl rfl⟩
          have := Hm2.out
          simpa using this

theorem make_any (w : World) (Kp : Nat → Prop) (X D n : Nat) (safe cur : List UInt8) (now saved : Files) (epoch which : Nat) (h : DirAt w Kp X D n safe cur false now saved epoch which) (hKp : ∀ k, Kp k → k < w.heap.size) (hn : 16 ≤ n)
    (s : ByteArray) (hs : s.size ≤ 9223372036854775807) (c : Int) (hc : -9223372036854775808 ≤ c ∧ c ≤ 9223372036854775807) :
    Calls Tryz.prog 70 #[.pointer (some ⟨X, 0, none⟩), .string s, .int .i64 c] w (fun e w' => ∃ (x : Int) (r : Option (Nat × Nat)), e = .returned (.int .i64 x) ∧ (x = 0 ↔ r.isSome = true) ∧ MakeS now saved n s c r ∧
      DirAt w' Kp X D n safe (makeCur cur r) false (makeNow now s r) saved epoch which ∧ Kept Kp w w') :=
  (make_anyE w Kp X D n safe cur now saved epoch which h hKp hn s hs c hc).mono fun _ _ ⟨x, r, h1, h2, h3, h4, h5, _⟩ => ⟨x, r, h1, h2, h3, h4, h5⟩

end Go.Proofs.YtlhefifejcoecaaGreatDoor
