/- The directory: a list's bytes. -/
import Derived.Test.YtlhefifejcoecaaGreatDoorDirC
import Derived.Test.YtlhefifejcoecaaGreatDoorReg
import Derived.Laws.CopyOwn
namespace Go.Proofs.YtlhefifejcoecaaGreatDoor
open Go.RowKit Go.Proofs Go.Shelf
attribute [local go_sem ↓] Go.wp_at_zero Go.wp_at_succ

/-- Files: names with their extents. -/
abbrev Files := List (ByteArray × (Nat × Nat))
def filesV (m : Files) : List (ByteArray × Value) := m.map fun x => (x.1, extV x.2)
def fget (m : Files) (k : ByteArray) : Option (Nat × Nat) := (m.find? fun x => decide (k = x.1)).map (·.2)

theorem mget_files (m : Files) (k : ByteArray) : mget (filesV m) k = (fget m k).map extV := by
  unfold mget fget filesV
  induction m with
  | nil => rfl
  | cons x m ih =>
    simp only [List.map_cons, List.find?_cons]
    by_cases h : k = x.1
    · simp [h]
    · simp [h]
      simpa using ih

/-- A directory's files in memory. -/
structure FilesAt (w : World) (b : Nat) (m : Files) : Prop where
  map : MapA Value.string w b (filesV m)
  small : ∀ x ∈ m, x.1.size ≤ 1000 ∧ x.2.1 ≤ 1000000000 ∧ x.2.2 ≤ 1000000000
  few : m.length ≤ 1000

theorem FilesAt.below {w w' : World} {b : Nat} {m : Files} (h : FilesAt w b m) (hb : Below w.heap.size w w') : FilesAt w' b m := ⟨h.map.below hb, h.small, h.few⟩

def namesS (m : Files) : List (List UInt8) := (m.map fun x => x.1.data.toList).mergeSort (fun x y => decide (x ≤ y))
def entryS (m : Files) (s : List UInt8) : List UInt8 := numS s.length ++ s ++ numS ((fget m ⟨s.toArray⟩).getD (0, 0)).1 ++ numS ((fget m ⟨s.toArray⟩).getD (0, 0)).2
def bodyS (epoch : Nat) (m : Files) (ns : List (List UInt8)) : List UInt8 := numS epoch ++ numS m.length ++ ns.flatMap (entryS m)

theorem extKey : KeyK Tryz.prog 9 Value.string := KeyK.string Tryz.underlying9
theorem extZero : ∀ w, (zeroValue 90).run Tryz.prog w = .ok (extV (0, 0)) w := fun _ => by kernel_rfl

theorem FilesAt.look {w : World} {b : Nat} {m : Files} (h : FilesAt w b m) (k : ByteArray) : (Instr.lookup 35 (.map (some b)) (.string k) false).run Tryz.prog w = .ok (extV ((fget m k).getD (0, 0))) w := by
  have := h.map.lookup (P := Tryz.prog) (T := 35) extKey Tryz.underlying35 extZero k
  rw [mget_files] at this
  rw [this]
  cases fget m k <;> rfl

theorem mergeSort_perm_eq {ss L : List (List UInt8)} (h : ss.Perm L) : ss.mergeSort (fun x y => decide (x ≤ y)) = L.mergeSort (fun x y => decide (x ≤ y)) := by
  have hp : (ss.mergeSort (fun x y => decide (x ≤ y))).Perm (L.mergeSort (fun x y => decide (x ≤ y))) := (List.mergeSort_perm ss _).trans (h.trans (List.mergeSort_perm L _).symm)
  have htr : ∀ a b c : List UInt8, (decide (a ≤ b) = true) → (decide (b ≤ c) = true) → decide (a ≤ c) = true := fun a b c h1 h2 => by
    simp only [decide_eq_true_eq] at *
    exact List.le_trans h1 h2
  have hto : ∀ a b : List UInt8, (decide (a ≤ b) || decide (b ≤ a)) = true := fun a b => by
    have := List.le_total a b
    simpa using this
  refine hp.eq_of_pairwise (fun a b _ _ hab hba => ?_) (List.pairwise_mergeSort htr hto ss) (List.pairwise_mergeSort htr hto L)
  simp only [decide_eq_true_eq] at *
  exact List.le_antisymm hab hba

theorem namesS_perm {ss : List (List UInt8)} {m : Files} (h : ss.Perm (m.map fun x => x.1.data.toList)) : ss.mergeSort (fun x y => decide (x ≤ y)) = namesS m := mergeSort_perm_eq h

theorem field0 (x1 x2 : Nat) (W : World) : (Instr.field 90 (.agg #[.int .i64 x1, .int .i64 x2]) 0).run Tryz.prog W = .ok (.int .i64 x1) W := by kernel_rfl
theorem field1 (x1 x2 : Nat) (W : World) : (Instr.field 90 (.agg #[.int .i64 x1, .int .i64 x2]) 1).run Tryz.prog W = .ok (.int .i64 x2) W := by kernel_rfl

theorem fget_small {w : World} {b : Nat} {m : Files} (h : FilesAt w b m) (k : ByteArray) : ((fget m k).getD (0, 0)).1 ≤ 1000000000 ∧ ((fget m k).getD (0, 0)).2 ≤ 1000000000 := by
  unfold fget
  cases hf : m.find? fun x => decide (k = x.1) with
  | none => simp
  | some x =>
    have := h.small x (List.mem_of_find?_eq_some hf)
    simp; omega

theorem prefix_len (epoch : Nat) (m : Files) (ns : List (List UInt8)) (k : Nat) : (numS epoch ++ numS m.length ++ (ns.take k).flatMap (entryS m)).length ≤ (bodyS epoch m ns).length := by
  unfold bodyS
  have : ns.flatMap (entryS m) = (ns.take k).flatMap (entryS m) ++ (ns.drop k).flatMap (entryS m) := by rw [← List.flatMap_append, List.take_append_drop]
  rw [this]
  simp only [List.length_append]
  omega

theorem made_block {w : World} {base g : Nat} (h : w.ownsRow base 5 1 (.slice (some ⟨g, 0, none⟩) 256 256) 256 (madeCells (Value.int .u8 0).cells (256 * 1)).toList) : ∃ cur, w.heap[g]? = some (.cells cur 5 (0, 0)) ∧ cur.toList = List.replicate 256 (Value.int .u8 0) ∧ base ≤ g := by
  rcases h.2 with ⟨h1, -⟩ | ⟨g', cap, cur, h1, hb, hg, hc, -, hcs, ht⟩
  · cases h1
  · simp only [Value.slice.injEq, Option.some.injEq, Addr.mk.injEq, true_and, and_true] at h1
    obtain ⟨rfl, rfl⟩ := h1
    refine ⟨cur, hg, ?_, hb⟩
    have e : (madeCells (Value.int .u8 0).cells (256 * 1)).toList = List.replicate 256 (Value.int .u8 0) := toList_madeCells_one (.int .u8 0) 256
    rw [← e, ← ht, List.take_of_length_le (by rw [Array.length_toList]; omega)]

theorem own_cells {w : World} {base : Nat} {v : Value} {F : List UInt8} (h : OwnB w base v F) (hF : 0 < F.length) : ∃ g cap, v = .slice (some ⟨g, 0, none⟩) F.length cap ∧ ∀ j u, (F.map u8)[j]? = some u → w.cell? ((⟨g, 0, none⟩ : Addr).add j) = some u := by
  rcases h.2 with ⟨-, h2⟩ | ⟨g, cap, cur, rfl, hrest⟩
  · omega
  · exact ⟨g, cap, rfl, fun j u hu => World.ownsRow.cells h (g := g) rfl j u hu⟩

theorem copied {w : World} {base g : Nat} {cur : Array Value} {F : List UInt8} (hg : w.heap[g]? = some (.cells cur 5 (0, 0))) (hc : cur.toList = List.replicate 256 (Value.int .u8 0)) (hb : base ≤ g) (hF : F.length ≤ 256) :
    OwnB (w.setRow g (cur.toList.take 0 ++ (F.map u8 ++ cur.toList.drop (0 + (F.map u8).length))).toArray) base (.slice (some ⟨g, 0, none⟩) 256 256) (F ++ List.replicate (256 - F.length) 0) := by
  have hl : (F ++ List.replicate (256 - F.length) (0 : UInt8)).length = 256 := by rw [List.length_append, List.length_replicate]; omega
  have e : cur.toList.take 0 ++ (F.map u8 ++ cur.toList.drop (0 + (F.map u8).length)) = (F ++ List.replicate (256 - F.length) (0 : UInt8)).map u8 := by
    rw [hc, List.take_zero, List.nil_append, Nat.zero_add, List.length_map, List.drop_replicate, List.map_append, List.map_replicate]; rfl
  rw [e]
  unfold OwnB
  rw [hl]
  refine ⟨by rw [List.length_map, hl], .inr ⟨g, 256, _, rfl, hb, setRow_heap w g _ _ _ _ hg, Nat.le_refl _, by unfold maxLen; omega, by rw [List.size_toArray, List.length_map, hl], by rw [List.take_of_length_le (by rw [List.length_map, hl]; omega)]⟩⟩

theorem maplen {w : World} {b : Nat} {es : Array MapEntry} {clock : Nat} (h : w.heap[b]? = some (.map es clock)) : (Builtin.len_ #[35] 3 #[.map (some b)]).run Tryz.prog w = .ok (goInt es.size) w := by
  have hg : (getObj b).run Tryz.prog w = .ok (.map es clock) w := by simp [getObj, Sem.run, h]
  simp [Builtin.len_, run_underlying Tryz.underlying35, hg, Result.andThen]

def ListOut (epoch : Nat) (m : Files) (w : World) (e : Ending) (w' : World) : Prop := OutB w (frameS (bodyS epoch m (namesS m)) ++ List.replicate (256 - (frameS (bodyS epoch m (namesS m))).length) 0) e w'

set_option maxRecDepth 100000 in
set_option maxHeartbeats 4000000 in
theorem bytesof_any (epoch b : Nat) (m : Files) (w : World) (h : FilesAt w b m) (hN : Nib w) (he : epoch ≤ 1000000000000000) (hm : m.length ≤ 100) (hfit : (frameS (bodyS epoch m (namesS m))).length ≤ 256) (hbody : (bodyS epoch m (namesS m)).length ≤ 8192) :
    Calls Tryz.prog 83 #[.int .i64 epoch, .map (some b)] w (ListOut epoch m w) := by
  have hnum1 := num_any (.slice none 0 0) [] epoch w (slp_nil w) (by simp) (by unfold U64; omega)
  have hnum2 := fun W v bs (hv : SlP 1 ByteE W v bs) (hl : bs.length ≤ 1000000000) => num_any v bs m.length W hv hl (by unfold U64; omega)
  have hnames := fun W (hb : Below w.heap.size w W) => names_any b (filesV m) W (h.map.below hb) (fun x hx => by
    obtain ⟨y, hy, rfl⟩ := List.mem_map.1 hx
    have := (h.small y hy).1; unfold maxLen; simp; omega) (by unfold filesV; rw [List.length_map]; omega)
  have e1 : (epoch : Int) % 18446744073709551616 = (epoch : Int) := by omega
  have e2 : (m.length : Int) % 18446744073709551616 = (m.length : Int) := by omega
  have Hf := Lib.hid h
  obtain ⟨es, clock, hbk, hes, -, -, -⟩ := h.map
  have hesl : es.size = m.length := by
    have := congrArg List.length hes
    simpa [filesV] using this
  simp only [List.nil_append] at hnum1
  have hnl := numS_length epoch
  clear h hes
  go_enter Tryz.func83, Tryz.ntmps83
  go_upto_region 2 with (first
    | (go_at_call 71; refine hnum1.mono ?_; clear hnum1; rintro e w1 ⟨v1, rfl, hown1, hb1⟩; have hln1 := maplen ((hb1.block b (heap_lt hbk)).trans hbk); rw [hesl] at hln1; have hs1 := hown1.at (by omega))
    | (go_at_call 71; refine (hnum2 _ v1 _ hs1 (by omega)).mono ?_; rintro e w2 ⟨v2, rfl, hown2, hb2⟩)
    | fail)
  have hb12 := below_trans hb1 hb2
  have hown2' := OwnB.base hown2 hb1.size
  have hf2 := Hf.out.below hb12
  have hnm := hnames w2 hb12
  clear hnum2 hnames hs1 hln1
  go_wp2_with (first
    | (go_at_call 76; refine hnm.mono ?_; rintro e w3 ⟨nv, ss, rfl, hperm, hrow, hb3⟩; obtain ⟨q, cap, rfl⟩ := own_slice hrow)
    | fail)
  have hb03 := below_trans hb12 hb3
  have hp2 : ss.Perm (m.map fun x => x.1.data.toList) := by simpa [filesV, List.map_map, Function.comp_def] using hperm
  have hNS := namesS_perm hp2
  rw [hNS] at hrow
  have hsl : ss.length = (namesS m).length := by rw [← hNS, List.length_mergeSort]
  have hNSl : (namesS m).length ≤ 1000 := by rw [← hsl, hp2.length_eq, List.length_map]; omega
  have hmemN : ∀ x ∈ namesS m, x.length ≤ 1000 := fun x hx => by
    rw [← hNS, (List.mergeSort_perm ss _).mem_iff, hp2.mem_iff, List.mem_map] at hx
    obtain ⟨y, hy, rfl⟩ := hx
    have := (Hf.out.small y hy).1
    simpa using this
  have hpre := fun k => Nat.le_trans (prefix_len epoch m (namesS m) k) hbody
  rw [hsl] at hrow
  have hnc : ∀ j, (hj : j < (namesS m).length) → ∃ g, q = some ⟨g, 0, none⟩ ∧ w3.cell? ⟨g, j, none⟩ = some (.string ⟨(namesS m)[j].toArray⟩) := fun j hj => by
    rcases hrow.2 with ⟨h1, hn⟩ | ⟨g, cap', cur, h1, hrest⟩
    · omega
    · simp only [Value.slice.injEq] at h1
      obtain ⟨rfl, -, rfl⟩ := h1
      refine ⟨g, rfl, ?_⟩
      have := hrow.cells (g := g) rfl j (.string ⟨(namesS m)[j].toArray⟩) (by simp [hj])
      rw [Addr.add_lit, Nat.zero_add] at this
      exact this
  have Hnc := Lib.hid hnc
  have HmemN := Lib.hid hmemN
  have Hpre := Lib.hid hpre
  have hf3 := hf2.below hb3
  have Hf3 := Lib.hid hf3
  have hov3 := OwnB.mono hb3 hown2'
  have hbs : Hid (bodyS epoch m (namesS m) = numS epoch ++ numS m.length ++ (namesS m).flatMap (entryS m)) := Lib.hid rfl
  rw [hsl]
  clear hnm hnc hmemN hpre hrow hperm hp2 hNS hf3 hf2 hown1 hown2 hown2'
  generalize hNSe : namesS m = NS at *
  have HNSe := Lib.hid hNSe
  clear hNSe
  go_loopw [5, 19] (fun bv j wr => ∃ k : Nat, k ≤ NS.length ∧ j = .int .i64 k ∧ OwnB wr w.heap.size bv (numS epoch ++ numS m.length ++ (NS.take k).flatMap (entryS m)) ∧ Below w3.heap.size w3 wr) (fun _ j _ => NS.length - (intOf j).toNat)
  case atStart => exact ⟨0, Nat.zero_le _, rfl, by simpa using hov3, Below.refl _ _⟩
  case round =>
    obtain ⟨k, hk, rfl, hown, hb⟩ := hrel
    by_cases hlt : k < NS.length
    · obtain ⟨g, rfl, c0⟩ := Hnc.out k hlt
      replace c0 := bcell hb c0
      have hnl2 := HmemN.out NS[k] (List.getElem_mem hlt)
      have hpk := Hpre.out k
      have n0 : (0 : Int) ≤ (k : Int) := by omega
      have n1 : (k : Int) < (NS.length : Int) := by omega
      have hfr := Hf3.out.below hb
      have hbw := below_trans hb03 hb
      have hlk0 := fun W (hW : Below wr.heap.size wr W) => (hfr.below hW).look ⟨NS[k].toArray⟩
      have hsm := fget_small hfr ⟨NS[k].toArray⟩
      have hstr := str_any _ _ ⟨NS[k].toArray⟩ wr (hown.at (by omega)) (by omega) (by simp [ByteArray.size]; omega)
      have hsz : (⟨NS[k].toArray⟩ : ByteArray).size = NS[k].length := by simp [ByteArray.size]
      have Hst : Hid (numS epoch ++ numS m.length ++ (NS.take (k + 1)).flatMap (entryS m) = numS epoch ++ numS m.length ++ (NS.take k).flatMap (entryS m) ++ (numS NS[k].length ++ NS[k] ++ numS ((fget m ⟨NS[k].toArray⟩).getD (0, 0)).1 ++ numS ((fget m ⟨NS[k].toArray⟩).getD (0, 0)).2)) := Lib.hid (by
        rw [List.take_succ_eq_append_getElem hlt, List.flatMap_append]
        simp [entryS])
      have hn9 := numS_length NS[k].length
      obtain ⟨q5, cap5, rfl, -⟩ := hown.len
      rw [hsz] at hstr
      generalize (fget m ⟨NS[k].toArray⟩).getD (0, 0) = ex at *
      obtain ⟨x1, x2⟩ := ex
      dsimp only at hsm
      obtain ⟨hx1, hx2⟩ := hsm
      have hlk : ∀ W, Below wr.heap.size wr W → (Instr.lookup 35 (.map (some b)) (.string ⟨NS[k].toArray⟩) false).run Tryz.prog W = .ok (.agg #[.int .i64 x1, .int .i64 x2]) W := hlk0
      have r1 : (x1 : Int) % 18446744073709551616 = (x1 : Int) := by omega
      have r2 : (x2 : Int) % 18446744073709551616 = (x2 : Int) := by omega
      have r3 : IntKind.u64.wrap (x1 : Int) = (x1 : Int) := IntWalk.u64_in _ (by omega)
      have r4 : IntKind.u64.wrap (x2 : Int) = (x2 : Int) := IntWalk.u64_in _ (by omega)
      generalize numS epoch ++ numS m.length ++ (NS.take k).flatMap (entryS m) = X at *
      generalize NS[k] = nm at *
      have Hlk := Lib.hid hlk
      have hfld0 := fun W => field0 x1 x2 W
      have hfld1 := fun W => field1 x1 x2 W
      clear hlk hlk0 hown hsz
      go_upto_region 6 with (first
        | (go_at_call 116; refine hstr.mono ?_; rintro e w5 ⟨v5, rfl, hown5, hb5⟩)
        | fail)
      have hs5 : SlP 1 ByteE w5.drew v5 (X ++ numS nm.length ++ nm) := (hown5.at (by simp only [List.length_append]; omega)).mono ByteE.mono (Below.refl _ _).drew
      have hl5 : (X ++ numS nm.length ++ nm).length ≤ 10000 := by simp only [List.length_append]; omega
      generalize hY : X ++ numS nm.length ++ nm = Y at *
      have HY := Lib.hid hY
      clear hY
      refine wp_region_held_drew (S := (fun w' => (Instr.lookup 35 (.map (some b)) (.string ⟨nm.toArray⟩) false).run Tryz.prog w' = .ok (.agg #[.int .i64 x1, .int .i64 x2]) w')) (by kernel_rfl) (by exact Hlk.out _ hb5.drew) (fun hHeld => ?_)
      refine' takeL (v := _) 0 rfl (by kernel_rfl) (by kernel_rfl) (by kernel_rfl) (fun _ _ _ h => h) (by rfl) ?_ (by assumption) ?_; rotate_left 1; (focus (intro w hSw; (try dsimp only at hSw); go_simp; (try with_reducible rfl); done))
      (try simp only [Act.put, List.setIfInBounds_toArray, List.set_cons_zero, List.set_cons_succ])
      refine' takeL (v := _) 1 rfl (by kernel_rfl) (by kernel_rfl) (by kernel_rfl) (fun _ _ _ h => h) (by rfl) ?_ (by assumption) ?_; rotate_left 1; (focus (intro w hSw; (try dsimp only at hSw); go_simp; (try with_reducible rfl); done))
      (try simp only [Act.put, List.setIfInBounds_toArray, List.set_cons_zero, List.set_cons_succ])
      refine' takeL (v := _) 2 rfl (by kernel_rfl) (by kernel_rfl) (by kernel_rfl) (fun _ _ _ h => h) (by rfl) ?_ (by assumption) ?_; rotate_left 1; (focus (intro w hSw; (try dsimp only at hSw); go_simp; (try with_reducible rfl); done))
      (try simp only [Act.put, List.setIfInBounds_toArray, List.set_cons_zero, List.set_cons_succ])
      refine' takeL (v := _) 3 rfl (by kernel_rfl) (by kernel_rfl) (by kernel_rfl) (fun _ _ _ h => h) (by rfl) ?_ (by assumption) ?_; rotate_left 1; (focus (intro w hSw; (try dsimp only at hSw); go_simp; (try with_reducible rfl); done))
      (try simp only [Act.put, List.setIfInBounds_toArray, List.set_cons_zero, List.set_cons_succ])
      refine' takeL (v := _) 4 rfl (by kernel_rfl) (by kernel_rfl) (by kernel_rfl) (fun _ _ _ h => h) (by rfl) ?_ (by assumption) ?_; rotate_left 1; (focus (intro w hSw; (try dsimp only at hSw); go_simp; (try with_reducible rfl); done))
      (try simp only [Act.put, List.setIfInBounds_toArray, List.set_cons_zero, List.set_cons_succ])
      refine' takeL (v := _) 5 rfl (by kernel_rfl) (by kernel_rfl) (by kernel_rfl) (fun _ _ _ h => h) (by rfl) ?_ (by assumption) ?_; rotate_left 1; (focus (intro w hSw; (try dsimp only at hSw); go_simp; (try with_reducible rfl); done))
      (try simp only [Act.put, List.setIfInBounds_toArray, List.set_cons_zero, List.set_cons_succ])
      refine' takeL (v := _) 7 rfl (by kernel_rfl) (by kernel_rfl) (by kernel_rfl) (fun _ _ _ h => h) (by rfl) ?_ (by assumption) ?_; rotate_left 1; (focus (intro w hSw; (try dsimp only at hSw); go_simp; (try with_reducible rfl); done))
      (try simp only [Act.put, List.setIfInBounds_toArray, List.set_cons_zero, List.set_cons_succ])
      refine' takeL (v := _) 8 rfl (by kernel_rfl) (by kernel_rfl) (by kernel_rfl) (fun _ _ _ h => h) (by rfl) ?_ (by assumption) ?_; rotate_left 1; (focus (intro w hSw; (try dsimp only at hSw); go_simp; (try with_reducible rfl); done))
      (try simp only [Act.put, List.setIfInBounds_toArray, List.set_cons_zero, List.set_cons_succ])
      refine' takeL (v := _) 9 rfl (by kernel_rfl) (by kernel_rfl) (by kernel_rfl) (fun _ _ _ h => h) (by rfl) ?_ (by assumption) ?_; rotate_left 1; (focus (intro w hSw; (try dsimp only at hSw); go_simp; (try with_reducible rfl); done))
      (try simp only [Act.put, List.setIfInBounds_toArray, List.set_cons_zero, List.set_cons_succ])
      refine' takeL (v := _) 10 rfl (by kernel_rfl) (by kernel_rfl) (by kernel_rfl) (fun _ _ _ h => h) (by rfl) ?_ (by assumption) ?_; rotate_left 1; (focus (intro w hSw; (try dsimp only at hSw); go_simp; (try with_reducible rfl); done))
      (try simp only [Act.put, List.setIfInBounds_toArray, List.set_cons_zero, List.set_cons_succ])
      refine' takeL (v := _) 11 rfl (by kernel_rfl) (by kernel_rfl) (by kernel_rfl) (fun _ _ _ h => h) (by rfl) ?_ (by assumption) ?_; rotate_left 1; (focus (intro w hSw; (try dsimp only at hSw); go_simp; (try with_reducible rfl); done))
      (try simp only [Act.put, List.setIfInBounds_toArray, List.set_cons_zero, List.set_cons_succ])
      refine stepL 6 rfl (by kernel_rfl) (fun K hK => ?_)
      go_simp
      go_at_call 71
      refine (num_any v5 Y x1 _ hs5 (by omega) (by unfold U64; omega)).mono ?_
      rintro e w6 ⟨v6, rfl, hown6, hb6⟩
      have hb56 := below_trans hb5.drew hb6
      refine hK.out _ _ (by exact Hlk.out _ hb56) (fun hHeld => ?_)
      clear hK K
      (try simp only [Act.put, List.setIfInBounds_toArray, List.set_cons_zero, List.set_cons_succ])
      have hn1' := numS_length x1
      have hs6 := hown6.at (by simp only [List.length_append]; omega)
      refine stepL 12 rfl (by kernel_rfl) (fun K hK => ?_)
      go_simp
      go_at_call 71
      refine (num_any v6 _ x2 _ hs6 (by simp only [List.length_append]; omega) (by unfold U64; omega)).mono ?_
      rintro e w7 ⟨v7, rfl, hown7, hb7⟩
      have hb57 := below_trans hb56 hb7
      refine hK.out _ _ (by exact Hlk.out _ hb57) (fun hHeld => ?_)
      clear hK K
      (try simp only [Act.put, List.setIfInBounds_toArray, List.set_cons_zero, List.set_cons_succ])
      refine' takeL (v := _) 13 rfl (by kernel_rfl) (by kernel_rfl) (by kernel_rfl) (fun _ _ _ h => h) (by rfl) ?_ (by assumption) ?_; rotate_left 1; (focus (intro w hSw; (try dsimp only at hSw); go_simp; (try with_reducible rfl); done))
      (try simp only [Act.put, List.setIfInBounds_toArray, List.set_cons_zero, List.set_cons_succ])
      refine wpAnyH_done (by kernel_rfl) ?_ _
      go_wp2_with fail
      refine ⟨⟨k + 1, hlt, by go_num, ?_, below_trans hb hb57⟩, by simp [intOf]; omega⟩
      rw [Hst.out]
      have e9 : X ++ (numS nm.length ++ nm ++ numS x1 ++ numS x2) = Y ++ numS x1 ++ numS x2 := by rw [← HY.out]; simp [List.append_assoc]
      rw [e9]
      exact OwnB.base hown7 (by have := hbw.size; have := hb5.size; have := hb6.size; simp at *; omega)
    · have hke : k = NS.length := by omega
      subst hke
      rw [List.take_length, ← hbs.out] at hown
      have hbw := below_trans hb03 hb
      have hfrm := fun W v (hW : Below w.heap.size w W) (hv : SlP 1 ByteE W v (bodyS epoch m NS)) => frame_any v (bodyS epoch m NS) W hv (hN.below hW) hbody
      have Hfl : Hid (0 < (frameS (bodyS epoch m NS)).length) := Lib.hid (by unfold frameS sumB; simp only [List.length_append, List.length_cons, List.length_nil]; omega)
      generalize hFe : frameS (bodyS epoch m NS) = F at *
      have HFe := Lib.hid hFe
      clear hFe
      have hsB := hown.at (by omega)
      obtain ⟨i0, z, hi, hz, hz1, hz2, -⟩ := byteElt.has
      have hz0 : i0.zero = some (.int .u8 0) := by
        have h : (Tryz.prog.info? 5).map (·.zero) = some (some (.int .u8 0)) := by kernel_rfl
        rw [hi] at h
        simpa using h
      go_wp2_with (first
        | (at_make; refine wpList_make_full _ rfl _ _ 25 rfl w.heap.size 5 i0 (.int .u8 0) 1 Tryz.underlying25 hi hz0 hz1 .i64 .i64 _ _ 256 rfl rfl rfl rfl (by rw [hz2]; omega) (by unfold maxLen; omega) hbw.size ?_; intro w8 hown8 hg8; have hb8 : Below wr.heap.size wr w8 := grown_below (Below.refl _ _) hg8 (Nat.le_refl _) (by simp); have hs8 := hsB.mono ByteE.mono hb8)
        | (go_at_call 68; refine (hfrm _ _ (below_trans hbw hb8) hs8).mono ?_; rintro e w9 ⟨v9, rfl, hown9, hb9⟩; obtain ⟨cur9, hc1, hc2, hc3⟩ := made_block hown8; obtain ⟨g9, cap9, hv9, hsrc9⟩ := own_cells hown9 Hfl.out; subst hv9; have hblk9 := (hb9.block _ (heap_lt hc1)).trans hc1)
        | (refine wpList_copy_own rfl _ _ 25 25 rfl 5 Tryz.underlying25 u8_size wr.heap.size 0 256 256 ⟨g9, 0, none⟩ F.length cap9 rfl rfl cur9 5 hblk9 (F.map YtlhefifejcoecaaGreatDoor.u8) (by rw [List.length_map]; have : Nat.min F.length 256 = min F.length 256 := rfl; omega) hsrc9 (by rw [List.length_map, ← Array.length_toList, hc2, List.length_replicate]; omega) (fun v hv => by obtain ⟨x, -, rfl⟩ := List.mem_map.1 hv; rfl) ?_; have hcop := copied (base := w.heap.size) hblk9 hc2 hc3 hfit; have hbc : Below w.heap.size w9 (w9.setRow wr.heap.size (cur9.toList.take 0 ++ (F.map YtlhefifejcoecaaGreatDoor.u8 ++ cur9.toList.drop (0 + (F.map YtlhefifejcoecaaGreatDoor.u8).length))).toArray) := ⟨rfl, rfl, rfl, by simp [World.setRow], fun k hk => setRow_other _ _ _ _ (by omega)⟩; generalize World.setRow _ _ _ = w10 at *)
        | fail)
      go_ret
      unfold ListOut
      rw [HNSe.out, HFe.out]
      exact ⟨_, rfl, hcop, (below_trans (below_trans hbw hb8) hb9).trans hbc⟩

end Go.Proofs.YtlhefifejcoecaaGreatDoor
