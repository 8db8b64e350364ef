/- The room in the last segment. -/
/- The log in memory: a segment more, a byte string more. -/
import Derived.Test.YtlhefifejcoecaaGreatDoorJSegC
import Derived.Test.YtlhefifejcoecaaGreatDoorSegL
namespace Go.Proofs.YtlhefifejcoecaaGreatDoor
open Go.RowKit Go.Proofs Go.Shelf
attribute [local go_sem ↓] Go.wp_at_zero Go.wp_at_succ

def roomS (sz : Nat) (segs : List Seg) : Nat := match segs.getLast? with | none => 0 | some s => 32 * sz - (bytesS s).length

theorem last_of {segs : List Seg} {m : Nat} (hm : m + 1 = segs.length) : segs.getLast? = some (segs[m]'(by omega)) := by
  have h1 : segs.length - 1 = m := by omega
  rw [List.getLast?_eq_getElem?, h1, List.getElem?_eq_getElem]

set_option maxRecDepth 100000 in
set_option maxHeartbeats 2000000 in
theorem room_any (w : World) (L X D n sz : Nat) (segs : List Seg) (Kp : Nat → Prop) (safe cur : List UInt8) (now saved : Files) (epoch which : Nat) (hR : LogR w L X sz segs) (hd : DirAt w Kp X D n safe cur false now saved epoch which) (hE : Env w)
    (h : LogOK sz segs now cur) (hk : DOK n safe cur now saved epoch which) (hsz : sz ≤ 512) : Calls Tryz.prog 36 #[.pointer (some ⟨L, 0, none⟩)] w (Gives w (.int .i64 (roomS sz segs : Nat))) := by
  obtain ⟨q, cap, c0, c1, c2, hL, hlc, hll, hc⟩ := hR.open_
  by_cases hn0 : segs.length = 0
  · obtain rfl : segs = [] := List.eq_nil_of_length_eq_zero hn0
    simp only [List.length_nil] at *
    go_enter Tryz.func36, Tryz.ntmps36
    go_wp2_with fail
    go_ret
    exact ⟨rfl, Below.refl _ _⟩
  · obtain ⟨m, hm⟩ : ∃ m, m + 1 = segs.length := ⟨segs.length - 1, by omega⟩
    obtain ⟨b, off, lv, rfl, hok, e0, e1, e2, e3, hlv⟩ := hc m (by omega)
    obtain ⟨ql, cl, rfl, -⟩ := hlv
    have hlast := last_of hm
    obtain ⟨ex, hex, hes, -, -⟩ := h.get hk (j := m) (by omega)
    have hfit := h.fit _ (List.getElem_mem (show m < segs.length by omega))
    have hrm : roomS sz segs = 32 * sz - (bytesS (segs[m]'(by omega))).length := by unfold roomS; rw [hlast]
    rw [hrm]
    have hsize : ∀ W, Below w.heap.size w W → Calls Tryz.prog 69 #[.pointer (some ⟨X, 0, none⟩), .string (nameS (segs[m]'(by omega)).n)] W (Gives W (.int .i64 (32 * sz : Nat))) := fun W hb => by
      have h1 := dsize_any W Kp X D n safe cur false now saved epoch which (hd.below hb) (nameS (segs[m]'(by omega)).n)
      rw [hex] at h1
      simpa [hes] using h1
    have hname : ∀ W, Below w.heap.size w W → Calls Tryz.prog 8 #[.int .i64 ((segs[m]'(by omega)).n : Int)] W (Gives W (.string (nameS (segs[m]'(by omega)).n))) := fun W hb => name_ok _ hok.n W (hE.below hb)
    generalize segs[m]'(by omega) = s at *
    obtain ⟨N, hN⟩ : ∃ N, N = segs.length := ⟨_, rfl⟩
    rw [← hN] at c2 hlc hll hm
    generalize (bytesS s).length = en at *
    generalize s.l.length = k at *
    generalize s.n = sn at *
    generalize s.first = sf at *
    have n0 : (0 : Int) < (N : Int) := by omega
    have n1 : ¬ (N : Int) = 0 := by omega
    have n2 : IntKind.i64.wrap ((N : Int) - 1) = (m : Int) := by rw [IntWalk.i64_in _ (by omega)]; omega
    have n3 : (m : Int) < (N : Int) := by omega
    clear hc hm hn0 hlast hrm hex hes hok hd hE h hk hR hN
    obtain ⟨S32, hS32⟩ : ∃ S32, S32 = 32 * sz := ⟨_, rfl⟩
    rw [← hS32] at hsize hfit ⊢
    have n4 : IntKind.i64.wrap ((S32 : Int) - (en : Int)) = ((S32 - en : Nat) : Int) := by rw [IntWalk.i64_in _ (by omega)]; omega
    clear hS32 hsz
    go_enter Tryz.func36, Tryz.ntmps36
    go_upto_region 3 with fail
    refine wp_region_held_drew (S := (fun w' => w'.cell? ⟨L, 2, none⟩ = some (.slice (some ⟨b, off, none⟩) N cap) ∧ w'.cell? ⟨b, off + m * 4, none⟩ = some (.int .i64 (sf : Int)) ∧ w'.cell? ⟨b, off + m * 4 + 1, none⟩ = some (.int .i64 (en : Int)) ∧ w'.cell? ⟨b, off + m * 4 + 2, none⟩ = some (.int .i64 (sn : Int)) ∧ w'.cell? ⟨b, off + m * 4 + 3, none⟩ = some (.slice ql k cl))) (by kernel_rfl) (by exact ⟨c2, e0, e1, e2, e3⟩) (fun hHeld => ?_)
    refine' takeL (v := _) 0 rfl (by kernel_rfl) (by kernel_rfl) (by kernel_rfl) (fun _ _ _ h => h) (by rfl) ?_ (by assumption) ?_; rotate_left 1; (focus (intro w hSw; (try dsimp only at hSw); go_simp; (try with_reducible rfl); done))
    (try simp only [Act.put, List.setIfInBounds_toArray, List.set_cons_zero, List.set_cons_succ])
    refine' takeL (v := _) 1 rfl (by kernel_rfl) (by kernel_rfl) (by kernel_rfl) (fun _ _ _ h => h) (by rfl) ?_ (by assumption) ?_; rotate_left 1; (focus (intro w hSw; (try dsimp only at hSw); go_simp; (try with_reducible rfl); done))
    (try simp only [Act.put, List.setIfInBounds_toArray, List.set_cons_zero, List.set_cons_succ])
    refine' takeL (v := _) 2 rfl (by kernel_rfl) (by kernel_rfl) (by kernel_rfl) (fun _ _ _ h => h) (by rfl) ?_ (by assumption) ?_; rotate_left 1; (focus (intro w hSw; (try dsimp only at hSw); go_simp; (try with_reducible rfl); done))
    (try simp only [Act.put, List.setIfInBounds_toArray, List.set_cons_zero, List.set_cons_succ])
    refine' takeL (v := _) 3 rfl (by kernel_rfl) (by kernel_rfl) (by kernel_rfl) (fun _ _ _ h => h) (by rfl) ?_ (by assumption) ?_; rotate_left 1; (focus (intro w hSw; (try dsimp only at hSw); go_simp; (try with_reducible rfl); done))
    (try simp only [Act.put, List.setIfInBounds_toArray, List.set_cons_zero, List.set_cons_succ])
    refine' takeL (v := _) 4 rfl (by kernel_rfl) (by kernel_rfl) (by kernel_rfl) (fun _ _ _ h => h) (by rfl) ?_ (by assumption) ?_; rotate_left 1; (focus (intro w hSw; (try dsimp only at hSw); go_simp; (try with_reducible rfl); done))
    (try simp only [Act.put, List.setIfInBounds_toArray, List.set_cons_zero, List.set_cons_succ])
    refine' takeL (v := _) 5 rfl (by kernel_rfl) (by kernel_rfl) (by kernel_rfl) (fun _ _ _ h => h) (by rfl) ?_ (by assumption) ?_; rotate_left 1; (focus (intro w hSw; (try dsimp only at hSw); go_simp; (try with_reducible rfl); done))
    (try simp only [Act.put, List.setIfInBounds_toArray, List.set_cons_zero, List.set_cons_succ])
    refine' takeL (v := _) 6 rfl (by kernel_rfl) (by kernel_rfl) (by kernel_rfl) (fun _ _ _ h => h) (by rfl) ?_ (by assumption) ?_; rotate_left 1; (focus (intro w hSw; (try dsimp only at hSw); go_simp; (try with_reducible rfl); done))
    (try simp only [Act.put, List.setIfInBounds_toArray, List.set_cons_zero, List.set_cons_succ])
    refine' takeL (v := _) 7 rfl (by kernel_rfl) (by kernel_rfl) (by kernel_rfl) (fun _ _ _ h => h) (by rfl) ?_ (by assumption) ?_; rotate_left 1; (focus (intro w hSw; (try dsimp only at hSw); go_simp; (try with_reducible rfl); done))
    (try simp only [Act.put, List.setIfInBounds_toArray, List.set_cons_zero, List.set_cons_succ])
    refine' takeL (v := _) 8 rfl (by kernel_rfl) (by kernel_rfl) (by kernel_rfl) (fun _ _ _ h => h) (by rfl) ?_ (by assumption) ?_; rotate_left 1; (focus (intro w hSw; (try dsimp only at hSw); go_simp; (try with_reducible rfl); done))
    (try simp only [Act.put, List.setIfInBounds_toArray, List.set_cons_zero, List.set_cons_succ])
    refine' takeL (v := _) 9 rfl (by kernel_rfl) (by kernel_rfl) (by kernel_rfl) (fun _ _ _ h => h) (by rfl) ?_ (by assumption) ?_; rotate_left 1; (focus (intro w hSw; (try dsimp only at hSw); go_simp; (try with_reducible rfl); done))
    (try simp only [Act.put, List.setIfInBounds_toArray, List.set_cons_zero, List.set_cons_succ])
    refine' takeL (v := _) 10 rfl (by kernel_rfl) (by kernel_rfl) (by kernel_rfl) (fun _ _ _ h => h) (by rfl) ?_ (by assumption) ?_; rotate_left 1; (focus (intro w hSw; (try dsimp only at hSw); go_simp; (try with_reducible rfl); done))
    (try simp only [Act.put, List.setIfInBounds_toArray, List.set_cons_zero, List.set_cons_succ])
    refine' takeL (v := _) 11 rfl (by kernel_rfl) (by kernel_rfl) (by kernel_rfl) (fun _ _ _ h => h) (by rfl) ?_ (by assumption) ?_; rotate_left 1; (focus (intro w hSw; (try dsimp only at hSw); go_simp; (try with_reducible rfl); done))
    (try simp only [Act.put, List.setIfInBounds_toArray, List.set_cons_zero, List.set_cons_succ])
    refine stepL 12 rfl (by kernel_rfl) (fun K hK => ?_)
    go_simp
    have hbA : ∀ o, Below w.heap.size w (w.drew.alloc o) := fun o => below_alloc ((Below.refl _ _).drew) o
    refine hK.out _ _ (by exact ⟨bcell (hbA _) c2, bcell (hbA _) e0, bcell (hbA _) e1, bcell (hbA _) e2, bcell (hbA _) e3⟩) (fun hHeld => ?_)
    clear hK K
    (try simp only [Act.put, List.setIfInBounds_toArray, List.set_cons_zero, List.set_cons_succ])
    refine stepL 13 rfl (by kernel_rfl) (fun K hK => ?_)
    go_simp
    generalize hW2 : World.alloc w _ = w5
    have hb5 : Below w.heap.size w w5 := by rw [← hW2]; exact below_new _ _
    have g1 : w5.cell? ⟨w.heap.size, 1, none⟩ = some (.int .i64 (en : Int)) := by rw [← hW2]; simp
    have g2 : w5.cell? ⟨w.heap.size, 2, none⟩ = some (.int .i64 (sn : Int)) := by rw [← hW2]; simp
    clear hW2 hbA
    have hb5d := hb5.drew
    refine hK.out _ _ (by exact ⟨bcell hb5d c2, bcell hb5d e0, bcell hb5d e1, bcell hb5d e2, bcell hb5d e3⟩) (fun hHeld => ?_)
    clear hK K
    (try simp only [Act.put, List.setIfInBounds_toArray, List.set_cons_zero, List.set_cons_succ])
    refine wpAnyH_done (by kernel_rfl) ?_ _
    go_upto_region 4 with fail
    replace c0 := fun s => later_cell (bcell hb5d c0) s
    replace g1 := fun s => later_cell (w := w5.drew) g1 s
    replace g2 := fun s => later_cell (w := w5.drew) g2 s
    have hnm := fun s => hname (later w5.drew s) (below_trans hb5d (later_below _ _))
    have hsi := fun s => hsize (later w5.drew s) (below_trans hb5d (later_below _ _))
    refine wp_region_mild (by kernel_rfl) (by kernel_rfl) ?_
    repeat (any_goals (first | go_big_quiet_step ((first | (exact mild_of (hnm _)) | (exact mild_of (hsi _)))) | quiet_step ((first | (exact mild_of (hnm _)) | (exact mild_of (hsi _)))) | (refine wpQuiet_step (fun K hK => ?_); go_simp; split <;> (refine hK _ ?_; clear hK K))))
    all_goals (refine wpQuiet_nil ?_; intro W hW)
    go_wp2
    go_ret
    exact ⟨rfl, below_trans hb5d hW⟩
end Go.Proofs.YtlhefifejcoecaaGreatDoor

namespace Go.Proofs.YtlhefifejcoecaaGreatDoor
open Go.RowKit Go.Proofs Go.Shelf

theorem owns_base {w : World} {base base' : Nat} {e : TypeId} {size : Nat} {v : Value} {n : Nat} {xs : List Value} (h : w.ownsRow base' e size v n xs) (hb : base ≤ base') : w.ownsRow base e size v n xs := by
  obtain ⟨h1, h2⟩ := h
  refine ⟨h1, ?_⟩
  rcases h2 with h2 | ⟨g, cap, cur, rfl, hb', h3⟩
  · exact .inl h2
  · exact .inr ⟨g, cap, cur, rfl, Nat.le_trans hb hb', h3⟩

theorem owns_typed {w w' : World} {base : Nat} {e : TypeId} {size : Nat} {v : Value} {n : Nat} {xs : List Value} (h : w.ownsRow base e size v n xs)
    (hk : ∀ g cs, v.ownBlock = some g → w.heap[g]? = some (.cells cs e (0, 0)) → w'.heap[g]? = w.heap[g]?) : w'.ownsRow base e size v n xs := by
  obtain ⟨h1, h2⟩ := h
  refine ⟨h1, ?_⟩
  rcases h2 with h2 | ⟨g, cap, cur, rfl, hb, hg, h3⟩
  · exact .inl h2
  · exact .inr ⟨g, cap, cur, rfl, hb, (hk g cur rfl hg).trans hg, h3⟩

theorem owns_ne {w : World} {base : Nat} {e T' : TypeId} {size b : Nat} {v : Value} {n : Nat} {xs : List Value} {cs : Array Value} {fr : Nat × Nat} (h : w.ownsRow base e size v n xs) (hb : w.heap[b]? = some (.cells cs T' fr)) (hT : e ≠ T') : v.ownBlock ≠ some b := by
  rcases h.2 with ⟨rfl, hn⟩ | ⟨g, cap, cur, rfl, hbg, hg, _⟩
  · simp [Value.ownBlock]
  · intro e
    simp only [Value.ownBlock, Option.some.injEq] at e
    subst e
    rw [hg] at hb
    cases hb
    exact hT rfl

theorem owns_at {w : World} {base : Nat} {e : TypeId} {size : Nat} {v : Value} {n : Nat} {xs : List Value} (h : w.ownsRow base e size v n xs) {g : Nat} (hg : v.ownBlock = some g) : ∃ cs, w.heap[g]? = some (.cells cs e (0, 0)) := by
  rcases h.2 with ⟨rfl, hn⟩ | ⟨g', cap, cur, rfl, hbg, hg', _⟩
  · simp [Value.ownBlock] at hg
  · simp only [Value.ownBlock, Option.some.injEq] at hg
    subst hg
    exact ⟨cur, hg'⟩

theorem set_at {w : World} {b : Nat} {cs : Array Value} {t : TypeId} {fr : Nat × Nat} (h : w.heap[b]? = some (.cells cs t fr)) (i : Nat) (u : Value) : (w.setCell ⟨b, i, none⟩ u).heap[b]? = some (.cells (cs.setIfInBounds i u) t fr) := by
  simp [World.setCell, Array.getElem?_modify, h]

theorem set_other (w : World) (b i k : Nat) (u : Value) (h : k ≠ b) : (w.setCell ⟨b, i, none⟩ u).heap[k]? = w.heap[k]? := Below.heap_setCell _ _ _ _ (fun e => h e)

theorem tSegLog : (72 : TypeId) ≠ 32 := by decide
theorem tStrLog : (25 : TypeId) ≠ 32 := by decide
theorem tStrSeg : (25 : TypeId) ≠ 72 := by decide
theorem tU8Log : (5 : TypeId) ≠ 32 := by decide
theorem tU8Seg : (5 : TypeId) ≠ 72 := by decide
theorem tU8Str : (5 : TypeId) ≠ 25 := by decide

theorem MSeg.In.typed {w w' : World} {base : Nat} {KL KL' : Nat → Prop} {m : MSeg} (h : m.In w base KL) (hr : ∀ g cs, m.lv.ownBlock = some g → w.heap[g]? = some (.cells cs 25 (0, 0)) → w'.heap[g]? = w.heap[g]?)
    (hd : ∀ g cs, KL g → w.heap[g]? = some (.cells cs 5 (0, 0)) → w'.heap[g]? = w.heap[g]?) (hK : ∀ g, KL g → KL' g) : m.In w' base KL' :=
  ⟨⟨owns_typed h.own.row hr, h.own.len⟩, fun g hg => hK g (h.bk g hg), h.len, fun j h1 h2 => ⟨owns_typed (h.each j h1 h2).1 fun g cs hg hc => hd g cs ((h.each j h1 h2).2 g hg) hc, fun g hg => hK g ((h.each j h1 h2).2 g hg)⟩⟩

/-- What the log's blocks are behind a turn: all new ones too. -/
def KLN (KL : Nat → Prop) (a b : Nat) : Nat → Prop := fun k => KL k ∨ a ≤ k ∧ k < b

/-- A segment more. -/
theorem LogM.push {w w1 w2 : World} {base : Nat} {KL : Nat → Prop} {L X sz : Nat} {ms : List MSeg} {sv v' : Value} {s : Seg} (h : LogM w base KL L X sz ms) (hlt : ∀ k, KL k → k < w.heap.size) (hbase : base ≤ w.heap.size) (hs : s.l = [])
    (hL : w.heap[L]? = some (.cells #[.pointer (some ⟨X, 0, none⟩), .int .i64 (sz : Int), sv] 32 (0, 0))) (hb1 : Below w.heap.size w w1)
    (hown : w2.ownsRow base 72 4 v' (ms.length + 1) ((ms.map MSeg.cells).flatten ++ (MSeg.mk s (.slice none 0 0) []).cells)) (hg : w1.grownBy w2 sv.ownBlock) (hv : v'.ownBlock = sv.ownBlock ∨ v'.ownBlock = some w1.heap.size) :
    LogM (w2.setCell ⟨L, 2, none⟩ v') base (KLN KL w.heap.size w2.heap.size) L X sz (ms ++ [⟨s, .slice none 0 0, []⟩]) ∧ ∀ k, k < w.heap.size → ¬ KL k → (w2.setCell ⟨L, 2, none⟩ v').heap[k]? = w.heap[k]? := by
  obtain ⟨⟨sv', hL', hsv, hsk⟩, hkl, heach, hap⟩ := h
  obtain rfl : sv' = sv := by rw [hL] at hL'; simpa using hL'.symm
  have hLw := hlt L hkl
  have hs1 := hb1.size
  have hs2 := hg.size
  have hneL : sv'.ownBlock ≠ some L := owns_ne hsv.row hL tSegLog
  have hLw2 : w2.heap[L]? = some (.cells #[.pointer (some ⟨X, 0, none⟩), .int .i64 (sz : Int), sv'] 32 (0, 0)) := (hg.block L (by omega) (fun e => hneL e.symm)).trans ((hb1.block L hLw).trans hL)
  have hvL : v'.ownBlock ≠ some L := owns_ne hown hLw2 tSegLog
  have same : ∀ k, k < w.heap.size → k ≠ L → some k ≠ sv'.ownBlock → (w2.setCell ⟨L, 2, none⟩ v').heap[k]? = w.heap[k]? := fun k hk h1 h2 => (set_other _ _ _ _ _ h1).trans ((hg.block k (by omega) h2).trans (hb1.block k hk))
  have typed : ∀ g cs e, KL g → w.heap[g]? = some (.cells cs e (0, 0)) → e ≠ 32 → e ≠ 72 → (w2.setCell ⟨L, 2, none⟩ v').heap[g]? = w.heap[g]? := fun g cs e hk hc h1 h2 => by
    refine same g (hlt g hk) (fun e2 => ?_) (fun e2 => ?_)
    · subst e2; rw [hL] at hc; cases hc; exact h1 rfl
    · obtain ⟨cs', hc'⟩ := owns_at hsv.row e2.symm
      rw [hc'] at hc; cases hc; exact h2 rfl
  refine ⟨⟨⟨v', ?_, ⟨?_, ?_⟩, fun g hg' => ?_⟩, .inl hkl, fun m hm => ?_, ?_⟩, fun k hk hnk => same k hk (fun e => hnk (e ▸ hkl)) (fun e => hnk (hsk k e.symm))⟩
  · rw [set_at hLw2]; rfl
  · have h1 : (w2.setCell ⟨L, 2, none⟩ v').ownsRow base 72 4 v' (ms.length + 1) ((ms.map MSeg.cells).flatten ++ (MSeg.mk s (.slice none 0 0) []).cells) := owns_block hown fun g hg' => set_other _ _ _ _ _ (fun e => hvL (by rw [hg', e]))
    simpa using h1
  · intro c hc
    obtain ⟨m, -, rfl⟩ := List.mem_map.1 hc
    rfl
  · rcases hv with h1 | h1
    · exact .inl (hsk g (h1 ▸ hg'))
    · rw [h1] at hg'
      simp only [Option.some.injEq] at hg'
      subst hg'
      refine .inr ⟨by omega, ?_⟩
      obtain ⟨cs, hc⟩ := owns_at hown h1
      exact heap_lt hc
  · rcases List.mem_append.1 hm with h1 | h1
    · exact (heach m h1).typed (fun g cs hg' hc => typed g cs _ ((heach m h1).bk g hg') hc tStrLog tStrSeg) (fun g cs hk hc => typed g cs _ hk hc tU8Log tU8Seg) fun _ hg => .inl hg
    · simp only [List.mem_cons, List.not_mem_nil, or_false] at h1
      subst h1
      exact ⟨⟨World.ownsRow_nil _ _ _ _, by simp⟩, fun g hg' => by simp [Value.ownBlock] at hg', by rw [hs]; rfl, fun j h1 h2 => by simp at h1⟩
  · rw [List.pairwise_append]
    refine ⟨hap, by simp, fun a ha b hb => ?_⟩
    simp only [List.mem_cons, List.not_mem_nil, or_false] at hb
    subst hb
    cases a.lv.ownBlock with
    | none => exact .inl rfl
    | some g => exact .inr (by simp [Value.ownBlock])

/-- A byte string more in the last segment: its row grows, two cells of the segment are written. -/
theorem LogM.put {w w1 w2 : World} {base : Nat} {KL : Nat → Prop} {L X sz g cap : Nat} {init : List MSeg} {m : MSeg} {v' vb : Value} {b : List UInt8} (h : LogM w base KL L X sz (init ++ [m])) (hlt : ∀ k, KL k → k < w.heap.size) (hbase : base ≤ w.heap.size)
    (hL : w.heap[L]? = some (.cells #[.pointer (some ⟨X, 0, none⟩), .int .i64 (sz : Int), .slice (some ⟨g, 0, none⟩) (init.length + 1) cap] 32 (0, 0))) (hb1 : Below w.heap.size w w1)
    (hvb : OwnB w1 w.heap.size vb b)
    (hown : w2.ownsRow base 25 1 v' (m.vs.length + 1) (m.vs ++ [vb])) (hg : w1.grownBy w2 m.lv.ownBlock) (hv : v'.ownBlock = m.lv.ownBlock ∨ v'.ownBlock = some w1.heap.size) (en : Value) (hen : en = .int .i64 (((bytesS m.s).length + (padS b).length : Nat) : Int)) :
    LogM ((w2.setCell ⟨g, init.length * 4 + 3, none⟩ v').setCell ⟨g, init.length * 4 + 1, none⟩ en) base (KLN KL w.heap.size w2.heap.size) L X sz (init ++ [⟨{ m.s with l := m.s.l ++ [b] }, v', m.vs ++ [vb]⟩]) ∧
      ∀ k, k < w.heap.size → ¬ KL k → ((w2.setCell ⟨g, init.length * 4 + 3, none⟩ v').setCell ⟨g, init.length * 4 + 1, none⟩ en).heap[k]? = w.heap[k]? := by
  obtain ⟨⟨sv', hL', hsv, hsk⟩, hkl, heach, hap⟩ := h
  obtain rfl : sv' = .slice (some ⟨g, 0, none⟩) (init.length + 1) cap := by rw [hL] at hL'; simpa using hL'.symm
  have hm := heach m (by simp)
  have hkg : KL g := hsk g rfl
  obtain ⟨gc, hgc⟩ := owns_at hsv.row (g := g) rfl
  have hs1 := hb1.size
  have hs2 := hg.size
  have hsame : ∀ k, k < w.heap.size → k ≠ g → some k ≠ m.lv.ownBlock → ((w2.setCell ⟨g, init.length * 4 + 3, none⟩ v').setCell ⟨g, init.length * 4 + 1, none⟩ en).heap[k]? = w.heap[k]? := fun k hk h1 h2 =>
    (set_other _ _ _ _ _ h1).trans ((set_other _ _ _ _ _ h1).trans ((hg.block k (by omega) h2).trans (hb1.block k hk)))
  have hmg : m.lv.ownBlock ≠ some g := owns_ne hm.own.row hgc tStrSeg
  have hmL : m.lv.ownBlock ≠ some L := owns_ne hm.own.row hL tStrLog
  have hgL : g ≠ L := fun e => by subst e; rw [hL] at hgc; cases hgc
  have hsv2 : OwnR w2 base 72 4 (.slice (some ⟨g, 0, none⟩) (init.length + 1) cap) ((init ++ [m]).map MSeg.cells) := (hsv.below hb1).kept hg (.inr fun e => hmg e.symm)
  have hst := hsv2.stored init.length 3 (by simp) (by omega) v'
  have hst2 := hst.stored init.length 1 (by simp) (by omega) en
  have hcss : (((init ++ [m]).map MSeg.cells).set init.length ((((init ++ [m]).map MSeg.cells)[init.length]'(by simp)).set 3 v')).set init.length (((((init ++ [m]).map MSeg.cells).set init.length ((((init ++ [m]).map MSeg.cells)[init.length]'(by simp)).set 3 v'))[init.length]'(by simp)).set 1 en) =
      (init ++ [MSeg.mk { m.s with l := m.s.l ++ [b] } v' (m.vs ++ [vb])]).map MSeg.cells := by
    rw [List.getElem_set_self, List.set_set]
    simp only [List.map_append, List.map_cons, List.map_nil]
    rw [List.set_append_right _ _ (by simp)]
    congr 1
    simp only [List.length_map, Nat.sub_self, List.set_cons_zero]
    rw [List.getElem_append_right (by simp)]
    simp only [List.length_map, Nat.sub_self, List.getElem_cons_zero]
    unfold MSeg.cells
    rw [hen, bytesS_snoc, List.length_append]
    rfl
  rw [hcss] at hst2
  have hvg : v'.ownBlock ≠ some g := by
    have hgw2 : w2.heap[g]? = some (.cells gc 72 (0, 0)) := (hg.block g (by have := heap_lt hgc; omega) (fun e => hmg e.symm)).trans ((hb1.block g (heap_lt hgc)).trans hgc)
    exact owns_ne hown hgw2 tStrSeg
  have htyped8 : ∀ k cs, KL k → w.heap[k]? = some (.cells cs 5 (0, 0)) → ((w2.setCell ⟨g, init.length * 4 + 3, none⟩ v').setCell ⟨g, init.length * 4 + 1, none⟩ en).heap[k]? = w.heap[k]? := fun k cs hk hc => by
    refine hsame k (hlt k hk) (fun e => ?_) (fun e => ?_)
    · subst e; rw [hgc] at hc; cases hc
    · obtain ⟨cs', hc'⟩ := owns_at hm.own.row e.symm
      rw [hc'] at hc; cases hc
  have hnew : ∀ k, v'.ownBlock = some k → KLN KL w.heap.size w2.heap.size k := fun k hk => by
    rcases hv with h1 | h1
    · exact .inl (hm.bk k (h1 ▸ hk))
    · rw [h1] at hk
      simp only [Option.some.injEq] at hk
      subst hk
      obtain ⟨cs, hc⟩ := owns_at hown h1
      exact .inr ⟨by omega, heap_lt hc⟩
  refine ⟨⟨⟨_, ?_, hst2, fun k hk => .inl (hsk k hk)⟩, .inl hkl, fun a ha => ?_, ?_⟩, fun k hk hnk => hsame k hk (fun e => hnk (e ▸ hkg)) (fun e => hnk (hm.bk k e.symm))⟩
  · exact (hsame L (hlt L hkl) (fun e => hgL e.symm) (fun e => hmL e.symm)).trans hL
  · rcases List.mem_append.1 ha with h1 | h1
    · refine (heach a (by simp [h1])).typed (fun k cs hk hc => ?_) htyped8 fun _ hk => .inl hk
      refine hsame k (heap_lt hc) (fun e => ?_) (fun e => ?_)
      · subst e; rw [hgc] at hc; cases hc
      · rw [List.pairwise_append] at hap
        rcases hap.2.2 a h1 m (by simp) with h2 | h2
        · rw [hk] at h2; cases h2
        · exact h2 (hk.trans e)
    · simp only [List.mem_cons, List.not_mem_nil, or_false] at h1
      subst h1
      refine ⟨⟨?_, fun c hc => by obtain ⟨x, -, rfl⟩ := List.mem_map.1 hc; rfl⟩, hnew, by simp [hm.len], fun j h1 h2 => ?_⟩
      · have h3 : ((w2.setCell ⟨g, init.length * 4 + 3, none⟩ v').setCell ⟨g, init.length * 4 + 1, none⟩ en).ownsRow base 25 1 v' (m.vs.length + 1) (m.vs ++ [vb]) :=
          owns_block (owns_block hown fun k hk => set_other _ _ _ _ _ (fun e => hvg (by rw [hk, e]))) fun k hk => set_other _ _ _ _ _ (fun e => hvg (by rw [hk, e]))
        have e1 : ((m.vs ++ [vb]).map fun v => [v]).flatten = m.vs ++ [vb] := by
          generalize m.vs ++ [vb] = l
          induction l with
          | nil => rfl
          | cons x l ih => simp [ih]
        dsimp only
        rw [e1]
        simpa using h3
      · dsimp only at h1 h2 ⊢
        simp only [List.length_append, List.length_cons, List.length_nil] at h1 h2
        by_cases h4 : j < m.vs.length
        · have h5 : j < m.s.l.length := by rw [← hm.len]; exact h4
          rw [List.getElem_append_left h4, List.getElem_append_left h5]
          obtain ⟨h6, h7⟩ := hm.each j h4 h5
          exact ⟨owns_typed h6 fun k cs hk hc => htyped8 k cs (h7 k hk) hc, fun k hk => .inl (h7 k hk)⟩
        · have h5 : j = m.vs.length := by omega
          subst h5
          rw [List.getElem_append_right (Nat.le_refl _), List.getElem_append_right (by rw [hm.len]; exact Nat.le_refl _)]
          simp only [Nat.sub_self, List.getElem_cons_zero, hm.len]
          have hvk : ∀ k, vb.ownBlock = some k → w.heap.size ≤ k ∧ k < w1.heap.size := fun k hk => World.ownsRow.lt hvb k hk
          refine ⟨owns_typed (owns_base hvb hbase) fun k cs hk hc => ?_, fun k hk => .inr ⟨(hvk k hk).1, by have := (hvk k hk).2; omega⟩⟩
          have hk2 := hvk k hk
          have hkg2 : k ≠ g := fun e => by have := heap_lt hgc; omega
          refine (set_other _ _ _ _ _ hkg2).trans ((set_other _ _ _ _ _ hkg2).trans (hg.block k hk2.2 fun e => ?_))
          have := hlt k (hm.bk k e.symm)
          omega
  · rw [List.pairwise_append] at hap ⊢
    refine ⟨hap.1, by simp, fun a ha c hc => ?_⟩
    simp only [List.mem_cons, List.not_mem_nil, or_false] at hc
    subst hc
    dsimp only
    cases hao : a.lv.ownBlock with
    | none => exact .inl rfl
    | some k =>
      refine .inr fun e => ?_
      rcases hv with h1 | h1
      · rcases hap.2.2 a ha m (by simp) with h2 | h2
        · rw [hao] at h2; cases h2
        · exact h2 (hao.trans (e.trans h1))
      · rw [h1] at e
        simp only [Option.some.injEq] at e
        have := hlt k ((heach a (by simp [ha])).bk k hao)
        omega
end Go.Proofs.YtlhefifejcoecaaGreatDoor
