/- The log, as it lies in memory; made, First, Next. -/
/- The log in memory, its own: rows of segments, of byte strings; with its directory. -/
/- The log's names; texts, as the laws hold them against each other. -/
import Derived.Test.YtlhefifejcoecaaGreatDoorSegA
import Derived.Test.YtlhefifejcoecaaGreatDoorSegB
import Derived.Test.YtlhefifejcoecaaGreatDoorJDirV
namespace Go.Proofs.YtlhefifejcoecaaGreatDoor
open Go.RowKit Go.Proofs Go.Shelf
attribute [local go_sem ↓] Go.wp_at_zero Go.wp_at_succ

structure Seg where
  first : Nat
  n : Nat
  l : List (List UInt8)

def headS (f : Nat) : List UInt8 := padS (numS f)
def bytesS (s : Seg) : List UInt8 := headS s.first ++ s.l.flatMap padS
structure Seg.Ok (s : Seg) : Prop where
  first : s.first ≤ 2199023255552
  n : s.n ≤ 999999
  len : s.l.length ≤ 1000000
  fits : (bytesS s).length ≤ 20000
  each : ∀ b ∈ s.l, b.length ≤ 8192

def StrE (w : World) (cs : List Value) (b : List UInt8) : Prop := ∃ v, cs = [v] ∧ SlP 1 ByteE w v b
def SegE (w : World) (cs : List Value) (s : Seg) : Prop := ∃ lv, cs = [.int .i64 (s.first : Int), .int .i64 ((bytesS s).length : Int), .int .i64 (s.n : Int), lv] ∧ SlP 1 StrE w lv s.l
theorem StrE.mono : Mono StrE := ⟨fun hb ⟨v, h, h1⟩ => ⟨v, h, h1.mono ByteE.mono hb⟩⟩
theorem SegE.mono : Mono SegE := ⟨fun hb ⟨v, h, h1⟩ => ⟨v, h, h1.mono StrE.mono hb⟩⟩

/-- The log, to be read. -/
structure LogR (w : World) (L X sz : Nat) (segs : List Seg) : Prop where
  ex : ∃ sv, w.heap[L]? = some (.cells #[.pointer (some ⟨X, 0, none⟩), .int .i64 (sz : Int), sv] 32 (0, 0)) ∧ SlP 4 SegE w sv segs
  ok : ∀ s ∈ segs, s.Ok

theorem LogR.below {w w' : World} {L X sz : Nat} {segs : List Seg} (h : LogR w L X sz segs) (hb : Below w.heap.size w w') : LogR w' L X sz segs := by
  obtain ⟨⟨sv, h1, h2⟩, h3⟩ := h
  exact ⟨⟨sv, (hb.block _ (heap_lt h1)).trans h1, h2.mono SegE.mono hb⟩, h3⟩

theorem LogR.open_ {w : World} {L X sz : Nat} {segs : List Seg} (h : LogR w L X sz segs) : ∃ q cap, w.cell? ⟨L, 0, none⟩ = some (.pointer (some ⟨X, 0, none⟩)) ∧ w.cell? ⟨L, 1, none⟩ = some (.int .i64 (sz : Int)) ∧
    w.cell? ⟨L, 2, none⟩ = some (.slice q segs.length cap) ∧ L < w.heap.size ∧ segs.length ≤ cap ∧ segs.length ≤ 9223372036854775807 ∧
    ∀ j, (h : j < segs.length) → ∃ b off lv, q = some ⟨b, off, none⟩ ∧ segs[j].Ok ∧ w.cell? ⟨b, off + j * 4, none⟩ = some (.int .i64 (segs[j].first : Int)) ∧ w.cell? ⟨b, off + j * 4 + 1, none⟩ = some (.int .i64 ((bytesS segs[j]).length : Int)) ∧
      w.cell? ⟨b, off + j * 4 + 2, none⟩ = some (.int .i64 (segs[j].n : Int)) ∧ w.cell? ⟨b, off + j * 4 + 3, none⟩ = some lv ∧ SlP 1 StrE w lv segs[j].l := by
  obtain ⟨⟨sv, h1, q, cap, rfl, h4, h5, -, h6⟩, h3⟩ := h
  refine ⟨q, cap, by rw [block_cell h1]; rfl, by rw [block_cell h1]; rfl, by rw [block_cell h1]; rfl, heap_lt h1, h4, h5, fun j hj => ?_⟩
  obtain ⟨b, off, cs, hp, hk, ⟨lv, rfl, hlv⟩, hc⟩ := h6 j hj
  exact ⟨b, off, lv, hp, h3 _ (List.getElem_mem hj), hc 0 (by simp), hc 1 (by simp), hc 2 (by simp), hc 3 (by simp), hlv⟩

set_option maxRecDepth 100000 in
theorem smade_any (w : World) (L X sz : Nat) (segs : List Seg) (h : LogR w L X sz segs) : Calls Tryz.prog 30 #[.pointer (some ⟨L, 0, none⟩)] w (Gives w (.bool true)) := by
  obtain ⟨q, cap, c0, -, -, hL, -⟩ := h.open_
  clear h
  go_enter Tryz.func30, Tryz.ntmps30
  go_wp2_with fail
  go_ret
  exact ⟨rfl, Below.refl _ _⟩

set_option maxRecDepth 100000 in
theorem smade_nil (w : World) : Calls Tryz.prog 30 #[.pointer none] w (Gives w (.bool false)) := by
  go_enter Tryz.func30, Tryz.ntmps30
  go_wp2_with fail
  go_ret
  exact ⟨rfl, Below.refl _ _⟩

def firstS (segs : List Seg) : Nat := match segs with | [] => 0 | s :: _ => s.first
def lastN (s : Seg) : Nat := s.first + s.l.length
def nextS (segs : List Seg) : Nat := match segs.getLast? with | none => 0 | some s => lastN s

set_option maxRecDepth 100000 in
theorem first_any (w : World) (L X sz : Nat) (segs : List Seg) (h : LogR w L X sz segs) : Calls Tryz.prog 16 #[.pointer (some ⟨L, 0, none⟩)] w (Gives w (.int .i64 (firstS segs : Nat))) := by
  have hmade := smade_any w L X sz segs h
  obtain ⟨q, cap, c0, c1, c2, hL, hlc, hll, hc⟩ := h.open_
  clear h
  cases segs with
  | nil =>
    simp only [List.length_nil] at *
    go_enter Tryz.func16, Tryz.ntmps16
    go_wp2_with (first | (go_at_call 30; refine hmade.mono ?_; rintro e w1 ⟨rfl, hb1⟩; have d2 := bcell hb1 c2) | fail)
    go_ret
    exact ⟨rfl, hb1⟩
  | cons s r =>
    obtain ⟨b, off, lv, rfl, hok, e0, -, -, -, -⟩ := hc 0 (by simp)
    simp only [List.getElem_cons_zero, Nat.zero_mul, Nat.add_zero] at e0 hok
    obtain ⟨n, hn⟩ : ∃ n, n = (s :: r).length := ⟨_, rfl⟩
    have hn1 : 0 < n := by rw [hn]; simp
    rw [← hn] at c2 hlc hll
    clear hc hn
    have n0 : (0 : Int) < (n : Int) := by omega
    have n1 : ¬ (n : Int) = 0 := by omega
    go_enter Tryz.func16, Tryz.ntmps16
    go_wp2_with (first | (go_at_call 30; refine hmade.mono ?_; rintro e w1 ⟨rfl, hb1⟩; have d2 := bcell hb1 c2; have f0 := bcell hb1 e0) | fail)
    go_ret
    exact ⟨rfl, hb1⟩

def segV (f e n : Nat) (lv : Value) : Value := .agg #[.int .i64 (f : Int), .int .i64 (e : Int), .int .i64 (n : Int), lv]

set_option maxRecDepth 100000 in
theorem snext_any (w : World) (f e n k : Nat) (q : Option Addr) (cap : Nat) (hf : f ≤ 2199023255552) (hk : k ≤ 1000000) : Calls Tryz.prog 33 #[segV f e n (.slice q k cap)] w (Gives w (.int .i64 ((f + k : Nat) : Int))) := by
  have hw : IntKind.i64.wrap ((f : Int) + (k : Int)) = ((f + k : Nat) : Int) := by rw [IntWalk.i64_in _ (by omega)]; omega
  unfold segV
  go_enter Tryz.func33, Tryz.ntmps33
  go_wp2_with fail
  go_ret
  exact ⟨rfl, below_new _ _⟩

set_option maxRecDepth 100000 in
theorem lnext_any (w : World) (L X sz : Nat) (segs : List Seg) (h : LogR w L X sz segs) : Calls Tryz.prog 17 #[.pointer (some ⟨L, 0, none⟩)] w (Gives w (.int .i64 (nextS segs : Nat))) := by
  have hmade := smade_any w L X sz segs h
  obtain ⟨q, cap, c0, c1, c2, hL, hlc, hll, hc⟩ := h.open_
  clear h
  by_cases hn0 : segs.length = 0
  · obtain rfl : segs = [] := List.eq_nil_of_length_eq_zero hn0
    simp only [List.length_nil] at *
    go_enter Tryz.func17, Tryz.ntmps17
    go_wp2_with (first | (go_at_call 30; refine hmade.mono ?_; rintro e w1 ⟨rfl, hb1⟩; have d2 := bcell hb1 c2) | fail)
    go_ret
    exact ⟨rfl, hb1⟩
  · obtain ⟨n, hn⟩ : ∃ n, n + 1 = segs.length := ⟨segs.length - 1, by omega⟩
    obtain ⟨b, off, lv, rfl, hok, e0, e1, e2, e3, hlv⟩ := hc n (by omega)
    have hlast : segs.getLast? = some (segs[n]'(by omega)) := by
      have h1 : segs.length - 1 = n := by omega
      rw [List.getLast?_eq_getElem?, h1, List.getElem?_eq_getElem]
    have hnx : nextS segs = lastN (segs[n]'(by omega)) := by unfold nextS; rw [hlast]
    rw [hnx]
    unfold lastN
    obtain ⟨ql, cl, rfl, hl1, -⟩ := hlv
    obtain ⟨o1, o2, o3, -, -⟩ := hok
    generalize segs[n]'(by omega) = s at *
    obtain ⟨f, m, l⟩ := s
    dsimp only at *
    rw [← hn] at c2 hlc hll
    have hsn := fun W => snext_any W f (bytesS ⟨f, m, l⟩).length m l.length ql cl o1 o3
    generalize (bytesS ⟨f, m, l⟩).length = en at *
    clear hc hn hn0 hlast hnx
    have n0 : (0 : Int) < ((n + 1 : Nat) : Int) := by omega
    have n1 : ¬ ((n + 1 : Nat) : Int) = 0 := by omega
    have n2 : IntKind.i64.wrap (((n + 1 : Nat) : Int) - 1) = (n : Int) := by rw [IntWalk.i64_in _ (by omega)]; omega
    have n3 : (n : Int) < ((n + 1 : Nat) : Int) := by omega
    go_enter Tryz.func17, Tryz.ntmps17
    go_upto_region 3 with (first | (go_at_call 30; refine hmade.mono ?_; rintro e w1 ⟨rfl, hb1⟩; have d2 := bcell hb1 c2; have f0 := bcell hb1 e0; have f1 := bcell hb1 e1; have f2 := bcell hb1 e2; have f3 := bcell hb1 e3) | fail)
    replace d2 := fun s => later_cell d2 s
    replace f0 := fun s => later_cell f0 s
    replace f1 := fun s => later_cell f1 s
    replace f2 := fun s => later_cell f2 s
    replace f3 := fun s => later_cell f3 s
    refine wp_region_mild (by kernel_rfl) (by kernel_rfl) ?_
    repeat (any_goals (first | go_big_quiet_step ((first | (exact mild_of (hsn _)))) | quiet_step ((first | (exact mild_of (hsn _)))) | (refine wpQuiet_step (fun K hK => ?_); go_simp; split <;> (refine hK _ ?_; clear hK K))))
    all_goals (refine wpQuiet_nil ?_; intro W hW)
    go_wp2
    go_ret
    exact ⟨rfl, below_trans hb1 hW⟩
end Go.Proofs.YtlhefifejcoecaaGreatDoor

namespace Go.Proofs.YtlhefifejcoecaaGreatDoor
open Go.RowKit Go.Proofs Go.Shelf

structure MSeg where
  s : Seg
  lv : Value
  vs : List Value

def MSeg.cells (m : MSeg) : List Value := [.int .i64 (m.s.first : Int), .int .i64 ((bytesS m.s).length : Int), .int .i64 (m.s.n : Int), m.lv]
structure MSeg.In (w : World) (base : Nat) (KL : Nat → Prop) (m : MSeg) : Prop where
  own : OwnR w base 25 1 m.lv (m.vs.map fun v => [v])
  bk : ∀ g, m.lv.ownBlock = some g → KL g
  len : m.vs.length = m.s.l.length
  each : ∀ j (h1 : j < m.vs.length) (h2 : j < m.s.l.length), OwnB w base m.vs[j] m.s.l[j] ∧ ∀ g, m.vs[j].ownBlock = some g → KL g

structure LogM (w : World) (base : Nat) (KL : Nat → Prop) (L X sz : Nat) (ms : List MSeg) : Prop where
  ex : ∃ sv, w.heap[L]? = some (.cells #[.pointer (some ⟨X, 0, none⟩), .int .i64 (sz : Int), sv] 32 (0, 0)) ∧ OwnR w base 72 4 sv (ms.map MSeg.cells) ∧ ∀ g, sv.ownBlock = some g → KL g
  kl : KL L
  each : ∀ m ∈ ms, m.In w base KL
  apart : ms.Pairwise fun a b => a.lv.ownBlock = none ∨ a.lv.ownBlock ≠ b.lv.ownBlock

theorem owns_block {w w' : World} {base : Nat} {e : TypeId} {size : Nat} {v : Value} {n : Nat} {xs : List Value} (h : w.ownsRow base e size v n xs) (hk : ∀ g, v.ownBlock = some g → w'.heap[g]? = w.heap[g]?) : w'.ownsRow base e size v n xs := by
  obtain ⟨h1, h2⟩ := h
  refine ⟨h1, ?_⟩
  rcases h2 with h2 | ⟨g, cap, cur, rfl, hb, hg, h3⟩
  · exact .inl h2
  · exact .inr ⟨g, cap, cur, rfl, hb, (hk g rfl).trans hg, h3⟩

theorem OwnR.block {w w' : World} {base : Nat} {T : TypeId} {k : Nat} {v : Value} {css : List (List Value)} (h : OwnR w base T k v css) (hk : ∀ g, v.ownBlock = some g → w'.heap[g]? = w.heap[g]?) : OwnR w' base T k v css := ⟨owns_block h.row hk, h.len⟩

theorem MSeg.In.block {w w' : World} {base : Nat} {KL KL' : Nat → Prop} {m : MSeg} (h : m.In w base KL) (hk : ∀ g, KL g → w'.heap[g]? = w.heap[g]?) (hK : ∀ g, KL g → KL' g) : m.In w' base KL' :=
  ⟨h.own.block fun g hg => hk g (h.bk g hg), fun g hg => hK g (h.bk g hg), h.len, fun j h1 h2 => ⟨owns_block (h.each j h1 h2).1 fun g hg => hk g ((h.each j h1 h2).2 g hg), fun g hg => hK g ((h.each j h1 h2).2 g hg)⟩⟩

theorem LogM.block {w w' : World} {base : Nat} {KL KL' : Nat → Prop} {L X sz : Nat} {ms : List MSeg} (h : LogM w base KL L X sz ms) (hk : ∀ g, KL g → w'.heap[g]? = w.heap[g]?) (hK : ∀ g, KL g → KL' g) : LogM w' base KL' L X sz ms := by
  obtain ⟨⟨sv, h1, h2, h3⟩, h4, h5, h6⟩ := h
  exact ⟨⟨sv, (hk L h4).trans h1, h2.block fun g hg => hk g (h3 g hg), fun g hg => hK g (h3 g hg)⟩, hK L h4, fun m hm => (h5 m hm).block hk hK, h6⟩

theorem LogM.rd {w : World} {base : Nat} {KL : Nat → Prop} {L X sz : Nat} {ms : List MSeg} (h : LogM w base KL L X sz ms) (hok : ∀ m ∈ ms, m.s.Ok) (hl : ms.length ≤ 1000000) : LogR w L X sz (ms.map (·.s)) := by
  obtain ⟨⟨sv, h1, h2, h3⟩, h4, h5, h6⟩ := h
  refine ⟨⟨sv, h1, h2.slp (by simp) (by simp; omega) fun j h7 h8 => ?_⟩, fun s hs => ?_⟩
  · simp only [List.getElem_map]
    simp only [List.length_map] at h7
    have hm := h5 _ (List.getElem_mem h7)
    have ho := hok _ (List.getElem_mem h7)
    generalize ms[j] = m at *
    refine ⟨m.lv, rfl, hm.own.slp (by simpa using hm.len) (by have := ho.len; omega) fun i h9 h10 => ?_⟩
    simp only [List.getElem_map]
    simp only [List.length_map] at h9
    exact ⟨m.vs[i], rfl, (hm.each i h9 h10).1.at (by have := ho.each _ (List.getElem_mem h10); omega)⟩
  · obtain ⟨m, hm, rfl⟩ := List.mem_map.1 hs
    exact hok m hm

/-- What changes only K's blocks leaves the directory. -/
theorem DirX.only {w w' : World} {K : Nat → Prop} {X D n : Nat} {safe cur : List UInt8} {off : Bool} {bn bs : Nat} {now saved : Files} {epoch which : Nat} (h : DirX w K X D n safe cur off bn bs now saved epoch which)
    (hb : ∀ k, k < w.heap.size → ¬ K k → w'.heap[k]? = w.heap[k]?) : DirX w' K X D n safe cur off bn bs now saved epoch which := by
  have hX := (hb X (heap_lt h.blk) h.free.1).trans h.blk
  obtain ⟨f1, f2, f3⟩ := h.free
  have hn : bn < w.heap.size := by
    obtain ⟨es, ck, hg, -⟩ := h.now.map
    exact heap_lt hg
  have hs : bs < w.heap.size := by
    obtain ⟨es, ck, hg, -⟩ := h.saved.map
    exact heap_lt hg
  exact ⟨hX, ⟨h.now.map.block (hb bn hn f2), h.now.small, h.now.few⟩, ⟨h.saved.map.block (hb bs hs f3), h.saved.small, h.saved.few⟩, h.disk.only fun k hk hnk => hb k hk fun hK => hnk (.inl hK), h.free, h.ne⟩

theorem DirAt.only {w w' : World} {K : Nat → Prop} {X D n : Nat} {safe cur : List UInt8} {off : Bool} {now saved : Files} {epoch which : Nat} (h : DirAt w K X D n safe cur off now saved epoch which)
    (hb : ∀ k, k < w.heap.size → ¬ K k → w'.heap[k]? = w.heap[k]?) : DirAt w' K X D n safe cur off now saved epoch which := by
  obtain ⟨bn, bs, h⟩ := h
  exact ⟨bn, bs, h.only hb⟩

theorem DirX.more {w : World} {K K' : Nat → Prop} {X D n : Nat} {safe cur : List UInt8} {off : Bool} {bn bs : Nat} {now saved : Files} {epoch which : Nat} (h : DirX w K X D n safe cur off bn bs now saved epoch which) (hK : ∀ k, k < w.heap.size → K' k → K k) : DirX w K' X D n safe cur off bn bs now saved epoch which :=
  ⟨h.blk, h.now, h.saved, h.disk.more (fun k hk h2 => by
    rcases h2 with h2 | h2
    · exact .inl (hK k hk h2)
    · exact .inr h2), ⟨fun hk => h.free.1 (hK _ (heap_lt h.blk) hk), fun hk => h.free.2.1 (hK _ h.now.map.lt hk), fun hk => h.free.2.2 (hK _ h.saved.map.lt hk)⟩, h.ne⟩

theorem DirAt.more {w : World} {K K' : Nat → Prop} {X D n : Nat} {safe cur : List UInt8} {off : Bool} {now saved : Files} {epoch which : Nat} (h : DirAt w K X D n safe cur off now saved epoch which) (hK : ∀ k, k < w.heap.size → K' k → K k) : DirAt w K' X D n safe cur off now saved epoch which := by
  obtain ⟨bn, bs, h⟩ := h
  exact ⟨bn, bs, h.more hK⟩

/-- A log with its directory: K: the caller's blocks; KL: the log's own. -/
structure LogX (w : World) (K KL : Nat → Prop) (base L X D n sz : Nat) (safe cur : List UInt8) (now saved : Files) (epoch which : Nat) (ms : List MSeg) : Prop where
  mem : LogM w base KL L X sz ms
  dir : DirAt w (fun k => K k ∨ KL k) X D n safe cur false now saved epoch which
  apart : ∀ k, KL k → ¬ K k
  ltL : ∀ k, KL k → k < w.heap.size
  ltK : ∀ k, K k → k < w.heap.size
  base : base ≤ w.heap.size

section
variable {w w' : World} {K KL : Nat → Prop} {base L X D n sz : Nat} {safe cur safe' cur' : List UInt8} {now saved now' saved' : Files} {epoch which epoch' which' : Nat} {ms : List MSeg}

theorem LogX.lt (h : LogX w K KL base L X D n sz safe cur now saved epoch which ms) : ∀ k, K k ∨ KL k → k < w.heap.size := fun k hk => hk.elim (h.ltK k) (h.ltL k)

/-- The directory's own doings. -/
theorem LogX.go (h : LogX w K KL base L X D n sz safe cur now saved epoch which ms) (hd : DirAt w' (fun k => K k ∨ KL k) X D n safe' cur' false now' saved' epoch' which') (hk : Kept (fun k => K k ∨ KL k) w w') :
    LogX w' K KL base L X D n sz safe' cur' now' saved' epoch' which' ms :=
  ⟨h.mem.block (fun g hg => hk.block g (.inr hg)) (fun _ hg => hg), hd, h.apart, fun k hK => Nat.lt_of_lt_of_le (h.ltL k hK) hk.size, fun k hK => Nat.lt_of_lt_of_le (h.ltK k hK) hk.size, Nat.le_trans h.base hk.size⟩

theorem LogX.below (h : LogX w K KL base L X D n sz safe cur now saved epoch which ms) (hb : Below w.heap.size w w') : LogX w' K KL base L X D n sz safe cur now saved epoch which ms :=
  h.go (h.dir.below hb) (kept_of_below hb h.lt)

/-- More of the caller's blocks. -/
theorem LogX.more {K' : Nat → Prop} (h : LogX w K KL base L X D n sz safe cur now saved epoch which ms) (hb : Below w.heap.size w w') (h1 : ∀ k, k < w.heap.size → K' k → K k) (h2 : ∀ k, K' k → k < w'.heap.size) : LogX w' K' KL base L X D n sz safe cur now saved epoch which ms :=
  ⟨h.mem.block (fun g hg => hb.block g (h.ltL g hg)) (fun _ hg => hg), (h.dir.more (K' := fun k => K' k ∨ KL k) (fun k hk hK => hK.elim (fun h3 => .inl (h1 k hk h3)) .inr)).below hb, fun k hk hK => h.apart k hk (h1 k (h.ltL k hk) hK), fun k hk => Nat.lt_of_lt_of_le (h.ltL k hk) hb.size, h2, Nat.le_trans h.base hb.size⟩

/-- The log's own doings. -/
theorem LogX.turn {KL' : Nat → Prop} {ms' : List MSeg} (h : LogX w K KL base L X D n sz safe cur now saved epoch which ms) (hs : w.heap.size ≤ w'.heap.size) (hb : ∀ k, k < w.heap.size → ¬ KL k → w'.heap[k]? = w.heap[k]?) (hm : LogM w' base KL' L X sz ms')
    (h0 : ∀ k, KL k → KL' k) (h1 : ∀ k, k < w.heap.size → KL' k → KL k) (h2 : ∀ k, KL' k → k < w'.heap.size) : LogX w' K KL' base L X D n sz safe cur now saved epoch which ms' := by
  have hK : ∀ k, KL' k → ¬ K k := fun k hk hK => h.apart k (h1 k (h.ltK k hK) hk) hK
  have hd1 := h.dir.more (K' := fun k => K k ∨ KL' k) fun k hk h3 => h3.elim .inl fun h4 => .inr (h1 k hk h4)
  exact ⟨hm, hd1.only fun k hk hnk => hb k hk fun h3 => hnk (.inr (h0 k h3)), hK, h2, fun k hk => Nat.lt_of_lt_of_le (h.ltK k hk) hs, Nat.le_trans h.base hs⟩
end
end Go.Proofs.YtlhefifejcoecaaGreatDoor

namespace Go.Proofs.YtlhefifejcoecaaGreatDoor
open Go.RowKit Go.Proofs Go.Shelf
attribute [local go_sem ↓] Go.wp_at_zero Go.wp_at_succ

/-- A slice of texts. -/
def StrsAt (w : World) (v : Value) (l : List (List UInt8)) : Prop := ∃ q cap, v = .slice q l.length cap ∧ l.length ≤ 1000000 ∧ ∀ j, (hj : j < l.length) → ∃ g o, q = some ⟨g, o, none⟩ ∧ w.cell? ⟨g, o + j, none⟩ = some (.string ⟨l[j].toArray⟩)

theorem StrsAt.below {w w' : World} {v : Value} {l : List (List UInt8)} (h : StrsAt w v l) (hb : Below w.heap.size w w') : StrsAt w' v l := by
  obtain ⟨q, cap, h1, h2, h3⟩ := h
  refine ⟨q, cap, h1, h2, fun j hj => ?_⟩
  obtain ⟨g, o, h4, h5⟩ := h3 j hj
  exact ⟨g, o, h4, bcell hb h5⟩

theorem StrsAt.of_row {w : World} {base : Nat} {v : Value} {l : List (List UInt8)} (h : w.ownsRow base 9 1 v l.length (l.map encStr)) (hl : l.length ≤ 1000000) : StrsAt w v l := by
  obtain ⟨q, cap, rfl⟩ := own_slice h
  refine ⟨q, cap, rfl, hl, fun j hj => ?_⟩
  rcases h.2 with ⟨h1, hn⟩ | ⟨g, cap', cur, h1, hrest⟩
  · omega
  · simp only [Value.slice.injEq] at h1
    obtain ⟨rfl, -, rfl⟩ := h1
    refine ⟨g, 0, rfl, ?_⟩
    have := h.cells (g := g) rfl j (.string ⟨l[j].toArray⟩) (by simp [hj])
    rw [Addr.add_lit] at this
    exact this

set_option maxRecDepth 100000 in
set_option maxHeartbeats 1000000 in
theorem texts_any (u v : Value) (l : List (List UInt8)) (w : World) (hu : StrsAt w u l) (hv : StrsAt w v l) : Calls Tryz.prog 29 #[u, v] w (Gives w (.bool true)) := by
  obtain ⟨q1, c1, rfl, hl, h1⟩ := hu
  obtain ⟨q2, c2, rfl, -, h2⟩ := hv
  have H1 := Lib.hid h1
  have H2 := Lib.hid h2
  clear h1 h2
  go_enter Tryz.func29, Tryz.ntmps29
  go_wp2_with fail
  go_loopw [13, 5] (fun i _ wr => ∃ k : Nat, k ≤ l.length ∧ i = .int .i64 k ∧ Below w.heap.size w wr) (fun i _ _ => l.length - (intOf i).toNat)
  case atStart => exact ⟨0, Nat.zero_le _, rfl, Below.refl _ _⟩
  case round =>
    obtain ⟨k, hk, rfl, hb⟩ := hrel
    by_cases hlt : k < l.length
    · obtain ⟨g1, o1, rfl, d1⟩ := H1.out k hlt
      obtain ⟨g2, o2, rfl, d2⟩ := H2.out k hlt
      replace d1 := bcell hb d1
      replace d2 := bcell hb d2
      have n0 : (0 : Int) ≤ (k : Int) := by omega
      have n1 : (k : Int) < (l.length : Int) := by omega
      generalize (⟨l[k].toArray⟩ : ByteArray) = s at *
      go_upto_region 6 with fail
      refine wp_region_held_drew (S := (fun w' => w'.cell? ⟨g1, o1 + k, none⟩ = some (.string s) ∧ w'.cell? ⟨g2, o2 + k, none⟩ = some (.string s))) (by kernel_rfl) (by exact ⟨d1, d2⟩) (fun hHeld => ?_)
      refine' takeL (v := _) 0 rfl (by kernel_rfl) (by kernel_rfl) (by kernel_rfl) (fun _ _ _ h => h) (by rfl) ?_ (by assumption) ?_; rotate_left 1; (focus (intro w hSw; (try dsimp only at hSw); go_simp; (try with_reducible rfl); done))
      (try simp only [Act.put, List.setIfInBounds_toArray, List.set_cons_zero, List.set_cons_succ])
      refine' takeL (v := _) 1 rfl (by kernel_rfl) (by kernel_rfl) (by kernel_rfl) (fun _ _ _ h => h) (by rfl) ?_ (by assumption) ?_; rotate_left 1; (focus (intro w hSw; (try dsimp only at hSw); go_simp; (try with_reducible rfl); done))
      (try simp only [Act.put, List.setIfInBounds_toArray, List.set_cons_zero, List.set_cons_succ])
      refine' takeL (v := _) 2 rfl (by kernel_rfl) (by kernel_rfl) (by kernel_rfl) (fun _ _ _ h => h) (by rfl) ?_ (by assumption) ?_; rotate_left 1; (focus (intro w hSw; (try dsimp only at hSw); go_simp; (try with_reducible rfl); done))
      (try simp only [Act.put, List.setIfInBounds_toArray, List.set_cons_zero, List.set_cons_succ])
      refine' takeL (v := _) 3 rfl (by kernel_rfl) (by kernel_rfl) (by kernel_rfl) (fun _ _ _ h => h) (by rfl) ?_ (by assumption) ?_; rotate_left 1; (focus (intro w hSw; (try dsimp only at hSw); go_simp; (try with_reducible rfl); done))
      (try simp only [Act.put, List.setIfInBounds_toArray, List.set_cons_zero, List.set_cons_succ])
      refine' takeL (v := _) 4 rfl (by kernel_rfl) (by kernel_rfl) (by kernel_rfl) (fun _ _ _ h => h) (by rfl) ?_ (by assumption) ?_; rotate_left 1; (focus (intro w hSw; (try dsimp only at hSw); go_simp; (try with_reducible rfl); done))
      (try simp only [Act.put, List.setIfInBounds_toArray, List.set_cons_zero, List.set_cons_succ])
      refine' takeL (v := _) 5 rfl (by kernel_rfl) (by kernel_rfl) (by kernel_rfl) (fun _ _ _ h => h) (by rfl) ?_ (by assumption) ?_; rotate_left 1; (focus (intro w hSw; (try dsimp only at hSw); go_simp; (try with_reducible rfl); done))
      (try simp only [Act.put, List.setIfInBounds_toArray, List.set_cons_zero, List.set_cons_succ])
      refine' takeL (v := _) 6 rfl (by kernel_rfl) (by kernel_rfl) (by kernel_rfl) (fun _ _ _ h => h) (by rfl) ?_ (by assumption) ?_; rotate_left 1; (focus (intro w hSw; (try dsimp only at hSw); go_simp; (try with_reducible rfl); done))
      (try simp only [Act.put, List.setIfInBounds_toArray, List.set_cons_zero, List.set_cons_succ])
      refine' takeL (v := _) 7 rfl (by kernel_rfl) (by kernel_rfl) (by kernel_rfl) (fun _ _ _ h => h) (by rfl) ?_ (by assumption) ?_; rotate_left 1; (focus (intro w hSw; (try dsimp only at hSw); go_simp; (try with_reducible rfl); done))
      (try simp only [Act.put, List.setIfInBounds_toArray, List.set_cons_zero, List.set_cons_succ])
      refine' takeL (v := _) 8 rfl (by kernel_rfl) (by kernel_rfl) (by kernel_rfl) (fun _ _ _ h => h) (by rfl) ?_ (by assumption) ?_; rotate_left 1; (focus (intro w hSw; (try dsimp only at hSw); go_simp; (try with_reducible rfl); done))
      (try simp only [Act.put, List.setIfInBounds_toArray, List.set_cons_zero, List.set_cons_succ])
      refine wpAnyH_done (by kernel_rfl) ?_ _
      go_wp2_with fail
      go_roundw
      case rel => exact ⟨k + 1, hlt, by go_num, hb.drew⟩
      case measure => simp [intOf]; omega
    · have hke : k = l.length := by omega
      subst hke
      go_wp2_with fail
      go_ret
      exact ⟨rfl, hb⟩

theorem nib_pos {w : World} (h : Nib w) : 2 < w.heap.size := World.block_lt_of_cell? _ _ (h 0 (by decide))


theorem strElt : Elt Tryz.prog 9 1 16 := by
  have h : (Tryz.prog.info? 9).map (fun i => (i.zero, i.size, i.bytes)) = some (some (.string ⟨#[]⟩), 1, 16) := by kernel_rfl
  obtain ⟨i0, hi, hz0, hz1, hz2⟩ := info_parts h
  exact ⟨⟨i0, _, hi, hz0, hz1, hz2, rfl⟩, by decide⟩

def namesL (segs : List Seg) : List (List UInt8) := segs.map fun s => nameL s.n

set_option maxRecDepth 100000 in
set_option maxHeartbeats 2000000 in
theorem lnames_any (w : World) (L X sz : Nat) (segs : List Seg) (h : LogR w L X sz segs) (hE : Env w) (hfew : segs.length ≤ 1000000) :
    Calls Tryz.prog 18 #[.pointer (some ⟨L, 0, none⟩)] w (fun e w' => ∃ v, e = .returned v ∧ w'.ownsRow w.heap.size 9 1 v (namesL segs).length ((namesL segs).map encStr) ∧ Below w.heap.size w w') := by
  have hmade := smade_any w L X sz segs h
  obtain ⟨q, cap, c0, c1, c2, hL, hlc, hll, hc⟩ := h.open_
  have Hc := Lib.hid hc
  have hnm := fun W u (hb : Below w.heap.size w W) (hu : u ≤ 999999) => name_ok u hu W (hE.below hb)
  have Hnm := Lib.hid hnm
  have hnl : (namesL segs).length = segs.length := by simp [namesL]
  clear h hc hnm hE
  go_enter Tryz.func18, Tryz.ntmps18
  go_upto_region 3 with (first | (go_at_call 30; refine hmade.mono ?_; rintro e w1 ⟨rfl, hb1⟩; have d2 := bcell hb1 c2) | fail)
  clear hmade
  go_upto_region 4 with fail
  go_loopw [3, 13] (fun v i wr => ∃ k : Nat, k ≤ segs.length ∧ i = .int .i64 k ∧ wr.ownsRow w.heap.size 9 1 v k (((namesL segs).take k).map encStr) ∧ Below w.heap.size w wr) (fun _ i _ => segs.length - (intOf i).toNat)
  case atStart => exact ⟨0, Nat.zero_le _, rfl, World.ownsRow_nil _ _ _ _, hb1⟩
  case round =>
    obtain ⟨k, hk, rfl, hown, hb⟩ := hrel
    by_cases hlt : k < segs.length
    · obtain ⟨b, off, lv, rfl, hok, e0, e1, e2, e3, hlv⟩ := Hc.out k hlt
      obtain ⟨ql, cl, rfl, -⟩ := hlv
      have n0 : (0 : Int) ≤ (k : Int) := by omega
      have n1 : (k : Int) < (segs.length : Int) := by omega
      have htk : ((namesL segs).take (k + 1)).map encStr = ((namesL segs).take k).map encStr ++ [.string (nameS segs[k].n)] := by
        rw [List.take_succ_eq_append_getElem (by omega), List.map_append]
        simp only [namesL, List.getElem_map]; rfl
      have Htk := Lib.hid htk
      have hn9 := hok.n
      have f0 := bcell hb e0
      have f1 := bcell hb e1
      have f2 := bcell hb e2
      have f3 := bcell hb e3
      clear htk hok e0 e1 e2 e3
      generalize segs[k] = s at *
      obtain ⟨q3, cap3, hv3⟩ := own_slice hown
      subst hv3
      have Hown := Lib.hid hown
      clear hown
      go_upto_region 6 with fail
      generalize hW2 : World.alloc wr _ = w5
      have hb5 : Below wr.heap.size wr w5 := by rw [← hW2]; exact below_new _ _
      have g2 : w5.cell? ⟨wr.heap.size, 2, none⟩ = some (.int .i64 (s.n : Int)) := by rw [← hW2]; simp
      clear hW2
      have hbw5 := below_trans hb hb5
      have hown5 := owns_block (w' := w5) Hown.out (fun g hg => hb5.block g (World.ownsRow.lt Hown.out g hg).2)
      have hnm5 := Hnm.out w5 s.n hbw5 hn9
      have hsrc : ∀ W : World, Src Tryz.prog 1 47 (.slice (some ⟨W.heap.size, 0, none⟩) 1 1) 1 [.string (nameS s.n)] (W.alloc (.cells #[.string (nameS s.n)] 9)) := fun W => Src.ofSlice _ Tryz.underlying47 _ _ _ _ rfl (cell_one_new _ _ _) (by simp [Value.oneCell'])
      have Hsrc := Lib.hid hsrc
      have Hown5 := Lib.hid hown5
      clear hsrc hown5 f0 f1 f2 f3
      go_wp2_with (first
        | (go_at_call 8; refine hnm5.mono ?_; rintro e w6 ⟨rfl, hb6⟩; have hbw6 := below_trans hbw5 hb6; have hown6 := owns_block (w' := w6) Hown5.out (fun g hg => hb6.block g (World.ownsRow.lt Hown5.out g hg).2))
        | (at_builtin; refine wpList_app (v := .slice q3 k cap3) rfl _ _ 47 47 rfl w.heap.size 9 1 16 strElt Tryz.underlying47 k _ rfl (hown6.alloc _) rfl 1 _ (Hsrc.out _) (by unfold maxLen; omega) (by omega) (Nat.le_trans hbw6.size (by simp)) ?_; intro v7 w7 hown7 hg7 _; have hb7 : Below w.heap.size w w7 := grown_below (below_alloc hbw6 _) hg7 (Nat.le_trans hbw6.size (by simp)) (fun g hg => (World.ownsRow.lt hown6 g hg).1))
        | fail)
      go_roundw
      case rel => exact ⟨k + 1, hlt, by go_num, by rw [Htk.out]; exact hown7, hb7⟩
      case measure => simp [intOf]; omega
    · have hke : k = segs.length := by omega
      subst hke
      have hown' : wr.ownsRow w.heap.size 9 1 u3 (namesL segs).length ((namesL segs).map encStr) := by
        have h1 := hown
        rw [List.take_of_length_le (by omega), ← hnl] at h1
        exact h1
      clear hnl
      go_wp2_with fail
      go_ret
      exact ⟨_, rfl, hown', hb⟩
end Go.Proofs.YtlhefifejcoecaaGreatDoor
