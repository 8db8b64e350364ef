/- Open of a directory without files; what the laws begin with; the document's example. -/
import Derived.Test.YtlhefifejcoecaaGreatDoorSegI
import Derived.Lib.SlBytesConst
namespace Go.Proofs.YtlhefifejcoecaaGreatDoor
open Go.RowKit Go.Proofs Go.Shelf
attribute [local go_sem ↓] Go.wp_at_zero Go.wp_at_succ

set_option maxRecDepth 100000 in
theorem ddisk_any (w : World) (K : Nat → Prop) (X D n : Nat) (safe cur : List UInt8) (off : Bool) (now saved : Files) (epoch which : Nat) (h : DirAt w K X D n safe cur off now saved epoch which) :
    Calls Tryz.prog 41 #[.pointer (some ⟨X, 0, none⟩)] w (Gives w (.pointer (some ⟨D, 0, none⟩))) := by
  have hmade := dmade_any w K X D n safe cur off now saved epoch which h
  obtain ⟨bn, bs, h⟩ := h
  obtain ⟨c0, -, -, -, -, hX⟩ := h.cells
  clear h
  go_enter Tryz.func41, Tryz.ntmps41
  go_wp2_with (first | (go_at_call 58; refine hmade.mono ?_; rintro e w1 ⟨rfl, hb1⟩; have d0 := bcell hb1 c0) | fail)
  go_ret
  exact ⟨rfl, hb1⟩

theorem load_err (w : World) (b o : Nat) (v : Value) (h0 : w.cell? ⟨b, o, none⟩ = some v) : (loadVar 40 ⟨b, o, none⟩).run Tryz.prog w = .ok v w := by
  have e1 : (Go.sizeOf 40).run Tryz.prog w = .ok 1 w := by kernel_rfl
  have e2 : (isAgg 40).run Tryz.prog w = .ok false w := by kernel_rfl
  simp [loadVar, e1, e2, h0]

theorem results_err {fn : Func} {a : Tmp} (h : fn.results = #[.cell a 40]) (tmps : Array Value) (w : World) (b o : Nat) (v : Value) (ha : tmps.getD a undef = .pointer (some ⟨b, o, none⟩)) (h0 : w.cell? ⟨b, o, none⟩ = some v) :
    (results fn tmps).run Tryz.prog w = .ok v w := by
  have h2 := load_err w b o v h0
  simp only [Array.getD_eq_getD_getElem?] at ha
  simp [results, h, ha, asAddr, h2, Result.andThen]

set_option maxRecDepth 100000 in
theorem wipe_nil (w : World) (L : Nat) (q : Option Addr) (cap : Nat) (c2 : w.cell? ⟨L, 2, none⟩ = some (.slice q 0 cap)) : Calls Tryz.prog 48 #[.pointer (some ⟨L, 0, none⟩)] w (Gives w (.int .i64 0)) := by
  have hL := World.block_lt_of_cell? _ _ c2
  go_enter Tryz.func48, Tryz.ntmps48
  go_wp2_with fail
  refine bodyPost_ret (results_err rfl _ _ w.heap.size 0 (.int .i64 0) rfl (by simp)) rfl ?_
  exact ⟨rfl, below_new _ _⟩

def OpenNil (w : World) (X sz : Nat) (e : Ending) (w' : World) : Prop := ∃ L, e = .returned (.tuple #[.pointer (some ⟨L, 0, none⟩), .int .i64 0]) ∧ w.heap.size ≤ L ∧ w'.heap[L]? = some (.cells #[.pointer (some ⟨X, 0, none⟩), .int .i64 (sz : Int), .slice none 0 0] 32 (0, 0)) ∧ Below w.heap.size w w'

set_option maxRecDepth 100000 in
set_option maxHeartbeats 1000000 in
theorem sopen_nil (w : World) (K : Nat → Prop) (X D n : Nat) (safe cur : List UInt8) (saved : Files) (epoch which : Nat) (h : DirAt w K X D n safe cur false [] saved epoch which) (sz : Nat) (h1 : 2 ≤ sz) (h2 : sz ≤ 512) :
    Calls Tryz.prog 19 #[.pointer (some ⟨X, 0, none⟩), .int .i64 (sz : Int)] w (OpenNil w X sz) := by
  have hdisk := ddisk_any w K X D n safe cur false [] saved epoch which h
  have hnames := fun W (hb : Below w.heap.size w W) => dnames_any W K X D n safe cur false [] saved epoch which (h.below hb)
  have n1 : ¬ (sz : Int) < 2 := by omega
  have n2 : ¬ (512 : Int) < (sz : Int) := by omega
  have Hn := Lib.hid hnames
  clear hnames h
  go_enter Tryz.func19, Tryz.ntmps19
  go_upto_region 5 with (first | (go_at_call 41; refine hdisk.mono ?_; rintro e w1 ⟨rfl, hb1⟩) | fail)
  go_upto_region 7 with fail
  generalize hW2 : World.alloc w1 _ = w2
  have hb2 : Below w1.heap.size w1 w2 := by rw [← hW2]; exact below_new _ _
  have hL2 : w2.heap[w1.heap.size]? = some (.cells #[.pointer (some ⟨X, 0, none⟩), .int .i64 (sz : Int), .slice none 0 0] 32 (0, 0)) := by rw [← hW2]; exact heap_alloc_new _ _
  clear hW2 hdisk
  have hb02 := below_trans hb1 hb2
  have hn2 := Hn.out w2 hb02
  go_upto_region 8 with (first | (go_at_call 42; refine hn2.mono ?_; rintro e w3 ⟨v3, rfl, hrow3, hb3⟩; obtain ⟨q3, c3, hq3⟩ := own_slice hrow3; subst hq3) | fail)
  have e0 : (namesS []).length = 0 := by rw [(names_perm []).length_eq]; rfl
  rw [e0]
  have hwp := fun W (hb : Below w2.heap.size w2 W) => wipe_nil W w1.heap.size none 0 (by have h1 := (hb.block _ (heap_lt hL2)).trans hL2; rw [block_cell h1]; rfl)
  have hwp3 := hwp w3 hb3
  clear hn2 hrow3 e0 hwp
  go_loopw [32, 7] (fun i gone wr => i = .int .i64 0 ∧ gone = .bool false ∧ wr = w3) (fun _ _ _ => 0)
  case atStart => exact ⟨rfl, rfl, rfl⟩
  case round =>
    obtain ⟨rfl, rfl, rfl⟩ := hrel
    go_wp2_with (first | (go_at_call 48; refine hwp3.mono ?_; rintro e w4 ⟨rfl, hb4⟩) | fail)
    go_ret2
    have hb24 := below_trans hb3 hb4
    exact ⟨_, rfl, hb1.size, (hb24.block _ (heap_lt hL2)).trans hL2, below_trans hb02 hb24⟩

/-- What the laws begin with. -/
def FreshOut (w : World) (n sz : Nat) (e : Ending) (w' : World) : Prop := ∃ D X L, e = .returned (.tuple #[.pointer (some ⟨D, 0, none⟩), .pointer (some ⟨X, 0, none⟩), .pointer (some ⟨L, 0, none⟩), .bool true]) ∧
  LogS w' (fun k => k < w.heap.size) w.heap.size L X D n sz 1 16 [] ∧ Below w.heap.size w w'

theorem nib_pos2 {w : World} (h : Nib w) : 2 < w.heap.size := World.block_lt_of_cell? _ _ (h 0 (by decide))

theorem log_new {w w1 : World} {K : Nat → Prop} {X D n sz L : Nat} {F : List UInt8} (hd : DirAt w1 K X D n F F false [] [] 1 0) (hok : DOK n F F [] [] 1 0) (hK : ∀ k, K k → k < w1.heap.size) (hE : Env w1) (kn : K 2) (kp : K 0) (h1 : 2 ≤ sz) (h2 : sz ≤ 512) {base : Nat} (hbase : base ≤ w1.heap.size)
    (hL0 : w1.heap.size ≤ L) (hL : w.heap[L]? = some (.cells #[.pointer (some ⟨X, 0, none⟩), .int .i64 (sz : Int), .slice none 0 0] 32 (0, 0))) (hb : Below w1.heap.size w1 w) :
    LogS w K base L X D n sz 1 16 [] := by
  have hlt := heap_lt hL
  refine ⟨⟨fun k => k = L, F, F, [], 1, 0, ⟨⟨⟨_, hL, ⟨World.ownsRow_nil _ _ _ _, by simp⟩, fun g hg => by simp [Value.ownBlock] at hg⟩, rfl, by simp, by simp⟩, (hd.more (K' := fun k => K k ∨ k = L) fun k hk h => h.elim id fun h => by omega).below hb, fun k hk h => by subst hk; have := hK k h; omega, fun k hk => by subst hk; exact hlt, fun k hk => Nat.lt_of_lt_of_le (hK k hk) hb.size, Nat.le_trans hbase hb.size⟩, LogOK.nil _ _, hok, Nat.le_refl _, by simp⟩, hE.below hb, kn, kp, ⟨h1, h2⟩, Nat.le_refl _⟩

set_option maxRecDepth 100000 in
set_option maxHeartbeats 1000000 in
theorem fresh_any (w : World) (hE : Env w) (n sz : Nat) (hn1 : 24 ≤ n) (hn2 : n ≤ 4096) (h1 : 2 ≤ sz) (h2 : sz ≤ 512) : Calls Tryz.prog 20 #[.int .i64 (n : Int), .int .i64 (sz : Int)] w (FreshOut w n sz) := by
  have h0 := nib_pos2 hE.nib
  have hf0 := (GoodF.nil n).fits (epoch := 0) (by omega) (by omega)
  have hf1 := (GoodF.nil n).fits (epoch := 1) (by omega) (by omega)
  have hnew := new_any w n (by omega) (by omega)
  have hok := DOK.format (n := n) hn1 hn2 (zeros (32 * n)) List.length_replicate
  have hform := fun w1 D (hd : DiskAt w1 (fun k => k < w.heap.size) D n (zeros (32 * n)) (zeros (32 * n)) false) (hb : Below w.heap.size w w1) => format_any w1 _ D n _ _ hd (fun k hk => Nat.lt_of_lt_of_le hk hb.size) h0 (hE.nib.below hb) hn1 hf0 hf1
  generalize zeros (32 * n) = Z at *
  generalize formS Z = F at *
  have Hf := Lib.hid hform
  have Hok := Lib.hid hok
  have HE := Lib.hid hE
  have hlt := hE.pow.lt
  clear hform hok hE hf0 hf1
  go_enter Tryz.func20, Tryz.ntmps20
  go_upto_region 3 with (first
    | (go_at_call 49; refine hnew.mono ?_; rintro e w1 ⟨D, rfl, hd1, hb1⟩)
    | (go_at_call 50; refine (Hf.out w1 D hd1 hb1).mono ?_; rintro e w2 ⟨X, rfl, hx2, hk2⟩)
    | fail)
  have hk02 := (kept_of_below hb1 fun k hk => hk).trans hk2
  have hop := sopen_nil w2 _ X D n F F [] 1 0 hx2 sz h1 h2
  unfold OpenNil at hop
  have Hx2 := Lib.hid hx2
  clear hnew hd1 hx2
  go_wp2_with (first
    | (go_at_call 19; refine hop.mono ?_; rintro e w3 ⟨L, rfl, hL0, hL, hb3⟩)
    | fail)
  refine bodyPost_ret (v := .tuple #[.pointer (some ⟨D, 0, none⟩), .pointer (some ⟨X, 0, none⟩), .pointer (some ⟨L, 0, none⟩), .bool true]) (by simp [results, Tryz.results20, go_sem]) rfl ?_
  exact ⟨D, X, L, rfl, log_new Hx2.out Hok.out (fun k hk => Nat.lt_of_lt_of_le hk hk02.size) (HE.out.kept hk02 h0 hlt) h0 hlt h1 h2 hk02.size hL0 hL hb3, below_trans hk02.below hb3⟩

theorem AppS.next {sz : Nat} {segs segs' : List Seg} {b : List UInt8} (h : AppS sz segs b segs') : nextS segs' = nextS segs + 1 := by
  rcases h with ⟨init, s, rfl, -, rfl⟩ | rfl
  · simp [nextS, lastN]; omega
  · simp [nextS, lastN]

theorem AppS.nextN {sz : Nat} {segs segs' : List Seg} {b : List UInt8} (h : AppS sz segs b segs') : nextN segs' ≤ nextN segs + 1 := by
  rcases h with ⟨init, s, rfl, -, rfl⟩ | rfl
  · simp [Go.Proofs.YtlhefifejcoecaaGreatDoor.nextN]
  · simp [Go.Proofs.YtlhefifejcoecaaGreatDoor.nextN]

theorem AppS.few {sz : Nat} {segs segs' : List Seg} {b : List UInt8} (h : AppS sz segs b segs') : segs'.length ≤ segs.length + 1 := by
  rcases h with ⟨init, s, rfl, -, rfl⟩ | rfl
  · simp
  · simp

theorem AppS.short {sz : Nat} {segs segs' : List Seg} {b : List UInt8} {k : Nat} (h : AppS sz segs b segs') (hk : ∀ s ∈ segs, s.l.length ≤ k) : ∀ s ∈ segs', s.l.length ≤ k + 1 := by
  rcases h with ⟨init, s, rfl, -, rfl⟩ | rfl
  · intro t ht
    rcases List.mem_append.1 ht with h1 | h1
    · have := hk t (by simp [h1]); omega
    · simp only [List.mem_cons, List.not_mem_nil, or_false] at h1
      subst h1
      have := hk s (by simp)
      simp; omega
  · intro t ht
    rcases List.mem_append.1 ht with h1 | h1
    · have := hk t h1; omega
    · simp only [List.mem_cons, List.not_mem_nil, or_false] at h1
      subst h1; simp

theorem padS_small {b : List UInt8} (h : b.length ≤ 27) : (padS b).length = 32 := by
  have h2 := numS_len_small (n := b.length) (by omega)
  have h3 := frameS_len b
  unfold padS
  rw [List.length_append, List.length_replicate]
  omega

theorem slp_one (W : World) (x : UInt8) : SlP 1 ByteE (W.alloc (.cells #[u8 x] 5 (1, 2))) (.slice (some ⟨W.heap.size, 0, none⟩) 1 1) [x] :=
  ⟨_, 1, rfl, by simp, by simp, (fun h => by cases h), fun j hj => ⟨W.heap.size, 0, [u8 x], rfl, rfl, by
    have h0 : j = 0 := by simpa using hj
    subst h0; rfl, fun i hi => by
    have h0 : j = 0 := by simpa using hj
    have h1 : i = 0 := by simpa using hi
    subst h0 h1
    rw [block_cell (heap_alloc_new _ _)]; rfl⟩⟩

theorem append_one (W : World) (K : Nat → Prop) (base L X D n sz E M : Nat) (ms : List MSeg) (hS : LogS W K base L X D n sz E M ms) (x : UInt8) (h1 : nextS (MSeg.segs ms) ≤ 1000000) (h2 : nextN (MSeg.segs ms) ≤ 1000) (h3 : E ≤ 1000) (h4 : ms.length < 10) (h5 : M + sz ≤ n) (h6 : ∀ s ∈ MSeg.segs ms, s.l.length ≤ 1000) :
    Calls Tryz.prog 12 #[.pointer (some ⟨L, 0, none⟩), .slice (some ⟨W.heap.size, 0, none⟩) 1 1] (W.alloc (.cells #[u8 x] 5 (1, 2))) (fun e w' => e = .returned (.int .i64 0) ∧ Kept K W w' ∧ ∃ ms', AppS sz (MSeg.segs ms) [x] (MSeg.segs ms') ∧ LogS w' K base L X D n sz (E + 1) (M + sz) ms') := by
  have hlt := hS.ltK
  have hS2 : LogS (W.alloc (.cells #[u8 x] 5 (1, 2))) (fun k => K k ∨ k = W.heap.size) base L X D n sz E M ms := hS.more (below_new _ _) (fun k hk => .inl hk) (fun k hk h => h.elim id fun h => by omega) (fun k hk => by
    rcases hk with h | h
    · have := hlt k h; simp; omega
    · subst h; simp)
  have hsz := hS.sz
  refine (sappend_any _ _ base L X D n sz E M ms hS2 _ [x] (slp_one W x) (fun _ q n c e a ha => by
    simp only [Value.slice.injEq] at e
    obtain ⟨rfl, -, -⟩ := e
    simp only [Option.some.injEq] at ha
    subst ha
    exact .inr rfl) (by simp) (by rw [padS_small (by simp)]; omega) (by omega) (by omega) (by omega) (by omega) (fun s hs => by have := h6 s hs; omega)).mono ?_
  rintro e w' ⟨y, rfl, hk, hc⟩
  have hkW : Kept K W w' := (kept_of_below (below_new W _) hlt).trans (hk.less fun k hk => .inl hk)
  rcases hc with ⟨rfl, ms', hA, hS'⟩ | ⟨-, hn, -⟩
  · exact ⟨rfl, hkW, ms', hA, hS'.less (fun k hk => .inl hk) hS.kn hS.kp⟩
  · exact absurd ⟨h5, h4⟩ hn

theorem app_nil {sz : Nat} {b : List UInt8} {segs' : List Seg} (h : AppS sz [] b segs') : segs' = [⟨0, 0, [b]⟩] := by
  rcases h with ⟨init, s, h1, -⟩ | rfl
  · simp at h1
  · rfl

theorem app_two {segs' : List Seg} (h : AppS 2 [⟨0, 0, [[97]]⟩] [98] segs') : segs' = [⟨0, 0, [[97]]⟩, ⟨1, 1, [[98]]⟩] := by
  rcases h with ⟨init, s, h1, h2, -⟩ | rfl
  · exfalso
    have hi : init = [] := by
      cases init with
      | nil => rfl
      | cons a r => simp at h1
    subst hi
    simp only [List.nil_append, List.cons.injEq, and_true] at h1
    subst h1
    have e1 : bytesS ⟨0, 0, [[97]]⟩ = headS 0 ++ padS [97] := by simp [bytesS]
    rw [e1, List.length_append, headS_len (by omega), padS_small (by simp), padS_small (by simp)] at h2
    omega
  · rfl

theorem strs_two (W : World) (a b : ByteArray) : StrsAt (W.alloc (.cells #[.string a, .string b] 9)) (.slice (some ⟨W.heap.size, 0, none⟩) 2 2) [a.data.toList, b.data.toList] :=
  ⟨_, 2, rfl, by simp, fun j hj => ⟨W.heap.size, 0, rfl, by
    have h0 : j = 0 ∨ j = 1 := by simp at hj; omega
    rcases h0 with rfl | rfl <;> simp⟩⟩

theorem conv_const (W : World) (x : Value) : (convert 25 25 (.slice (some ⟨W.heap.size, 0, none⟩) 1 1)).run Tryz.prog (W.alloc (.cells #[x] 5)) = .ok (.slice (some ⟨W.heap.size, 0, none⟩) 1 1) (W.alloc (.cells #[x] 5 (1, 2))) :=
  Lib.run_convert_bytes_const W 25 5 #[x] 1 1 Tryz.underlying25 Tryz.underlying5

set_option maxRecDepth 100000 in
set_option maxHeartbeats 1000000 in
theorem lives25_any (w : World) (hE : Env w) : Calls Tryz.prog 10 #[] w (Gives w (.bool true)) := by
  have hfr := fresh_any w hE 40 2 (by omega) (by omega) (by omega) (by omega)
  unfold FreshOut at hfr
  have HE := Lib.hid hE
  have hcv := conv_const
  clear hE
  go_enter Tryz.func10, Tryz.ntmps10
  go_upto_region 2 with (first
    | (go_at_call 20; refine hfr.mono ?_; rintro e w1 ⟨D, X, L, rfl, hS1, hb1⟩; have happ1 := append_one w1 _ _ L X D 40 2 1 16 [] hS1 97 (by simp [MSeg.segs, nextS]) (by simp [MSeg.segs, nextN]) (by omega) (by simp) (by omega) (by simp [MSeg.segs]))
    | fail)
  clear hfr
  go_upto_region 3 with (first
    | (go_at_call 12; refine happ1.mono ?_; clear happ1; rintro e w2 ⟨rfl, hk2, ms2, hA2, hS2⟩; have hs2 := app_nil hA2; have happ2 := append_one w2 _ _ L X D 40 2 _ _ ms2 hS2 98 (by rw [hs2]; decide) (by rw [hs2]; decide) (by omega) (by rw [← msegs_len, hs2]; decide) (by omega) (by rw [hs2]; simp); have Hs2 := Lib.hid hs2; clear hs2)
    | (go_at_call 12; refine happ2.mono ?_; rintro e w3 ⟨rfl, hk3, ms3, hA3, hS3⟩)
    | fail)
  have hs3 : MSeg.segs ms3 = [⟨0, 0, [[97]]⟩, ⟨1, 1, [[98]]⟩] := app_two (by rw [Hs2.out] at hA3; exact hA3)
  have hlen3 : ms3.length = 2 := by rw [← msegs_len, hs3]; rfl
  have hnm := lnames_any w3 L X 2 _ (hS3.rd (by omega)) hS3.env (by rw [msegs_len]; omega)
  have e3 : namesL (MSeg.segs ms3) = [(⟨#[115, 48, 48, 48, 48, 48, 48]⟩ : ByteArray).data.toList, (⟨#[115, 48, 48, 48, 48, 48, 49]⟩ : ByteArray).data.toList] := by rw [hs3]; decide +kernel
  rw [e3] at hnm
  have htx := fun W v (h : StrsAt W v [(⟨#[115, 48, 48, 48, 48, 48, 48]⟩ : ByteArray).data.toList, (⟨#[115, 48, 48, 48, 48, 48, 49]⟩ : ByteArray).data.toList]) => texts_any v (.slice (some ⟨W.heap.size, 0, none⟩) 2 2) _ (W.alloc (.cells #[.string ⟨#[115, 48, 48, 48, 48, 48, 48]⟩, .string ⟨#[115, 48, 48, 48, 48, 48, 49]⟩] 9)) (h.below (below_new _ _)) (strs_two W _ _)
  have e7 : nameS 7 = ⟨#[115, 48, 48, 48, 48, 48, 55]⟩ := by decide +kernel
  have hn7 : ∀ W, Env W → Calls Tryz.prog 8 #[.int .i64 7] W (Gives W (.string ⟨#[115, 48, 48, 48, 48, 48, 55]⟩)) := fun W h => by
    have h1 := name_ok 7 (by omega) W h
    rw [e7] at h1
    exact h1
  have Htx := Lib.hid htx
  have Hn7 := Lib.hid hn7
  have HS3 := Lib.hid hS3
  have hkw3 := hk2.trans hk3
  clear hs3 hlen3 e3 htx e7 hn7 hS3 happ2 hA3 hA2 hS2 hS1 hcv
  go_wp2_with (first
    | (go_at_call 18; refine hnm.mono ?_; rintro e w4 ⟨v4, rfl, hrow4, hb4⟩; have htx4 := Htx.out w4 v4 (StrsAt.of_row hrow4 (by simp)); have hb5 := below_trans hb4 (below_new w4 (.cells #[.string ⟨#[115, 48, 48, 48, 48, 48, 48]⟩, .string ⟨#[115, 48, 48, 48, 48, 48, 49]⟩] 9)))
    | (go_at_call 29; refine htx4.mono ?_; rintro e w6 ⟨rfl, hb6⟩; have hb36 := below_trans hb5 hb6; have hn6 := Hn7.out w6 (HS3.out.env.below hb36))
    | (go_at_call 8; refine hn6.mono ?_; rintro e w7 ⟨rfl, hb7⟩)
    | fail)
  go_ret
  exact ⟨rfl, below_trans (((kept_of_below hb1 fun k hk => hk).trans hkw3).below) (below_trans hb36 hb7)⟩
end Go.Proofs.YtlhefifejcoecaaGreatDoor
