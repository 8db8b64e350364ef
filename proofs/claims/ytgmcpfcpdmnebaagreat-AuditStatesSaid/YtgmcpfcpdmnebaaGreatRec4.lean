/- Package record: the bytes of a record. -/
import Derived.Test.YtgmcpfcpdmnebaaGreatRec3
import Derived.Deep.DeepCutAuto
import Derived.Deep.LoopGhost
namespace Go.Proofs.YtgmcpfcpdmnebaaGreat
open Go.RowKit Go.Proofs Go.Shelf
attribute [local go_sem ↓] Go.wp_at_zero Go.wp_at_succ

def flagS (f : Bool) : List UInt8 := [if f then 1 else 0]
def pairB (p : Pair) : List UInt8 := strS p.key ++ strS p.val
def readB (x : Rd) : List UInt8 := flagS x.scan ++ strS x.key ++ (if x.scan then strS x.to else []) ++ numS x.pairs.length ++ x.pairs.flatMap pairB
def writeB (p : Pair) : List UInt8 := strS p.key ++ flagS p.dead ++ (if p.dead then [] else strS p.val)
def headB (r : Rec) : List UInt8 := numS r.session.toNat ++ numS r.snap.toNat ++ flagS r.strict ++ numS r.reads.length
def bytesS (r : Rec) : List UInt8 := headB r ++ r.reads.flatMap readB ++ numS r.writes.length ++ r.writes.flatMap writeB

def SmallP (p : Pair) : Prop := p.key.size ≤ 64 ∧ p.val.size ≤ 256
def SmallR (x : Rd) : Prop := x.key.size ≤ 64 ∧ x.to.size ≤ 64 ∧ x.pairs.length ≤ 200 ∧ ∀ p ∈ x.pairs, SmallP p
structure Small (r : Rec) : Prop where
  session : 0 ≤ r.session ∧ r.session ≤ 8
  snap : 0 ≤ r.snap ∧ r.snap ≤ 1099511627776
  reads : r.reads.length ≤ 64 ∧ ∀ x ∈ r.reads, SmallR x
  writes : r.writes.length ≤ 64 ∧ ∀ p ∈ r.writes, SmallP p

theorem slp_new1 {α : Type} {E : World → List Value → α → Prop} (w : World) (T : TypeId) (vs : List Value) (l : List α) (hlen : vs.length = l.length) (hl : l.length ≤ 1000) (hE : ∀ W i (h : i < l.length) (h' : i < vs.length), E W [vs[i]] l[i]) :
    SlP 1 E (w.alloc (.cells vs.toArray T)) (.slice (some ⟨w.heap.size, 0, none⟩) l.length l.length) l := by
  refine ⟨_, _, rfl, Nat.le_refl _, by omega, fun h => by simp at h, fun j hj => ⟨w.heap.size, 0, [vs[j]'(by omega)], rfl, rfl, hE _ j hj (by omega), fun i hi => ?_⟩⟩
  have hi0 : i = 0 := by simpa using hi
  subst hi0
  rw [World.cell?_alloc_at _ _ _ _ rfl]
  simp [hlen, hj]

theorem slp_drew {α : Type} {k : Nat} {E : World → List Value → α → Prop} (hE : Mono E) {w : World} {v : Value} {l : List α} (h : SlP k E w v l) : SlP k E w.drew v l := h.mono hE (Below.refl _ _).drew

theorem slp_nil {α : Type} {k : Nat} {E : World → List Value → α → Prop} (w : World) : SlP k E w (.slice none 0 0) ([] : List α) := ⟨none, 0, rfl, by simp, by simp, fun _ => rfl, fun j hj => by simp at hj⟩

theorem nums_one (W : World) (v : Value) (bs : List UInt8) (n : Nat) (hv : SlP 1 ByteE W v bs) (hl : bs.length ≤ 500000000) (hn : n ≤ 9000000000000000000) :
    Calls Tryz.prog 58 #[v, .slice (some ⟨W.heap.size, 0, none⟩) 1 1] (W.alloc (.cells #[.int .i64 n] 3)) (OutB (W.alloc (.cells #[.int .i64 n] 3)) (bs ++ numS n)) := by
  have h0 := nums_any v bs _ [n] _ (hv.mono ByteE.mono (below_new _ _)) (slp_new1 W 3 [.int .i64 n] [n] rfl (by simp) (fun W i h h' => by
    match i, h with
    | 0, _ => exact ⟨rfl, hn⟩)) (by simp) (by simp; omega)
  have e : [n].flatMap numS = numS n := by simp
  rw [e] at h0
  exact h0

theorem texts_one (W : World) (v : Value) (bs : List UInt8) (s : ByteArray) (hv : SlP 1 ByteE W v bs) (hl : bs.length ≤ 500000000) (hn : s.size ≤ 100000000) :
    Calls Tryz.prog 59 #[v, .slice (some ⟨W.heap.size, 0, none⟩) 1 1] (W.alloc (.cells #[.string s] 9)) (OutB (W.alloc (.cells #[.string s] 9)) (bs ++ strS s)) := by
  have h0 := texts_any v bs _ [s] _ (hv.mono ByteE.mono (below_new _ _)) (slp_new1 W 9 [.string s] [s] rfl (by simp) (fun W i h h' => by
    match i, h with
    | 0, _ => exact ⟨rfl, hn⟩)) (by simp) (by simp; omega)
  have e : [s].flatMap strS = strS s := by simp
  rw [e] at h0
  exact h0

theorem texts_one_drew (W : World) (v : Value) (bs : List UInt8) (s : ByteArray) (hv : SlP 1 ByteE W v bs) (hl : bs.length ≤ 500000000) (hn : s.size ≤ 100000000) :
    Calls Tryz.prog 59 #[v, .slice (some ⟨W.heap.size, 0, none⟩) 1 1] (W.alloc (.cells #[.string s] 9)).drew (OutB (W.alloc (.cells #[.string s] 9)).drew (bs ++ strS s)) := by
  have h0 := texts_any v bs _ [s] _ (slp_drew ByteE.mono (hv.mono ByteE.mono (below_new _ _))) (slp_drew StrE.mono (slp_new1 W 9 [.string s] [s] rfl (by simp) (fun W i h h' => by
    match i, h with
    | 0, _ => exact ⟨rfl, hn⟩))) (by simp) (by simp; omega)
  have e : [s].flatMap strS = strS s := by simp
  rw [e] at h0
  exact h0

theorem texts_two (W : World) (v : Value) (bs : List UInt8) (s t : ByteArray) (hv : SlP 1 ByteE W v bs) (hl : bs.length ≤ 500000000) (hn : s.size ≤ 100000000) (ht : t.size ≤ 100000000) :
    Calls Tryz.prog 59 #[v, .slice (some ⟨W.heap.size, 0, none⟩) 2 2] (W.alloc (.cells #[.string s, .string t] 9)) (OutB (W.alloc (.cells #[.string s, .string t] 9)) (bs ++ (strS s ++ strS t))) := by
  have h0 := texts_any v bs _ [s, t] _ (hv.mono ByteE.mono (below_new _ _)) (slp_new1 W 9 [.string s, .string t] [s, t] rfl (by simp) (fun W i h h' => by
    match i, h with
    | 0, _ => exact ⟨rfl, hn⟩
    | 1, _ => exact ⟨rfl, ht⟩)) (by simp) (by simp; omega)
  have e : [s, t].flatMap strS = strS s ++ strS t := by simp
  rw [e] at h0
  exact h0

theorem fin1 {n : Nat} {wx w1 w2 : World} {v : Value} {X : List UInt8} {o : Obj} (h0 : n ≤ wx.heap.size) (hb1 : Below wx.drew.heap.size wx.drew w1) (hb2 : Below (w1.alloc o).heap.size (w1.alloc o) w2) (h : OwnB w2 (w1.alloc o).heap.size v X) : OwnB w2 n v X ∧ Below wx.heap.size wx w2 := by
  have h1 : Below wx.heap.size wx w1 := below_trans (Below.refl _ _).drew hb1
  have h2 := h1.size
  exact ⟨h.base (by simp; omega), below_trans (below_alloc h1 _) hb2⟩

theorem fin2 {n : Nat} {wx w1 w2 : World} {v : Value} {X : List UInt8} {o : Obj} (h0 : n ≤ wx.heap.size) (hb1 : Below (wx.alloc o).drew.heap.size (wx.alloc o).drew w1) (hb2 : Below w1.heap.size w1 w2) (h : OwnB w2 w1.heap.size v X) : OwnB w2 n v X ∧ Below wx.heap.size wx w2 := by
  have h1 : Below wx.heap.size wx w1 := below_trans (below_new _ _).drew hb1
  have h2 := h1.size
  exact ⟨h.base (by omega), below_trans h1 hb2⟩

theorem pairB_length {p : Pair} (h : SmallP p) : (pairB p).length ≤ 400 := by
  have h1 := strS_length p.key
  have h2 := strS_length p.val
  obtain ⟨h3, h4⟩ := h
  unfold pairB; rw [List.length_append]; omega

theorem readB_length {x : Rd} (h : SmallR x) : (readB x).length ≤ 100000 := by
  obtain ⟨h1, h2, h3, h4⟩ := h
  have h5 := strS_length x.key
  have h6 := strS_length x.to
  have h7 := numS_length x.pairs.length
  have h8 := flatMap_le pairB 400 x.pairs (fun p hp => pairB_length (h4 p hp))
  unfold readB flagS
  simp only [List.length_append, List.length_cons, List.length_nil]
  split <;> (try simp only [List.length_nil]) <;> omega

theorem writeB_length {p : Pair} (h : SmallP p) : (writeB p).length ≤ 400 := by
  have h1 := strS_length p.key
  have h2 := strS_length p.val
  obtain ⟨h3, h4⟩ := h
  unfold writeB flagS
  simp only [List.length_append]
  split <;> simp <;> omega

set_option maxHeartbeats 2000000 in
set_option maxRecDepth 1000000 in
theorem written_any (r : Rec) (cs : List Value) (w : World) (hr : RecE w cs r) (hs : Small r) : Calls Tryz.prog 39 #[.agg cs.toArray] w (OutB w (bytesS r)) := by
  obtain ⟨rv, wv, rfl, -, -, hrd, hw⟩ := hr
  obtain ⟨q, cap, rfl, hlc, hcap, hcells⟩ := hrd.readsAt
  obtain ⟨qw, capw, rfl, hlw, hcapw, hcellsw⟩ := hw.pairs
  obtain ⟨⟨p1, p2⟩, ⟨p3, p4⟩, ⟨p5, p6⟩, p7, p8⟩ := hs
  obtain ⟨se, sp, st, rd, ws⟩ := r
  dsimp only at *
  obtain ⟨se, rfl⟩ := Int.eq_ofNat_of_zero_le p1
  obtain ⟨sp, rfl⟩ := Int.eq_ofNat_of_zero_le p3
  have hnums : ∀ W : World, Calls Tryz.prog 58 #[.slice none 0 0, .slice (some ⟨W.heap.size, 0, none⟩) 2 2] (W.alloc (.cells #[.int .i64 se, .int .i64 sp] 3)).drew (OutB (W.alloc (.cells #[.int .i64 se, .int .i64 sp] 3)).drew (numS se ++ numS sp)) := fun W => by
    have h0 := nums_any (.slice none 0 0) [] _ [se, sp] _ (slp_nil _) (slp_drew NatE.mono (slp_new1 W 3 [.int .i64 se, .int .i64 sp] [se, sp] rfl (by simp) (fun W i h h' => by
      match i, h with
      | 0, _ => exact ⟨rfl, by show se ≤ _; omega⟩
      | 1, _ => exact ⟨rfl, by show sp ≤ _; omega⟩))) (by simp) (by simp)
    have e : ([] : List UInt8) ++ [se, sp].flatMap numS = numS se ++ numS sp := by simp
    rw [e] at h0
    exact h0
  have hnums := hnums (w.alloc (.cells #[.int .i64 se, .int .i64 sp, .bool st, .slice q rd.length cap, .slice qw ws.length capw] 32))
  rw [World.size_alloc] at hnums
  have hl1 : (numS se ++ numS sp).length ≤ 18 := by have := numS_length se; have := numS_length sp; rw [List.length_append]; omega
  go_enter Tryz.func39, Tryz.ntmps39
  go_wp2_with fail
  go_region_held3 (fun w' => w'.cell? ⟨w.heap.size, 0, none⟩ = some (.int .i64 se) ∧ w'.cell? ⟨w.heap.size, 1, none⟩ = some (.int .i64 sp) ∧ w'.cell? ⟨w.heap.size, 2, none⟩ = some (.bool st) ∧ w'.cell? ⟨w.heap.size, 3, none⟩ = some (.slice q rd.length cap) ∧ w'.cell? ⟨w.heap.size, 4, none⟩ = some (.slice qw ws.length capw) ∧ Below w.heap.size w w')
    (first
      | (exact ⟨by simp, by simp, by simp, by simp, by simp, (below_new _ _).drew⟩)
      | (go_split_ands; exact ⟨bcell (below_new _ _) (by assumption), bcell (below_new _ _) (by assumption), bcell (below_new _ _) (by assumption), bcell (below_new _ _) (by assumption), bcell (below_new _ _) (by assumption), below_alloc (by assumption) _⟩)
      | (go_split_ands; exact ⟨bcell hb2 (by assumption), bcell hb2 (by assumption), bcell hb2 (by assumption), bcell hb2 (by assumption), bcell hb2 (by assumption), below_trans (by assumption) hb2⟩)
      | (go_split_ands; exact ⟨bcell hb1 (by assumption), bcell hb1 (by assumption), bcell hb1 (by assumption), bcell hb1 (by assumption), bcell hb1 (by assumption), below_trans (by assumption) hb1⟩))
    (first
      | (go_at_call 58; refine hnums.mono ?_; rintro e w1 ⟨v1, rfl, hown1, hb1⟩)
      | (go_at_call 57; refine (flag_any _ _ _ _ (hown1.at (by omega)) (by omega)).mono ?_; rintro e w2 ⟨v2, rfl, hown2, hb2⟩))
  have d3 : w2.cell? ⟨w.heap.size, 3, none⟩ = some (.slice q rd.length cap) := bcell hb2 (bcell hb1 (by simp))
  have d4 : w2.cell? ⟨w.heap.size, 4, none⟩ = some (.slice qw ws.length capw) := bcell hb2 (bcell hb1 (by simp))
  have hbw : Below w.heap.size w w2 := below_trans (below_trans (below_alloc (below_new _ _) _).drew hb1) hb2
  have hl2 : (numS se ++ numS sp ++ [if st then 1 else 0]).length ≤ 19 := by rw [List.length_append]; simp; simp at hl1; omega
  have hn1 := nums_one w2 v2 _ rd.length (hown2.at (by omega)) (by omega) (by omega)
  have hsz2 : w.heap.size < w2.heap.size := World.block_lt_of_cell? w2 _ d3
  have hhead : Hid (headB ⟨se, sp, st, rd, ws⟩ = numS se ++ numS sp ++ [if st then 1 else 0] ++ numS rd.length) := Lib.hid rfl
  generalize numS se ++ numS sp ++ [if st then 1 else 0] = h1 at *
  clear hnums hown1 hown2 hb1 hb2 hl1
  go_wp2_with (first
    | (go_at_call 58; refine hn1.mono ?_; rintro e w3 ⟨v3, rfl, hown3, hb3⟩; have e3 := bcell hb3 (a := ⟨w.heap.size, 3, none⟩) (v := .slice q rd.length cap) (by simpa using bcell (below_new _ _) d3); have e4 := bcell hb3 (a := ⟨w.heap.size, 4, none⟩) (v := .slice qw ws.length capw) (by simpa using bcell (below_new _ _) d4)))
  have hbw3 : Below w.heap.size w w3 := below_trans (below_alloc hbw _) hb3
  have hsz3 : w.heap.size < w3.heap.size := World.block_lt_of_cell? w3 _ e3
  have hown3 : OwnB w3 w.heap.size v3 (h1 ++ numS rd.length) := hown3.base (by simp; omega)
  have hnl := numS_length rd.length
  have hl3 : (h1 ++ numS rd.length).length ≤ 28 := by rw [List.length_append]; omega
  generalize h1 ++ numS rd.length = h2 at *
  clear hn1 hb3 hbw d3 d4 hsz2
  go_loopg [3, 28] rd.length (fun n b i wr' => ∃ k : Nat, k ≤ rd.length ∧ n + k = rd.length ∧ i = .int .i64 k ∧ Below w3.heap.size w3 wr' ∧ OwnB wr' w.heap.size b (h2 ++ (rd.take k).flatMap readB))
  case atStart => exact ⟨0, Nat.zero_le _, rfl, rfl, Below.refl _ _, by simpa using hown3⟩
  case round =>
    obtain ⟨k, hk, hgk, rfl, hb, ho⟩ := hrel
    by_cases hlt : k < rd.length
    · obtain ⟨b, off, pq, pn, pc, rfl, he, c0, c1, c2, c3⟩ := hcells k hlt
      have hx := p6 _ (List.getElem_mem hlt)
      have htk := take_flatMap readB rd k hlt
      have hacc : (h2 ++ (rd.take k).flatMap readB).length ≤ 7000000 := by
        have h3 := flatMap_le readB 100000 (rd.take k) fun x hx => readB_length (p6 x (List.mem_of_mem_take hx))
        have h4 : (rd.take k).length = k := by rw [List.length_take]; omega
        rw [List.length_append]; omega
      have hbr : Below w.heap.size w wr := below_trans hbw3 hb
      have d0 := bcell hbr c0
      have d1 := bcell hbr c1
      have d2 := bcell hbr c2
      have d3 := bcell hbr c3
      have hprs := RdE.mono.mono hbr he
      generalize hxx : rd[k] = x at *
      obtain ⟨sc, xk, xt, xp⟩ := x
      obtain ⟨x1, x2, x3, x4⟩ := hx
      obtain ⟨_, hpv, -, -, hpv2⟩ := hprs
      simp only [List.cons.injEq, and_true, true_and] at hpv
      subst hpv
      dsimp only at *
      have Htk := Lib.hid htk
      have Hxx := Lib.hid hxx
      generalize hA : h2 ++ (rd.take k).flatMap readB = acc at *
      have HA := Lib.hid hA
      clear htk hxx hA c0 c1 c2 c3 he hcells
      go_upto_region 6 with fail
      have ho1 : SlP 1 ByteE wr u3 acc := ho.at (by omega)
      obtain ⟨wx, hwx⟩ : ∃ wx, wx = wr.alloc (.cells #[.bool sc, .string xk, .string xt, .slice pq pn pc] 37) := ⟨_, rfl⟩
      have x0 : wx.cell? ⟨wr.heap.size, 0, none⟩ = some (.bool sc) := by rw [hwx]; simp
      have x1' : wx.cell? ⟨wr.heap.size, 1, none⟩ = some (.string xk) := by rw [hwx]; simp
      have x2' : wx.cell? ⟨wr.heap.size, 2, none⟩ = some (.string xt) := by rw [hwx]; simp
      have x3' : wx.cell? ⟨wr.heap.size, 3, none⟩ = some (.slice pq pn pc) := by rw [hwx]; simp
      have hbx : Below wr.heap.size wr wx := by rw [hwx]; exact below_new _ _
      rw [← hwx]
      clear hwx d0 d1 d2 d3
      have hox := ho1.mono ByteE.mono hbx
      have hone : ∀ (W : World) i (h : i < [xk].length) (h' : i < [Value.string xk].length), StrE W [[Value.string xk][i]] [xk][i] := fun W i h h' => by
        match i, h with
        | 0, _ => exact ⟨rfl, by show xk.size ≤ _; omega⟩
      have hlA : (acc ++ flagS sc).length ≤ 8000000 := by unfold flagS; rw [List.length_append, List.length_singleton]; omega
      have hF : ∀ W, Below wx.heap.size wx W → Calls Tryz.prog 57 #[u3, .bool sc] W (OutB W (acc ++ flagS sc)) := fun W hW => flag_any _ acc sc W (hox.mono ByteE.mono hW) (by omega)
      have hT1 : ∀ W v n, OwnB W n v (acc ++ flagS sc) → Calls Tryz.prog 59 #[v, .slice (some ⟨W.heap.size, 0, none⟩) 1 1] (W.alloc (.cells #[.string xk] 9)) (OutB (W.alloc (.cells #[.string xk] 9)) (acc ++ flagS sc ++ strS xk)) := fun W v n h => texts_one W v _ xk (h.at (by omega)) (by omega) (by omega)
      have hT2 : ∀ W v n, OwnB W n v (acc ++ flagS sc) → Below (wx.alloc (.cells #[.string xk] 9)).drew.heap.size (wx.alloc (.cells #[.string xk] 9)).drew W → Calls Tryz.prog 59 #[v, .slice (some ⟨wx.heap.size, 0, none⟩) 1 1] W (OutB W (acc ++ flagS sc ++ strS xk)) := fun W v n h hW => by
        have h0 := texts_any v _ _ [xk] W (h.at (by omega)) ((slp_drew StrE.mono (slp_new1 wx 9 [.string xk] [xk] rfl (by simp) hone)).mono StrE.mono hW) (by simp) (by rw [List.length_singleton]; omega)
        have e : [xk].flatMap strS = strS xk := by simp
        rw [e] at h0
        exact h0
      have hnx : w.heap.size ≤ wx.heap.size := Nat.le_trans hbr.size hbx.size
      clear hone
      go_cut [3] (fun v wy => OwnB wy w.heap.size v (acc ++ flagS sc ++ strS xk) ∧ Below wx.heap.size wx wy)
      case first => as_aux_lemma =>
        go_region_held3 (fun w' => w'.cell? ⟨wr.heap.size, 0, none⟩ = some (.bool sc) ∧ w'.cell? ⟨wr.heap.size, 1, none⟩ = some (.string xk) ∧ Below wx.heap.size wx w')
          (first
            | (exact ⟨by simpa using x0, by simpa using x1', (Below.refl _ _).drew⟩)
            | (exact ⟨by simpa using bcell (below_new wx _) x0, by simpa using bcell (below_new wx _) x1', (below_new wx _).drew⟩)
            | (go_split_ands; exact ⟨bcell (below_new _ _) (by assumption), bcell (below_new _ _) (by assumption), below_alloc (by assumption) _⟩)
            | (go_split_ands; exact ⟨bcell hb2 (by assumption), bcell hb2 (by assumption), below_trans (by assumption) hb2⟩)
            | (go_split_ands; exact ⟨bcell hb1 (by assumption), bcell hb1 (by assumption), below_trans (by assumption) hb1⟩))
          (first
            | (go_at_call 57; refine (hF _ (by go_split_ands; assumption)).mono ?_; rintro e w1 ⟨v1, rfl, hown1, hb1⟩)
            | (go_at_call 59; (with_reducible refine (hT1 w1 v1 _ hown1).mono ?_); rintro e w2 ⟨v2, rfl, hown2, hb2⟩)
            | (go_at_call 59; refine (hT2 w1 v1 _ hown1 hb1).mono ?_; rintro e w2 ⟨v2, rfl, hown2, hb2⟩))
        · go_wp2_with fail
          go_meet
          case rel => exact fin1 hnx hb1 hb2 hown2
        · go_wp2_with fail
          go_meet
          case rel => exact fin2 hnx hb1 hb2 hown2
      case rest => as_aux_lemma =>
        obtain ⟨we, rfl⟩ : ∃ we : World, we = wc := ⟨_, rfl⟩
        obtain ⟨hoc, hbc⟩ := hcut
        have y0 := bcell hbc x0
        have y2 := bcell hbc x2'
        have y3 := bcell hbc x3'
        clear hF hT1 hT2 x0 x1' x2' x3' hox ho1 ho
        have hlB : (acc ++ flagS sc ++ strS xk).length ≤ 8000100 := by have := strS_length xk; rw [List.length_append]; omega
        have hbx0 : wr.heap.size < we.heap.size := World.block_lt_of_cell? we _ y0
        have hbcw : Below wr.heap.size wr we := below_trans hbx hbc
        have hnc : w.heap.size ≤ we.heap.size := Nat.le_trans hbr.size hbcw.size
        have hT3 := texts_one we u3 _ xt (hoc.at (by omega)) (by omega) (by omega)
        go_upto_if 41 with fail
        go_cut [3] (fun v wy => OwnB wy w.heap.size v (acc ++ flagS sc ++ strS xk ++ (if sc then strS xt else [])) ∧ Below we.heap.size we wy)
        case first => as_aux_lemma =>
          cases sc with
          | true =>
            go_wp2_with (go_at_call 59; refine hT3.mono ?_; rintro e w4 ⟨v4, rfl, hown4, hb4⟩)
            go_meet
            case rel => exact ⟨hown4.base (by simp; omega), below_trans (below_new _ _) hb4⟩
          | false =>
            go_wp2_with fail
            go_meet
            case rel => exact ⟨by simpa using hoc, Below.refl _ _⟩
        case rest => as_aux_lemma =>
          obtain ⟨hod, hbd⟩ := hcut
          obtain ⟨wd, rfl⟩ : ∃ wd : World, wd = wc := ⟨_, rfl⟩
          have z3 := bcell hbd y3
          have hlC : (acc ++ flagS sc ++ strS xk ++ (if sc then strS xt else [])).length ≤ 8000300 := by
            have := strS_length xt
            rw [List.length_append]
            split <;> (try simp only [List.length_nil]) <;> omega
          have hnd : w.heap.size ≤ wd.heap.size := Nat.le_trans hnc hbd.size
          generalize hC : acc ++ flagS sc ++ strS xk ++ (if sc then strS xt else []) = accC at *
          have HC := Lib.hid hC
          obtain ⟨qp, capp, hpe, hlp, hcapp, hcellp⟩ := hpv2.pairs
          simp only [Value.slice.injEq] at hpe
          obtain ⟨rfl, rfl, rfl⟩ := hpe
          have hN := nums_one wd u3 accC xp.length (hod.at (by omega)) (by omega) (by omega)
          have hbdw : Below wr.heap.size wr wd := below_trans hbcw hbd
          have hz3 : wr.heap.size < wd.heap.size := World.block_lt_of_cell? wd _ z3
          clear hC hT3 hoc y0 y2 y3 hlA hlB
          go_wp2_with (go_at_call 58; refine hN.mono ?_; rintro e w5 ⟨v5, rfl, hown5, hb5⟩; have t3 := bcell hb5 (a := ⟨wr.heap.size, 3, none⟩) (v := .slice pq xp.length pc) (by simpa using bcell (below_new _ _) z3))
          have hnl5 := numS_length xp.length
          have hb5w : Below wd.heap.size wd w5 := below_trans (below_new _ _) hb5
          have hown5 : OwnB w5 w.heap.size v5 (accC ++ numS xp.length) := hown5.base (by simp; omega)
          have hl5 : (accC ++ numS xp.length).length ≤ 8000400 := by rw [List.length_append]; omega
          have hn5 : w.heap.size ≤ w5.heap.size := Nat.le_trans hnd hb5w.size
          have hbrd5 : Below wr.heap.size wr w5 := below_trans hbdw hb5w
          generalize hD : accC ++ numS xp.length = accD at *
          have HD := Lib.hid hD
          clear hD hN t3 hb5 z3
          obtain ⟨wo, rfl⟩ : ∃ wo : World, wo = wr := ⟨_, rfl⟩
          go_loopg [3, 56] xp.length (fun n b i wr' => ∃ m : Nat, m ≤ xp.length ∧ n + m = xp.length ∧ i = .int .i64 m ∧ Below w5.heap.size w5 wr' ∧ OwnB wr' w.heap.size b (accD ++ (xp.take m).flatMap pairB))
          case atStart => exact ⟨0, Nat.zero_le _, rfl, rfl, Below.refl _ _, by simpa using hown5⟩
          case round =>
            obtain ⟨m, hm, hgm, rfl, hbm, hom⟩ := hrel
            by_cases hmt : m < xp.length
            · obtain ⟨b', off', rfl, -, e0, e1, e2⟩ := hcellp m hmt
              have hpk := x4 _ (List.getElem_mem hmt)
              have htk2 := take_flatMap pairB xp m hmt
              have hl6 : (accD ++ (xp.take m).flatMap pairB).length ≤ 8100000 := by
                have h3 := flatMap_le pairB 400 (xp.take m) fun p hp => pairB_length (x4 p (List.mem_of_mem_take hp))
                have h4 : (xp.take m).length = m := by rw [List.length_take]; omega
                rw [List.length_append]; omega
              have hbr6 : Below wo.heap.size wo wr := below_trans hbrd5 hbm
              replace e0 := bcell hbr6 e0
              replace e1 := bcell hbr6 e1
              replace e2 := bcell hbr6 e2
              have hnr : w.heap.size ≤ wr.heap.size := Nat.le_trans hn5 hbm.size
              generalize hpp : xp[m] = p at *
              obtain ⟨pk, pvv, pd⟩ := p
              obtain ⟨q1, q2⟩ := hpk
              dsimp only at *
              have hT := texts_two (wr.alloc (.cells #[.string pk, .string pvv, .bool pd] 35)) u3 _ pk pvv ((hom.at (by omega)).mono ByteE.mono (below_new _ _)) (by omega) (by omega) (by omega)
              rw [World.size_alloc] at hT
              have Htk2 := Lib.hid htk2
              generalize hE : accD ++ (xp.take m).flatMap pairB = accE at *
              have HE := Lib.hid hE
              clear htk2 hpp hcellp hom hE
              go_wp2_with (go_at_call 59; refine hT.mono ?_; rintro e w7 ⟨v7, rfl, hown7, hb7⟩)
              go_roundg (xp.length - (m + 1))
              case measure => omega
              case rel => exact ⟨m + 1, hmt, by omega, by go_num, below_trans hbm (below_trans (below_alloc (below_new _ _) _) hb7), by
                have h8 := hown7.base (base' := w.heap.size) (by simp; omega)
                rw [Htk2.out, ← List.append_assoc, HE.out]
                exact h8⟩
            · have : m = xp.length := by omega
              subst this
              rw [List.take_length] at hom
              have hfin : OwnB wr w.heap.size u3 (h2 ++ (rd.take (k + 1)).flatMap readB) := by
                rw [Htk.out, ← List.append_assoc, HA.out]
                have e9 : accD ++ xp.flatMap pairB = acc ++ readB ⟨sc, xk, xt, xp⟩ := by
                  rw [← HD.out, ← HC.out]
                  simp [readB]
                rw [← e9]; exact hom
              have hfb : Below w3.heap.size w3 wr := below_trans (below_trans hb hbrd5) hbm
              clear hom hcellp
              go_wp2_with fail
              go_roundg (rd.length - (k + 1))
              case measure => omega
              case rel => exact ⟨k + 1, hlt, by omega, by go_num, hfb, hfin⟩
    · have : k = rd.length := by omega
      subst this
      rw [List.take_length] at ho
      have hacc : (h2 ++ rd.flatMap readB).length ≤ 7000000 := by
        have h3 := flatMap_le readB 100000 rd fun x hx => readB_length (p6 x hx)
        rw [List.length_append]; omega
      have hbr : Below w.heap.size w wr := below_trans hbw3 hb
      have f4 := bcell hb e4
      have hszr : w.heap.size < wr.heap.size := World.block_lt_of_cell? wr _ f4
      have hN := nums_one wr u3 _ ws.length (ho.at (by omega)) (by omega) (by omega)
      have hnl6 := numS_length ws.length
      have hlA : (h2 ++ rd.flatMap readB ++ numS ws.length).length ≤ 7000009 := by rw [List.length_append]; omega
      obtain ⟨w6, rfl⟩ : ∃ w6 : World, w6 = wr := ⟨_, rfl⟩
      generalize hA : h2 ++ rd.flatMap readB ++ numS ws.length = accA at *
      have HA := Lib.hid hA
      clear hcells hA ho e3 e4 hb hown3
      go_wp2_with (go_at_call 58; refine hN.mono ?_; rintro e w7 ⟨v7, rfl, hown7, hb7⟩; have g4 := bcell hb7 (a := ⟨w.heap.size, 4, none⟩) (v := .slice qw ws.length capw) (by simpa using bcell (below_new _ _) f4))
      have hb7w : Below w.heap.size w w7 := below_trans (below_alloc hbr _) hb7
      have hown7 : OwnB w7 w.heap.size v7 accA := hown7.base (by simp; omega)
      have hn7 := hb7w.size
      clear hN f4 hb7 g4
      go_loopg [3, 78] ws.length (fun n b i wr' => ∃ k : Nat, k ≤ ws.length ∧ n + k = ws.length ∧ i = .int .i64 k ∧ Below w7.heap.size w7 wr' ∧ OwnB wr' w.heap.size b (accA ++ (ws.take k).flatMap writeB))
      case atStart => exact ⟨0, Nat.zero_le _, rfl, rfl, Below.refl _ _, by simpa using hown7⟩
      case round =>
        obtain ⟨k, hk, hgk, rfl, hb, ho⟩ := hrel
        by_cases hlt : k < ws.length
        · obtain ⟨b, off, rfl, -, c0, c1, c2⟩ := hcellsw k hlt
          have hx := p8 _ (List.getElem_mem hlt)
          have htk := take_flatMap writeB ws k hlt
          have hlB : (accA ++ (ws.take k).flatMap writeB).length ≤ 7100000 := by
            have h3 := flatMap_le writeB 400 (ws.take k) fun x hx => writeB_length (p8 x (List.mem_of_mem_take hx))
            have h4 : (ws.take k).length = k := by rw [List.length_take]; omega
            rw [List.length_append]; omega
          have hbr : Below w.heap.size w wr := below_trans hb7w hb
          have d0 := bcell hbr c0
          have d1 := bcell hbr c1
          have d2 := bcell hbr c2
          generalize hxx : ws[k] = x at *
          obtain ⟨pk, pvv, pd⟩ := x
          obtain ⟨x1, x2⟩ := hx
          dsimp only at *
          have Htk := Lib.hid htk
          generalize hB : accA ++ (ws.take k).flatMap writeB = acc at *
          have HB := Lib.hid hB
          clear htk hxx hB c0 c1 c2 hcellsw
          go_upto_region 20 with fail
          have ho1 : SlP 1 ByteE wr u3 acc := ho.at (by omega)
          obtain ⟨wx, hwx⟩ : ∃ wx, wx = wr.alloc (.cells #[.string pk, .string pvv, .bool pd] 35) := ⟨_, rfl⟩
          have x0 : wx.cell? ⟨wr.heap.size, 0, none⟩ = some (.string pk) := by rw [hwx]; simp
          have x1' : wx.cell? ⟨wr.heap.size, 1, none⟩ = some (.string pvv) := by rw [hwx]; simp
          have x2' : wx.cell? ⟨wr.heap.size, 2, none⟩ = some (.bool pd) := by rw [hwx]; simp
          have hbx : Below wr.heap.size wr wx := by rw [hwx]; exact below_new _ _
          rw [← hwx]
          clear hwx d0 d1 d2
          have hox := ho1.mono ByteE.mono hbx
          have hlC : (acc ++ strS pk).length ≤ 7100100 := by have := strS_length pk; rw [List.length_append]; omega
          have hT := texts_one_drew wx u3 acc pk hox (by omega) (by omega)
          have hF : ∀ W v n, OwnB W n v (acc ++ strS pk) → Calls Tryz.prog 57 #[v, .bool pd] W (OutB W (acc ++ strS pk ++ flagS pd)) := fun W v n h => flag_any v _ pd W (h.at (by omega)) (by omega)
          have hnx : w.heap.size ≤ wx.heap.size := Nat.le_trans hbr.size hbx.size
          go_cut [3] (fun v wy => OwnB wy w.heap.size v (acc ++ strS pk ++ flagS pd) ∧ Below wx.heap.size wx wy)
          case first => as_aux_lemma =>
            go_region_held3 (fun w' => w'.cell? ⟨wr.heap.size, 0, none⟩ = some (.string pk) ∧ w'.cell? ⟨wr.heap.size, 2, none⟩ = some (.bool pd))
              (first
                | (exact ⟨by simpa using x0, by simpa using x2'⟩)
                | (exact ⟨by simpa using bcell (below_new wx _) x0, by simpa using bcell (below_new wx _) x2'⟩)
                | (go_split_ands; exact ⟨bcell hb2 (by assumption), bcell hb2 (by assumption)⟩)
                | (go_split_ands; exact ⟨bcell hb1 (by assumption), bcell hb1 (by assumption)⟩))
              (first
                | (go_at_call 59; refine hT.mono ?_; rintro e w1 ⟨v1, rfl, hown1, hb1⟩)
                | (go_at_call 57; refine (hF w1 v1 _ hown1).mono ?_; rintro e w2 ⟨v2, rfl, hown2, hb2⟩))
            go_wp2_with fail
            go_meet
            case rel => exact fin2 hnx hb1 hb2 hown2
          case rest => as_aux_lemma =>
            obtain ⟨hoc, hbc⟩ := hcut
            obtain ⟨we, rfl⟩ : ∃ we : World, we = wc := ⟨_, rfl⟩
            have y1 := bcell hbc x1'
            have y2 := bcell hbc x2'
            have hlD : (acc ++ strS pk ++ flagS pd).length ≤ 7100101 := by unfold flagS; rw [List.length_append, List.length_singleton]; omega
            have hT3 := texts_one we u3 _ pvv (hoc.at (by omega)) (by omega) (by omega)
            have hne : w.heap.size ≤ we.heap.size := Nat.le_trans hnx hbc.size
            have hbw7 : Below w7.heap.size w7 we := below_trans (below_trans hb hbx) hbc
            clear hF hT x0 x1' x2' hox ho1 ho
            cases pd with
            | true =>
              go_wp2_with fail
              go_roundg (ws.length - (k + 1))
              case measure => omega
              case rel => exact ⟨k + 1, hlt, by omega, by go_num, hbw7, by
                rw [Htk.out, ← List.append_assoc, HB.out]
                simpa [writeB] using hoc⟩
            | false =>
              go_wp2_with (go_at_call 59; refine hT3.mono ?_; rintro e w8 ⟨v8, rfl, hown8, hb8⟩)
              go_roundg (ws.length - (k + 1))
              case measure => omega
              case rel => exact ⟨k + 1, hlt, by omega, by go_num, below_trans hbw7 (below_trans (below_new _ _) hb8), by
                rw [Htk.out, ← List.append_assoc, HB.out]
                have h8 := hown8.base (base' := w.heap.size) (by simp; omega)
                simpa [writeB] using h8⟩
        · have : k = ws.length := by omega
          subst this
          rw [List.take_length] at ho
          clear hcellsw
          go_wp2_with fail
          go_ret
          have e9 : accA ++ ws.flatMap writeB = bytesS ⟨se, sp, st, rd, ws⟩ := by
            rw [← HA.out, ← hhead.out]; rfl
          rw [e9] at ho
          exact ⟨_, rfl, ho, below_trans hb7w hb⟩

end Go.Proofs.YtgmcpfcpdmnebaaGreat
