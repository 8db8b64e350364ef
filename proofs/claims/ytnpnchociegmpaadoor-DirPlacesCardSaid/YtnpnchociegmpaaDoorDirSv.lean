/- DirSaves: behind a crash with nothing kept there are just the files of the last save. -/
import Derived.Test.YtnpnchociegmpaaDoorDirY
namespace Go.Proofs.YtnpnchociegmpaaDoor
open Go.RowKit Go.Proofs Go.Shelf
attribute [local go_sem ↓] Go.wp_at_zero Go.wp_at_succ

theorem DirX.more {w : World} {K K' : Nat → Prop} {X D n : Nat} {safe cur : List UInt8} {off : Bool} {bn bs : Nat} {now saved : Files} {epoch which : Nat} (h : DirX w K X D n safe cur off bn bs now saved epoch which) (hK : ∀ k, k < w.heap.size → K' k → K k) : DirX w K' X D n safe cur off bn bs now saved epoch which :=
  ⟨h.blk, h.now, h.saved, h.disk.more (fun k hk h2 => by
    rcases h2 with h2 | h2
    · exact .inl (hK k hk h2)
    · exact .inr h2), ⟨fun hk => h.free.1 (hK _ (heap_lt h.blk) hk), fun hk => h.free.2.1 (hK _ h.now.map.lt hk), fun hk => h.free.2.2 (hK _ h.saved.map.lt hk)⟩, h.ne⟩

theorem DirAt.more {w : World} {K K' : Nat → Prop} {X D n : Nat} {safe cur : List UInt8} {off : Bool} {now saved : Files} {epoch which : Nat} (h : DirAt w K X D n safe cur off now saved epoch which) (hK : ∀ k, k < w.heap.size → K' k → K k) : DirAt w K' X D n safe cur off now saved epoch which := by
  obtain ⟨bn, bs, h⟩ := h
  exact ⟨bn, bs, h.more hK⟩

/-- Texts in kept memory. -/
def StrsK (K : Nat → Prop) (w : World) (v : Value) (l : List (List UInt8)) : Prop := StrsAt w v l ∧ (0 < l.length → ∀ q n c, v = .slice q n c → ∀ a, q = some a → K a.block)

theorem StrsK.kept {K : Nat → Prop} {w w' : World} {v : Value} {l : List (List UInt8)} (h : StrsK K w v l) (hk : Kept K w w') : StrsK K w' v l := by
  refine ⟨?_, h.2⟩
  obtain ⟨⟨q, cap, rfl, h2, h3⟩, hK⟩ := h
  refine ⟨q, cap, rfl, h2, fun j hj => ?_⟩
  obtain ⟨g, o, rfl, h5⟩ := h3 j hj
  exact ⟨g, o, rfl, (hk.cell (p := ⟨g, o + j, none⟩) (show K g from hK (by omega) _ _ _ rfl _ rfl)).trans h5⟩

theorem names_kept {K : Nat → Prop} {w w' : World} {base : Nat} {v : Value} {l : List (List UInt8)} (h : w'.ownsRow base 9 1 v l.length (l.map encStr)) (hl : l.length ≤ 1000000) (hs : w.heap.size ≤ base) :
    ∃ K' : Nat → Prop, StrsK K' w' v l ∧ (∀ k, K k → K' k) ∧ (∀ k, k < w.heap.size → K' k → K k) ∧ ∀ k, K' k → K k ∨ k < w'.heap.size := by
  have hst := StrsAt.of_row h hl
  refine ⟨fun k => K k ∨ v.ownBlock = some k, ⟨hst, fun h0 q n c e a ha => ?_⟩, fun k hk => .inl hk, fun k hk h2 => ?_, fun k hk => ?_⟩
  · subst e
    subst ha
    rcases h.2 with ⟨h1, hn⟩ | ⟨g, cap', cur, h1, hrest⟩
    · omega
    · simp only [Value.slice.injEq, Option.some.injEq] at h1
      obtain ⟨rfl, -, -⟩ := h1
      exact .inr rfl
  · rcases h2 with h2 | h2
    · exact h2
    · have := (h.lt k h2).1; omega
  · rcases hk with hk | hk
    · exact .inl hk
    · exact .inr (h.lt k hk).2

theorem Kept.of_below {K : Nat → Prop} {w w' : World} (h : Below w.heap.size w w') (hK : ∀ k, K k → k < w.heap.size) : Kept K w w' := kept_of_below h hK

/-- The directory in a law: in memory, and right. -/
structure DirL (w0 w : World) (K : Nat → Prop) (X D n : Nat) (safe cur : List UInt8) (now saved : Files) (epoch which : Nat) : Prop where
  at_ : DirAt w K X D n safe cur false now saved epoch which
  ok : DOK n safe cur now saved epoch which
  base : ∀ k, k < w0.heap.size → K k
  lt : ∀ k, K k → k < w.heap.size
  below : Below w0.heap.size w0 w

theorem DirL.go {w0 w w' : World} {K : Nat → Prop} {X D n : Nat} {safe cur safe' cur' : List UInt8} {now saved now' saved' : Files} {epoch which epoch' which' : Nat} (h : DirL w0 w K X D n safe cur now saved epoch which)
    (hd : DirAt w' K X D n safe' cur' false now' saved' epoch' which') (hok : DOK n safe' cur' now' saved' epoch' which') (hk : Kept K w w') : DirL w0 w' K X D n safe' cur' now' saved' epoch' which' :=
  ⟨hd, hok, h.base, fun k hk2 => Nat.lt_of_lt_of_le (h.lt k hk2) hk.size, h.below.trans (hk.less fun k hk2 => h.base k hk2).below⟩

theorem DirL.more {w0 w : World} {K : Nat → Prop} {X D n : Nat} {safe cur : List UInt8} {now saved : Files} {epoch which : Nat} (h : DirL w0 w K X D n safe cur now saved epoch which) {w' : World} (hb : Below w.heap.size w w') : DirL w0 w' K X D n safe cur now saved epoch which :=
  h.go (h.at_.below hb) h.ok (kept_of_below hb h.lt)

/-- New(100), Format: what a law begins with. -/
theorem law_begin {w w1 w2 : World} {X D : Nat} (hN : Nib w) (hd : DirAt w2 (fun k => k < w.heap.size) X D 100 (formS (zeros (32 * 100))) (formS (zeros (32 * 100))) false [] [] 1 0) (hb : Below w.heap.size w w1) (hk : Kept (fun k => k < w.heap.size) w1 w2) :
    DirL w w2 (fun k => k < w.heap.size) X D 100 (formS (zeros (32 * 100))) (formS (zeros (32 * 100))) [] [] 1 0 :=
  ⟨hd, DOK.format (by omega) (by omega) _ List.length_replicate, fun k hk => hk, fun k hk2 => by have := hb.size; have := hk.size; omega, (Kept.trans (kept_of_below hb fun k hk => hk) hk).below⟩

theorem start_new (w : World) (hN : Nib w) : ∃ F : List UInt8, (∀ (w1 : World) (D : Nat), DiskAt w1 (fun k => k < w.heap.size) D 100 (zeros (32 * 100)) (zeros (32 * 100)) false → Below w.heap.size w w1 → Calls Tryd.prog 8 #[.pointer (some ⟨D, 0, none⟩)] w1
    (fun e w' => ∃ X, e = .returned (.tuple #[.pointer (some ⟨X, 0, none⟩), .int .i64 0]) ∧ DirL w w' (fun k => k < w.heap.size) X D 100 F F [] [] 1 0)) := by
  have h0 := nib_pos hN
  have hf0 := (GoodF.nil 100).fits (epoch := 0) (by omega) (by omega)
  have hf1 := (GoodF.nil 100).fits (epoch := 1) (by omega) (by omega)
  refine ⟨formS (zeros (32 * 100)), fun w1 D hd hb => ?_⟩
  refine (format_any w1 _ D 100 _ _ hd (fun k hk => Nat.lt_of_lt_of_le hk hb.size) h0 (hN.below hb) (by omega) hf0 hf1).mono ?_
  rintro e w2 ⟨X, rfl, hx, hk⟩
  exact ⟨X, rfl, law_begin hN hx hb hk⟩

section
variable {w0 w : World} {K : Nat → Prop} {X D : Nat} {safe cur : List UInt8} {now saved : Files} {epoch which : Nat}

theorem lmake (h : DirL w0 w K X D 100 safe cur now saved epoch which) (s : ByteArray) (hs : s.size ≤ 9223372036854775807) (c : Int) (hc : I64 c) :
    Calls Tryd.prog 11 #[.pointer (some ⟨X, 0, none⟩), .string s, .int .i64 c] w (fun e w' => ∃ (x : Int) (r : Option (Nat × Nat)), e = .returned (.int .i64 x) ∧ (x = 0 ↔ r.isSome = true) ∧ MakeS now saved 100 s c r ∧
      DirL w0 w' K X D 100 safe (makeCur cur r) (makeNow now s r) saved epoch which ∧ Kept K w w') := by
  refine (make_any w K X D 100 safe cur now saved epoch which h.at_ h.lt (by omega) s hs c hc).mono ?_
  rintro e w' ⟨x, r, rfl, hx, hm, hd, hk⟩
  exact ⟨x, r, rfl, hx, hm, h.go hd (h.ok.make hm) hk, hk⟩

theorem lremove (h : DirL w0 w K X D 100 safe cur now saved epoch which) (s : ByteArray) :
    Calls Tryd.prog 12 #[.pointer (some ⟨X, 0, none⟩), .string s] w (fun e w' => ∃ x : Int, e = .returned (.int .i64 x) ∧ (x = 0 ↔ (fget now s).isSome = true) ∧
      DirL w0 w' K X D 100 safe cur (if (fget now s).isSome = true then fdel now s else now) saved epoch which ∧ Kept K w w') := by
  refine (remove_any w K X D 100 safe cur false now saved epoch which h.at_ h.lt s).mono ?_
  rintro e w' ⟨x, rfl, hx, hd, hk⟩
  exact ⟨x, rfl, hx, h.go hd (h.ok.remove s) hk, hk⟩

theorem lwrite (h : DirL w0 w K X D 100 safe cur now saved epoch which) (s : ByteArray) (a : Int) (ha : I64 a) (v : Value) (bs : List UInt8) (hv : SlP 1 ByteE w0 v bs) :
    Calls Tryd.prog 13 #[.pointer (some ⟨X, 0, none⟩), .string s, .int .i64 a, v] w (fun e w' => ∃ x : Int, e = .returned (.int .i64 x) ∧ (x = 0 ↔ (wrS now s a bs.length).isSome = true) ∧
      DirL w0 w' K X D 100 safe (wrCur cur (wrS now s a bs.length) bs) now saved epoch which ∧ Kept K w w') := by
  have h1 := (SrcE.of hv).kept (kept_of_below h.below fun k hk => hk)
  refine (dwriteE_any w K X D 100 safe cur now saved epoch which h.at_ h.lt h.ok.gnow.in_ s a ha v bs ⟨h1.1, fun h0 q n c e a ha => h.base _ (h1.2 h0 q n c e a ha)⟩).mono ?_
  rintro e w' ⟨x, rfl, hx, hd, hk⟩
  exact ⟨x, rfl, hx, h.go hd (h.ok.write s a bs) hk, hk⟩

theorem lsave (h : DirL w0 w K X D 100 safe cur now saved epoch which) (hN : Nib w0) (he : epoch ≤ 1000) :
    Calls Tryd.prog 14 #[.pointer (some ⟨X, 0, none⟩)] w (fun e w' => e = .returned (.int .i64 0) ∧ DirL w0 w' K X D 100 (saveS cur which epoch now) (saveS cur which epoch now) now now (epoch + 1) (1 - which) ∧ Kept K w w') := by
  have h0 := h.base 0 (nib_pos hN)
  refine (save_any w K X D 100 safe cur now saved epoch which h.at_ h.lt h0 (hN.below h.below) (by omega) h.ok.wh (by omega) (h.ok.fits (by omega))).mono ?_
  rintro e w' ⟨rfl, hd, hk⟩
  exact ⟨rfl, h.go hd (h.ok.save (by omega)) hk, hk⟩

theorem lsync (h : DirL w0 w K X D 100 safe cur now saved epoch which) :
    Calls Tryd.prog 24 #[.pointer (some ⟨X, 0, none⟩)] w (fun e w' => e = .returned (.int .i64 0) ∧ DirL w0 w' K X D 100 cur cur now saved epoch which ∧ Kept K w w') := by
  refine (dsync_any w K X D 100 safe cur now saved epoch which h.at_ h.lt).mono ?_
  rintro e w' ⟨rfl, hd, hk⟩
  exact ⟨rfl, h.go hd h.ok.sync hk, hk⟩

/-- The power goes, and comes. -/
theorem lcrash (h : DirL w0 w K X D 100 safe cur now saved epoch which) : ∃ K' : Nat → Prop, (∀ k, K k → K' k) ∧ Calls Tryd.prog 16 #[.pointer (some ⟨D, 0, none⟩), .slice none 0 0, .int .i64 0] w (fun e w' => e = .returned (.bool true) ∧ Kept K w w' ∧
    Calls Tryd.prog 17 #[.pointer (some ⟨D, 0, none⟩)] w' (fun e w' => e = .returned (.bool true) ∧ Kept K w w' ∧ (∀ k, K' k → k < w'.heap.size) ∧ DiskAt w' K' D 100 safe safe false ∧ DirL w0 w' K X D 100 safe safe now saved epoch which)) := by
  obtain ⟨bn, bs, hX⟩ := h.at_
  have hlt := hX.lt h.lt
  refine ⟨fun k => K k ∨ k = X ∨ k = bn ∨ k = bs, fun k hk => .inl hk, (crash_any w _ D 100 safe cur hX.disk hlt).mono ?_⟩
  rintro e w1 ⟨rfl, hd1, hk1⟩
  have hX1 := hX.kept hk1 hd1
  have hlt1 : ∀ k, (K k ∨ k = X ∨ k = bn ∨ k = bs) → k < w1.heap.size := fun k hk => Nat.lt_of_lt_of_le (hlt k hk) hk1.size
  refine ⟨rfl, hk1.less fun k hk => .inl hk, (start_any w1 _ D 100 safe safe hd1 hlt1).mono ?_⟩
  rintro e w2 ⟨rfl, hd2, hk2⟩
  have hX2 := hX1.kept hk2 hd2
  have hk12 := (hk1.trans hk2).less (K' := K) fun k hk => .inl hk
  exact ⟨rfl, hk12, fun k hk => Nat.lt_of_lt_of_le (hlt1 k hk) hk2.size, hd2, h.go ⟨bn, bs, hX2⟩ h.ok.lost hk12⟩
end

end Go.Proofs.YtnpnchociegmpaaDoor
