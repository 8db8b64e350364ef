/- The directory, plain: what is read of a list's bytes; a list that was written is read again. -/
import Derived.Test.YtlhefifejcoecaaGreatDoorJDirE
namespace Go.Proofs.YtlhefifejcoecaaGreatDoor
open Go.RowKit Go.Proofs Go.Shelf

def numP (mo : Nat) (x : List UInt8) (bad : Bool) : Nat × List UInt8 × Bool :=
  if bad = true ∨ (getNumS x).2.2 = false ∨ mo < (getNumS x).1 then (0, x, true) else ((getNumS x).1, x.drop (getNumS x).2.1, false)

def fidx (m : Files) (k : ByteArray) : Option Nat := m.findIdx? fun x => decide (k = x.1)
def fset (m : Files) (k : ByteArray) (e : Nat × Nat) : Files := match fidx m k with
  | some j => m.set j (k, e)
  | none => m ++ [(k, e)]

def filesP : Nat → List UInt8 → Bool → Files → List UInt8 × Bool × Files
  | 0, x, bad, f => (x, bad, f)
  | n + 1, x, bad, f =>
    if bad = true then (x, bad, f) else
    if (getStrS x 8).2.2 = false then (x, true, f) else
    filesP n (numP 1048576 (numP 1048576 (x.drop (getStrS x 8).2.1) false).2.1 (numP 1048576 (x.drop (getStrS x 8).2.1) false).2.2).2.1 (numP 1048576 (numP 1048576 (x.drop (getStrS x 8).2.1) false).2.1 (numP 1048576 (x.drop (getStrS x 8).2.1) false).2.2).2.2
      (fset f (getStrS x 8).1 ((numP 1048576 (x.drop (getStrS x 8).2.1) false).1, (numP 1048576 (numP 1048576 (x.drop (getStrS x 8).2.1) false).2.1 (numP 1048576 (x.drop (getStrS x 8).2.1) false).2.2).1))

def fext (m : Files) (s : List UInt8) : Nat × Nat := (fget m ⟨s.toArray⟩).getD (0, 0)
def okE (s : List UInt8) (e : Nat × Nat) (n : Nat) : Bool := goodNameS ⟨s.toArray⟩ && decide (16 ≤ e.1) && decide (1 ≤ e.2) && decide (e.1 ≤ n) && decide (e.2 ≤ n - e.1)
def rightL (m : Files) (n : Nat) : List (List UInt8) → List (Nat × Nat) → Bool
  | [], _ => true
  | s :: r, seen => okE s (fext m s) n && !(seen.any fun o => meetsS (fext m s) o) && rightL m n r (seen ++ [fext m s])
def rightS (m : Files) (n : Nat) : Bool := decide (m.length ≤ 10) && rightL m n (namesS m) []

def parseS (b : List UInt8) (n : Nat) : Option (Nat × Files) :=
  if (openS b).2.2 = false then none else
  let e := numP 1099511627776 (openS b).1 false
  let k := numP 10 e.2.1 e.2.2
  let r := filesP k.1 k.2.1 k.2.2 []
  if r.2.1 = true ∨ rightS r.2.2 n = false ∨ listS e.1 r.2.2 ≠ b then none else some (e.1, r.2.2)

/-- Files, in their names' order. -/
def sortF (m : Files) : Files := (namesS m).map fun s => (⟨s.toArray⟩, fext m s)

/-- What files may be. -/
structure GoodF (m : Files) (n : Nat) : Prop where
  few : m.length ≤ 10
  nodup : (m.map (·.1)).Nodup
  each : ∀ x ∈ m, goodNameS x.1 = true ∧ 16 ≤ x.2.1 ∧ 1 ≤ x.2.2 ∧ x.2.1 + x.2.2 ≤ n
  apart : (m.map (·.2)).Pairwise fun a b => meetsS a b = false

theorem meetsS_comm (a b : Nat × Nat) : meetsS a b = meetsS b a := by
  unfold meetsS; rw [Bool.and_comm]

theorem fget_mem {m : Files} (hn : (m.map (·.1)).Nodup) {x : ByteArray × Nat × Nat} (hx : x ∈ m) : fget m x.1 = some x.2 := by
  induction m with
  | nil => cases hx
  | cons y m ih =>
    unfold fget
    rw [List.find?_cons]
    by_cases h : x.1 = y.1
    · rw [decide_eq_true h]
      rcases List.mem_cons.1 hx with rfl | h2
      · rfl
      · simp only [List.map_cons, List.nodup_cons] at hn
        exact absurd (List.mem_map_of_mem h2) (h ▸ hn.1)
    · rw [decide_eq_false h]
      rcases List.mem_cons.1 hx with rfl | h2
      · exact absurd rfl h
      · simp only [List.map_cons, List.nodup_cons] at hn
        exact ih hn.2 h2

theorem names_perm (m : Files) : (namesS m).Perm (m.map fun x => x.1.data.toList) := List.mergeSort_perm _ _

theorem mk_data (s : ByteArray) : (⟨s.data.toList.toArray⟩ : ByteArray) = s := by rcases s with ⟨s⟩; rfl

theorem ext_perm {m : Files} (hn : (m.map (·.1)).Nodup) : ((namesS m).map (fext m)).Perm (m.map (·.2)) := by
  refine ((names_perm m).map (fext m)).trans ?_
  rw [List.map_map]
  refine List.Perm.of_eq (List.map_congr_left fun x hx => ?_)
  show fext m x.1.data.toList = x.2
  unfold fext
  rw [mk_data, fget_mem hn hx]; rfl

theorem names_mem {m : Files} {s : List UInt8} (hs : s ∈ namesS m) : ∃ x ∈ m, x.1 = ⟨s.toArray⟩ := by
  have := (names_perm m).mem_iff.1 hs
  rw [List.mem_map] at this
  obtain ⟨x, hx, rfl⟩ := this
  exact ⟨x, hx, (mk_data _).symm⟩

theorem GoodF.okE {m : Files} {n : Nat} (h : GoodF m n) {s : List UInt8} (hs : s ∈ namesS m) : okE s (fext m s) n = true := by
  obtain ⟨x, hx, e⟩ := names_mem hs
  obtain ⟨h1, h2, h3, h4⟩ := h.each x hx
  unfold YtlhefifejcoecaaGreatDoor.okE fext
  rw [← e, fget_mem h.nodup hx, h1]
  simp only [Option.getD_some, Bool.true_and, Bool.and_eq_true, decide_eq_true_eq]
  omega

theorem rightL_of {m : Files} {n : Nat} : ∀ (ns : List (List UInt8)) (seen : List (Nat × Nat)), (∀ s ∈ ns, okE s (fext m s) n = true) → (seen ++ ns.map (fext m)).Pairwise (fun a b => meetsS a b = false) → rightL m n ns seen = true
  | [], _, _, _ => rfl
  | s :: r, seen, h1, h2 => by
    unfold rightL
    have h3 : (seen ++ [fext m s] ++ r.map (fext m)).Pairwise (fun a b => meetsS a b = false) := by simpa using h2
    rw [h1 s (by simp), rightL_of r _ (fun t ht => h1 t (by simp [ht])) h3]
    have h4 : (seen.any fun o => meetsS (fext m s) o) = false := by
      rw [List.any_eq_false]
      intro o ho
      have := (List.pairwise_append.1 h2).2.2 o ho (fext m s) (by simp)
      rw [meetsS_comm, this]; decide
    rw [h4]; rfl

theorem GoodF.right {m : Files} {n : Nat} (h : GoodF m n) : rightS m n = true := by
  unfold rightS
  rw [decide_eq_true h.few, rightL_of _ _ (fun s hs => h.okE hs) ?_]; rfl
  rw [List.nil_append]
  exact ((ext_perm h.nodup).pairwise_iff (fun {a b} hab => by rw [meetsS_comm]; exact hab)).2 h.apart

theorem names_sort (m : Files) : namesS (sortF m) = namesS m := by
  have e : (sortF m).map (fun x => x.1.data.toList) = namesS m := by
    unfold sortF
    rw [List.map_map]
    conv => rhs; rw [← List.map_id (namesS m)]
    exact List.map_congr_left fun s _ => rfl
  show ((sortF m).map fun x => x.1.data.toList).mergeSort _ = _
  rw [e]
  exact namesS_perm (names_perm m)

theorem fget_sort {m : Files} {s : List UInt8} (hs : s ∈ namesS m) : fext (sortF m) s = fext m s := by
  have : ∀ ns : List (List UInt8), s ∈ ns → fget (ns.map fun s => ((⟨s.toArray⟩ : ByteArray), fext m s)) ⟨s.toArray⟩ = some (fext m s) := by
    intro ns
    induction ns with
    | nil => intro h; cases h
    | cons t r ih =>
      intro h
      unfold fget
      rw [List.map_cons, List.find?_cons]
      by_cases e : s = t
      · subst e; simp
      · have hne : ¬ ((⟨s.toArray⟩ : ByteArray) = ⟨t.toArray⟩) := fun h2 => e (by
          have := congrArg (fun b : ByteArray => b.data.toList) h2
          simpa using this)
        rw [decide_eq_false hne]
        rcases List.mem_cons.1 h with h | h
        · exact absurd h e
        · exact ih h
  have h := this _ hs
  show ((fget (sortF m) ⟨s.toArray⟩).getD (0, 0)) = _
  unfold sortF
  rw [h]; rfl

theorem sort_len (m : Files) : (sortF m).length = m.length := by
  unfold sortF
  rw [List.length_map, (names_perm m).length_eq, List.length_map]

theorem body_sort (epoch : Nat) (m : Files) : bodyS epoch (sortF m) (namesS (sortF m)) = bodyS epoch m (namesS m) := by
  unfold bodyS
  rw [names_sort, sort_len]
  congr 1
  rw [List.flatMap_def, List.flatMap_def]
  congr 1
  refine List.map_congr_left fun s hs => ?_
  have := fget_sort hs
  unfold fext at this
  unfold entryS
  rw [this]

theorem list_sort (epoch : Nat) (m : Files) : listS epoch (sortF m) = listS epoch m := by
  unfold listS
  rw [body_sort]

theorem right_sort (m : Files) (n : Nat) : rightS (sortF m) n = rightS m n := by
  unfold rightS
  rw [names_sort, sort_len]
  congr 1
  have : ∀ (ns : List (List UInt8)) (seen : List (Nat × Nat)), (∀ s ∈ ns, s ∈ namesS m) → rightL (sortF m) n ns seen = rightL m n ns seen := by
    intro ns
    induction ns with
    | nil => intros; rfl
    | cons s r ih =>
      intro seen h
      unfold rightL
      rw [fget_sort (h s (by simp)), ih _ fun t ht => h t (by simp [ht])]
  exact this _ _ fun _ h => h

theorem numP_num (n mo : Nat) (r : List UInt8) (hn : n ≤ mo) (hmo : mo < 18446744073709551616) : numP mo (numS n ++ r) false = (n, r, false) := by
  unfold numP
  rw [getNumS_num n r (by omega)]
  simp only [Bool.false_eq_true, false_or, reduceCtorEq]
  rw [if_neg (by simp; omega), List.drop_left]

theorem fset_new {f : Files} {k : ByteArray} (e : Nat × Nat) (h : ∀ x ∈ f, x.1 ≠ k) : fset f k e = f ++ [(k, e)] := by
  have : fidx f k = none := by
    unfold fidx
    rw [List.findIdx?_eq_none_iff]
    intro x hx
    exact decide_eq_false (fun h2 => h x hx h2.symm)
  unfold fset
  rw [this]

theorem filesP_list (m : Files) : ∀ (ns : List (List UInt8)) (f : Files), (∀ s ∈ ns, s.length ≤ 8 ∧ (fext m s).1 ≤ 1048576 ∧ (fext m s).2 ≤ 1048576) → ns.Nodup → (∀ s ∈ ns, ∀ x ∈ f, x.1 ≠ ⟨s.toArray⟩) →
    filesP ns.length (ns.flatMap (entryS m)) false f = ([], false, f ++ ns.map fun s => (⟨s.toArray⟩, fext m s))
  | [], f, _, _, _ => by simp [filesP]
  | s :: r, f, h1, h2, h3 => by
    obtain ⟨a1, a2, a3⟩ := h1 s (by simp)
    have e : (s :: r).flatMap (entryS m) = numS s.length ++ s ++ (numS (fext m s).1 ++ (numS (fext m s).2 ++ r.flatMap (entryS m))) := by
      rw [List.flatMap_cons]
      unfold entryS fext
      simp only [List.append_assoc]
    have hg := getStrS_str s (numS (fext m s).1 ++ (numS (fext m s).2 ++ r.flatMap (entryS m))) 8 a1 (by omega)
    rw [e]
    show filesP (r.length + 1) _ _ _ = _
    unfold filesP
    rw [hg]
    have hd : (numS s.length ++ s ++ (numS (fext m s).1 ++ (numS (fext m s).2 ++ r.flatMap (entryS m)))).drop ((numS s.length).length + s.length) = numS (fext m s).1 ++ (numS (fext m s).2 ++ r.flatMap (entryS m)) := by
      rw [← List.length_append, List.drop_left]
    dsimp only
    rw [hd, numP_num _ _ _ a2 (by omega)]
    dsimp only
    rw [numP_num _ _ _ a3 (by omega)]
    dsimp only
    rw [if_neg (by decide), if_neg (by decide), fset_new _ (h3 s (by simp))]
    rw [filesP_list m r _ (fun t ht => h1 t (by simp [ht])) (List.nodup_cons.1 h2).2 (fun t ht x hx => ?_)]
    · simp
    · rcases List.mem_append.1 hx with hx | hx
      · exact h3 t (by simp [ht]) x hx
      · simp only [List.mem_cons, List.not_mem_nil, or_false] at hx
        subst hx
        intro h4
        have : s = t := by
          have := congrArg (fun b : ByteArray => b.data.toList) h4
          simpa using this
        subst this
        exact (List.nodup_cons.1 h2).1 ht

theorem good_size {s : ByteArray} (h : goodNameS s = true) : s.size ≤ 8 := by
  unfold goodNameS at h
  simp only [Bool.and_eq_true, decide_eq_true_eq] at h
  exact h.2

theorem small_num {n : Nat} : (numS n).length ≤ 9 := numS_length n

theorem be_length_lt : ∀ (f n k : Nat), n < 256 ^ k → (be f n).length ≤ k := by
  intro f n k h
  rcases Nat.lt_or_ge k f with hk | hk
  · clear hk
    induction f generalizing n k with
    | zero => simp [be]
    | succ f ih =>
      unfold be
      by_cases h0 : n = 0
      · rw [if_pos h0]; simp
      · rw [if_neg h0]
        cases k with
        | zero => simp at h; exact absurd h h0
        | succ k =>
          have h1 : n / 256 < 256 ^ k := by rw [Nat.div_lt_iff_lt_mul (by decide)]; rw [Nat.pow_succ] at h; exact h
          have := ih (n / 256) k h1
          simp only [List.length_append, List.length_cons, List.length_nil]; omega
  · exact Nat.le_trans (be_length f n) hk

theorem numS_len_lt {n k : Nat} (h : n < 256 ^ k) : (numS n).length ≤ k + 1 := by
  unfold numS
  split
  · simp
  · simp only [List.length_cons]
    have := be_length_lt 8 n k h
    omega

theorem numS_len_small {n : Nat} (h : n < 248) : (numS n).length = 1 := by unfold numS; rw [if_pos h]; rfl

theorem flat_len {m : Files} : ∀ (ns : List (List UInt8)), (∀ s ∈ ns, (entryS m s).length ≤ 17) → (ns.flatMap (entryS m)).length ≤ 17 * ns.length
  | [], _ => by simp
  | s :: r, h => by
    rw [List.flatMap_cons, List.length_append, List.length_cons]
    have := h s (by simp)
    have := flat_len r fun t ht => h t (by simp [ht])
    omega

/-- What may be is written, and read again. -/
theorem GoodF.fits {m : Files} {n : Nat} (h : GoodF m n) (hn : n ≤ 1048576) {epoch : Nat} (he : epoch ≤ 1099511627776) : Fits epoch m := by
  have hl : (namesS m).length = m.length := by rw [(names_perm m).length_eq, List.length_map]
  have hfew := h.few
  have hent : ∀ s ∈ namesS m, (entryS m s).length ≤ 17 := by
    intro s hs
    obtain ⟨x, hx, e⟩ := names_mem hs
    obtain ⟨h1, h2, h3, h4⟩ := h.each x hx
    have hsz := good_size h1
    rw [e] at hsz
    have hs8 : s.length ≤ 8 := by simpa [ByteArray.size] using hsz
    unfold entryS
    rw [← e, fget_mem h.nodup hx]
    simp only [List.length_append, Option.getD_some]
    have k1 := numS_len_small (n := s.length) (by omega)
    have k2 := numS_len_lt (n := x.2.1) (k := 3) (by omega)
    have k3 := numS_len_lt (n := x.2.2) (k := 3) (by omega)
    omega
  have hb : (bodyS epoch m (namesS m)).length ≤ 178 := by
    unfold bodyS
    simp only [List.length_append]
    have k1 := numS_len_lt (n := epoch) (k := 6) (by omega)
    have k2 := numS_len_small (n := m.length) (by omega)
    have := flat_len _ hent
    omega
  refine ⟨?_, by omega, by omega⟩
  unfold frameS sumB
  simp only [List.length_append, List.length_cons, List.length_nil]
  have := numS_len_small (n := (bodyS epoch m (namesS m)).length) (by omega)
  omega

theorem parse_list {m : Files} {n epoch : Nat} (h : GoodF m n) (hn : n ≤ 1048576) (he : epoch ≤ 1099511627776) : parseS (listS epoch m) n = some (epoch, sortF m) := by
  have hfit := h.fits hn he
  have hl : (namesS m).length = m.length := by rw [(names_perm m).length_eq, List.length_map]
  have ho : openS (listS epoch m) = _ := openS_frame (bodyS epoch m (namesS m)) (List.replicate (256 - (frameS (bodyS epoch m (namesS m))).length) 0) hfit.2.1
  have hfew := h.few
  have hnd : (namesS m).Nodup := by
    rw [(names_perm m).nodup_iff]
    have : (m.map fun x => x.1.data.toList) = (m.map (·.1)).map (fun s => s.data.toList) := by rw [List.map_map]; rfl
    rw [this, List.nodup_iff_pairwise_ne, List.pairwise_map]
    have := h.nodup
    rw [List.nodup_iff_pairwise_ne] at this
    refine this.imp fun {a b} hab e => hab ?_
    exact (mk_data a).symm.trans ((congrArg (fun l : List UInt8 => (⟨l.toArray⟩ : ByteArray)) e).trans (mk_data b))
  have hp := filesP_list m (namesS m) [] (fun s hs => by
    obtain ⟨x, hx, e⟩ := names_mem hs
    obtain ⟨h1, h2, h3, h4⟩ := h.each x hx
    have hsz := good_size h1
    rw [e] at hsz
    have hs8 : s.length ≤ 8 := by simpa [ByteArray.size] using hsz
    unfold fext
    rw [← e, fget_mem h.nodup hx]
    simp only [Option.getD_some]
    omega) hnd (by simp)
  rw [hl, List.nil_append] at hp
  unfold parseS
  rw [ho]
  have e1 : bodyS epoch m (namesS m) = numS epoch ++ (numS m.length ++ (namesS m).flatMap (entryS m)) := by unfold bodyS; simp
  have hn1 := numP_num epoch 1099511627776 (numS m.length ++ (namesS m).flatMap (entryS m)) he (by omega)
  have hn2 := numP_num m.length 10 ((namesS m).flatMap (entryS m)) hfew (by omega)
  dsimp only
  rw [e1, hn1]
  dsimp only
  rw [hn2]
  dsimp only
  rw [hp]
  dsimp only
  rw [if_neg (by decide), if_neg]
  · rfl
  · show ¬ (false = true ∨ rightS (sortF m) n = false ∨ listS epoch (sortF m) ≠ listS epoch m)
    rw [right_sort, h.right, list_sort]
    simp

end Go.Proofs.YtlhefifejcoecaaGreatDoor
