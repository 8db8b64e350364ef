/- audit.State: what keys have behind the first records. -/
import Derived.Test.YtgmcpfcpdmnebaaGreatLegal
import Derived.Test.YtgmcpfcpdmnebaaGreatRefC
namespace Go.Proofs.YtgmcpfcpdmnebaaGreat
open Go.RowKit Go.Proofs Go.Shelf

/-- A walk over a map that is nil. -/
theorem wpList_mapRange0 {P : Program} {w : World} {ops : Array Oper} {rest : List Oper} {o : Oper} {a : Act} {Q : Exit → Act → World → Prop} (hgd : o.guard = none) (mo : Operand) (T : TypeId) (hop : o.op = .range T mo)
    {K E : TypeId} (ht : P.underlying T = some (.map K E)) (hm : a.eval mo = .map none)
    (hn : ∀ W, W.heap[w.heap.size]? = some (.mapIter none 0 #[] 0) → Below w.heap.size w W → w.heap.size < W.heap.size → wpList P ops Q rest (a.put o.dst (.pointer (some ⟨w.heap.size, 0, none⟩))) W) : wpList P ops Q (o :: rest) a w := by
  refine wpList_plain hgd fun K' hK' => ?_
  have hrun : (Instr.range T (.map none)).run P w = .ok (.pointer (some ⟨w.heap.size, 0, none⟩)) (w.alloc (.mapIter none 0 #[] 0)) := by
    simp [Instr.range, run_underlying ht, Sem.run, newObj]
  unfold Oper.wp
  simp [execOp, hop, hm, hrun, Result.andThen]
  exact hK' _ _ (hn _ (heap_alloc_new _ _) (below_new _ _) (by simp))

theorem wpList_mapEnd0 {P : Program} {w : World} {ops : Array Oper} {rest : List Oper} {o : Oper} {a : Act} {Q : Exit → Act → World → Prop} (hgd : o.guard = none) (it : Operand) (hop : o.op = .next it false)
    {r : Nat} (hit : a.eval it = .pointer (some ⟨r, 0, none⟩)) (h : w.heap[r]? = some (.mapIter none 0 #[] 0))
    (hn : wpList P ops Q rest (a.put o.dst (.tuple #[.bool false])) w) : wpList P ops Q (o :: rest) a w := by
  refine wpList_plain hgd fun K' hK' => ?_
  have hrun : (Instr.next (.pointer (some ⟨r, 0, none⟩)) false o.type).run P w = .ok (.tuple #[.bool false]) w := by
    simp [Instr.next, Sem.run, getObj, h]
  unfold Oper.wp
  simp [execOp, hop, hit, hrun, Result.andThen]
  exact hK' _ _ hn

set_option maxHeartbeats 1000000 in
/-- pairs of a map that is nil -/
theorem pairs_nil (g : Nat) (lb : Array Value) (w : World) :
    Calls Tryz.prog 19 #[.map none, .func (.func g) #[] lb] w fun e w' => ∃ v, e = .returned v ∧ SlP 3 PairE w' v [] ∧ Below w.heap.size w w' := by
  go_enter Tryz.func19, Tryz.ntmps19
  go_wp2_with (at_range; refine wpList_mapRange0 rfl _ _ rfl Tryz.underlying39 rfl ?_; intro w1 hit hb1 hlt1)
  go_frame
  go_loopw [5, 6, 7] (fun v _ _ wr => v = .slice none 0 0 ∧ wr = w1) (fun _ _ _ _ => 0)
  case atStart => exact ⟨rfl, rfl⟩
  case round =>
    obtain ⟨rfl, rfl⟩ := hrel
    have eg1 : ∀ args w, (callFunc 34 args).run Tryz.prog w = .ok (.enter 34 args) w := enters_of Tryz.func34 (by kernel_rfl) rfl
    have hsort := sort_pairs 34 eg1 pairs1 wr.heap.size (.slice none 0 0) [] wr (World.ownsRow_nil _ _ _ _) (by simp)
    have hsz := hb1.size
    go_wp2_with (first
      | (at_next; refine wpList_mapEnd0 rfl _ rfl rfl hit ?_)
      | (go_at_call 33; refine hsort.mono ?_; rintro e w2 ⟨rfl, L', hp', hs', hown', hb'⟩))
    go_ret
    obtain rfl := List.perm_nil.1 hp'
    exact ⟨_, rfl, hown'.at (by simp) (by simp), below_trans hb1 hb'⟩

set_option maxRecDepth 100000 in
/-- State$1 -/
theorem state1 (w : World) : KeyC Tryz.prog 20 #[] (fun _ => true) w := by
  intro k W _
  show Calls _ _ #[.string k] W _
  go_enter Tryz.func20, Tryz.ntmps20
  go_wp2_with fail
  go_ret
  exact ⟨rfl, Below.refl _ _⟩

/-- What State hands back: the pairs, or nothing. -/
def StaOut (l : List Rec) (w : World) (e : Ending) (w' : World) : Prop := ∃ v L, e = .returned v ∧ SlP 3 PairE w' v L ∧ L.length ≤ 1000000 ∧ (if behindOK l then IsPairs (stateS l) (fun _ => true) L else L = []) ∧ Below w.heap.size w w'

set_option maxRecDepth 100000 in
set_option maxHeartbeats 1000000 in
theorem state_any (l : List Rec) (v : Value) (n : Int) (w : World) (hv : SlP 5 RecE w v l) (hn : I64 n) (hN : writesN l ≤ 1000000) : Calls Tryz.prog 7 #[v, .int .i64 n] w (StaOut (l.take (cutN l n)) w) := by
  have hc : cutN l n ≤ l.length := by unfold cutN; omega
  have hNt : writesN (l.take (cutN l n)) ≤ 1000000 := Nat.le_trans (writesN_take l _) hN
  have eg : ∀ args w, (callFunc 20 args).run Tryz.prog w = .ok (.enter 20 args) w := enters_of Tryz.func20 (by kernel_rfl) rfl
  have Hp := fun b m f W hst => pairs_any b m f 20 #[] eg (fun _ => true) W hst (state1 W)
  have Hp0 := fun W => pairs_nil 20 #[] W
  have hv0 := hv
  obtain ⟨q, cap, rfl, hlc, hll, h0, -⟩ := hv
  have hvt := hv0.take (cutN l n) hc
  have hbeh := behind_any (l.take (cutN l n)) _ w hvt hNt
  clear hv0
  unfold I64 at hn
  have hcut : max (min n (l.length : Int)) 0 = ((cutN l n : Nat) : Int) := by unfold cutN; omega
  generalize cutN l n = k at *
  unfold BehindOut at hbeh
  have n0 : (0 : Int) ≤ (k : Int) := by omega
  have n2 : (k : Int) ≤ (cap : Int) := by omega
  have n3 : k ≤ cap := by omega
  cases hok : behindOK (l.take k) with
  | false =>
    simp only [hok, Bool.false_eq_true, if_false] at hbeh
    have Hok := Lib.hid hok
    clear hok hvt
    go_enter Tryz.func7, Tryz.ntmps7
    go_wp2_with (first
      | (go_at_call 18; refine hbeh.mono ?_; rintro e w1 ⟨rfl, hb1⟩)
      | (go_at_call 19; refine (Hp0 _).mono ?_; rintro e w2 ⟨v2, rfl, hs2, hb2⟩)
      | fail)
    go_ret
    refine ⟨v2, [], rfl, hs2, by simp, ?_, below_trans hb1 hb2⟩
    rw [Hok.out]; rfl
  | true =>
    simp only [hok, if_true] at hbeh
    have Hok := Lib.hid hok
    clear hok hvt
    go_enter Tryz.func7, Tryz.ntmps7
    go_wp2_with (first
      | (go_at_call 18; refine hbeh.mono ?_; rintro e w1 ⟨b, m, rfl, hst, hb1⟩)
      | (go_at_call 19; refine (Hp b m _ _ hst).mono ?_; rintro e w2 ⟨v2, L, rfl, hown, hip, hl2, hb2⟩)
      | fail)
    go_ret
    refine ⟨v2, L, rfl, hown.at (by omega) fun p hp => hst.small _ _ ((hip.mem p).1 hp).2.1, hl2, ?_, below_trans hb1 hb2⟩
    rw [Hok.out]; exact hip

end Go.Proofs.YtgmcpfcpdmnebaaGreat
