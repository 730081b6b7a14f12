/- maps.Keys over a map keyed by names: its iterator's contract, for every loop body that keeps maps and iterators. Conditions: the map's block is known whole. -/
import Derived.Test.YtehljfnoicppnaaDoorHeapA
import Derived.RangeFuncNested
import Derived.RangeFuncBound
import Derived.RangeFuncCalls
import Derived.RangeFuncLeaves
import Derived.Shelf.Abstract
import Derived.Shelf.AbstractIn
import Derived.Shelf.RegionOpen
import Derived.Maps.RangeRun
import Derived.Sort.MapsRangeIn
import Derived.OwnWalkIn
import Derived.TacticsInMore
import Derived.LoopNIn
import Derived.LoopIn
open Go Go.RowKit Go.Shelf
set_option linter.unusedVariables false
namespace Go.Proofs.YtehljfnoicppnaaDoor

section
variable {F : Fence} {n : Nat} {P : Program} (w : World) {ops : Array Oper} {rest : List Oper} {o : Oper} {a : Act} {Q : Exit → Act → World → Prop}
/-- 'range m'. -/
theorem wpListIn_range_names (hg : o.guard = none) (m : Operand) (t : TypeId) (hop : o.op = Op.range t m) (k e : TypeId) (ht : P.underlying t = some (.map k e)) (b clock : Nat) (es : Array MapEntry)
    (hm : a.eval m = .map (some b)) (hM : w.heap[b]? = some (.map es clock))
    (hK : wpListIn F n P ops Q rest (a.put o.dst (.pointer (some ⟨w.heap.size, 0, none⟩))) (w.alloc (.mapIter (some b) clock #[] clock))) :
    wpListIn F n P ops Q (o :: rest) a w := by
  refine wpListIn_plain hg fun K' hK' => ?_
  have hrun : (Instr.range t (.map (some b))).run P w = .ok (.pointer (some ⟨w.heap.size, 0, none⟩)) (w.alloc (.mapIter (some b) clock #[] clock)) := by
    have hgo : Sem.run P (Go.getObj b) w = .ok (.map es clock) w := by simp [Go.getObj, Sem.run, hM]
    simp only [Instr.range, Sem.run_bind, run_underlying ht, Result.andThen_ok, hgo, Sem.run_pure]
    rfl
  unfold Oper.wpIn
  refine ⟨by simp [Oper.about, hop], ?_⟩
  rw [Oper.semAt_plain F _ _ (by rw [hop]; intro c hc'; cases hc')]
  simp [execOp, hop, hm, hrun, Result.andThen]
  exact hK' _ _ hK

/-- The step: nothing is left, or one that is left comes. -/
theorem wpListIn_next_names (hg : o.guard = none) (it : Operand) (hop : o.op = Op.next it false) (b r clock : Nat) (es : Array MapEntry) (seen : Array Nat)
    (hit : a.eval it = .pointer (some ⟨r, 0, none⟩)) (hr : w.heap[r]? = some (.mapIter (some b) clock seen clock)) (hM : w.heap[b]? = some (.map es clock)) (hold : ∀ x ∈ es.toList, x.born < clock) (hnd : (es.toList.map (·.born)).Nodup)
    (hDone : (leftOf es seen).size = 0 → wpListIn F n P ops Q rest (a.put o.dst (.tuple #[.bool false])) w)
    (hMore : ∀ (e : MapEntry) (w' : World), e ∈ (leftOf es seen).toList → w.grownBy w' (some r) → w'.heap.size = w.heap.size → w'.heap[r]? = some (.mapIter (some b) clock (seen.push e.born) clock) →
      (Instr.entry (.pointer (some ⟨r, 0, none⟩))).run P w' = .ok (.tuple #[e.key, e.val]) w' → wpListIn F n P ops Q rest (a.put o.dst (.tuple #[.bool true, e.key, e.val])) w') :
    wpListIn F n P ops Q (o :: rest) a w := by
  refine wpListIn_plain hg fun K' hK' => ?_
  unfold Oper.wpIn
  refine ⟨by simp [Oper.about, hop], ?_⟩
  rw [Oper.semAt_plain F _ _ (by rw [hop]; intro c hc'; cases hc')]
  have hrl : r < w.heap.size := (Array.getElem?_eq_some_iff.1 hr).1
  have hne : b ≠ r := fun e => by rw [e, hr] at hM; cases hM
  rcases run_next_at (P := P) w o.type r b clock clock seen es clock hr hM hold (Nat.le_refl _) with ⟨h0, hrun⟩ | ⟨e, he, w1, hw1, hrun⟩
  · simp [execOp, hop, hit, hrun, Result.andThen]
    exact hK' _ _ (hDone h0)
  · have h1 : w1.heap = w.heap := by rcases hw1 with rfl | rfl <;> rfl
    have hgr : w.grownBy (Go.ChangeMaps.setBlock w1 r (.mapIter (some b) clock (seen.push e.born) clock)) (some r) := by
      refine ⟨?_, ?_, ?_, ?_, fun k hk hkr => ?_⟩
      · rcases hw1 with rfl | rfl <;> rfl
      · rcases hw1 with rfl | rfl <;> rfl
      · rcases hw1 with rfl | rfl <;> rfl
      · simp [Go.ChangeMaps.setBlock, h1]
      · have : r ≠ k := fun e => hkr (by rw [e])
        simp [Go.ChangeMaps.setBlock, h1, this]
    have hr2 : (Go.ChangeMaps.setBlock w1 r (.mapIter (some b) clock (seen.push e.born) clock)).heap[r]? = some (.mapIter (some b) clock (seen.push e.born) clock) := by
      simp [Go.ChangeMaps.setBlock, h1, hrl]
    have hb2 := (hgr.block b (Array.getElem?_eq_some_iff.1 hM).1 (by simpa using hne)).trans hM
    have hen := run_entry_at (P := P) _ r b clock seen es clock e hr2 hb2 (mem_left he).1 hnd
    have hK := hMore e _ he hgr (by simp [Go.ChangeMaps.setBlock, h1]) hr2 hen
    simp [execOp, hop, hit, hrun, Result.andThen]
    exact hK' _ _ hK
end

theorem grown_none {w w' : World} (h : Ext w w') : w.grownBy w' none := ⟨h.os, h.tape, h.output, h.size, fun k hk _ => h.block k hk⟩
def seenSize (w : World) (r : Nat) : Nat := match w.heap[r]? with | some (.mapIter _ _ seen _) => seen.size | _ => 0

/-- What has come, and what is left. -/
def Come (es : List MEnt) (seen : Array Nat) (ss : List Nm) : Prop := ∃ qs ls : List MEnt, es.Perm (qs ++ ls) ∧ seen = (qs.map (·.2.2)).toArray ∧ ss = qs.map (·.1)
theorem Come.start (es : List MEnt) : Come es #[] [] := ⟨[], es, by simp, rfl, rfl⟩
theorem Come.len {es : List MEnt} {seen : Array Nat} {ss : List Nm} (h : Come es seen ss) : seen.size = ss.length ∧ ss.length ≤ es.length := by
  obtain ⟨qs, ls, hp, rfl, rfl⟩ := h
  have := hp.length_eq
  simp at this ⊢
  omega
theorem Come.over {es : List MEnt} {seen : Array Nat} {ss : List Nm} (h : Come es seen ss) (hn : (es.map (·.2.2)).Nodup) (h0 : (leftOf (es.map ment).toArray seen).size = 0) : ss.Perm (es.map (·.1)) := by
  obtain ⟨qs, ls, hp, rfl, rfl⟩ := h
  have hl : ls = [] := by
    cases ls with
    | nil => rfl
    | cons e ls =>
      exfalso
      have hn' : ((qs ++ e :: ls).map (·.2.2)).Nodup := (hp.map _).nodup_iff.1 hn
      rw [List.map_append, List.nodup_append] at hn'
      have he : e ∈ es := hp.symm.subset (by simp)
      have hm : ment e ∈ (leftOf (es.map ment).toArray (qs.map (·.2.2)).toArray).toList := by
        unfold leftOf
        simp only [Array.toList_filter, List.mem_filter, List.mem_map]
        refine ⟨⟨e, he, rfl⟩, ?_⟩
        simp only [List.contains_toArray, Bool.not_eq_true', List.contains_eq_mem, decide_eq_false_iff_not]
        intro hc
        exact hn'.2.2 _ hc _ (by simp : e.2.2 ∈ (e :: ls).map (·.2.2)) rfl
      have := Array.eq_empty_of_size_eq_zero h0
      rw [this] at hm
      simp at hm
  subst hl
  rw [List.append_nil] at hp
  exact (hp.map _).symm
theorem Come.step {es : List MEnt} {seen : Array Nat} {ss : List Nm} (h : Come es seen ss) {e : MapEntry} (he : e ∈ (leftOf (es.map ment).toArray seen).toList) : ∃ x u c, e = ment (x, u, c) ∧ Come es (seen.push e.born) (ss ++ [x]) := by
  obtain ⟨qs, ls, hp, rfl, rfl⟩ := h
  unfold leftOf at he
  simp only [Array.toList_filter, List.mem_filter, List.mem_map] at he
  obtain ⟨⟨e', he', rfl⟩, hc⟩ := he
  simp only [List.contains_toArray, Bool.not_eq_true', List.contains_eq_mem, decide_eq_false_iff_not] at hc
  obtain ⟨x, u, c⟩ := e'
  have hl : (x, u, c) ∈ ls := by
    rcases List.mem_append.1 (hp.subset he') with hq | hl
    · exact absurd (List.mem_map.2 ⟨_, hq, rfl⟩) hc
    · exact hl
  obtain ⟨l1, l2, rfl⟩ := List.append_of_mem hl
  refine ⟨x, u, c, rfl, qs ++ [(x, u, c)], l1 ++ l2, ?_, by simp [ment], by simp⟩
  refine hp.trans ?_
  rw [List.append_assoc]
  exact List.perm_middle.append_left qs

set_option maxRecDepth 100000 in
set_option maxHeartbeats 1000000 in
theorem keysF_in (F : Fence) (n : Nat) (hF : F.fn 79) (hro : F.round = none) (hn : 1 ≤ n) (l Bm b clock : Nat) (es : List MEnt) (J Jx : List Nm → World → Prop)
    (hY : ∀ pre x W, J pre W → pre.length < es.length → YieldAt F (n - 1) Tryd.prog l #[kv x] W fun e W' =>
      (e = .returned (.bool true) ∧ J (pre ++ [x]) W' ∧ KeepsWalks W W') ∨ (e = .returned (.bool false) ∧ Jx (pre ++ [x]) W'))
    (W : World) (hJ : AbidesFrom W.heap.size J) (hm : W.cell? ⟨Bm, 0, none⟩ = some (.map (some b))) (hM : MapAt W b es clock) (hB : Births es clock) (h0 : J [] W) :
    CallsIn F n Tryd.prog 79 #[.func (.yield l) #[] #[], .pointer (some ⟨Bm, 0, none⟩)] W fun e W' => (∃ v, e = .returned v) ∧
      ((∃ ss : List Nm, ss.Perm (es.map (·.1)) ∧ J ss W') ∨ (∃ pre : List Nm, True ∧ Jx pre W')) := by
  refine callsIn_of_wp Tryd.func79 rfl hF ?_ hro
  simp only [Tryd.ntmps79, List.size_toArray, List.length_cons, List.length_nil, Nat.reduceAdd, Nat.reduceSub, Array.replicate_succ, Array.replicate_zero, List.push_toArray, List.append_toArray, List.nil_append, List.cons_append]
  have HY := Lib.hid hY
  have HB := Lib.hid hB
  have HM := Lib.hid hM
  clear hY hB
  unfold MapAt at hM
  gi_wp2_with (first
    | (gi_at_range; refine wpListIn_range_names _ rfl _ 87 rfl 31 24 Tryd.underlying87 b clock _ rfl hM ?_)
    | gi_in)
  have hr0 := heap_alloc_new W (.mapIter (some b) clock #[] clock)
  have hE0 : Ext W (W.alloc (.mapIter (some b) clock #[] clock)) := (Ext.refl W).alloc _
  have hM0 := hE0.heap hM
  have hJ0 := hJ [] W _ none h0 (grown_none hE0) (fun r e => by cases e)
  have hsz0 : W.heap.size < (W.alloc (.mapIter (some b) clock #[] clock)).heap.size := by simp
  generalize hW0 : W.alloc (.mapIter (some b) clock #[] clock) = W0 at hr0 hE0 hM0 hJ0 hsz0 ⊢
  clear hW0 hM
  have hM := Lib.hid hM0
  clear hM0
  go_frame
  gi_loopw [3] (fun _ wr => ∃ (seen : Array Nat) (ss : List Nm), wr.heap[W.heap.size]? = some (.mapIter (some b) clock seen clock) ∧ MapAt wr b es clock ∧ Come es seen ss ∧ J ss wr)
    (fun _ wr => es.length - seenSize wr W.heap.size)
  case atStart => exact ⟨_, [], hr0, hM.out, Come.start es, hJ0⟩
  case round =>
    clear hr0 hJ0
    obtain ⟨seen, ss, hr, hMr, hC, hJs⟩ := hrel
    have HMr := Lib.hid hMr
    unfold MapAt at hMr
    gi_wp2_with (first
      | (gi_at_next; refine wpListIn_next_names _ rfl _ rfl b W.heap.size clock _ _ rfl hr hMr (fun x hx => ?_) ?_ ?_ ?_)
      | gi_in)
    · simp at hx
      obtain ⟨x0, x1, x2, hx, rfl⟩ := hx
      exact HB.out.1 _ hx
    · exact HB.out.2
    · intro hl0
      gi_wp2
      go_end0
      exact ⟨⟨_, rfl⟩, .inl ⟨ss, hC.over HB.out.2 (by rw [hl0]; rfl), hJs⟩⟩
    · intro e w2 he hg2 hs2 hr2 hen
      obtain ⟨⟨x0, x1⟩, u, c, rfl, hC2⟩ := hC.step (by simpa using he)
      have hlen := hC2.len
      simp at hlen
      have hJ2 : J ss w2 := hJ ss wr w2 (some W.heap.size) hJs hg2 (fun r e => by cases e; exact ⟨Nat.le_refl _, _, hr, rfl⟩)
      have hrl : W.heap.size < w2.heap.size := (Array.getElem?_eq_some_iff.1 hr2).1
      have hM2 : MapAt w2 b es clock := (hg2.block b (Array.getElem?_eq_some_iff.1 hMr).1 (fun e => by injection e with e; rw [e, hr] at hMr; cases hMr)).trans hMr
      have hE3 : Ext w2 (w2.alloc (.cells #[.int .i64 x0, .int .i64 x1] 31)) := (Ext.refl w2).alloc _
      have hJ3 := hJ ss w2 _ none hJ2 (grown_none hE3) (fun r e => by cases e)
      have hr3 := hE3.heap hr2
      have hM3 := hE3.heap hM2
      obtain ⟨fn, tmps, assign, body, hy, hR⟩ := HY.out ss ⟨x0, x1⟩ _ hJ3 (by omega)
      have HSZ : seenSize wr W.heap.size = ss.length := by simp [seenSize, hr, hC.len.1]
      have HSZ := Lib.hid HSZ
      rename_i HSZ'
      clear HSZ'
      have HLEN := Lib.hid hlen
      have HC2 := Lib.hid hC2
      have HR3 := Lib.hid hr3
      have HM3 := Lib.hid hM3
      clear hC2 hr2 hr hg2 he hMr hC hlen hJ2 hM2 hE3 hJ3 hr3 hM3 hJs hs2
      dsimp only [ment, kv] at hen hy ⊢
      gi_wp2
      refine hR.mono ?_
      rintro e W4 (⟨rfl, hJ4, hk4⟩ | ⟨rfl, hJx4⟩)
      · gi_wp2
        have hr4 := hk4.same _ _ HR3.out rfl
        have hM4 := hk4.same _ _ HM3.out rfl
        go_roundw
        case rel => exact ⟨_, ss ++ [⟨x0, x1⟩], hr4, hM4, HC2.out, hJ4⟩
        case measure =>
          rw [HSZ.out]
          have h1 := HLEN.out
          have h2 : seenSize W4 W.heap.size = ss.length + 1 := by
            have := HC2.out.len.1
            simp at this
            simp [seenSize, hr4, this]
          rw [h2]
          omega
      · gi_wp2
        refine bodyPost_ret (results_none rfl _ _ _) rfl ?_
        exact ⟨⟨_, rfl⟩, .inr ⟨_, trivial, hJx4⟩⟩

/-- maps.Keys: the map is boxed; the function value captures the box. -/
theorem keys_in (F : Fence) (n : Nat) (hF : F.fn 49) (hro : F.round = none) (mb : Option Nat) (w : World) :
    CallsIn F n Tryd.prog 49 #[.map mb] w fun e w' => e = .returned (.func (.func 79) #[] #[.pointer (some ⟨w.heap.size, 0, none⟩)]) ∧ w' = w.alloc (.cells #[.map mb] 87) := by
  refine callsIn_of_wp Tryd.func49 rfl hF ?_ hro
  simp only [Tryd.ntmps49, List.size_toArray, List.length_cons, List.length_nil, Nat.reduceAdd, Nat.reduceSub, Array.replicate_succ, Array.replicate_zero, List.push_toArray, List.append_toArray, List.nil_append, List.cons_append]
  gi_wp2
  go_ret
  exact ⟨rfl, rfl⟩

/-- maps.Keys hands back an iterator over the map's keys. -/
theorem keys_stops (F : Fence) (n : Nat) (hF : F.fn 79) (hro : F.round = none) (hn : 1 ≤ n) (Bm b clock : Nat) (es : List MEnt) (w : World) (hBm : w.cell? ⟨Bm, 0, none⟩ = some (.map (some b))) (hM : MapAt w b es clock) (hB : Births es clock) :
    SeqStops F n Tryd.prog 79 #[.pointer (some ⟨Bm, 0, none⟩)] kv (fun ss => ss.Perm (es.map (·.1))) (fun _ => True) es.length w :=
  fun l J Jx W hW hJ _ hY h0 => keysF_in F n hF hro hn l Bm b clock es J Jx hY W hJ (Ext.cell hW hBm) (Ext.heap hW hM) hB h0

end Go.Proofs.YtehljfnoicppnaaDoor
