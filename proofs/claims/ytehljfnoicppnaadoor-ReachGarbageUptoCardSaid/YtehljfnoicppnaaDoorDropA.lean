/- Drop from a heap, the program's and the reference's, each by its contract. Conditions: the heap is one that was made so; the reference's has at most 2^31 values. -/
import Derived.Test.YtehljfnoicppnaaDoorRefH
import Derived.Test.YtehljfnoicppnaaDoorRefI
import Derived.Test.YtehljfnoicppnaaDoorBothA
open Go Go.RowKit
set_option linter.unusedVariables false
namespace Go.Proofs.YtehljfnoicppnaaDoor

/-- Without the names of a row. -/
def dropL (L : List Bd) (ns : List Nm) : List Bd := L.filter fun b => !hasNm ns b.v
def eraseM (k : Nm) (es : List MEnt) : List MEnt := match findM k es 0 with | some (i, _) => es.eraseIdx i | none => es
theorem findM_ge {k : Nm} : ∀ {es : List MEnt} {i j : Nat} {v : Value}, findM k es i = some (j, v) → i ≤ j
  | [], i, j, v, h => by simp [findM] at h
  | e :: es, i, j, v, h => by
    simp only [findM] at h
    split at h
    · simp at h; omega
    · have := findM_ge h
      omega
theorem filter_not_mem {k : Nm} : ∀ {es : List MEnt}, k ∉ es.map (·.1) → es.filter (fun e => decide (e.1 ≠ k)) = es
  | [], _ => rfl
  | e :: es, h => by
    simp only [List.map_cons, List.mem_cons, not_or] at h
    rw [List.filter_cons_of_pos (by simp; exact fun he => h.1 he.symm), filter_not_mem h.2]
theorem erase_filter {k : Nm} : ∀ {es : List MEnt} {i : Nat}, (es.map (·.1)).Nodup → (match findM k es i with | some (j, _) => es.eraseIdx (j - i) | none => es) = es.filter fun e => decide (e.1 ≠ k)
  | [], i, _ => rfl
  | e :: es, i, h => by
    rw [List.map_cons, List.nodup_cons] at h
    simp only [findM]
    by_cases hk : k = e.1
    · subst hk
      rw [if_pos rfl]
      simp only [Nat.sub_self, List.eraseIdx_cons_zero]
      rw [List.filter_cons_of_neg (by simp), filter_not_mem h.1]
    · rw [if_neg hk, List.filter_cons_of_pos (by simp; exact fun he => hk he.symm), ← erase_filter (i := i + 1) h.2]
      cases hf : findM k es (i + 1) with
      | none => rfl
      | some p =>
        obtain ⟨j, v⟩ := p
        have := findM_ge hf
        simp only
        rw [show j - i = (j - (i + 1)) + 1 by omega, List.eraseIdx_cons_succ]
theorem eraseM_eq {k : Nm} {es : List MEnt} (h : (es.map (·.1)).Nodup) : eraseM k es = es.filter fun e => decide (e.1 ≠ k) := by
  have := erase_filter (k := k) (i := 0) h
  unfold eraseM
  rw [← this]
  cases findM k es 0 with
  | none => rfl
  | some p => rfl
theorem map_filter_fst {k : Nm} : ∀ es : List MEnt, (es.filter fun e => decide (e.1 ≠ k)).map (·.1) = (es.map (·.1)).filter fun x => decide (x ≠ k)
  | [] => rfl
  | e :: es => by
    by_cases h : e.1 = k
    · rw [List.filter_cons_of_neg (by simp [h]), List.map_cons, List.filter_cons_of_neg (by simp [h]), map_filter_fst es]
    · rw [List.filter_cons_of_pos (by simp [h]), List.map_cons, List.map_cons, List.filter_cons_of_pos (by simp [h]), map_filter_fst es]
theorem map_filter_v {k : Nm} : ∀ L : List Bd, (L.filter fun b => decide (b.v ≠ k)).map (·.v) = (L.map (·.v)).filter fun x => decide (x ≠ k)
  | [] => rfl
  | e :: es => by
    by_cases h : e.v = k
    · rw [List.filter_cons_of_neg (by simp [h]), List.map_cons, List.filter_cons_of_neg (by simp [h]), map_filter_v es]
    · rw [List.filter_cons_of_pos (by simp [h]), List.map_cons, List.map_cons, List.filter_cons_of_pos (by simp [h]), map_filter_v es]
theorem okL_filter {L : List Bd} (h : OkL L) (p : Bd → Bool) : OkL (L.filter p) := ⟨h.1.filter p, fun b hb => h.2 b (List.mem_filter.1 hb).1⟩
theorem births_filter {es : List MEnt} {ck : Nat} (h : Births es ck) (p : MEnt → Bool) : Births (es.filter p) ck :=
  ⟨fun e he => h.1 e (List.mem_filter.1 he).1, List.Nodup.sublist (List.Sublist.map _ List.filter_sublist) h.2⟩
theorem fits_filter {w : World} {ok : Ok} {es : List MEnt} {L : List Bd} (h : Fits w ok es L) (k : Nm) : Fits w ok (es.filter fun e => decide (e.1 ≠ k)) (L.filter fun b => decide (b.v ≠ k)) := by
  refine ⟨?_, fun e he => ?_⟩
  · rw [map_filter_fst, map_filter_v]
    exact h.1.filter _
  · obtain ⟨h1, h2⟩ := List.mem_filter.1 he
    obtain ⟨t, h3, h4⟩ := h.2 e h1
    exact ⟨t, List.mem_filter.2 ⟨h3, h2⟩, h4⟩
/-- What a delete leaves of a heap. -/
theorem delete_heap {w w5 : World} {ok : Ok} {p r ck : Nat} {L : List Bd} {es : List MEnt} (k : Nm) (hp : w.heap[p]? = some (.cells #[.map (some r)] 89 (0, 0))) (hm : MapAt w r es ck) (hf : Fits w ok es L) (hb : Births es ck) (ho : OkL L)
    (h5 : w5 = ({ w with heap := w.heap.setIfInBounds r (.map ((eraseM k es).map ment).toArray ck) } : World)) : HeapAt w5 ok p r (L.filter fun b => decide (b.v ≠ k)) ∧ ExtBut r w w5 := by
  have hB : ExtBut r w w5 := by rw [h5]; exact ExtBut.put r w _
  have hrl : r < w.heap.size := (Array.getElem?_eq_some_iff.1 hm).1
  have hpl : p < w.heap.size := (Array.getElem?_eq_some_iff.1 hp).1
  have hpr : p ≠ r := fun e => by rw [e] at hp; unfold MapAt at hm; rw [hm] at hp; cases hp
  have hn : (es.map (·.1)).Nodup := hf.1.symm.nodup ho.1.nodup
  refine ⟨⟨(hB.block p hpl hpr).trans hp, ⟨eraseM k es, ck, ?_, ?_, ?_⟩, okL_filter ho _⟩, hB⟩
  · unfold MapAt
    rw [h5]
    simp [hrl]
  · rw [eraseM_eq hn]
    exact (fits_filter hf k).imp fun u x hu => hu.offmap hm fun i hi hir => hB.block i hi hir
  · rw [eraseM_eq hn]
    exact births_filter hb _
theorem dropL_step {L : List Bd} {ns : List Nm} {i : Nat} {k : Nm} (hx : ns[i]? = some k) : dropL L (ns.take (i + 1)) = (dropL L (ns.take i)).filter fun b => decide (b.v ≠ k) := by
  unfold dropL
  rw [List.take_add_one, hx, List.filter_filter]
  congr 1
  funext b
  simp only [hasNm, Option.toList, List.mem_append, List.mem_singleton]
  by_cases h1 : b.v ∈ ns.take i <;> by_cases h2 : b.v = k <;> simp [h1, h2]
theorem dropL_zero (L : List Bd) : dropL L [] = L := by
  unfold dropL
  simp [hasNm]

set_option maxRecDepth 100000 in
set_option maxHeartbeats 1000000 in
theorem drop_calls (p r : Nat) (L : List Bd) (ok okN : Ok) (lv : Value) (ns : List Nm) (w : World) (h : HeapAt w ok p r L) (hn : Sl NM w okN lv ns) :
    Calls Tryd.prog 28 #[.pointer (some ⟨p, 0, none⟩), lv] w fun e w' => e = .returned (.tuple #[]) ∧ ExtBut r w w' ∧ HeapAt w' ok p r (dropL L ns) := by
  obtain ⟨es0, n0, hm0⟩ := h.map
  have hpl := h.p_lt
  have HH := Lib.hid h
  have HNS := Lib.hid hn
  have HM0 := Lib.hid hm0
  obtain ⟨A, c, rfl, _, hr⟩ := hn
  have hm := hr.1
  unfold maxLen at hm
  clear hr h hm0
  go_enter Tryd.func28, Tryd.ntmps28
  go_wp2
  go_loopg [8] ns.length (fun g s wr => ∃ i : Nat, i ≤ ns.length ∧ ns.length - i ≤ g ∧ s = .int .i64 i ∧ Hid (ExtBut r w wr ∧ HeapAt wr ok p r (dropL L (ns.take i))))
  case atStart => exact ⟨0, Nat.zero_le _, Nat.le_refl _, rfl, Lib.hid ⟨ExtBut.refl _ _, by rw [List.take_zero, dropL_zero]; exact HH.out⟩⟩
  case round =>
    obtain ⟨i, hi, hg, rfl, HW⟩ := hrel
    by_cases hlt : i < ns.length
    · obtain ⟨⟨a, b⟩, hx⟩ : ∃ x, ns[i]? = some x := ⟨_, List.getElem?_eq_getElem hlt⟩
      have hN := HNS.out.offmap HM0.out HW.out.1.block
      obtain ⟨A', c', hA', _, hrd⟩ := hN
      injection hA' with hA1 _ hA3
      subst hA1 hA3
      obtain ⟨gb, go, rfl, _, _⟩ := hrd.some_ (by omega)
      obtain ⟨_, _, hc0, hc1⟩ := hrd.nm_at hx
      have HST := Lib.hid (dropL_step (L := L) hx)
      obtain ⟨h1, ⟨es, ck, h2, h3, hb⟩, h4⟩ := HW.out.2
      have hp : wr.cell? ⟨p, 0, none⟩ = some (.map (some r)) := cell_of_row wr p 0 _ _ _ h1
      have hpr := HW.out.2.p_lt
      have hrr := HW.out.2.r_lt
      obtain ⟨W, hW⟩ : ∃ W, W = (wr.alloc (.cells #[.int .i64 a, .int .i64 b] 31)).drew := ⟨_, rfl⟩
      have hEW : Ext wr W := by rw [hW]; exact ((Ext.refl _).alloc _).drew
      have hmW : MapAt W r es ck := hEW.heap h2
      obtain ⟨w5, hw5⟩ : ∃ w5, w5 = ({ W with heap := W.heap.setIfInBounds r (.map ((eraseM ⟨a, b⟩ es).map ment).toArray ck) } : World) := ⟨_, rfl⟩
      have hdel := fun ty => delete_run (w := W) 87 24 ty Tryd.underlying87 ⟨a, b⟩ hmW
      have hdel : ∀ ty, (Builtin.delete_ #[87, 31] ty #[.map (some r), .agg #[.int .i64 a, .int .i64 b]]).run Tryd.prog W = .ok (.tuple #[]) w5 := fun ty => by rw [hw5]; exact hdel ty
      have HF := Lib.hid (delete_heap ⟨a, b⟩ (hEW.heap h1) hmW (h3.imp fun _ _ hs => hs.ext hEW) hb h4 hw5)
      have HB := Lib.hid (HW.out.1.trans (hEW.but r))
      rename_i hdel'
      rw [hW] at hdel
      clear hdel' hW hEW hmW hw5 h1 h2 h3 hb h4 hrd hx
      go_wp2
      go_region_with (fail)
      all_goals
        go_wp2
        go_roundg (ns.length - (i + 1))
        case measure => omega
        case rel =>
          refine ⟨i + 1, by omega, Nat.le_refl _, by go_num, Lib.hid ⟨HB.out.trans HF.out.2, ?_⟩⟩
          rw [HST.out]
          exact HF.out.1
    · obtain rfl : i = ns.length := by omega
      go_wp2
      go_end0
      have h := HW.out
      rw [List.take_length] at h
      exact ⟨rfl, h.1, h.2⟩

theorem dropL_filter_step {L : List Bd} {ns : List Nm} {i : Nat} {b : Bd} (hx : L[i]? = some b) : dropL (L.take (i + 1)) ns = if hasNm ns b.v then dropL (L.take i) ns else dropL (L.take i) ns ++ [b] := by
  unfold dropL
  rw [List.take_add_one, hx, List.filter_append]
  cases h : hasNm ns b.v <;> simp [h]
theorem dropL_len (L : List Bd) (ns : List Nm) : (dropL L ns).length ≤ L.length := List.length_filter_le _ _

theorem drop_apart {w : World} {ok : Ok} {q : Nat} {v : Value} {nr n1 N : Nat} (hb : ∀ k, v.ownBlock = some k → w.heap.size ≤ k) (hl : ∀ k, v.ownBlock = some k → k < nr) (h1 : w.heap.size ≤ n1) (h2 : nr ≤ n1) :
    ∀ k, (((ok k ∧ k ≠ q) ∧ k < w.heap.size) ∨ k = n1) → k < N → okN w ok q k ∧ v.ownBlock ≠ some k := by
  rintro k (hk | hk) _
  · exact ⟨.inl ⟨hk.1.1, hk.1.2, hk.2⟩, fun he => by have := hb k he; omega⟩
  · exact ⟨.inr (by omega), fun he => by have := hl k he; omega⟩

set_option maxRecDepth 100000 in
set_option maxHeartbeats 4000000 in
theorem refDrop_calls (q : Nat) (L : List Bd) (ok okM : Ok) (lv : Value) (ns : List Nm) (w : World) (h : RefAt w ok q L) (hn : Sl NM w okM lv ns) (hL : L.length ≤ 2147483647) :
    Calls Tryd.prog 29 #[.pointer (some ⟨q, 0, none⟩), lv] w fun e w' => e = .returned (.tuple #[]) ∧ ExtBut q w w' ∧ RefAt w' (fun k => ok k ∨ w.heap.size ≤ k) q (dropL L ns) := by
  have hql := h.q_lt
  obtain ⟨v, h1, h2⟩ := h
  have hq : w.cell? ⟨q, 0, none⟩ = some v := cell_of_row w q 0 _ _ _ h1
  have HQ := Lib.hid hq
  have H1 := Lib.hid h1
  have HNS := Lib.hid hn
  obtain ⟨A, c, rfl, _, hr⟩ := h2
  have hm := hr.1
  unfold maxLen at hm
  have HD := Lib.hid hr.lt
  obtain ⟨nA, nc, rfl, _, _⟩ := hn
  clear hr h1 hq
  go_enter Tryd.func29, Tryd.ntmps29
  go_wp2_with fail
  go_loopg [4, 5] L.length (fun g s4 s5 wr => ∃ i : Nat, i ≤ L.length ∧ L.length - i ≤ g ∧ s5 = .int .i64 i ∧ Hid (Own BD 33 w.heap.size wr (okN w ok q) s4 (dropL (L.take i) ns)) ∧ Hid (Ext w wr))
  case atStart => exact ⟨0, Nat.zero_le _, Nat.le_refl _, rfl, Lib.hid (Own.nil _ _ _ _ _), Lib.hid (Ext.refl _)⟩
  case round =>
    obtain ⟨i, hi, hg, rfl, HOw, HE⟩ := hrel
    have hq := HE.out.cell HQ.out
    obtain ⟨oA, oc, rfl, _, _⟩ := HOw.out.sl
    obtain ⟨D, hD⟩ : ∃ D, D = dropL (L.take i) ns := ⟨_, rfl⟩
    have hDl : D.length ≤ 2147483647 := by
      have := dropL_len (L.take i) ns
      rw [List.length_take] at this
      rw [hD]
      omega
    rw [← hD] at HOw ⊢
    have HDD := Lib.hid hD
    clear hD
    by_cases hlt : i < L.length
    · obtain ⟨⟨⟨x0, x1⟩, xt⟩, hx⟩ : ∃ x, L[i]? = some x := ⟨_, List.getElem?_eq_getElem hlt⟩
      obtain ⟨lb, lo, rfl, _, _⟩ := HD.out.some_ (by omega)
      obtain ⟨_, _, hxo, hc0, hc1, u, hc2, hu⟩ := HD.out.bd_at hx
      have HCE : Hid (∀ w6, Ext w w6 → w6.cell? ⟨q, 0, none⟩ = some (.slice (some ⟨lb, lo, none⟩) L.length c) ∧ w6.cell? ⟨lb, lo + i * 3, none⟩ = some (.int .i64 x0) ∧ w6.cell? ⟨lb, lo + i * 3 + 1, none⟩ = some (.int .i64 x1) ∧ w6.cell? ⟨lb, lo + i * 3 + 2, none⟩ = some u) := Lib.hid fun w6 hE => ⟨hE.cell HQ.out, hE.cell hc0, hE.cell hc1, hE.cell hc2⟩
      have HU := Lib.hid hu
      obtain ⟨uA, uc, rfl, _, _⟩ := hu
      have HXO := Lib.hid hxo
      have HST := Lib.hid (dropL_filter_step (ns := ns) hx)
      clear hx hxo hc0 hc1 hc2 hq
      obtain ⟨hq, hc0, hc1, hc2⟩ := HCE.out _ HE.out
      cases hh : hasNm ns ⟨x0, x1⟩
      · have HS2 : Hid (dropL (L.take (i + 1)) ns = D ++ [⟨⟨x0, x1⟩, xt⟩]) := Lib.hid (by rw [HST.out, hh, HDD.out]; rfl)
        have HC := Lib.hid (fun w1 (hE : Ext w w1) => (hasName_calls _ ns _ x0 x1 w1 (HNS.out.ext hE)).mono (fun e w' h => (⟨by rw [h.1, hh], h.2⟩ : e = .returned (.bool false) ∧ Ext w1 w')))
        clear hh
        go_wp2_with (first | (go_at_call 37; refine (HC.out _ HE.out).mono ?_; rintro e w1 ⟨rfl, hw⟩; clear hq hc0 hc1 hc2; obtain ⟨hq, hc0, hc1, hc2⟩ := HCE.out _ (HE.out.trans hw); have HW := Lib.hid hw; clear hw) | (at_builtin; go_loud (refine wpList_append_mine (d := BD) (okS := fun k => ((ok k ∧ k ≠ q) ∧ k < w.heap.size) ∨ k = w1.heap.size) (ok2 := okN w ok q) rfl (.tmp 28) (.tmp 36) 22 33 zBdR 40 w.heap.size rfl Tryd.underlying22 info_bd rfl (HOw.out.ext (HW.out.alloc _)) (bd_box HXO.out (HU.out.ext (HE.out.trans HW.out))) rfl rfl (fun _ h => h) ?c2 (.inr ?c5) ?c3 (by decide) ?c4 ?_); (case c2 => intro k hk; have := (HE.out.trans HW.out).le; simp at hk; exact .inr (by omega)); (case c5 => exact drop_apart HOw.out.base_le HOw.out.blk_lt (HE.out.trans HW.out).le HW.out.le); (case c3 => simp; omega); (case c4 => have := (HE.out.trans HW.out).le; simp; omega); intro v5 w5 hown hg hat; have HE5 : Hid (Ext w w5) := Lib.hid (((HE.out.trans HW.out).alloc _).grown hg HOw.out.base_le); have HOwn := Lib.hid hown; clear hown hg hat))
        go_roundg (L.length - (i + 1))
        case measure => omega
        case rel =>
          refine ⟨i + 1, by omega, Nat.le_refl _, by go_num, ?_, HE5⟩
          rw [HS2.out]
          exact HOwn
      · have HS2 : Hid (dropL (L.take (i + 1)) ns = D) := Lib.hid (by rw [HST.out, hh, HDD.out]; rfl)
        have HC := Lib.hid (fun w1 (hE : Ext w w1) => (hasName_calls _ ns _ x0 x1 w1 (HNS.out.ext hE)).mono (fun e w' h => (⟨by rw [h.1, hh], h.2⟩ : e = .returned (.bool true) ∧ Ext w1 w')))
        clear hh
        go_wp2_with (go_at_call 37; refine (HC.out _ HE.out).mono ?_; rintro e w1 ⟨rfl, hw⟩; have HW := Lib.hid hw; clear hw)
        go_roundg (L.length - (i + 1))
        case measure => omega
        case rel =>
          refine ⟨i + 1, by omega, Nat.le_refl _, by go_num, ?_, Lib.hid (HE.out.trans HW.out)⟩
          rw [HS2.out]
          exact Lib.hid (HOw.out.ext HW.out)
    · obtain rfl : i = L.length := by omega
      have hfz := frozen_of_row (HE.out.heap H1.out)
      go_wp2_with fail
      go_end0
      have hD := HDD.out
      rw [List.take_length] at hD
      have hother : ∀ k, k ≠ q → (wr.setCell ⟨q, 0, none⟩ (.slice oA D.length oc)).heap[k]? = wr.heap[k]? := fun k hk => Below.heap_setCell wr ⟨q, 0, none⟩ _ k hk
      refine ⟨rfl, (HE.out.but q).trans ⟨rfl, rfl, rfl, by simp, fun k _ hk => hother k hk⟩, ?_⟩
      refine ⟨.slice oA D.length oc, ?_, ?_⟩
      · have h := HE.out.heap H1.out
        simp [World.setCell, Array.getElem?_modify, h]
      · rw [← hD]
        refine HOw.out.sl.move fun k hk hl => ?_
        have hkq : k ≠ q := by
          rcases hk with hk | hk
          · exact hk.2.1
          · omega
        exact ⟨⟨hk.elim (fun h => .inl h.1) .inr, hkq⟩, hother k hkq⟩

end Go.Proofs.YtehljfnoicppnaaDoor
