/- reach.Cyclic, and purlinmem.SameNames, each by its contract. Conditions: the heap is nil or one that the package made; at most 2^31 - 1 names can be come to. -/
import Derived.Test.YtehljfnoicppnaaDoorReachD
open Go Go.RowKit
set_option linter.unusedVariables false
namespace Go.Proofs.YtehljfnoicppnaaDoor

set_option maxRecDepth 100000 in
set_option maxHeartbeats 1000000 in
theorem cyclic_calls (v : Value) (L : List Bd) (ok : Ok) (a b : Int) (w : World) (h : HeapOr w ok v L) (hU : (univ L (nextV L ⟨a, b⟩)).length ≤ 2147483647) :
    Calls Tryd.prog 65 #[v, .agg #[.int .i64 a, .int .i64 b]] w fun e w' => e = .returned (.bool (hasNm (keysW (walkS L (nextV L ⟨a, b⟩))) ⟨a, b⟩)) ∧ Ext w w' := by
  have HH := Lib.hid h
  clear h
  go_enter Tryd.func65, Tryd.ntmps65
  go_wp2_with fail
  refine (reachNext_calls v L ok a b _ (HH.out.ext (by repeat (first | with_reducible exact Ext.refl _ | assumption | refine Ext.alloc ?_ _ | refine Ext.drewN ?_ _ | refine Ext.drew ?_ | refine Ext.set ?_ (by simp <;> omega) _ _ | refine Ext.trans ?_ (by assumption))))).mono ?_
  rintro e w1 ⟨⟨nv, rfl, hn⟩, hw⟩
  obtain ⟨hb0, hb1⟩ := cell_box2 hw
  have HN := Lib.hid hn.sl
  have HE1 : Hid (Ext w w1) := Lib.hid (Ext.trans ((Ext.refl _).alloc _) hw)
  clear hn hw
  go_wp2_with fail
  refine (walk_calls v L ok _ nv _ w1 (HH.out.ext HE1.out) HN.out hU).mono ?_
  rintro e w2 ⟨lv, r, rfl, _, hown, _, hE2⟩
  have hb02 := hE2.cell hb0
  have hb12 := hE2.cell hb1
  have HO := Lib.hid hown.sl
  have HE2 := Lib.hid hE2
  clear hown hE2 hb0 hb1
  go_wp2_with fail
  refine (containsNm_calls lv _ _ a b w2 HO.out).mono ?_
  rintro e w3 ⟨rfl, hE3⟩
  have HE3 := Lib.hid hE3
  clear hE3
  go_wp2
  go_ret
  exact ⟨rfl, (HE1.out.trans HE2.out).trans HE3.out⟩

def nmsEq (a b : List Nm) : Bool := decide (a = b)
set_option maxRecDepth 100000 in
set_option maxHeartbeats 1000000 in
theorem sameNames_calls (v1 v2 : Value) (l m : List Nm) (ok1 ok2 : Ok) (w : World) (h1 : Sl NM w ok1 v1 l) (h2 : Sl NM w ok2 v2 m) :
    Calls Tryd.prog 34 #[v1, v2] w fun e w' => e = .returned (.bool (nmsEq l m)) ∧ Ext w w' := by
  obtain ⟨A1, c1, rfl, _, hr1⟩ := h1
  obtain ⟨A2, c2, rfl, _, hr2⟩ := h2
  have hm := hr1.1
  unfold maxLen at hm
  have HR1 := Lib.hid hr1
  have HR2 := Lib.hid hr2
  clear hr1 hr2
  obtain ⟨z, hz⟩ : ∃ z, z = nmsEq l m := ⟨_, rfl⟩
  rw [← hz]
  have HZ := Lib.hid hz
  clear hz
  by_cases hl : l.length = m.length
  · have g : ((l.length : Int) != (m.length : Int)) = false := by simp [hl]
    have HL := Lib.hid hl
    go_enter Tryd.func34, Tryd.ntmps34
    go_wp2
    clear g hl
    go_loopw [5] (fun s wr => ∃ i : Nat, i ≤ l.length ∧ s = .int .i64 i ∧ Hid (l.take i = m.take i) ∧ Hid (Ext w wr)) (fun s _ => l.length - (intOf s).toNat)
    case atStart => exact ⟨0, Nat.zero_le _, rfl, Lib.hid rfl, Lib.hid (Ext.refl _)⟩
    case round =>
      obtain ⟨i, hi, rfl, HTK, HE⟩ := hrel
      by_cases hlt : i < l.length
      · obtain ⟨⟨x0, x1⟩, hx⟩ : ∃ x, l[i]? = some x := ⟨_, List.getElem?_eq_getElem hlt⟩
        obtain ⟨⟨y0, y1⟩, hy⟩ : ∃ y, m[i]? = some y := ⟨_, List.getElem?_eq_getElem (by rw [← HL.out]; exact hlt)⟩
        obtain ⟨b1, o1, rfl, _, _⟩ := HR1.out.some_ (by omega)
        obtain ⟨b2, o2, rfl, _, _⟩ := HR2.out.some_ (by have := HL.out; omega)
        obtain ⟨_, _, hc0, hc1⟩ := (HR1.out.ext HE.out).nm_at hx
        obtain ⟨_, _, hd0, hd1⟩ := (HR2.out.ext HE.out).nm_at hy
        have hlt2 : i < m.length := by rw [← HL.out]; exact hlt
        have HX := Lib.hid hx
        have HY := Lib.hid hy
        have HLT := Lib.hid hlt
        clear hx hy
        by_cases he : x0 = y0 ∧ x1 = y1
        · have heq := fun d w => run_eq_nm d w x0 x1 y0 y1
          have hbt : (x0 == y0 && x1 == y1) = true := by simpa using he
          have heq' := fun d w => (heq d w).trans (by rw [hbt])
          have HTN := Lib.hid (take_eq_more HTK.out HX.out HY.out (by rw [he.1, he.2]))
          clear heq hbt he
          go_wp2
          go_quiet (fail)
          go_wp2
          exact ⟨⟨i + 1, by omega, by go_num, HTN, Lib.hid (HE.out.drewN _)⟩, by simp [intOf]; omega⟩
        · have heq := fun d w => run_eq_nm d w x0 x1 y0 y1
          have hbt : (x0 == y0 && x1 == y1) = false := by rw [Bool.eq_false_iff]; simpa using he
          have heq' := fun d w => (heq d w).trans (by rw [hbt])
          have hne : z = false := by
            rw [HZ.out]
            refine decide_eq_false fun h => he ?_
            have h1 := HX.out
            rw [h, HY.out] at h1
            injection h1 with h1
            injection h1 with h4 h5
            exact ⟨h4.symm, h5.symm⟩
          have HF := Lib.hid hne
          clear heq hbt he hne
          go_wp2
          go_quiet (fail)
          go_wp2
          go_ret
          exact ⟨ret_bool HF.out.symm, HE.out.drewN _⟩
      · obtain rfl : i = l.length := by omega
        have hyes : z = true := by
          have h1 := HTK.out
          rw [List.take_length, HL.out, List.take_length] at h1
          rw [HZ.out]
          exact decide_eq_true h1
        have HY := Lib.hid hyes
        clear hyes
        go_wp2
        go_ret
        exact ⟨ret_bool HY.out.symm, HE.out⟩
  · have g : ((l.length : Int) != (m.length : Int)) = true := by simp; omega
    have hno : z = false := by rw [HZ.out]; exact decide_eq_false fun h => hl (by rw [h])
    have HN := Lib.hid hno
    clear hno hl
    go_enter Tryd.func34, Tryd.ntmps34
    go_wp2
    go_ret
    exact ⟨ret_bool HN.out.symm, Ext.refl _⟩

end Go.Proofs.YtehljfnoicppnaaDoor
