/- The program's variables of terms, slices.Contains over names, and reach.next, each by its contract. Conditions: the terms have at most 2^31 cells together. -/
import Derived.Test.YtehljfnoicppnaaDoorRefH
import Derived.Test.YtehljfnoicppnaaDoorHeapB
open Go Go.RowKit
set_option linter.unusedVariables false
namespace Go.Proofs.YtehljfnoicppnaaDoor

set_option maxRecDepth 100000 in
set_option maxHeartbeats 1000000 in
theorem indexNm_calls (lv : Value) (ns : List Nm) (ok : Ok) (a b : Int) (w : World) (h : Sl NM w ok lv ns) :
    Calls Tryd.prog 114 #[lv, .agg #[.int .i64 a, .int .i64 b]] w fun e w' => (∃ r : Int, e = .returned (.int .i64 r) ∧ (0 ≤ r ↔ hasNm ns ⟨a, b⟩ = true)) ∧ Ext w w' := by
  obtain ⟨A, c, rfl, _, hr⟩ := h
  have hm := hr.1
  unfold maxLen at hm
  have HD := Lib.hid hr
  clear hr
  go_enter Tryd.func114, Tryd.ntmps114
  go_wp2
  have hE0 : Ext w (w.alloc (.cells #[.int .i64 a, .int .i64 b] 31)) := (Ext.refl _).alloc _
  have hb0 := cell_of_row _ _ 0 _ _ _ (heap_alloc_new w (.cells #[.int .i64 a, .int .i64 b] 31))
  have hb1 := cell_of_row _ _ 1 _ _ _ (heap_alloc_new w (.cells #[.int .i64 a, .int .i64 b] 31))
  generalize w.alloc (.cells #[.int .i64 a, .int .i64 b] 31) = W at hE0 hb0 hb1 ⊢
  have HB0 := Lib.hid hb0
  have HB1 := Lib.hid hb1
  have HE0 := Lib.hid hE0
  clear hb0 hb1 hE0
  go_loopw [5, 8] (fun _ s wr => ∃ i : Nat, i ≤ ns.length ∧ s = .int .i64 i ∧ Hid (∀ x ∈ ns.take i, x ≠ ⟨a, b⟩) ∧ Hid (Ext W wr)) (fun _ s _ => ns.length - (intOf s).toNat)
  case atStart => exact ⟨0, Nat.zero_le _, rfl, Lib.hid (by simp), Lib.hid (Ext.refl _)⟩
  case round =>
    obtain ⟨i, hi, rfl, HN, HE⟩ := hrel
    by_cases hlt : i < ns.length
    · obtain ⟨⟨x0, x1⟩, hx⟩ : ∃ x, ns[i]? = some x := ⟨_, List.getElem?_eq_getElem hlt⟩
      obtain ⟨gb, go, rfl, _, _⟩ := HD.out.some_ (by omega)
      obtain ⟨_, _, hc0, hc1⟩ := (HD.out.ext (HE0.out.trans HE.out)).nm_at hx
      have hb0 := HE.out.cell HB0.out
      have hb1 := HE.out.cell HB1.out
      have HX := Lib.hid hx
      clear hx
      by_cases he : a = x0 ∧ b = x1
      · have heq := fun d w => run_eq_nm d w a b x0 x1
        have hbt : (a == x0 && b == x1) = true := by simpa using he
        have heq' := fun d w => (heq d w).trans (by rw [hbt])
        have HM : Hid (hasNm ns ⟨a, b⟩ = true) := Lib.hid (by rw [he.1, he.2]; exact decide_eq_true (List.mem_of_getElem? HX.out))
        clear heq hbt he
        go_wp2
        go_quiet (fail)
        go_wp2
        go_ret
        exact ⟨⟨i, rfl, by have := HM.out; simp [this]⟩, (HE0.out.trans HE.out).drewN _⟩
      · have heq := fun d w => run_eq_nm d w a b x0 x1
        have hbt : (a == x0 && b == x1) = false := by rw [Bool.eq_false_iff]; simpa using he
        have heq' := fun d w => (heq d w).trans (by rw [hbt])
        have HM : ∀ x ∈ ns.take (i + 1), x ≠ ⟨a, b⟩ := by
          intro c hc
          rw [List.take_add_one, HX.out] at hc
          rcases List.mem_append.1 hc with hc | hc
          · exact HN.out c hc
          · simp at hc; subst hc
            intro h
            injection h with h1 h2
            exact he ⟨h1.symm, h2.symm⟩
        have HM := Lib.hid HM
        rename_i HM'
        clear HM' heq hbt he
        go_wp2
        go_quiet (fail)
        go_wp2
        exact ⟨⟨i + 1, by omega, by go_num, HM, Lib.hid (HE.out.drewN _)⟩, by simp [intOf]; omega⟩
    · obtain rfl : i = ns.length := by omega
      go_wp2
      go_ret
      have hn := HN.out
      rw [List.take_length] at hn
      exact ⟨⟨-1, rfl, by rw [has_end hn]; simp⟩, HE0.out.trans HE.out⟩

set_option maxRecDepth 100000 in
set_option maxHeartbeats 1000000 in
theorem containsNm_calls (lv : Value) (ns : List Nm) (ok : Ok) (a b : Int) (w : World) (h : Sl NM w ok lv ns) :
    Calls Tryd.prog 90 #[lv, .agg #[.int .i64 a, .int .i64 b]] w fun e w' => e = .returned (.bool (hasNm ns ⟨a, b⟩)) ∧ Ext w w' := by
  have HC := Lib.hid (fun w1 (hE : Ext w w1) => indexNm_calls lv ns ok a b w1 (h.ext hE))
  clear h
  go_enter Tryd.func90, Tryd.ntmps90
  go_wp2_with fail
  refine (HC.out _ (by repeat (first | with_reducible exact Ext.refl _ | assumption | refine Ext.alloc ?_ _ | refine Ext.drewN ?_ _ | refine Ext.drew ?_ | refine Ext.set ?_ (by simp <;> omega) _ _ | refine Ext.trans ?_ (by assumption)))).mono ?_
  rintro e w1 ⟨⟨r, rfl, hr⟩, hw⟩
  have HR := Lib.hid hr
  have HW := Lib.hid hw
  clear hr hw
  go_wp2
  go_ret
  exact ⟨ret_bool (by rw [Bool.eq_iff_iff, ← HR.out, decide_eq_true_iff]), (by repeat (first | with_reducible exact Ext.refl _ | assumption | refine Ext.alloc ?_ _ | refine Ext.drewN ?_ _ | refine Ext.drew ?_ | refine Ext.set ?_ (by simp <;> omega) _ _ | refine Ext.trans ?_ (by assumption)))⟩

set_option maxRecDepth 100000 in
set_option maxHeartbeats 4000000 in
theorem termVars_calls (lv : Value) (l : List (List Cl)) (ok : Ok) (w : World) (h : Sl TM w ok lv l) (hl : sumLen l ≤ 2147483648) :
    Calls Tryd.prog 113 #[lv] w fun e w' => (∃ v', e = .returned v' ∧ Own NM 31 w.heap.size w' (fun k => w.heap.size ≤ k) v' (varsL [] l)) ∧ Ext w w' := by
  obtain ⟨A, c, rfl, _, hr⟩ := h
  have hm := hr.1
  unfold maxLen at hm
  have HD := Lib.hid hr
  clear hr
  go_enter Tryd.func113, Tryd.ntmps113
  go_wp2
  go_loopg [3, 10] l.length (fun g s3 s4 wr => ∃ i : Nat, i ≤ l.length ∧ l.length - i ≤ g ∧ s4 = .int .i64 i ∧ Hid (Own NM 31 w.heap.size wr (fun k => w.heap.size ≤ k) s3 (varsL [] (l.take i))) ∧ Hid (Ext w wr))
  case atStart => exact ⟨0, Nat.zero_le _, Nat.le_refl _, rfl, Lib.hid (Own.nil _ _ _ _ _), Lib.hid (Ext.refl _)⟩
  case round =>
    obtain ⟨i, hi, hg, rfl, HO, HE⟩ := hrel
    by_cases hlt : i < l.length
    · obtain ⟨t, hx⟩ : ∃ x, l[i]? = some x := ⟨_, List.getElem?_eq_getElem hlt⟩
      obtain ⟨lb, lo, rfl, _, _⟩ := HD.out.some_ (by omega)
      obtain ⟨_, u, hu, hut⟩ := TM.at_ HD.out hx
      obtain ⟨tA, tc, rfl, htc, htr⟩ := hut
      have htl := htr.1
      unfold maxLen at htl
      have HU := Lib.hid hu
      have HT := Lib.hid htr
      have HX := Lib.hid hx
      clear hu htr hx
      have hu := HE.out.cell HU.out
      go_wp2
      obtain ⟨wo, rfl⟩ : ∃ wo : World, wo = wr := ⟨_, rfl⟩
      have HWO := Lib.hid HE.out
      have HO0 := HO
      clear HO HE hu
      go_loopg [3, 16] t.length (fun g2 s3 s5 wr => ∃ k : Nat, k ≤ t.length ∧ t.length - k ≤ g2 ∧ s5 = .int .i64 k ∧ Hid (Own NM 31 w.heap.size wr (fun k => w.heap.size ≤ k) s3 (varsT (varsL [] (l.take i)) (t.take k))) ∧ Hid (Ext w wr))
      case atStart => exact ⟨0, Nat.zero_le _, Nat.le_refl _, rfl, HO0, HWO⟩
      case round =>
        obtain ⟨k, hk, hg2, rfl, HO, HE⟩ := hrel
        by_cases hlt2 : k < t.length
        · obtain ⟨⟨x0, x1, x2, ⟨x3, x4⟩⟩, hy⟩ : ∃ x, t[k]? = some x := ⟨_, List.getElem?_eq_getElem hlt2⟩
          obtain ⟨tb, tof, rfl, _, _⟩ := HT.out.some_ (by omega)
          obtain ⟨_, _, hxo, hc0, hc1, hc2, hc3, hc4⟩ := Sl.cl_at (n := 0) (c := 0) (HT.out.ext HE.out) hy
          have HY := Lib.hid hy
          have HXO := Lib.hid hxo
          clear hy hxo
          obtain ⟨acc, hacc⟩ : ∃ acc, acc = varsT (varsL [] (l.take i)) (t.take k) := ⟨_, rfl⟩
          rw [← hacc] at HO
          have hal : acc.length ≤ 2147483648 := by
            rw [hacc]
            have h1 := varsT_len (t.take k) (varsL [] (l.take i))
            have h2 := varsL_len (l.take i) []
            have h3 := sumLen_take l i HX.out
            have h4 : (t.take k).length ≤ t.length := by rw [List.length_take]; omega
            simp at h2
            omega
          have HAL := Lib.hid hal
          have hst : varsT (varsL [] (l.take i)) (t.take (k + 1)) = addV acc ⟨x0, x1, x2, ⟨x3, x4⟩⟩ := by rw [varsT_step HY.out, ← hacc]
          have HST := Lib.hid hst
          obtain ⟨nA, nc, rfl, _, _⟩ := HO.out.sl
          have HOS := Lib.hid HO.out.sl
          clear hacc hal hst
          obtain ⟨nn, hnn⟩ : ∃ nn, nn = acc.length := ⟨_, rfl⟩
          rw [← hnn] at HO HOS ⊢
          have HNN := Lib.hid hnn
          clear hnn
          by_cases h4 : x0 = 4
          · subst h4
            cases hh : hasNm acc ⟨x3, x4⟩
            · have HC := Lib.hid (fun w1 (hE : Ext wr w1) => (containsNm_calls _ acc _ x3 x4 w1 (HOS.out.ext hE)).mono (fun e w' h => (⟨by rw [h.1, hh], h.2⟩ : e = .returned (.bool false) ∧ Ext w1 w')))
              have HA : Hid (addV acc ⟨4, x1, x2, ⟨x3, x4⟩⟩ = acc ++ [⟨x3, x4⟩]) := Lib.hid (by unfold addV; rw [if_pos ⟨rfl, of_decide_eq_false hh⟩])
              clear hh
              go_wp2_with (first | (go_at_call 90; refine (HC.out _ (by repeat (first | with_reducible exact Ext.refl _ | assumption | refine Ext.alloc ?_ _ | refine Ext.drewN ?_ _ | refine Ext.drew ?_ | refine Ext.set ?_ (by simp <;> omega) _ _ | refine Ext.trans ?_ (by assumption)))).mono ?_; rintro e w1 ⟨rfl, hw⟩; obtain ⟨hcc, hff⟩ := bcell hw; have HW1 : Hid (Ext wr w1) := Lib.hid (Ext.trans ((Ext.refl _).alloc _) hw); clear hw) | (at_builtin; go_loud (refine wpList_append_mine (d := NM) (ok2 := fun k => w.heap.size ≤ k) rfl (.tmp 30) (.tmp 33) 49 31 zNm 16 w.heap.size rfl Tryd.underlying49 info_nm rfl (HO.out.ext (HW1.out.alloc _)) (nm_box HXO.out.2.2.2.2) rfl rfl (fun _ h => h) ?c2 (.inl fun _ _ _ _ _ _ h => h) ?c3 (by decide) ?c4 ?_); (case c2 => intro k hk; have := (HE.out.trans HW1.out).le; simp at hk; omega); (case c3 => have := HAL.out; simp; omega); (case c4 => have := (HE.out.trans HW1.out).le; simp; omega); intro v' w5 hown hg hat; have HOwn := Lib.hid hown; have HG5 : Hid (Ext w w5) := Lib.hid (((HE.out.trans HW1.out).alloc _).grown hg (fun k hk => HO.out.base_le k hk)); clear hown hg hat))
              go_roundg (t.length - (k + 1))
              case measure => omega
              case rel =>
                refine ⟨k + 1, by omega, Nat.le_refl _, by go_num, ?_, HG5⟩
                rw [HST.out, HA.out]
                exact HOwn
            · have HC := Lib.hid (fun w1 (hE : Ext wr w1) => (containsNm_calls _ acc _ x3 x4 w1 (HOS.out.ext hE)).mono (fun e w' h => (⟨by rw [h.1, hh], h.2⟩ : e = .returned (.bool true) ∧ Ext w1 w')))
              have HA : Hid (addV acc ⟨4, x1, x2, ⟨x3, x4⟩⟩ = acc) := Lib.hid (by unfold addV; rw [if_neg (fun h => h.2 (of_decide_eq_true hh))])
              clear hh
              go_wp2_with (go_at_call 90; refine (HC.out _ (by repeat (first | with_reducible exact Ext.refl _ | assumption | refine Ext.alloc ?_ _ | refine Ext.drewN ?_ _ | refine Ext.drew ?_ | refine Ext.set ?_ (by simp <;> omega) _ _ | refine Ext.trans ?_ (by assumption)))).mono ?_; rintro e w1 ⟨rfl, hw⟩; obtain ⟨hcc, hff⟩ := bcell hw; have HW1 : Hid (Ext wr w1) := Lib.hid (Ext.trans ((Ext.refl _).alloc _) hw); clear hw)
              go_roundg (t.length - (k + 1))
              case measure => omega
              case rel =>
                refine ⟨k + 1, by omega, Nat.le_refl _, by go_num, ?_, Lib.hid (HE.out.trans HW1.out)⟩
                rw [HST.out, HA.out]
                exact Lib.hid (HO.out.ext HW1.out)
          · have g4 : (x0 == 4) = false := beq_eq_false_iff_ne.2 h4
            have HA : Hid (addV acc ⟨x0, x1, x2, ⟨x3, x4⟩⟩ = acc) := Lib.hid (by unfold addV; rw [if_neg (fun h => h4 h.1)])
            clear h4
            go_wp2
            go_roundg (t.length - (k + 1))
            case measure => omega
            case rel =>
              refine ⟨k + 1, by omega, Nat.le_refl _, by go_num, ?_, Lib.hid (HE.out.alloc _)⟩
              rw [HST.out, HA.out]
              exact Lib.hid (HO.out.ext ((Ext.refl _).alloc _))
        · obtain rfl : k = t.length := by omega
          go_wp2
          go_roundg (l.length - (i + 1))
          case measure => omega
          case rel =>
            refine ⟨i + 1, by omega, Nat.le_refl _, by go_num, ?_, HE⟩
            rw [varsL_step HX.out]
            have := HO.out
            rw [List.take_length] at this
            exact Lib.hid this
    · obtain rfl : i = l.length := by omega
      go_wp2
      go_ret
      have := HO.out
      rw [List.take_length] at this
      exact ⟨⟨_, rfl, this⟩, HE.out⟩

/-- The variables to which a variable leads at once. -/
def nextV (L : List Bd) (v : Nm) : List Nm := varsT [] ((getL L v).getD [])
set_option maxRecDepth 100000 in
set_option maxHeartbeats 1000000 in
theorem reachNext_calls (v : Value) (L : List Bd) (ok : Ok) (a b : Int) (w : World) (h : HeapOr w ok v L) :
    Calls Tryd.prog 89 #[v, .agg #[.int .i64 a, .int .i64 b]] w fun e w' => (∃ v', e = .returned v' ∧ Own NM 31 w.heap.size w' (fun k => w.heap.size ≤ k) v' (nextV L ⟨a, b⟩)) ∧ Ext w w' := by
  have HV := Lib.hid (fun w1 (hE : Ext w w1) => Value_calls v L ok a b w1 (h.ext hE))
  have hl : ((getL L ⟨a, b⟩).getD []).length ≤ 256 := by
    cases hg : getL L ⟨a, b⟩ with
    | none => simp
    | some t => exact getL_small h.okL hg
  obtain ⟨X, hX⟩ : ∃ X, X = (getL L ⟨a, b⟩).getD [] := ⟨_, rfl⟩
  have HX := Lib.hid hX
  rw [← hX] at hl
  clear h hX
  go_enter Tryd.func89, Tryd.ntmps89
  go_wp2_with fail
  refine (HV.out _ (by repeat (first | with_reducible exact Ext.refl _ | assumption | refine Ext.alloc ?_ _ | refine Ext.drewN ?_ _ | refine Ext.drew ?_ | refine Ext.set ?_ (by simp <;> omega) _ _ | refine Ext.trans ?_ (by assumption)))).mono ?_
  rintro e w1 ⟨⟨u, rfl, hu⟩, hw⟩
  rw [← HX.out] at hu
  have HB := Lib.hid (Sl.box (d := TM) (w := w1) (x := X) (cs := #[u]) (e := 24) ⟨u, rfl, hu.sl⟩)
  obtain ⟨uA, uc, rfl, _, _⟩ := hu.sl
  have HE1 : Hid (Ext w w1) := Lib.hid (Ext.trans ((Ext.refl _).alloc _) hw)
  clear hu hw
  go_wp2_with fail
  refine (termVars_calls _ [X] _ _ HB.out (by simp [sumLen]; omega)).mono ?_
  rintro e w2 ⟨⟨v', rfl, hv⟩, hw⟩
  have HV' := Lib.hid hv
  have HW := Lib.hid hw
  clear hv hw
  go_wp2
  go_ret
  have hle := HE1.out.le
  have hv := HV'.out
  simp at hv
  refine ⟨⟨_, rfl, ?_⟩, (HE1.out.alloc _).trans HW.out⟩
  have h1 : varsL [] [X] = nextV L ⟨a, b⟩ := by unfold nextV; rw [← HX.out]; rfl
  rw [← h1]
  exact own_down (by omega) (hv.imp (by intro k hk; omega))

end Go.Proofs.YtehljfnoicppnaaDoor
