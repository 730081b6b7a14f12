/- The reference's HasName, Vars and VarsOf, each by its contract. Conditions: the terms whose variables are asked for have at most 2^31 cells together. -/
import Derived.Test.YtehljfnoicppnaaDoorRefG
open Go Go.RowKit
set_option linter.unusedVariables false
namespace Go.Proofs.YtehljfnoicppnaaDoor

def hasNm (ns : List Nm) (v : Nm) : Bool := decide (v ∈ ns)
theorem has_end {ns : List Nm} {v : Nm} (h : ∀ x ∈ ns, x ≠ v) : hasNm ns v = false := decide_eq_false fun hm => h v hm rfl

set_option maxRecDepth 100000 in
set_option maxHeartbeats 1000000 in
theorem hasName_calls (lv : Value) (ns : List Nm) (ok : Ok) (a b : Int) (w : World) (h : Sl NM w ok lv ns) :
    Calls Tryd.prog 37 #[lv, .agg #[.int .i64 a, .int .i64 b]] w fun e w' => e = .returned (.bool (hasNm ns ⟨a, b⟩)) ∧ Ext w w' := by
  obtain ⟨A, c, rfl, _, hr⟩ := h
  have hm := hr.1
  unfold maxLen at hm
  have HD := Lib.hid hr
  clear hr
  go_enter Tryd.func37, Tryd.ntmps37
  go_wp2
  have hE0 : Ext w (w.alloc (.cells #[.int .i64 a, .int .i64 b] 31)) := (Ext.refl _).alloc _
  have hb0 := cell_of_row _ _ 0 _ _ _ (heap_alloc_new w (.cells #[.int .i64 a, .int .i64 b] 31))
  have hb1 := cell_of_row _ _ 1 _ _ _ (heap_alloc_new w (.cells #[.int .i64 a, .int .i64 b] 31))
  generalize w.alloc (.cells #[.int .i64 a, .int .i64 b] 31) = W at hE0 hb0 hb1 ⊢
  have HB0 := Lib.hid hb0
  have HB1 := Lib.hid hb1
  have HE0 := Lib.hid hE0
  clear hb0 hb1 hE0
  go_loopw [5] (fun s wr => ∃ i : Nat, i ≤ ns.length ∧ s = .int .i64 i ∧ Hid (∀ x ∈ ns.take i, x ≠ ⟨a, b⟩) ∧ Hid (Ext W wr)) (fun s _ => ns.length - (intOf s).toNat)
  case atStart => exact ⟨0, Nat.zero_le _, rfl, Lib.hid (by simp), Lib.hid (Ext.refl _)⟩
  case round =>
    obtain ⟨i, hi, rfl, HN, HE⟩ := hrel
    by_cases hlt : i < ns.length
    · obtain ⟨⟨x0, x1⟩, hx⟩ : ∃ x, ns[i]? = some x := ⟨_, List.getElem?_eq_getElem hlt⟩
      obtain ⟨gb, go, rfl, _, _⟩ := HD.out.some_ (by omega)
      obtain ⟨_, _, hc0, hc1⟩ := (HD.out.ext (HE0.out.trans HE.out)).nm_at hx
      have hb0 := HE.out.cell HB0.out
      have hb1 := HE.out.cell HB1.out
      have HX := Lib.hid hx
      clear hx
      by_cases he : x0 = a ∧ x1 = b
      · have heq := fun d w => run_eq_nm d w x0 x1 a b
        have hbt : (x0 == a && x1 == b) = true := by simpa using he
        have heq' := fun d w => (heq d w).trans (by rw [hbt])
        obtain ⟨rfl, rfl⟩ := he
        clear heq hbt
        go_wp2
        go_quiet (fail)
        go_wp2
        go_ret
        exact ⟨ret_bool (decide_eq_true (List.mem_of_getElem? HX.out)).symm, (HE0.out.trans HE.out).drewN _⟩
      · have heq := fun d w => run_eq_nm d w x0 x1 a b
        have hbt : (x0 == a && x1 == b) = false := by rw [Bool.eq_false_iff]; simpa using he
        have heq' := fun d w => (heq d w).trans (by rw [hbt])
        have HM : ∀ x ∈ ns.take (i + 1), x ≠ ⟨a, b⟩ := by
          intro c hc
          rw [List.take_add_one, HX.out] at hc
          rcases List.mem_append.1 hc with hc | hc
          · exact HN.out c hc
          · simp at hc; subst hc; simpa using he
        have HM := Lib.hid HM
        rename_i HM'
        clear HM' heq hbt he
        go_wp2
        go_quiet (fail)
        go_wp2
        exact ⟨⟨i + 1, by omega, by go_num, HM, Lib.hid (HE.out.drewN _)⟩, by simp [intOf]; omega⟩
    · obtain rfl : i = ns.length := by omega
      go_wp2
      go_ret
      have hn := HN.out
      rw [List.take_length] at hn
      exact ⟨ret_bool (has_end hn).symm, HE0.out.trans HE.out⟩

/-! ### variables, each once, as they come -/
def addV (acc : List Nm) (c : Cl) : List Nm := if c.k = 4 ∧ c.v ∉ acc then acc ++ [c.v] else acc
def varsT (acc : List Nm) (t : List Cl) : List Nm := t.foldl addV acc
def varsL (acc : List Nm) (l : List (List Cl)) : List Nm := l.foldl varsT acc
theorem varsT_step {acc : List Nm} {t : List Cl} {i : Nat} {c : Cl} (hx : t[i]? = some c) : varsT acc (t.take (i + 1)) = addV (varsT acc (t.take i)) c := by
  unfold varsT
  rw [List.take_add_one, hx]
  simp
theorem varsL_step {acc : List Nm} {l : List (List Cl)} {i : Nat} {t : List Cl} (hx : l[i]? = some t) : varsL acc (l.take (i + 1)) = varsT (varsL acc (l.take i)) t := by
  unfold varsL
  rw [List.take_add_one, hx]
  simp
theorem addV_len (acc : List Nm) (c : Cl) : (addV acc c).length ≤ acc.length + 1 := by
  unfold addV
  split <;> simp
theorem varsT_len : ∀ (t : List Cl) (acc : List Nm), (varsT acc t).length ≤ acc.length + t.length
  | [], acc => by simp [varsT]
  | c :: t, acc => by
    have h1 := varsT_len t (addV acc c)
    have h2 := addV_len acc c
    simp only [varsT, List.foldl_cons, List.length_cons] at *
    omega
def sumLen (l : List (List Cl)) : Nat := (l.map List.length).sum
theorem varsL_len : ∀ (l : List (List Cl)) (acc : List Nm), (varsL acc l).length ≤ acc.length + sumLen l
  | [], acc => by simp [varsL]
  | t :: l, acc => by
    have h1 := varsL_len l (varsT acc t)
    have h2 := varsT_len t acc
    simp only [varsL, List.foldl_cons, sumLen, List.map_cons, List.sum_cons] at *
    omega
theorem sumLen_take : ∀ (l : List (List Cl)) (i : Nat) {t : List Cl}, l[i]? = some t → sumLen (l.take i) + t.length ≤ sumLen l
  | [], i, t, h => by simp at h
  | x :: l, 0, t, h => by
    simp at h
    subst h
    simp [sumLen]
  | x :: l, i + 1, t, h => by
    have := sumLen_take l i (t := t) (by simpa using h)
    simp only [sumLen, List.take_succ_cons, List.map_cons, List.sum_cons] at *
    omega
theorem TM.at_ {w : World} {ok : Ok} {b o : Nat} {l : List (List Cl)} (h : Rd TM w ok (some ⟨b, o, none⟩) l) {j : Nat} {x : List Cl} (hx : l[j]? = some x) :
    b < w.heap.size ∧ ∃ u, w.cell? ⟨b, o + j, none⟩ = some u ∧ Sl CL w ok u x := by
  have hj := (List.getElem?_eq_some_iff.1 hx).1
  obtain ⟨b', o', hA, hok, hlt, hc⟩ := h.2 (by omega)
  injection hA with hA
  injection hA with h1 h2
  subst h1 h2
  obtain ⟨cs, ⟨u, rfl, hs⟩, hcell⟩ := hc j x hx
  refine ⟨hlt, u, ?_, hs⟩
  have := hcell 0 _ rfl
  have h1 : TM.sz = 1 := rfl
  rw [h1] at this
  simpa using this

theorem nm_box {w : World} {a b : Int} (hn : NmOk ⟨a, b⟩) : Sl NM (w.alloc (.cells #[.int .i64 a, .int .i64 b] 31)) (fun k => False ∨ k = w.heap.size) (.slice (some ⟨w.heap.size, 0, none⟩) 1 1) [⟨a, b⟩] :=
  Sl.box (d := NM) (x := ⟨a, b⟩) (cs := #[.int .i64 a, .int .i64 b]) ⟨rfl, hn⟩

set_option maxRecDepth 100000 in
set_option maxHeartbeats 1000000 in
theorem refVars_calls (lv : Value) (l : List (List Cl)) (ok : Ok) (w : World) (h : Sl TM w ok lv l) (hl : sumLen l ≤ 2147483648) :
    Calls Tryd.prog 56 #[lv] w fun e w' => (∃ v', e = .returned v' ∧ Own NM 31 w.heap.size w' (fun k => w.heap.size ≤ k) v' (varsL [] l)) ∧ Ext w w' := by
  obtain ⟨A, c, rfl, _, hr⟩ := h
  have hm := hr.1
  unfold maxLen at hm
  have HD := Lib.hid hr
  clear hr
  go_enter Tryd.func56, Tryd.ntmps56
  go_wp2
  go_loopg [3, 4] l.length (fun g s3 s4 wr => ∃ i : Nat, i ≤ l.length ∧ l.length - i ≤ g ∧ s4 = .int .i64 i ∧ Hid (Own NM 31 w.heap.size wr (fun k => w.heap.size ≤ k) s3 (varsL [] (l.take i))) ∧ Hid (Ext w wr))
  case atStart => exact ⟨0, Nat.zero_le _, Nat.le_refl _, rfl, Lib.hid (Own.nil _ _ _ _ _), Lib.hid (Ext.refl _)⟩
  case round =>
    obtain ⟨i, hi, hg, rfl, HO, HE⟩ := hrel
    by_cases hlt : i < l.length
    · obtain ⟨t, hx⟩ : ∃ x, l[i]? = some x := ⟨_, List.getElem?_eq_getElem hlt⟩
      obtain ⟨lb, lo, rfl, _, _⟩ := HD.out.some_ (by omega)
      obtain ⟨_, u, hu, hut⟩ := TM.at_ HD.out hx
      obtain ⟨tA, tc, rfl, htc, htr⟩ := hut
      have htl := htr.1
      unfold maxLen at htl
      have HU := Lib.hid hu
      have HT := Lib.hid htr
      have HX := Lib.hid hx
      clear hu htr hx
      have hu := HE.out.cell HU.out
      go_wp2
      obtain ⟨wo, rfl⟩ : ∃ wo : World, wo = wr := ⟨_, rfl⟩
      have HWO := Lib.hid HE.out
      have HO0 := HO
      clear HO HE
      go_loopg [3, 5] t.length (fun g2 s3 s5 wr => ∃ k : Nat, k ≤ t.length ∧ t.length - k ≤ g2 ∧ s5 = .int .i64 k ∧ Hid (Own NM 31 w.heap.size wr (fun k => w.heap.size ≤ k) s3 (varsT (varsL [] (l.take i)) (t.take k))) ∧ Hid (Ext w wr))
      case atStart => exact ⟨0, Nat.zero_le _, Nat.le_refl _, rfl, HO0, HWO⟩
      case round =>
        obtain ⟨k, hk, hg2, rfl, HO, HE⟩ := hrel
        have hu := HE.out.cell HU.out
        by_cases hlt2 : k < t.length
        · obtain ⟨⟨x0, x1, x2, ⟨x3, x4⟩⟩, hy⟩ : ∃ x, t[k]? = some x := ⟨_, List.getElem?_eq_getElem hlt2⟩
          obtain ⟨tb, tof, rfl, _, _⟩ := HT.out.some_ (by omega)
          obtain ⟨_, _, hxo, hc0, hc1, hc2, hc3, hc4⟩ := Sl.cl_at (n := 0) (c := 0) (HT.out.ext HE.out) hy
          have HY := Lib.hid hy
          have HXO := Lib.hid hxo
          clear hy hxo
          obtain ⟨acc, hacc⟩ : ∃ acc, acc = varsT (varsL [] (l.take i)) (t.take k) := ⟨_, rfl⟩
          rw [← hacc] at HO
          have hal : acc.length ≤ 2147483648 := by
            rw [hacc]
            have h1 := varsT_len (t.take k) (varsL [] (l.take i))
            have h2 := varsL_len (l.take i) []
            have h3 := sumLen_take l i HX.out
            have h4 : (t.take k).length ≤ t.length := by rw [List.length_take]; omega
            simp at h2
            omega
          have HAL := Lib.hid hal
          have hst : varsT (varsL [] (l.take i)) (t.take (k + 1)) = addV acc ⟨x0, x1, x2, ⟨x3, x4⟩⟩ := by rw [varsT_step HY.out, ← hacc]
          have HST := Lib.hid hst
          obtain ⟨nA, nc, rfl, _, _⟩ := HO.out.sl
          have HOS := Lib.hid HO.out.sl
          clear hacc hal hst
          obtain ⟨nn, hnn⟩ : ∃ nn, nn = acc.length := ⟨_, rfl⟩
          rw [← hnn] at HO HOS ⊢
          have HNN := Lib.hid hnn
          clear hnn
          by_cases h4 : x0 = 4
          · subst h4
            cases hh : hasNm acc ⟨x3, x4⟩
            · have HC := Lib.hid (fun w1 (hE : Ext wr w1) => (hasName_calls _ acc _ x3 x4 w1 (HOS.out.ext hE)).mono (fun e w' h => (⟨by rw [h.1, hh], h.2⟩ : e = .returned (.bool false) ∧ Ext w1 w')))
              have HA : Hid (addV acc ⟨4, x1, x2, ⟨x3, x4⟩⟩ = acc ++ [⟨x3, x4⟩]) := Lib.hid (by unfold addV; rw [if_pos ⟨rfl, of_decide_eq_false hh⟩])
              clear hh
              go_wp2_with (first | (go_at_call 37; refine (HC.out _ (by repeat (first | with_reducible exact Ext.refl _ | assumption | refine Ext.alloc ?_ _ | refine Ext.drewN ?_ _ | refine Ext.drew ?_ | refine Ext.set ?_ (by simp <;> omega) _ _ | refine Ext.trans ?_ (by assumption)))).mono ?_; rintro e w1 ⟨rfl, hw⟩; obtain ⟨hcc, hff⟩ := bcell hw; have HW1 : Hid (Ext wr w1) := Lib.hid (Ext.trans ((Ext.refl _).alloc _) hw); clear hw) | (at_builtin; go_loud (refine wpList_append_mine (d := NM) (ok2 := fun k => w.heap.size ≤ k) rfl (.tmp 39) (.tmp 42) 49 31 zNm 16 w.heap.size rfl Tryd.underlying49 info_nm rfl (HO.out.ext (HW1.out.alloc _)) (nm_box HXO.out.2.2.2.2) rfl rfl (fun _ h => h) ?c2 (.inl fun _ _ _ _ _ _ h => h) ?c3 (by decide) ?c4 ?_); (case c2 => intro k hk; have := (HE.out.trans HW1.out).le; simp at hk; omega); (case c3 => have := HAL.out; simp; omega); (case c4 => have := (HE.out.trans HW1.out).le; simp; omega); intro v' w5 hown hg hat; have HOwn := Lib.hid hown; have HG5 : Hid (Ext w w5) := Lib.hid (((HE.out.trans HW1.out).alloc _).grown hg (fun k hk => HO.out.base_le k hk)); clear hown hg hat))
              go_roundg (t.length - (k + 1))
              case measure => omega
              case rel =>
                refine ⟨k + 1, by omega, Nat.le_refl _, by go_num, ?_, HG5⟩
                rw [HST.out, HA.out]
                exact HOwn
            · have HC := Lib.hid (fun w1 (hE : Ext wr w1) => (hasName_calls _ acc _ x3 x4 w1 (HOS.out.ext hE)).mono (fun e w' h => (⟨by rw [h.1, hh], h.2⟩ : e = .returned (.bool true) ∧ Ext w1 w')))
              have HA : Hid (addV acc ⟨4, x1, x2, ⟨x3, x4⟩⟩ = acc) := Lib.hid (by unfold addV; rw [if_neg (fun h => h.2 (of_decide_eq_true hh))])
              clear hh
              go_wp2_with (go_at_call 37; refine (HC.out _ (by repeat (first | with_reducible exact Ext.refl _ | assumption | refine Ext.alloc ?_ _ | refine Ext.drewN ?_ _ | refine Ext.drew ?_ | refine Ext.set ?_ (by simp <;> omega) _ _ | refine Ext.trans ?_ (by assumption)))).mono ?_; rintro e w1 ⟨rfl, hw⟩; obtain ⟨hcc, hff⟩ := bcell hw; have HW1 : Hid (Ext wr w1) := Lib.hid (Ext.trans ((Ext.refl _).alloc _) hw); clear hw)
              go_roundg (t.length - (k + 1))
              case measure => omega
              case rel =>
                refine ⟨k + 1, by omega, Nat.le_refl _, by go_num, ?_, Lib.hid (HE.out.trans HW1.out)⟩
                rw [HST.out, HA.out]
                exact Lib.hid (HO.out.ext HW1.out)
          · have g4 : (x0 == 4) = false := beq_eq_false_iff_ne.2 h4
            have HA : Hid (addV acc ⟨x0, x1, x2, ⟨x3, x4⟩⟩ = acc) := Lib.hid (by unfold addV; rw [if_neg (fun h => h4 h.1)])
            clear h4
            go_wp2
            go_roundg (t.length - (k + 1))
            case measure => omega
            case rel =>
              refine ⟨k + 1, by omega, Nat.le_refl _, by go_num, ?_, Lib.hid (HE.out.alloc _)⟩
              rw [HST.out, HA.out]
              exact Lib.hid (HO.out.ext ((Ext.refl _).alloc _))
        · obtain rfl : k = t.length := by omega
          go_wp2
          go_roundg (l.length - (i + 1))
          case measure => omega
          case rel =>
            refine ⟨i + 1, by omega, Nat.le_refl _, by go_num, ?_, HE⟩
            rw [varsL_step HX.out]
            have := HO.out
            rw [List.take_length] at this
            exact Lib.hid this
    · obtain rfl : i = l.length := by omega
      go_wp2
      go_ret
      have := HO.out
      rw [List.take_length] at this
      exact ⟨⟨_, rfl, this⟩, HE.out⟩

set_option maxRecDepth 100000 in
set_option maxHeartbeats 1000000 in
theorem varsOf_calls (tv : Value) (t : List Cl) (ok : Ok) (w : World) (h : Sl CL w ok tv t) (hl : t.length ≤ 2147483648) :
    Calls Tryd.prog 18 #[tv] w fun e w' => (∃ v', e = .returned v' ∧ Own NM 31 w.heap.size w' (fun k => w.heap.size ≤ k) v' (varsT [] t)) ∧ Ext w w' := by
  have HB := Lib.hid (Sl.box (d := TM) (w := w) (ok := ok) (x := t) (cs := #[tv]) (e := 24) ⟨tv, rfl, h⟩)
  obtain ⟨A, c, rfl, _, _⟩ := h
  go_enter Tryd.func18, Tryd.ntmps18
  go_wp2_with (go_at_call 56; refine (refVars_calls _ [t] _ _ HB.out (by simpa [sumLen] using hl)).mono ?_; rintro e w1 ⟨⟨v', rfl, hv⟩, hw⟩; have HV := Lib.hid hv; have HW := Lib.hid hw; clear hv hw)
  go_ret
  have hle := HW.out.le
  have hv := HV.out
  simp at hle hv
  refine ⟨⟨_, rfl, ?_⟩, ((Ext.refl _).alloc _).trans HW.out⟩
  exact own_down (Nat.le_succ _) (hv.imp (by intro k hk; omega))

end Go.Proofs.YtehljfnoicppnaaDoor
