/- reach.sorted over names that each stand once: the row ascending, in memory of its own. Conditions: no name stands twice; at most 2^31 names. -/
import Derived.Test.YtehljfnoicppnaaDoorSortA
import Derived.Test.YtehljfnoicppnaaDoorBindsB
import Derived.Test.YtehljfnoicppnaaDoorRefH
open Go Go.RowKit Go.Shelf
set_option linter.unusedVariables false
namespace Go.Proofs.YtehljfnoicppnaaDoor
open Go.Sort Go.Lib

set_option maxRecDepth 100000 in
set_option maxHeartbeats 1000000 in
theorem cloneNm_calls (v : Value) (xs : List Nm) (ok : Ok) (w : World) (h : Sl NM w ok v xs) (hl : xs.length ≤ 2147483648) :
    Calls Tryd.prog 92 #[v] w fun e w' => (∃ v', e = .returned v' ∧ Own NM 31 w.heap.size w' (fun k => w.heap.size ≤ k) v' xs) ∧ Ext w w' := by
  have HS := Lib.hid h
  obtain ⟨A, c, rfl, hc, hr⟩ := h
  rcases A with _ | a
  · have hx : xs = [] := by
      rcases Nat.eq_zero_or_pos xs.length with h0 | h0
      · exact List.eq_nil_of_length_eq_zero h0
      · obtain ⟨b, o, hA, _⟩ := hr.2 h0
        cases hA
    subst hx
    clear hr
    have hn := fun w : World => Lib.run_eql_slice_nil (P := Tryd.prog) w 49 31 none 0 c 0 0 Tryd.underlying49
    go_enter Tryd.func92, Tryd.ntmps92
    go_wp2
    go_ret
    exact ⟨⟨_, rfl, Own.nil _ _ _ _ _⟩, Ext.refl _⟩
  · clear hr
    have hn := fun w : World => Lib.run_eql_slice_nil (P := Tryd.prog) w 49 31 (some a) xs.length c 0 0 Tryd.underlying49
    go_enter Tryd.func92, Tryd.ntmps92
    go_wp2_with (at_builtin; go_loud (refine wpList_append_mine (d := NM) (ok2 := fun k => w.heap.size ≤ k) rfl (.tmp 5) (.tmp 6) 49 31 zNm 16 w.heap.size rfl Tryd.underlying49 info_nm rfl (Own.lit0 _ _ _ _ _ (Nat.le_refl _) (Nat.le_refl _)) (HS.out.ext (by repeat (first | with_reducible exact Ext.refl _ | assumption | refine Ext.alloc ?_ _ | refine Ext.drewN ?_ _ | refine Ext.drew ?_ | refine Ext.set ?_ (by simp <;> omega) _ _ | refine Ext.trans ?_ (by assumption)))) rfl rfl (fun _ h => h) ?c2 (.inl fun _ _ _ _ _ _ h => h) ?c3 (by decide) ?c4 ?_); (case c2 => intro k hk; simp at hk; omega); (case c3 => simp; omega); (case c4 => simp); intro v' w' hown hg hat; simp only [List.nil_append] at hown; have HOwn := Lib.hid hown; have HG := Lib.hid hg; clear hown hg hat)
    go_ret
    exact ⟨⟨_, rfl, HOwn.out⟩, ((Ext.refl _).alloc _).grown HG.out (fun k hk => by cases hk; exact Nat.le_refl _)⟩

set_option maxRecDepth 100000 in
set_option maxHeartbeats 1000000 in
theorem sortedCmp_gr (x0 x1 y0 y1 : Int) (w : World) :
    Calls Tryd.prog 93 #[.agg #[.int .i64 x0, .int .i64 x1], .agg #[.int .i64 y0, .int .i64 y1]] w fun e w' => e = .returned (.int .i64 (cmpS ⟨x0, x1⟩ ⟨y0, y1⟩)) ∧ Gr w w' := by
  have heq := fun d w => run_eq_nm d w x0 x1 y0 y1
  have hl := fun w1 => less_gr x0 x1 y0 y1 w1
  cases h : lessB ⟨x0, x1⟩ ⟨y0, y1⟩
  · rw [h] at hl
    have HL := Lib.hid hl
    clear hl
    by_cases he : x0 = y0 ∧ x1 = y1
    · have HV : cmpS ⟨x0, x1⟩ ⟨y0, y1⟩ = 0 := by unfold cmpS; rw [h, he.1, he.2]; simp
      have HV := Lib.hid HV
      rename_i HV'
      clear HV' h
      obtain ⟨rfl, rfl⟩ := he
      go_enter Tryd.func93, Tryd.ntmps93
      go_wp2_with (go_at_call 64; refine (HL.out _).mono ?_; rintro e w1 ⟨rfl, hw⟩; obtain ⟨hcc, hff⟩ := bcell hw.ext; have HW := Lib.hid hw; clear hw)
      go_ret
      exact ⟨ret_i64 HV.out.symm, (((Gr.refl _).alloc _).alloc _).trans HW.out⟩
    · have HV : cmpS ⟨x0, x1⟩ ⟨y0, y1⟩ = 1 := by simp [cmpS, h, he]
      have HV := Lib.hid HV
      rename_i HV'
      clear HV' h
      have hb : (x0 == y0 && x1 == y1) = false := by rw [Bool.eq_false_iff]; simpa using he
      have heq := fun d w => (run_eq_nm d w x0 x1 y0 y1).trans (by rw [hb])
      rename_i heq'
      clear heq' hb he
      go_enter Tryd.func93, Tryd.ntmps93
      go_wp2_with (go_at_call 64; refine (HL.out _).mono ?_; rintro e w1 ⟨rfl, hw⟩; obtain ⟨hcc, hff⟩ := bcell hw.ext; have HW := Lib.hid hw; clear hw)
      all_goals (go_ret; exact ⟨ret_i64 HV.out.symm, (((Gr.refl _).alloc _).alloc _).trans HW.out⟩)
  · rw [h] at hl
    have HL := Lib.hid hl
    have HV : cmpS ⟨x0, x1⟩ ⟨y0, y1⟩ = -1 := by simp [cmpS, h]
    have HV := Lib.hid HV
    rename_i HV'
    clear HV' hl h
    go_enter Tryd.func93, Tryd.ntmps93
    go_wp2_with (go_at_call 64; refine (HL.out _).mono ?_; rintro e w1 ⟨rfl, hw⟩; have HW := Lib.hid hw; clear hw)
    go_ret
    exact ⟨ret_i64 HV.out.symm, (((Gr.refl _).alloc _).alloc _).trans HW.out⟩
theorem cmp_lays2 (blk off size : Nat) (w : World) : CmpLays Tryd.prog 93 #[] nv 2 cmpS blk off size w := fun _ _ _ _ x y => sortedCmp_gr x.a x.b y.a y.b _

/-- Sorting a row of the call's own in place. -/
theorem sortNames_calls (v : Value) (ss : List Nm) (w0 w1 : World) (hE : Ext w0 w1) (hO : Own NF 31 w0.heap.size w1 (fun k => w0.heap.size ≤ k) v ss) (hN : ss.length ≤ 2147483648) :
    Calls Tryd.prog 78 #[v, .func (.func 93) #[] #[]] w1 fun e w' => e = .returned (.tuple #[]) ∧ Own NF 31 w0.heap.size w' (fun k => w0.heap.size ≤ k) v (ss.mergeSort leNm) ∧ Ext w0 w' := by
  have eg : ∀ args w, (callFunc 93 args).run Tryd.prog w = .ok (.enter 93 args) w := enters_of Tryd.func93 (by kernel_rfl) rfl
  by_cases hne : ss = []
  · subst hne
    obtain ⟨A, c, rfl, _, _⟩ := hO.sl
    have HN := AnyF.slices_SortFunc_none (P := Tryd.prog) (ρ := sortNm_ren) { sortNm with } A c (.func (.func 93) #[] #[]) w1
    change Calls Tryd.prog 78 _ _ _ at HN
    refine HN.mono ?_
    rintro e w' ⟨rfl, rfl⟩
    exact ⟨rfl, by simpa using hO, hE⟩
  · obtain ⟨g, cap, cur, rfl, hb, hg, h1, h2, h3, hH⟩ := own_holds hO hne
    have hs := AnyQ.slices_SortFunc_total sortNm 2 Tryd.isAgg31 Tryd.sizeOf31 nv (fun _ => rfl) (fun x v hv => by simp [nv] at hv; rcases hv with rfl | rfl <;> rfl) cmpS swo_cmp 93 #[] g 0 cap ss.toArray w1 eg (cmp_lays2 g 0 _ w1) hH (Array.getElem?_eq_some_iff.1 hg).1 (by simp; omega)
      (fun x y hx hy => by rw [lt_cmp] at hx hy; exact lessB_tri hx hy)
    have hle : (fun x y => !(ltOf cmpS) y x) = leNm := by funext x y; simp only [leNm, lt_cmp]
    simp only [hle] at hs
    change Calls Tryd.prog 78 _ _ _ at hs
    simp only [List.size_toArray] at hs
    refine hs.mono ?_
    rintro e w' ⟨rfl, n, os, rfl⟩
    exact ⟨rfl, own_sorted (n := n) (os := os) (ts := ss.mergeSort leNm) (List.length_mergeSort ss) hb hg h1 h2 h3, ext_sorted (n := n) (os := os) (ts := (ss.mergeSort leNm).toArray) hE hb⟩

theorem nf_of {e base : Nat} {w : World} {ok : Ok} {v : Value} {xs : List Nm} (h : Own NM e base w ok v xs) : Own NF e base w ok v xs ∧ ∀ x ∈ xs, NmOk x := by
  obtain ⟨h1, css, h2, h3, h4⟩ := h
  refine ⟨⟨h1, css, h2, fun j x cs hx hcs => (h3 j x cs hx hcs).1, h4⟩, fun x hx => ?_⟩
  obtain ⟨j, hj, rfl⟩ := List.getElem_of_mem hx
  exact (h3 j _ (css[j]'(by omega)) (List.getElem?_eq_getElem hj) (List.getElem?_eq_getElem (by omega))).2

set_option maxRecDepth 100000 in
set_option maxHeartbeats 1000000 in
theorem compact_calls (v : Value) (xs : List Nm) (ok : Ok) (w : World) (h : Sl NM w ok v xs) (hd : ∀ (k : Nat) x y, xs[k]? = some x → xs[k + 1]? = some y → y ≠ x) :
    Calls Tryd.prog 94 #[v] w fun e w' => e = .returned v ∧ Ext w w' := by
  obtain ⟨A, c, rfl, _, hr⟩ := h
  have hm := hr.1
  unfold maxLen at hm
  have HD := Lib.hid hr
  have HX := Lib.hid hd
  clear hr hd
  by_cases h2 : xs.length < 2
  · have g : decide ((xs.length : Int) < 2) = true := decide_eq_true (by omega)
    go_enter Tryd.func94, Tryd.ntmps94
    go_wp2
    go_ret
    exact ⟨rfl, Ext.refl _⟩
  · have g : decide ((xs.length : Int) < 2) = false := decide_eq_false (by omega)
    go_enter Tryd.func94, Tryd.ntmps94
    go_wp2
    go_loopg [3] xs.length (fun g s wr => ∃ j : Nat, j + 1 ≤ xs.length ∧ xs.length - j ≤ g ∧ s = .int .i64 ((j : Int) + 1) ∧ Hid (Ext w wr))
    case atStart => exact ⟨0, by omega, by omega, rfl, Lib.hid (Ext.refl _)⟩
    case round =>
      obtain ⟨j, hj, hg, rfl, HE⟩ := hrel
      by_cases hlt : j + 1 < xs.length
      · obtain ⟨⟨x0, x1⟩, hx⟩ : ∃ x, xs[j]? = some x := ⟨_, List.getElem?_eq_getElem (by omega)⟩
        obtain ⟨⟨y0, y1⟩, hy⟩ : ∃ x, xs[j + 1]? = some x := ⟨_, List.getElem?_eq_getElem hlt⟩
        obtain ⟨gb, go, rfl, _, _⟩ := HD.out.some_ (by omega)
        obtain ⟨_, _, hc0, hc1⟩ := (HD.out.ext HE.out).nm_at hx
        obtain ⟨_, _, hd0, hd1⟩ := (HD.out.ext HE.out).nm_at hy
        have hne := HX.out j _ _ hx hy
        have hb : (y0 == x0 && y1 == x1) = false := by rw [Bool.eq_false_iff]; simp; intro h1 h2; exact hne (by rw [h1, h2])
        have heq := fun d w => (run_eq_nm d w y0 y1 x0 x1).trans (by rw [hb])
        clear hx hy hne hb
        go_wp2
        go_quiet (fail)
        go_wp2
        go_roundg (xs.length - (j + 1))
        case measure => omega
        case rel => exact ⟨j + 1, by omega, Nat.le_refl _, by go_num, Lib.hid (HE.out.drewN _)⟩
      · have hjl : j + 1 = xs.length := by omega
        have g : decide ((j : Int) + 1 < (xs.length : Int)) = false := decide_eq_false (by omega)
        go_wp2
        go_ret
        exact ⟨rfl, HE.out⟩

theorem sorted_strict {xs : List Nm} (h : xs.Nodup) : ∀ (k : Nat) x y, (xs.mergeSort leNm)[k]? = some x → (xs.mergeSort leNm)[k + 1]? = some y → y ≠ x := by
  intro k x y hx hy he
  have hn : (xs.mergeSort leNm).Nodup := (List.mergeSort_perm xs leNm).symm.nodup h
  have hk := (List.getElem?_eq_some_iff.1 hx).1
  have hk1 := (List.getElem?_eq_some_iff.1 hy).1
  have h1 := (List.getElem?_eq_some_iff.1 hx).2
  have h2 := (List.getElem?_eq_some_iff.1 hy).2
  have h3 : (xs.mergeSort leNm)[k] = (xs.mergeSort leNm)[k + 1] := by rw [h1, h2, he]
  have := (List.getElem_inj hn).1 h3
  omega

set_option maxRecDepth 100000 in
set_option maxHeartbeats 1000000 in
theorem sorted_calls (v : Value) (xs : List Nm) (ok : Ok) (w : World) (h : Sl NM w ok v xs) (hl : xs.length ≤ 2147483648) (hn : xs.Nodup) :
    Calls Tryd.prog 67 #[v] w fun e w' => (∃ v', e = .returned v' ∧ Own NM 31 w.heap.size w' (fun k => w.heap.size ≤ k) v' (xs.mergeSort leNm)) ∧ Ext w w' := by
  have HC := Lib.hid (cloneNm_calls v xs ok w h hl)
  have HN := Lib.hid (sorted_strict hn)
  clear h hn
  go_enter Tryd.func67, Tryd.ntmps67
  go_wp2_with fail
  refine HC.out.mono ?_
  rintro e w1 ⟨⟨v1, rfl, hv⟩, hE1⟩
  obtain ⟨hf, hnm⟩ := nf_of hv
  have HNM := Lib.hid hnm
  have HS := Lib.hid (sortNames_calls v1 xs w w1 hE1 hf hl)
  obtain ⟨A, c, rfl, _, _⟩ := hv.sl
  clear hv hf hnm hE1
  go_wp2_with fail
  refine HS.out.mono ?_
  rintro e w2 ⟨rfl, ho, hE2⟩
  have HO : Hid (Own NM 31 w.heap.size w2 (fun k => w.heap.size ≤ k) (.slice A xs.length c) (xs.mergeSort leNm)) := Lib.hid (own_nf ho (fun x hx => HNM.out x ((List.mergeSort_perm xs leNm).mem_iff.1 hx)))
  have HE2 := Lib.hid hE2
  clear ho hE2
  go_wp2_with fail
  refine (compact_calls _ _ _ w2 HO.out.sl HN.out).mono ?_
  rintro e w3 ⟨rfl, hE3⟩
  have HE3 := Lib.hid hE3
  clear hE3
  go_wp2
  go_ret
  exact ⟨⟨_, rfl, HO.out.ext HE3.out⟩, HE2.out.trans HE3.out⟩

end Go.Proofs.YtehljfnoicppnaaDoor
