/- The reference's Bind where it binds, by its contract; and Bind in one. Conditions: the heap is one of the reference's, of fewer than 2^31 values. -/
import Derived.Test.YtehljfnoicppnaaDoorRefF
open Go Go.RowKit
set_option linter.unusedVariables false
namespace Go.Proofs.YtehljfnoicppnaaDoor

/-- What an append onto the row that Bind makes may read. -/
theorem okS_ok {w w5 : World} {ok P : Ok} {q N N' : Nat} {v : Value} (hle : w.heap.size ≤ w5.heap.size) (hN : w5.heap.size ≤ N) (hb : ∀ k, v.ownBlock = some k → w5.heap.size ≤ k) (hlt : ∀ k, v.ownBlock = some k → k < N) (hP : ∀ k, P k → okN w ok q k ∧ k < w5.heap.size) :
    ∀ k, (P k ∨ k = N) → k < N' → okN w ok q k ∧ v.ownBlock ≠ some k := by
  rintro k (hk | rfl) _
  · have := hP k hk
    exact ⟨this.1, fun he => by have := hb k he; omega⟩
  · exact ⟨.inr (by omega), fun he => by have := hlt k he; omega⟩
/-- What Bind leaves, where it binds. -/
theorem rbind_done {w w6 w7 : World} {ok : Ok} {q : Nat} {L M : List Bd} {v : Nm} {t : List Cl} {v0 nv : Value} (hx : bindE L v t = 0) (h6 : Ext w w6) (hq : w.heap[q]? = some (.cells #[v0] 40 (0, 0))) (hs : Own BD 33 w.heap.size w6 (okN w ok q) nv M) (hM : M = insL L ⟨v, t⟩) (hw7 : w7 = w6.setCell ⟨q, 0, none⟩ nv) :
    RBindP w ok q L v t (.returned (.int .i64 0)) w7 := by
  have hql : q < w.heap.size := (Array.getElem?_eq_some_iff.1 hq).1
  have hother : ∀ k, k ≠ q → w7.heap[k]? = w6.heap[k]? := fun k hk => by rw [hw7]; exact Below.heap_setCell w6 ⟨q, 0, none⟩ nv k hk
  refine ⟨by rw [hx], ?_, ?_⟩
  · refine (h6.but q).trans ⟨by rw [hw7]; rfl, by rw [hw7]; rfl, by rw [hw7]; rfl, by rw [hw7]; simp, fun k _ hk => hother k hk⟩
  · refine ⟨nv, ?_, ?_⟩
    · have h := h6.heap hq
      rw [hw7]
      simp [World.setCell, Array.getElem?_modify, h]
    · unfold bindL
      rw [if_pos hx, ← hM]
      refine hs.sl.move fun k hk hl => ?_
      have hkq : k ≠ q := by
        rcases hk with hk | hk
        · exact hk.2.1
        · omega
      refine ⟨⟨?_, hkq⟩, hother k hkq⟩
      rcases hk with hk | hk
      · exact .inl hk.1
      · exact .inr hk

theorem frozen_of_row {w : World} {q : Nat} {cs : Array Value} {ty : TypeId} (h : w.heap[q]? = some (.cells cs ty (0, 0))) : w.frozen? ⟨q, 0, none⟩ = false := by
  simp [World.frozen?, h]

set_option maxRecDepth 100000 in
set_option maxHeartbeats 8000000 in
theorem refBind_ok (q : Nat) (L : List Bd) (ok okT : Ok) (a b : Int) (tv : Value) (t : List Cl) (w : World) (h : RefAt w ok q L) (ha : NmOk ⟨a, b⟩) (ht : Sl CL w okT tv t) (hL : L.length ≤ 2147483647) (h0 : bindE L ⟨a, b⟩ t = 0) :
    Calls Tryd.prog 47 #[.pointer (some ⟨q, 0, none⟩), .agg #[.int .i64 a, .int .i64 b], tv] w (RBindP w ok q L ⟨a, b⟩ t) := by
  have HH := Lib.hid h
  have HA := Lib.hid ha
  have HX := Lib.hid h0
  have HV := Lib.hid (fun w1 (hE : Ext w w1) => refOfVar_calls a b w1 ha)
  have HGl := Lib.hid (fun w1 (hE : Ext w w1) => refGlobal_calls tv t okT w1 (ht.ext hE))
  have HPl := Lib.hid (fun w1 (hE : Ext w w1) => refPlace_calls q L ok a b w1 (h.ext hE))
  have HT := Lib.hid ht
  obtain ⟨hv, h1, h2⟩ := h
  have hp : w.cell? ⟨q, 0, none⟩ = some hv := cell_of_row w q 0 _ _ _ h1
  have hpl : q < w.heap.size := World.block_lt_of_cell? w _ hp
  obtain ⟨hA, hcap, rfl, _, hrd⟩ := h2
  have HRD := Lib.hid hrd
  have HP := Lib.hid h1
  clear ha hrd h1
  obtain ⟨A, c, rfl, hc, hr⟩ := ht
  clear hr
  obtain ⟨ha0, hvs, hgs, hgl, hord⟩ := bindE_zero h0
  have hvs' : varS ⟨a, b⟩ = [vcl ⟨a, b⟩] := by
    unfold varS at hvs ⊢
    split at hvs
    · rename_i hr; rw [if_pos hr]
    · exact absurd rfl hvs
  have HVS := Lib.hid hvs'
  have g1 : decide (a < (0 : Int)) = false := decide_eq_false (by simpa using ha0)
  have hgb : globalB t := globalS_iff.1 hgs
  obtain ⟨⟨x0, x1, x2, ⟨x3, x4⟩⟩, t', rfl⟩ : ∃ x t', t = x :: t' := by
    cases t with
    | nil => exact absurd hgb.1.1 (by simp)
    | cons x t' => exact ⟨x, t', rfl⟩
  have HGS := Lib.hid hgs
  have HGL := Lib.hid hgl
  have hls : x0 = 4 → lessB ⟨x3, x4⟩ ⟨a, b⟩ = true := fun h => hord ⟨x0, x1, x2, ⟨x3, x4⟩⟩ rfl h
  have HLO := Lib.hid hls
  have hsl : t'.length ≤ 255 := by have := hgb.1.2.1; simp at this; omega
  have HSL := Lib.hid hsl
  clear hgs hgb hsl hvs hvs' hgl hord ha0 h0 hls
  go_enter Tryd.func47, Tryd.ntmps47
  go_upto_region 7 with (first | (go_at_call 75; refine (HV.out _ (by repeat (first | with_reducible exact Ext.refl _ | assumption | refine Ext.alloc ?_ _ | refine Ext.drewN ?_ _ | refine Ext.drew ?_ | refine Ext.set ?_ (by simp <;> omega) _ _ | refine Ext.trans ?_ (by assumption)))).mono ?_; rintro e w1 ⟨⟨v', rfl, hv⟩, hw⟩; rw [HVS.out] at hv; obtain ⟨A1, c1, rfl, _, _⟩ := hv; obtain ⟨hb0, hb1⟩ := cell_box2 hw; have HW := Lib.hid hw; clear hw) | (go_at_call 76; refine (HGl.out _ (by repeat (first | with_reducible exact Ext.refl _ | assumption | refine Ext.alloc ?_ _ | refine Ext.drewN ?_ _ | refine Ext.drew ?_ | refine Ext.set ?_ (by simp <;> omega) _ _ | refine Ext.trans ?_ (by assumption)))).mono ?_; rintro e w2 ⟨rfl, hw⟩; rw [HGS.out]; have hb02 := Ext.cell hw hb0; have hb12 := Ext.cell hw hb1; have HW2 := Lib.hid hw; clear hw) | (go_at_call 57; refine (HPl.out _ (by repeat (first | with_reducible exact Ext.refl _ | assumption | refine Ext.alloc ?_ _ | refine Ext.drewN ?_ _ | refine Ext.drew ?_ | refine Ext.set ?_ (by simp <;> omega) _ _ | refine Ext.trans ?_ (by assumption)))).mono ?_; rintro e w3 ⟨⟨r, rfl, hr⟩, hw⟩; obtain rfl := place_none hr HGL.out; have hb03 := Ext.cell hw hb02; have hb13 := Ext.cell hw hb12; have HW3 := Lib.hid hw; clear hw hr))
  have hE3 : Ext w w3 := (by repeat (first | with_reducible exact Ext.refl _ | assumption | refine Ext.alloc ?_ _ | refine Ext.drewN ?_ _ | refine Ext.drew ?_ | refine Ext.set ?_ (by simp <;> omega) _ _ | refine Ext.trans ?_ (by assumption)))
  have hp3 := hE3.cell hp
  have HT3 := HT.out.ext hE3
  obtain ⟨A', c', hA', _, hr'⟩ := HT3
  injection hA' with hA1 hA2 hA3
  subst hA1 hA3
  obtain ⟨tb, tof, rfl, _, _⟩ := hr'.some_ (by simp)
  obtain ⟨_, htl, hxo, hc0, hc1, hc2, hc3, hc4⟩ := Sl.cl_at (n := 0) (c := 0) (j := 0) hr' rfl
  simp only [Nat.zero_mul, Nat.add_zero] at hc0 hc1 hc2 hc3 hc4
  have HE3 := Lib.hid hE3
  clear hr' hA2 hxo hb0 hb1 hb02 hb12 hp hE3 hc1 hc2
  go_cut [34] (fun s34 wx => s34 = .bool false ∧ Hid (Ext w3 wx))
  case first =>
    by_cases hk : x0 = 4
    · subst hk
      have HLS := Lib.hid (HLO.out rfl)
      go_region_with (go_at_call 42; refine (refLess_calls _ _ _ _ _).mono ?_; rintro e w4 ⟨rfl, hw4⟩; rw [HLS.out]; have HW4 := Lib.hid hw4; clear hw4)
      all_goals
        go_wp2_with fail
        go_meet
        exact ⟨rfl, Lib.hid (by repeat (first | with_reducible exact Ext.refl _ | assumption | refine Ext.alloc ?_ _ | refine Ext.drewN ?_ _ | refine Ext.drew ?_ | refine Ext.set ?_ (by simp <;> omega) _ _ | refine Ext.trans ?_ (by assumption)))⟩
    · have hkb : (x0 == 4) = false := beq_eq_false_iff_ne.2 hk
      clear hk
      go_quiet (fail)
      go_wp2_with fail
      go_meet
      exact ⟨rfl, Lib.hid (by repeat (first | with_reducible exact Ext.refl _ | assumption | refine Ext.alloc ?_ _ | refine Ext.drewN ?_ _ | refine Ext.drew ?_ | refine Ext.set ?_ (by simp <;> omega) _ _ | refine Ext.trans ?_ (by assumption)))⟩
  case rest =>
    obtain ⟨rfl, HE4⟩ := hcut
    have hb04 := HE4.out.cell hb03
    have hb14 := HE4.out.cell hb13
    have hp4 := HE4.out.cell hp3
    clear hb03 hb13 hp3 hc0 hc3 hc4
    have HEc : Hid (Ext w wc) := Lib.hid (HE3.out.trans HE4.out)
    have HAp := Lib.hid (HT.out.ext HEc.out)
    go_wp2_with (at_builtin; go_loud (refine wpList_append_mine (d := CL) (ok2 := fun k => w.heap.size ≤ k) rfl (.tmp 49) (.tmp 50) 24 36 zCl 48 w.heap.size rfl Tryd.underlying24 info_cl rfl (Own.nil CL _ _ _ (fun k => w.heap.size ≤ k)) HAp.out rfl rfl (fun _ h => h) ?c2 (.inl fun _ _ _ _ _ _ h => h) ?c3 (by decide) ?c4 ?_); (case c2 => intro k hk; have := HEc.out.le; omega); (case c3 => have := HSL.out; simp; omega); (case c4 => exact HEc.out.le); intro v' w5 hown hg hat; simp only [List.nil_append] at hown; have HOwn := Lib.hid hown; have HG5 : Hid (Ext w w5) := Lib.hid (HEc.out.grown hg (fun k hk => by cases hk)); have HGc : Hid (Ext wc w5) := Lib.hid ((Ext.refl wc).grown hg (fun k hk => by cases hk)); clear hown hg hat)
    obtain ⟨oA, oc, hov, _, _⟩ := HOwn.out.sl
    obtain ⟨on, hon⟩ : ∃ on, on = (⟨x0, x1, x2, ⟨x3, x4⟩⟩ :: t' : List Cl).length := ⟨_, rfl⟩
    rw [← hon] at hov
    subst hov
    have HO8 := Lib.hid HOwn.out.sl
    have HL5 : Hid (w.heap.size ≤ w5.heap.size) := Lib.hid HG5.out.le
    have hb05 := HGc.out.cell hb04
    have hb15 := HGc.out.cell hb14
    have hp5 := HGc.out.cell hp4
    clear hb04 hb14 hp4 HOwn hon
    have HB05 := Lib.hid hb05
    have HB15 := Lib.hid hb15
    have HP5 := Lib.hid hp5
    clear hb05 hb15 hp5
    have hm := HRD.out.1
    unfold maxLen at hm
    go_loopg [7, 9, 10] L.length (fun g s7 s9 s10 wr => ∃ i : Nat, i ≤ L.length ∧ L.length - i ≤ g ∧ s10 = .int .i64 i ∧ s9 = .bool (anyL (L.take i) ⟨a, b⟩) ∧ Hid (Own BD 33 w5.heap.size wr (okN w ok q) s7 (insTo L ⟨⟨a, b⟩, ⟨x0, x1, x2, ⟨x3, x4⟩⟩ :: t'⟩ i)) ∧ Hid (Ext w5 wr))
    case atStart => exact ⟨0, Nat.zero_le _, Nat.le_refl _, rfl, rfl, Lib.hid (Own.nil _ _ _ _ _), Lib.hid (Ext.refl _)⟩
    case round =>
      obtain ⟨i, hi, hg, rfl, rfl, HOw, HE⟩ := hrel
      obtain ⟨bb, hbb⟩ : ∃ bb, bb = anyL (L.take i) ⟨a, b⟩ := ⟨_, rfl⟩
      rw [← hbb]
      have HBB := Lib.hid hbb
      clear hbb
      have hsl := HOw.out.sl
      obtain ⟨nA, nc, rfl, _, _⟩ := hsl
      have HOw0 := HOw
      obtain ⟨IL, hil⟩ : ∃ IL, IL = insTo L ⟨⟨a, b⟩, ⟨x0, x1, x2, ⟨x3, x4⟩⟩ :: t'⟩ i := ⟨_, rfl⟩
      have hnn : IL.length ≤ 2147483648 := by have := insTo_len L ⟨⟨a, b⟩, ⟨x0, x1, x2, ⟨x3, x4⟩⟩ :: t'⟩ i; rw [hil]; omega
      rw [← hil] at HOw ⊢
      have HIL := Lib.hid hil
      clear hil HOw0
      by_cases hlt : i < L.length
      · obtain ⟨⟨⟨y0, y1⟩, yt⟩, hx⟩ : ∃ x, L[i]? = some x := ⟨_, List.getElem?_eq_getElem hlt⟩
        obtain ⟨lb, lo, rfl, _, _⟩ := HRD.out.some_ (by omega)
        obtain ⟨_, _, hyo, hd0, hd1, u, hd2, hyt⟩ := (HRD.out.lt.ext HG5.out).bd_at hx
        have HCE : Hid (∀ w6, Ext w5 w6 → w6.cell? ⟨q, 0, none⟩ = some (.slice (some ⟨lb, lo, none⟩) L.length hcap) ∧ w6.cell? ⟨w.heap.size, 0, none⟩ = some (.int .i64 a) ∧ w6.cell? ⟨w.heap.size, 1, none⟩ = some (.int .i64 b) ∧ w6.cell? ⟨lb, lo + i * 3, none⟩ = some (.int .i64 y0) ∧ w6.cell? ⟨lb, lo + i * 3 + 1, none⟩ = some (.int .i64 y1) ∧ w6.cell? ⟨lb, lo + i * 3 + 2, none⟩ = some u) := Lib.hid fun w6 hE => ⟨hE.cell HP5.out, hE.cell HB05.out, hE.cell HB15.out, hE.cell hd0, hE.cell hd1, hE.cell hd2⟩
        have HX := Lib.hid hx
        have HYO := Lib.hid hyo
        have HYT := Lib.hid hyt
        obtain ⟨uA, uc, rfl, _, _⟩ := hyt
        clear hx hyo hd0 hd1 hd2
        obtain ⟨hp, hb0, hb1, hd0, hd1, hd2⟩ := HCE.out _ HE.out
        obtain ⟨zz, hzz⟩ : ∃ zz, zz = (!bb && lessB ⟨a, b⟩ ⟨y0, y1⟩) := ⟨_, rfl⟩
        have HZZ := Lib.hid hzz
        clear hzz
        go_upto_region 16 with fail
        go_cut [74] (fun s74 wx => s74 = .bool zz ∧ Hid (Ext wr wx))
        case first =>
          cases bb
          · cases hls : lessB ⟨a, b⟩ ⟨y0, y1⟩
            · have HZ2 : Hid (zz = false) := Lib.hid (by rw [HZZ.out, hls]; rfl)
              have HLS := Lib.hid hls
              clear hls
              go_region_with (go_at_call 42; refine (refLess_calls _ _ _ _ _).mono ?_; rintro e w6 ⟨rfl, hw6⟩; rw [HLS.out]; have HW6 := Lib.hid hw6; clear hw6)
              all_goals
                go_wp2_with fail
                go_meet
                exact ⟨by rw [HZ2.out], Lib.hid (by repeat (first | with_reducible exact Ext.refl _ | assumption | refine Ext.alloc ?_ _ | refine Ext.drewN ?_ _ | refine Ext.drew ?_ | refine Ext.set ?_ (by simp <;> omega) _ _ | refine Ext.trans ?_ (by assumption)))⟩
            · have HZ2 : Hid (zz = true) := Lib.hid (by rw [HZZ.out, hls]; rfl)
              have HLS := Lib.hid hls
              clear hls
              go_region_with (go_at_call 42; refine (refLess_calls _ _ _ _ _).mono ?_; rintro e w6 ⟨rfl, hw6⟩; rw [HLS.out]; have HW6 := Lib.hid hw6; clear hw6)
              all_goals
                go_wp2_with fail
                go_meet
                exact ⟨by rw [HZ2.out], Lib.hid (by repeat (first | with_reducible exact Ext.refl _ | assumption | refine Ext.alloc ?_ _ | refine Ext.drewN ?_ _ | refine Ext.drew ?_ | refine Ext.set ?_ (by simp <;> omega) _ _ | refine Ext.trans ?_ (by assumption)))⟩
          · have HZ2 : Hid (zz = false) := Lib.hid (by rw [HZZ.out]; rfl)
            go_quiet (fail)
            go_wp2_with fail
            go_meet
            exact ⟨by rw [HZ2.out], Lib.hid (by repeat (first | with_reducible exact Ext.refl _ | assumption | refine Ext.alloc ?_ _ | refine Ext.drewN ?_ _ | refine Ext.drew ?_ | refine Ext.set ?_ (by simp <;> omega) _ _ | refine Ext.trans ?_ (by assumption)))⟩
        case rest =>
          obtain ⟨rfl, HEx⟩ := hcut
          clear hp hb0 hb1 hd0 hd1 hd2
          have HEw : Hid (Ext w5 wc) := Lib.hid (HE.out.trans HEx.out)
          have HOw2 := Lib.hid (HOw.out.ext HEx.out)
          obtain ⟨hp, hb0, hb1, hd0, hd1, hd2⟩ := HCE.out _ HEw.out
          cases zz
          · have HAN : Hid (anyL (L.take (i + 1)) ⟨a, b⟩ = bb ∧ insTo L ⟨⟨a, b⟩, ⟨x0, x1, x2, ⟨x3, x4⟩⟩ :: t'⟩ (i + 1) = IL ++ [⟨⟨y0, y1⟩, yt⟩]) := Lib.hid (by
              have hb' := HBB.out
              have hz' := HZZ.out
              rw [any_step _ HX.out, ← hb', HIL.out]
              cases bb
              · have hl' : lessB ⟨a, b⟩ ⟨y0, y1⟩ = false := by simpa using hz'.symm
                exact ⟨by rw [hl']; rfl, insTo_not HX.out hb'.symm hl'⟩
              · exact ⟨rfl, insTo_more HX.out hb'.symm⟩)
            go_wp2_with (at_builtin; go_loud (refine wpList_append_mine (d := BD) (ok2 := okN w ok q) rfl (.tmp 81) (.tmp 89) 22 33 zBdR 40 w5.heap.size rfl Tryd.underlying22 info_bd rfl (HOw2.out.ext (by repeat (first | with_reducible exact Ext.refl _ | assumption | refine Ext.alloc ?_ _ | refine Ext.drewN ?_ _ | refine Ext.drew ?_ | refine Ext.set ?_ (by simp <;> omega) _ _ | refine Ext.trans ?_ (by assumption)))) (bd_box HYO.out (HYT.out.ext HEw.out)) rfl rfl (fun _ h => h) ?c2 (.inr (okS_ok HL5.out HEw.out.le HOw2.out.base_le (fun k hk => Nat.lt_of_lt_of_le (HOw2.out.blk_lt k hk) (Ext.le (by repeat (first | with_reducible exact Ext.refl _ | assumption | refine Ext.alloc ?_ _ | refine Ext.drewN ?_ _ | refine Ext.drew ?_ | refine Ext.set ?_ (by simp <;> omega) _ _ | refine Ext.trans ?_ (by assumption))))) (fun k hk => ⟨.inl ⟨hk.1.1, hk.1.2, hk.2⟩, Nat.lt_of_lt_of_le hk.2 HL5.out⟩))) ?c3 (by decide) ?c4 ?_); (case c2 => intro k hk; refine .inr ?_; have h1 := HL5.out; have h2 := HEw.out.le; simp at hk; omega); (case c3 => simp; omega); (case c4 => have h2 := HEw.out.le; simp; omega); intro v7 w7 hown hg hat; have HO7 := Lib.hid hown; have HE7 : Hid (Ext w5 w7) := Lib.hid ((HEw.out.alloc _).grown hg HOw2.out.base_le); clear hown hg hat)
            go_roundg (L.length - (i + 1))
            case measure => omega
            case rel =>
              refine ⟨i + 1, by omega, Nat.le_refl _, by go_num, by rw [HAN.out.1], ?_, HE7⟩
              rw [HAN.out.2]
              exact HO7
          · have HAN : Hid (bb = false ∧ anyL (L.take (i + 1)) ⟨a, b⟩ = true ∧ insTo L ⟨⟨a, b⟩, ⟨x0, x1, x2, ⟨x3, x4⟩⟩ :: t'⟩ (i + 1) = IL ++ [⟨⟨a, b⟩, ⟨x0, x1, x2, ⟨x3, x4⟩⟩ :: t'⟩] ++ [⟨⟨y0, y1⟩, yt⟩]) := Lib.hid (by
              have hb' := HBB.out
              have hz' := HZZ.out
              rw [any_step _ HX.out, ← hb', HIL.out]
              cases bb
              · have hl' : lessB ⟨a, b⟩ ⟨y0, y1⟩ = true := by simpa using hz'.symm
                exact ⟨rfl, by rw [hl']; rfl, insTo_here HX.out hb'.symm hl'⟩
              · simp at hz')
            go_wp2_with (first | (at_builtin; go_loud (refine wpList_append_mine (d := BD) (ok2 := okN w ok q) rfl (.tmp 75) (.tmp 79) 22 33 zBdR 40 w5.heap.size rfl Tryd.underlying22 info_bd rfl (HOw2.out.ext (by repeat (first | with_reducible exact Ext.refl _ | assumption | refine Ext.alloc ?_ _ | refine Ext.drewN ?_ _ | refine Ext.drew ?_ | refine Ext.set ?_ (by simp <;> omega) _ _ | refine Ext.trans ?_ (by assumption)))) (bd_box HA.out (HO8.out.lt.ext HEw.out)) rfl rfl (fun _ h => h) ?c2 (.inr (okS_ok HL5.out HEw.out.le HOw2.out.base_le (fun k hk => Nat.lt_of_lt_of_le (HOw2.out.blk_lt k hk) (Ext.le (by repeat (first | with_reducible exact Ext.refl _ | assumption | refine Ext.alloc ?_ _ | refine Ext.drewN ?_ _ | refine Ext.drew ?_ | refine Ext.set ?_ (by simp <;> omega) _ _ | refine Ext.trans ?_ (by assumption))))) (fun k hk => ⟨.inr hk.1, hk.2⟩))) ?c3 (by decide) ?c4 ?_); (case c2 => intro k hk; refine .inr ?_; have h1 := HL5.out; have h2 := HEw.out.le; simp at hk; omega); (case c3 => simp; omega); (case c4 => have h2 := HEw.out.le; simp; omega); intro v6 w6 hown hg hat; have HO6 := Lib.hid hown; have HE6 : Hid (Ext w5 w6) := Lib.hid ((HEw.out.alloc _).grown hg HOw2.out.base_le); clear hown hg hat; obtain ⟨IM, him⟩ : ∃ IM, IM = IL ++ [⟨⟨a, b⟩, ⟨x0, x1, x2, ⟨x3, x4⟩⟩ :: t'⟩] := ⟨_, rfl⟩; have hml : IM.length ≤ 2147483649 := (by rw [him]; simp; omega); rw [← him] at HO6; have HIM := Lib.hid him; clear him; obtain ⟨A6, c6, rfl, _, _⟩ := HO6.out.sl; clear hp hb0 hb1 hd0 hd1 hd2; obtain ⟨hp, hb0, hb1, hd0, hd1, hd2⟩ := HCE.out _ HE6.out) | (at_builtin; go_loud (refine wpList_append_mine (d := BD) (ok2 := okN w ok q) rfl (.tmp 81) (.tmp 89) 22 33 zBdR 40 w5.heap.size rfl Tryd.underlying22 info_bd rfl (HO6.out.ext (by repeat (first | with_reducible exact Ext.refl _ | assumption | refine Ext.alloc ?_ _ | refine Ext.drewN ?_ _ | refine Ext.drew ?_ | refine Ext.set ?_ (by simp <;> omega) _ _ | refine Ext.trans ?_ (by assumption)))) (bd_box HYO.out (HYT.out.ext HE6.out)) rfl rfl (fun _ h => h) ?c2 (.inr (okS_ok HL5.out HE6.out.le HO6.out.base_le (fun k hk => Nat.lt_of_lt_of_le (HO6.out.blk_lt k hk) (Ext.le (by repeat (first | with_reducible exact Ext.refl _ | assumption | refine Ext.alloc ?_ _ | refine Ext.drewN ?_ _ | refine Ext.drew ?_ | refine Ext.set ?_ (by simp <;> omega) _ _ | refine Ext.trans ?_ (by assumption))))) (fun k hk => ⟨.inl ⟨hk.1.1, hk.1.2, hk.2⟩, Nat.lt_of_lt_of_le hk.2 HL5.out⟩))) ?c3 (by decide) ?c4 ?_); (case c2 => intro k hk; refine .inr ?_; have h1 := HL5.out; have h2 := HE6.out.le; simp at hk; omega); (case c3 => simp; omega); (case c4 => have h2 := HE6.out.le; simp; omega); intro v7 w7 hown hg hat; have HO7 := Lib.hid hown; have HE7 : Hid (Ext w5 w7) := Lib.hid ((HE6.out.alloc _).grown hg HO6.out.base_le); clear hown hg hat))
            go_roundg (L.length - (i + 1))
            case measure => omega
            case rel =>
              refine ⟨i + 1, by omega, Nat.le_refl _, by go_num, by rw [HAN.out.2.1], ?_, HE7⟩
              rw [HAN.out.2.2, ← HIM.out]
              exact HO7
      · obtain rfl : i = L.length := by omega
        have hp := HE.out.cell HP5.out
        have hb0 := HE.out.cell HB05.out
        have hb1 := HE.out.cell HB15.out
        have hfz := frozen_of_row ((HG5.out.trans HE.out).heap HP.out)
        have HBB2 : Hid (bb = anyL L ⟨a, b⟩) := Lib.hid (by have := HBB.out; rwa [List.take_length] at this)
        cases bb
        · go_wp2_with (at_builtin; go_loud (refine wpList_append_mine (d := BD) (ok2 := okN w ok q) rfl (.tmp 93) (.tmp 97) 22 33 zBdR 40 w5.heap.size rfl Tryd.underlying22 info_bd rfl (HOw.out.ext (by repeat (first | with_reducible exact Ext.refl _ | assumption | refine Ext.alloc ?_ _ | refine Ext.drewN ?_ _ | refine Ext.drew ?_ | refine Ext.set ?_ (by simp <;> omega) _ _ | refine Ext.trans ?_ (by assumption)))) (bd_box HA.out (HO8.out.lt.ext HE.out)) rfl rfl (fun _ h => h) ?c2 (.inr (okS_ok HL5.out HE.out.le HOw.out.base_le (fun k hk => Nat.lt_of_lt_of_le (HOw.out.blk_lt k hk) (Ext.le (by repeat (first | with_reducible exact Ext.refl _ | assumption | refine Ext.alloc ?_ _ | refine Ext.drewN ?_ _ | refine Ext.drew ?_ | refine Ext.set ?_ (by simp <;> omega) _ _ | refine Ext.trans ?_ (by assumption))))) (fun k hk => ⟨.inr hk.1, hk.2⟩))) ?c3 (by decide) ?c4 ?_); (case c2 => intro k hk; refine .inr ?_; have h1 := HL5.out; have h2 := HE.out.le; simp at hk; omega); (case c3 => simp; omega); (case c4 => have h2 := HE.out.le; simp; omega); intro v6 w6 hown hg hat; have HO6 := Lib.hid hown; have HE6 : Hid (Ext w5 w6) := Lib.hid ((HE.out.alloc _).grown hg HOw.out.base_le); clear hown hg hat; have hp6 := HE6.out.cell HP5.out; have hfz6 := frozen_of_row ((HG5.out.trans HE6.out).heap HP.out); obtain ⟨IM, him⟩ : ∃ IM, IM = IL ++ [⟨⟨a, b⟩, ⟨x0, x1, x2, ⟨x3, x4⟩⟩ :: t'⟩] := ⟨_, rfl⟩; rw [← him] at HO6; have HIM := Lib.hid him; clear him; obtain ⟨A6, c6, rfl, _, _⟩ := HO6.out.sl)
          go_ret
          refine rbind_done HX.out (HG5.out.trans HE6.out) HP.out (own_down HL5.out HO6.out) ?_ rfl
          rw [insTo_end, if_neg (by rw [← HBB2.out]; simp), HIM.out, HIL.out]
        · go_wp2
          go_ret
          refine rbind_done HX.out (HG5.out.trans HE.out) HP.out (own_down HL5.out HOw.out) ?_ rfl
          rw [insTo_end, if_pos HBB2.out.symm, HIL.out]

end Go.Proofs.YtehljfnoicppnaaDoor
