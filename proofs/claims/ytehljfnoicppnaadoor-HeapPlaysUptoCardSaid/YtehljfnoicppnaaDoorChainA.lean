/- Chain: what it answers is the row of all that a term leads to, each in memory of its own. Conditions: the heap is one that the package made, of at most 2^31 values; the term has at most 2^31 cells. -/
import Derived.Test.YtehljfnoicppnaaDoorHeapC
open Go Go.RowKit
set_option linter.unusedVariables false
namespace Go.Proofs.YtehljfnoicppnaaDoor

set_option maxRecDepth 100000 in
set_option maxHeartbeats 1000000 in
theorem chain_calls (v : Value) (L : List Bd) (ok : Ok) (tv : Value) (t : List Cl) (w : World) (h : HeapOr w ok v L) (ht : Sl CL w ok tv t) (hl : t.length ≤ 2147483648) (hL : L.length ≤ 2147483648) :
    Calls Tryd.prog 13 #[v, tv] w fun e w' => (∃ v', e = .returned v' ∧ Own OT 24 w.heap.size w' (fun k => w.heap.size ≤ k) v' (chainS L t)) ∧ Ext w w' := by
  replace h := h.lt
  replace ht := ht.lt
  have ho := h.okL
  have HN := Lib.hid (fun tv t w1 (hE : Ext w w1) (ht : Sl CL w1 (fun k => ok k ∧ k < w.heap.size) tv t) => next_calls v L (fun k => ok k ∧ k < w.heap.size) tv t w1 (h.ext hE) ht)
  have HT := Lib.hid ht
  have HO := Lib.hid ho
  clear h ho
  obtain ⟨A, c, rfl, hc, hr⟩ := ht
  clear hr
  by_cases h0 : t.length = 0
  · have hb : ((t.length : Int) == 0) = true := beq_iff_eq.2 (by omega)
    have hS : chainS L t = [] := by simp [chainS, h0]
    rw [hS]
    obtain rfl : t = [] := List.eq_nil_of_length_eq_zero h0
    clear hS h0 hb
    go_enter Tryd.func13, Tryd.ntmps13
    go_wp2
    go_ret
    exact ⟨⟨_, rfl, Own.nil _ _ _ _ _⟩, Ext.refl _⟩
  · have hb : ((t.length : Int) == 0) = false := beq_eq_false_iff_ne.2 (by omega)
    have hS : chainS L t = chainF L t := by simp [chainS, h0]
    rw [hS]
    clear hS h0
    go_enter Tryd.func13, Tryd.ntmps13
    go_wp2_with (first | (go_at_call 51; refine (cloneT_calls _ _ _ _ HT.out hl).mono ?_; rintro e w1 ⟨⟨u, rfl, hu⟩, hw⟩; obtain ⟨A1, c1, rfl, _, _⟩ := Own.sl hu; have HU := Lib.hid (OwnT.ot hu); have HW := Lib.hid hw; clear hu hw) | (go_at_call 52; refine (HN.out _ _ _ (by repeat (first | with_reducible exact Ext.refl _ | assumption | refine Ext.alloc ?_ _ | refine Ext.drewN ?_ _ | refine Ext.drew ?_ | refine Ext.set ?_ (by simp <;> omega) _ _ | refine Ext.trans ?_ (by assumption))) (HT.out.ext (by repeat (first | with_reducible exact Ext.refl _ | assumption | refine Ext.alloc ?_ _ | refine Ext.drewN ?_ _ | refine Ext.drew ?_ | refine Ext.set ?_ (by simp <;> omega) _ _ | refine Ext.trans ?_ (by assumption))))).mono ?_; rintro e w2 ⟨⟨u2, rfl, hu2⟩, hw2⟩; have HU2 := Lib.hid hu2; have HW2 := Lib.hid hw2; clear hu2 hw2))
    go_loopg [1, 5, 6, 7] (rank L t) (fun g s1 s5 s6 s7 wr => ∃ tc acc, rank L tc ≤ g ∧ Hid (Sl CL wr (fun k => ok k ∧ k < w.heap.size) s1 tc) ∧ Hid (tc.length ≤ 2147483648) ∧ Hid (Own OT 24 w.heap.size wr (fun k => w.heap.size ≤ k) s5 acc) ∧ Hid (Looked wr (fun k => ok k ∧ k < w.heap.size) (nextS L tc) s6 s7) ∧ Hid (chainF L t = acc ++ (match nextS L tc with | none => [] | some u => chainF L u)) ∧ Hid (Ext w wr))
    case atStart =>
      refine ⟨t, [t], Nat.le_refl _, Lib.hid (HT.out.ext (by repeat (first | with_reducible exact Ext.refl _ | assumption | refine Ext.alloc ?_ _ | refine Ext.drewN ?_ _ | refine Ext.drew ?_ | refine Ext.set ?_ (by simp <;> omega) _ _ | refine Ext.trans ?_ (by assumption)))), Lib.hid hl, Lib.hid ?_, Lib.hid (looked_of HU2.out), Lib.hid (chainF_eq HO.out t), Lib.hid (by repeat (first | with_reducible exact Ext.refl _ | assumption | refine Ext.alloc ?_ _ | refine Ext.drewN ?_ _ | refine Ext.drew ?_ | refine Ext.set ?_ (by simp <;> omega) _ _ | refine Ext.trans ?_ (by assumption)))⟩
      exact (Own.lit1 (d := OT) (w := w1) (cs := #[.slice A1 t.length c1]) rfl HW.out.le HU.out (fun k hk _ => hk) HW.out.le).ext HW2.out
    case round =>
      obtain ⟨tc, acc, hr, H1, HTL, HOw, H2, H3, H4⟩ := hrel
      obtain ⟨h21, h22⟩ := H2.out
      clear H2
      subst h21
      cases hn : nextS L tc with
      | none =>
        have h3 := H3.out
        rw [hn, List.append_nil] at h3
        have H5 := Lib.hid h3
        simp only [Option.isSome_none]
        clear hn h22 h3
        go_wp2
        go_ret
        exact ⟨⟨_, rfl, by rw [H5.out]; exact HOw.out⟩, H4.out⟩
      | some q =>
        rw [hn] at h22
        have HQ := Lib.hid h22
        have h3 := H3.out
        rw [hn] at h3
        have hlt := rank_next HO.out hn
        have hql : q.length ≤ 2147483648 := by
          obtain ⟨_, _, _, hg⟩ := nextS_some hn
          have := getL_small HO.out hg
          omega
        have hal : acc.length ≤ 2147483648 := by
          have := congrArg List.length h3
          have h5 := chainF_len L t
          have h6 : 0 < (chainF L q).length := by rw [chainF_eq HO.out]; simp
          simp at this
          omega
        have HQL := Lib.hid hql
        have HAL := Lib.hid hal
        have H5 := Lib.hid h3
        simp only [Option.isSome_some]
        clear hn h22 h3 hql hal
        go_wp2_with (first | (go_at_call 51; refine (cloneT_calls _ _ _ _ HQ.out HQL.out).mono ?_; rintro e w3 ⟨⟨u3, rfl, hu3⟩, hw3⟩; obtain ⟨A3, c3, rfl, _, _⟩ := Own.sl hu3; have HU3 := Lib.hid (OwnT.ot hu3); have HW3 := Lib.hid hw3; clear hu3 hw3) | (at_builtin; refine wpList_append_mine (d := OT) (ok2 := fun k => w.heap.size ≤ k) rfl (.tmp 28) (.tmp 31) 37 24 zTm 24 w.heap.size rfl Tryd.underlying37 info_ot rfl ((HOw.out.ext HW3.out).ext ((Ext.refl _).alloc _)) (Sl.box_at (cs := #[.slice A3 q.length c3]) rfl HU3.out) rfl rfl (fun _ h => h) ?c2 (.inr ?c3) ?c4 (by decide) ?c5 ?_; (case c2 => intro k hk; have := (H4.out.trans HW3.out).le; simp at hk; omega); (case c3 => intro k hk _; have h1 := (H4.out.trans HW3.out).le; have h2 := H4.out.le; have h3 := HW3.out.le; refine ⟨by rcases hk with hk | hk <;> omega, fun he => ?_⟩; have := HOw.out.blk_lt k he; rcases hk with hk | hk <;> omega); (case c4 => have := HAL.out; simp; omega); (case c5 => have := (H4.out.trans HW3.out).le; simp; omega); intro v' w4 hown hg hat; have HOwn := Lib.hid hown; have HG := Lib.hid hg; clear hown hg hat) | fail)
        have HE4 := Lib.hid (((H4.out.trans HW3.out).alloc _).grown HG.out HOw.out.base_le)
        refine (HN.out _ _ _ HE4.out (HQ.out.old H4.out HE4.out)).mono ?_
        rintro e w5 ⟨⟨u5, rfl, hu5⟩, hw5⟩
        have HU5 := Lib.hid hu5
        have HW5 := Lib.hid hw5
        clear hu5 hw5
        go_wp2
        go_roundg (rank L q)
        case measure => omega
        case rel =>
          refine ⟨q, acc ++ [q], Nat.le_refl _, Lib.hid ((HQ.out.old H4.out HE4.out).ext HW5.out), HQL, Lib.hid (HOwn.out.ext HW5.out), Lib.hid (looked_of HU5.out), Lib.hid ?_, Lib.hid (HE4.out.trans HW5.out)⟩
          rw [H5.out, chainF_eq HO.out q, List.append_assoc]
          rfl

end Go.Proofs.YtehljfnoicppnaaDoor
