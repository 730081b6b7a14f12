/- The reference's Value, Chain, Deref and SameTerms, each by its contract. Conditions: the heap is one of the reference's whose values may be; at most 2^31 values; the term has at most 2^31 cells. -/
import Derived.Test.YtehljfnoicppnaaDoorRefH
import Derived.Test.YtehljfnoicppnaaDoorRefF
import Derived.Test.YtehljfnoicppnaaDoorHeapC
open Go Go.RowKit
set_option linter.unusedVariables false
namespace Go.Proofs.YtehljfnoicppnaaDoor

theorem RefAt.qlt {w : World} {ok : Ok} {q : Nat} {L : List Bd} (h : RefAt w ok q L) : q < w.heap.size := by
  obtain ⟨v, h1, _⟩ := h
  exact (Array.getElem?_eq_some_iff.1 h1).1
/-- A heap of the reference, with what it reads where. -/
theorem RefAt.old {w w1 w2 : World} {ok : Ok} {q : Nat} {L : List Bd} (h : RefAt w1 (fun k => ok k ∧ k < w.heap.size) q L) (hq : q < w.heap.size) (h1 : Ext w w1) (h2 : Ext w w2) : RefAt w2 (fun k => ok k ∧ k < w.heap.size) q L :=
  h.move ((h2.block q hq).trans (h1.block q hq).symm) fun k hk _ => ⟨hk, (h2.block k hk.2).trans (h1.block k hk.2).symm⟩

theorem place_at {L : List Bd} {v : Nm} {r : Int} {t : List Cl} (h : PlaceP L v r) (hg : getL L v = some t) : ∃ i : Nat, r = i ∧ L[i]? = some ⟨v, t⟩ := by
  rcases h with ⟨i, rfl, u, hx, hu⟩ | ⟨_, h⟩
  · rw [hg] at hu
    injection hu with hu
    subst hu
    exact ⟨i, rfl, hx⟩
  · rw [hg] at h; cases h

set_option maxRecDepth 100000 in
set_option maxHeartbeats 1000000 in
theorem refValue_calls (q : Nat) (L : List Bd) (ok : Ok) (a b : Int) (w : World) (h : RefAt w ok q L) :
    Calls Tryd.prog 20 #[.pointer (some ⟨q, 0, none⟩), .agg #[.int .i64 a, .int .i64 b]] w (LookP w w ok (getL L ⟨a, b⟩)) := by
  have HPl := Lib.hid (fun w1 (hE : Ext w w1) => refPlace_calls q L ok a b w1 (h.ext hE))
  obtain ⟨v, h1, h2⟩ := h
  have hq : w.cell? ⟨q, 0, none⟩ = some v := cell_of_row w q 0 _ _ _ h1
  have hql : q < w.heap.size := World.block_lt_of_cell? w _ hq
  obtain ⟨A, c, rfl, _, hr⟩ := h2
  have hm := hr.1
  unfold maxLen at hm
  have HD := Lib.hid hr
  clear hr h1
  cases hg : getL L ⟨a, b⟩ with
  | none =>
    have HGL := Lib.hid hg
    clear hg
    go_enter Tryd.func20, Tryd.ntmps20
    go_wp2_with fail
    refine (HPl.out _ (by repeat (first | with_reducible exact Ext.refl _ | assumption | refine Ext.alloc ?_ _ | refine Ext.drewN ?_ _ | refine Ext.drew ?_ | refine Ext.set ?_ (by simp <;> omega) _ _ | refine Ext.trans ?_ (by assumption)))).mono ?_
    rintro e w3 ⟨⟨r, rfl, hr⟩, hw⟩
    obtain rfl := place_none hr HGL.out
    have HW3 := Lib.hid hw
    clear hw hr
    go_wp2
    go_ret2
    exact ⟨⟨_, rfl, rfl⟩, (by repeat (first | with_reducible exact Ext.refl _ | assumption | refine Ext.alloc ?_ _ | refine Ext.drewN ?_ _ | refine Ext.drew ?_ | refine Ext.set ?_ (by simp <;> omega) _ _ | refine Ext.trans ?_ (by assumption)))⟩
  | some t =>
    have HGL := Lib.hid hg
    clear hg
    go_enter Tryd.func20, Tryd.ntmps20
    go_wp2_with fail
    refine (HPl.out _ (by repeat (first | with_reducible exact Ext.refl _ | assumption | refine Ext.alloc ?_ _ | refine Ext.drewN ?_ _ | refine Ext.drew ?_ | refine Ext.set ?_ (by simp <;> omega) _ _ | refine Ext.trans ?_ (by assumption)))).mono ?_
    rintro e w3 ⟨⟨r, rfl, hr⟩, hw⟩
    obtain ⟨i, rfl, hx⟩ := place_at hr HGL.out
    have hil : i < L.length := (List.getElem?_eq_some_iff.1 hx).1
    obtain ⟨gb, go, rfl, _, _⟩ := HD.out.some_ (by omega)
    have hE3 : Ext w w3 := Ext.trans ((Ext.refl _).alloc _) hw
    obtain ⟨_, _, _, hc0, hc1, u, hc2, hu⟩ := (HD.out.ext hE3).bd_at hx
    have hq3 := hE3.cell hq
    have HU := Lib.hid hu
    have HE3 := Lib.hid hE3
    clear hw hr hx hu hE3 hc0 hc1
    go_wp2
    go_ret2
    exact ⟨⟨_, rfl, HU.out.imp fun k hk => hk.1⟩, HE3.out⟩

/-- A row of terms that can be read. -/
theorem info_tm : (Tryd.prog.info? 24).map (fun i => (i.zero, i.size, i.bytes)) = some (some zTm, TM.sz, 24) := by kernel_rfl

theorem chain_apart {P : Ok} {v : Value} {n0 nr n1 N : Nat} (hb : ∀ k, v.ownBlock = some k → n0 ≤ k) (hl : ∀ k, v.ownBlock = some k → k < nr) (h1 : n0 ≤ n1) (h2 : nr ≤ n1) (h3 : n0 ≤ nr) :
    ∀ k, ((P k ∧ k < n0) ∨ k = n1) → k < N → ((P k ∧ k < n0) ∨ n0 ≤ k) ∧ v.ownBlock ≠ some k := by
  rintro k (hk | hk) _
  · exact ⟨.inl hk, fun he => by have := hb k he; omega⟩
  · exact ⟨.inr (by omega), fun he => by have := hl k he; omega⟩

set_option maxRecDepth 100000 in
set_option maxHeartbeats 1000000 in
theorem refChain_calls (q : Nat) (L : List Bd) (ok : Ok) (tv : Value) (t : List Cl) (w : World) (h : RefAt w ok q L) (ho : OkL L) (ht : Sl CL w ok tv t) (hL : L.length ≤ 2147483647) :
    Calls Tryd.prog 23 #[.pointer (some ⟨q, 0, none⟩), tv] w fun e w' => (∃ v', e = .returned v' ∧ Sl TM w' (fun k => ok k ∨ w.heap.size ≤ k) v' (chainS L t)) ∧ Ext w w' := by
  have hql := RefAt.qlt h
  replace h := h.lt
  replace ht := ht.lt
  have HV := Lib.hid (fun a b w1 (hE : Ext w w1) => refValue_calls q L (fun k => ok k ∧ k < w.heap.size) a b w1 (h.ext hE))
  have HT := Lib.hid ht
  have HO := Lib.hid ho
  clear h ho
  obtain ⟨A, c, rfl, hc, hr⟩ := ht
  clear hr
  by_cases h0 : t.length = 0
  · have hb : ((t.length : Int) == 0) = true := beq_iff_eq.2 (by omega)
    have hS : chainS L t = [] := by simp [chainS, h0]
    rw [hS]
    obtain rfl : t = [] := List.eq_nil_of_length_eq_zero h0
    clear hS h0 hb
    go_enter Tryd.func23, Tryd.ntmps23
    go_wp2
    go_ret
    exact ⟨⟨_, rfl, Sl.nil _ _ _⟩, Ext.refl _⟩
  · have hb : ((t.length : Int) == 0) = false := beq_eq_false_iff_ne.2 (by omega)
    have hS : chainS L t = chainF L t := by simp [chainS, h0]
    rw [hS]
    clear hS h0
    go_enter Tryd.func23, Tryd.ntmps23
    go_wp2_with fail
    go_loopg [1, 5] (rank L t) (fun g s1 s5 wr => ∃ tc acc, rank L tc ≤ g ∧ Hid (Sl CL wr (fun k => ok k ∧ k < w.heap.size) s1 tc) ∧ Hid (Own TM 24 w.heap.size wr (fun k => (ok k ∧ k < w.heap.size) ∨ w.heap.size ≤ k) s5 acc) ∧ Hid (chainF L t = acc ++ (match nextS L tc with | none => [] | some u => chainF L u)) ∧ Hid (Ext w wr))
    case atStart =>
      refine ⟨t, [t], Nat.le_refl _, Lib.hid (HT.out.ext (by repeat (first | with_reducible exact Ext.refl _ | assumption | refine Ext.alloc ?_ _ | refine Ext.drewN ?_ _ | refine Ext.drew ?_ | refine Ext.set ?_ (by simp <;> omega) _ _ | refine Ext.trans ?_ (by assumption)))), Lib.hid ?_, Lib.hid (chainF_eq HO.out t), Lib.hid (by repeat (first | with_reducible exact Ext.refl _ | assumption | refine Ext.alloc ?_ _ | refine Ext.drewN ?_ _ | refine Ext.drew ?_ | refine Ext.set ?_ (by simp <;> omega) _ _ | refine Ext.trans ?_ (by assumption)))⟩
      exact Own.lit1 (d := TM) (w := w) (ok := fun k => ok k ∧ k < w.heap.size) (cs := #[.slice A t.length c]) rfl (Nat.le_refl _) ⟨_, rfl, HT.out⟩ (fun k hk _ => .inl hk) (.inr (Nat.le_refl _))
    case round =>
      obtain ⟨tc, acc, hr, H1, HOw, H3, H4⟩ := hrel
      have h1 := H1.out
      obtain ⟨tA, tcap, rfl, htc, htr⟩ := h1
      have HTR := Lib.hid htr
      have hal : acc.length ≤ 2147483648 := by
        have := congrArg List.length H3.out
        have h5 := chainF_len L t
        simp at this
        omega
      have HAL := Lib.hid hal
      obtain ⟨aA, ac, rfl, _, _⟩ := HOw.out.sl
      clear hal htr
      cases hn : nextS L tc with
      | none =>
        have h3 := H3.out
        rw [hn, List.append_nil] at h3
        have H5 := Lib.hid h3
        have HN := Lib.hid hn
        clear hn h3
        have hfin : ∀ w', Ext wr w' → (∃ v', Ending.returned (Value.slice aA acc.length ac) = .returned v' ∧ Sl TM w' (fun k => ok k ∨ w.heap.size ≤ k) v' (chainF L t)) ∧ Ext w w' := fun w' hE => ⟨⟨_, rfl, by rw [H5.out]; exact (HOw.out.sl.ext hE).imp fun k hk => hk.elim (fun h => .inl h.1) .inr⟩, H4.out.trans hE⟩
        have HF := Lib.hid hfin
        clear hfin
        by_cases hl1 : tc.length = 1
        · obtain ⟨x, rfl⟩ := List.length_eq_one_iff.1 hl1
          obtain ⟨⟨x0, x1, x2, ⟨x3, x4⟩⟩, rfl⟩ : ∃ y, x = y := ⟨x, rfl⟩
          obtain ⟨b, o, rfl, _, _⟩ := HTR.out.some_ (by simp)
          obtain ⟨_, _, hxo, hc0, hc1, hc2, hc3, hc4⟩ := Sl.cl_at (n := 0) (c := 0) (j := 0) HTR.out rfl
          simp only [Nat.zero_mul, Nat.add_zero] at hc0 hc1 hc2 hc3 hc4
          clear hxo hl1
          by_cases hk : x0 = 4
          · subst hk
            have HGN : Hid (getL L ⟨x3, x4⟩ = none) := Lib.hid (by have := HN.out; simpa [nextS] using this)
            go_wp2_with (go_at_call 20; refine (HV.out _ _ _ H4.out).mono ?_; rintro e w1 ⟨⟨u, rfl, hu⟩, hw⟩; rw [HGN.out]; have HW := Lib.hid hw; clear hu hw)
            go_ret
            exact HF.out _ HW.out
          · have hkb : (x0 == 4) = false := beq_eq_false_iff_ne.2 hk
            clear hk
            go_wp2
            go_ret
            exact HF.out _ (Ext.refl _)
        · have hlb : ((tc.length : Int) == 1) = false := beq_eq_false_iff_ne.2 (by omega)
          clear hl1
          go_wp2
          go_ret
          exact HF.out _ (Ext.refl _)
      | some u =>
        have h3 := H3.out
        rw [hn] at h3
        have H5 := Lib.hid h3
        have hlt := rank_next HO.out hn
        obtain ⟨⟨x0, x1, x2, ⟨x3, x4⟩⟩, rfl, hk, hg⟩ := nextS_some hn
        have hk : x0 = 4 := hk
        subst hk
        have HGS := Lib.hid (show getL L ⟨x3, x4⟩ = some u from hg)
        obtain ⟨b, o, rfl, _, _⟩ := HTR.out.some_ (by simp)
        obtain ⟨_, _, hxo, hc0, hc1, hc2, hc3, hc4⟩ := Sl.cl_at (n := 0) (c := 0) (j := 0) HTR.out rfl
        simp only [Nat.zero_mul, Nat.add_zero] at hc0 hc1 hc2 hc3 hc4
        have HN := Lib.hid hn
        clear hxo hn h3 hg
        go_wp2_with fail
        refine (HV.out _ _ _ H4.out).mono ?_
        rintro e w1 ⟨⟨uv, rfl, hu⟩, hw⟩
        rw [HGS.out] at hu ⊢
        have HU := Lib.hid hu
        obtain ⟨uA, uc, rfl, _, _⟩ := hu
        have HW := Lib.hid hw
        clear hw
        go_wp2_with (at_builtin; go_loud (refine wpList_append_mine (d := TM) (okS := fun k => (ok k ∧ k < w.heap.size) ∨ k = w1.heap.size) (ok2 := fun k => (ok k ∧ k < w.heap.size) ∨ w.heap.size ≤ k) rfl (.tmp 35) (.tmp 37) 37 24 zTm 24 w.heap.size rfl Tryd.underlying37 info_tm rfl ((HOw.out.ext HW.out).ext ((Ext.refl _).alloc _)) (Sl.box (d := TM) (cs := #[.slice uA u.length uc]) ⟨_, rfl, HU.out⟩) rfl rfl (fun _ h => h) ?c2 (.inr ?c3) ?c4 (by decide) ?c5 ?_); (case c2 => intro k hk; have := (H4.out.trans HW.out).le; simp at hk; omega); (case c3 => exact chain_apart HOw.out.base_le HOw.out.blk_lt (H4.out.trans HW.out).le HW.out.le H4.out.le); (case c4 => have := HAL.out; simp; omega); (case c5 => have := (H4.out.trans HW.out).le; simp; omega); intro v' w4 hown hg hat; have HOwn := Lib.hid hown; have HE4 := Lib.hid (((H4.out.trans HW.out).alloc _).grown hg HOw.out.base_le); clear hown hg hat)
        go_roundg (rank L u)
        case measure => omega
        case rel =>
          refine ⟨u, acc ++ [u], Nat.le_refl _, Lib.hid (HU.out.old (H4.out.trans HW.out) HE4.out), HOwn, Lib.hid ?_, HE4⟩
          rw [H5.out, chainF_eq HO.out u, List.append_assoc]
          rfl

theorem chainN_last {L : List Bd} : ∀ (n : Nat) (t : List Cl), (chainN n L t).getLast? = some (followN n L t)
  | 0, t => rfl
  | n + 1, t => by
    simp only [chainN, followN]
    cases nextS L t with
    | none => rfl
    | some u =>
      have h := chainN_last (L := L) n u
      show (t :: chainN n L u).getLast? = some (followN n L u)
      cases hc : chainN n L u with
      | nil => rw [hc] at h; cases h
      | cons x l =>
        rw [hc] at h
        rw [List.getLast?_cons_cons]
        exact h
theorem chainF_last (L : List Bd) (t : List Cl) : (chainF L t)[(chainF L t).length - 1]? = some (followS L t) := by
  have h := chainN_last (L := L) L.length t
  rw [List.getLast?_eq_getElem?] at h
  exact h
theorem followS_empty (L : List Bd) : followS L [] = [] := followS_none rfl

set_option maxRecDepth 100000 in
set_option maxHeartbeats 1000000 in
theorem refDeref_calls (q : Nat) (L : List Bd) (ok : Ok) (tv : Value) (t : List Cl) (w : World) (h : RefAt w ok q L) (ho : OkL L) (ht : Sl CL w ok tv t) (hL : L.length ≤ 2147483647) :
    Calls Tryd.prog 25 #[.pointer (some ⟨q, 0, none⟩), tv] w fun e w' => (∃ v', e = .returned v' ∧ Sl CL w' (fun k => ok k ∨ w.heap.size ≤ k) v' (followS L t)) ∧ Ext w w' := by
  have HC := Lib.hid (refChain_calls q L ok tv t w h ho ht hL)
  clear h ho ht
  by_cases h0 : t.length = 0
  · obtain rfl : t = [] := List.eq_nil_of_length_eq_zero h0
    have hS : chainS L [] = [] := rfl
    have HF := Lib.hid (followS_empty L)
    have HC2 := Lib.hid (hS ▸ HC.out)
    clear hS h0
    go_enter Tryd.func25, Tryd.ntmps25
    go_wp2_with (go_at_call 23; refine HC.out.mono ?_; rintro e w1 ⟨⟨v', rfl, hv⟩, hw⟩; obtain ⟨A1, c1, rfl, _, _⟩ := hv; have HW := Lib.hid hw; clear hw)
    go_ret
    exact ⟨⟨_, rfl, by rw [HF.out]; exact Sl.nil _ _ _⟩, HW.out⟩
  · have hS : chainS L t = chainF L t := by simp [chainS, h0]
    obtain ⟨C, hC⟩ : ∃ C, C = chainF L t := ⟨_, rfl⟩
    have hlast := chainF_last L t
    have hpos : 0 < C.length := by rw [hC]; have := (List.getElem?_eq_some_iff.1 hlast).1; omega
    rw [← hC] at hS hlast
    rw [hS] at HC
    have HL := Lib.hid hlast
    obtain ⟨n, hn⟩ : ∃ n, C.length = n + 1 := ⟨C.length - 1, by omega⟩
    have hcb : ((n : Int) + 1 == 0) = false := beq_eq_false_iff_ne.2 (by omega)
    have HN := Lib.hid hn
    clear hS h0 hC hlast hn
    go_enter Tryd.func25, Tryd.ntmps25
    go_wp2_with (go_at_call 23; refine HC.out.mono ?_; rintro e w1 ⟨⟨v', rfl, hv⟩, hw⟩; obtain ⟨A1, c1, rfl, hcc, hrd⟩ := hv; have hm := hrd.1; unfold maxLen at hm; obtain ⟨gb, go, rfl, _, _⟩ := hrd.some_ hpos; obtain ⟨_, u, hu, hut⟩ := TM.at_ hrd HL.out; rw [show C.length - 1 = n by have := HN.out; omega] at hu; rw [HN.out] at hm hcc hpos ⊢; have HU := Lib.hid hut; have HW := Lib.hid hw; clear hw hrd hut)
    go_ret
    exact ⟨⟨_, rfl, HU.out⟩, HW.out⟩

set_option maxRecDepth 100000 in
set_option maxHeartbeats 1000000 in
theorem sameTerms_calls (v1 v2 : Value) (l m : List (List Cl)) (ok1 ok2 : Ok) (w : World) (h1 : Sl TM w ok1 v1 l) (h2 : Sl TM w ok2 v2 m) :
    Calls Tryd.prog 22 #[v1, v2] w fun e w' => e = .returned (.bool (decide (l = m))) ∧ Ext w w' := by
  obtain ⟨A1, c1, rfl, _, hr1⟩ := h1
  obtain ⟨A2, c2, rfl, _, hr2⟩ := h2
  have hm := hr1.1
  unfold maxLen at hm
  have HR1 := Lib.hid hr1
  have HR2 := Lib.hid hr2
  clear hr1 hr2
  obtain ⟨z, hz⟩ : ∃ z, z = decide (l = m) := ⟨_, rfl⟩
  rw [← hz]
  have HZ := Lib.hid hz
  clear hz
  by_cases hl : l.length = m.length
  · have g : ((l.length : Int) != (m.length : Int)) = false := by simp [hl]
    have HL := Lib.hid hl
    go_enter Tryd.func22, Tryd.ntmps22
    go_wp2
    clear g hl
    go_loopw [5] (fun s wr => ∃ i : Nat, i ≤ l.length ∧ s = .int .i64 i ∧ Hid (l.take i = m.take i) ∧ Hid (Ext w wr)) (fun s _ => l.length - (intOf s).toNat)
    case atStart => exact ⟨0, Nat.zero_le _, rfl, Lib.hid rfl, Lib.hid (Ext.refl _)⟩
    case round =>
      obtain ⟨i, hi, rfl, HTK, HE⟩ := hrel
      by_cases hlt : i < l.length
      · obtain ⟨xt, hx⟩ : ∃ x, l[i]? = some x := ⟨_, List.getElem?_eq_getElem hlt⟩
        obtain ⟨yt, hy⟩ : ∃ y, m[i]? = some y := ⟨_, List.getElem?_eq_getElem (by rw [← HL.out]; exact hlt)⟩
        obtain ⟨b1, o1, rfl, _, _⟩ := HR1.out.some_ (by omega)
        obtain ⟨b2, o2, rfl, _, _⟩ := HR2.out.some_ (by have := HL.out; omega)
        obtain ⟨_, u1, hc2, hu1⟩ := TM.at_ (HR1.out.ext HE.out) hx
        obtain ⟨_, u2, hd2, hu2⟩ := TM.at_ (HR2.out.ext HE.out) hy
        have hlt2 : i < m.length := by rw [← HL.out]; exact hlt
        have HX := Lib.hid hx
        have HY := Lib.hid hy
        have HLT := Lib.hid hlt
        have HC := Lib.hid (fun n => equalQ_calls u1 u2 xt yt _ _ (wr.drewN n) (hu1.ext ((Ext.refl _).drewN n)) (hu2.ext ((Ext.refl _).drewN n)))
        clear hx hy hu1 hu2
        cases ht : tmEq xt yt
        · have hne : z = false := by
            rw [HZ.out]
            refine decide_eq_false fun h => ?_
            have h1 := HX.out
            rw [h, HY.out] at h1
            injection h1 with h1
            rw [h1] at ht
            simp [tmEq] at ht
          have HF := Lib.hid hne
          have HC2 := Lib.hid (fun n => (HC.out n).mono (fun e w' h => (⟨by rw [h.1, ht], h.2⟩ : e = .returned (.bool false) ∧ ∃ m, w' = (wr.drewN n).drewN m)))
          clear hne ht
          go_wp2
          go_quiet ((go_at_call 19; exact Calls.quiet_of (HC2.out _)))
          go_wp2
          go_ret
          exact ⟨ret_bool HF.out.symm, HE.out.drewN _⟩
        · have hyes : xt = yt := by simpa [tmEq] using ht
          have HTN := Lib.hid (take_eq_more HTK.out HX.out HY.out hyes)
          have HC2 := Lib.hid (fun n => (HC.out n).mono (fun e w' h => (⟨by rw [h.1, ht], h.2⟩ : e = .returned (.bool true) ∧ ∃ m, w' = (wr.drewN n).drewN m)))
          clear hyes ht
          go_wp2
          go_quiet ((go_at_call 19; exact Calls.quiet_of (HC2.out _)))
          go_wp2
          exact ⟨⟨i + 1, by omega, by go_num, HTN, Lib.hid (HE.out.drewN _)⟩, by simp [intOf]; omega⟩
      · obtain rfl : i = l.length := by omega
        have hyes : z = true := by
          have h1 := HTK.out
          rw [List.take_length, HL.out, List.take_length] at h1
          rw [HZ.out]
          exact decide_eq_true h1
        have HY := Lib.hid hyes
        clear hyes
        go_wp2
        go_ret
        exact ⟨ret_bool HY.out.symm, HE.out⟩
  · have g : ((l.length : Int) != (m.length : Int)) = true := by simp; omega
    have hno : z = false := by rw [HZ.out]; exact decide_eq_false fun h => hl (by rw [h])
    have HN := Lib.hid hno
    clear hno hl
    go_enter Tryd.func22, Tryd.ntmps22
    go_wp2
    go_ret
    exact ⟨ret_bool HN.out.symm, Ext.refl _⟩

end Go.Proofs.YtehljfnoicppnaaDoor
