/- ReachGarbage: what is dropped as garbage was no part of what is needed, and what is needed stays. Conditions: at most 2^20 bindings and roots; the list of signs holds what the program lays there. -/
import Derived.Test.YtehljfnoicppnaaDoorReachG
import Derived.Test.YtehljfnoicppnaaDoorReachV
import Derived.Test.YtehljfnoicppnaaDoorMapsW
open Go Go.RowKit
set_option linter.unusedVariables false
namespace Go.Proofs.YtehljfnoicppnaaDoor

theorem varsT_le : ∀ (t : List Cl) (acc : List Nm), (varsT acc t).length ≤ acc.length + t.length
  | [], acc => by simp [varsT]
  | c :: t, acc => by
    have h := varsT_le t (addV acc c)
    have h2 : (addV acc c).length ≤ acc.length + 1 := by unfold addV; split <;> simp
    simp only [varsT, List.foldl_cons, List.length_cons] at *
    omega
theorem univ_le {roots : List Nm} : ∀ {L : List Bd}, (∀ b ∈ L, b.t.length ≤ 256) → (univ L roots).length ≤ roots.length + 256 * L.length
  | [], _ => by simp [univ]
  | b :: L, h => by
    have h1 := univ_le (roots := roots) fun b hb => h b (List.mem_cons_of_mem _ hb)
    have h2 := varsT_le b.t []
    have h3 := h b (by simp)
    simp [univ] at *
    omega

set_option maxRecDepth 100000 in
set_option maxHeartbeats 4000000 in
theorem reachGarbage_calls (bv : Value) (l : List Bd) (rv : Value) (roots : List Nm) (okB okR : Ok) (w : World) (hb : Sl BD w okB bv l) (hr : Sl NM w okR rv roots) (hl : l.length ≤ 1048576) (hls : ∀ b ∈ l, b.t.length ≤ 2147483648) (hrl : roots.length ≤ 1048576) (hg : Sg w) :
    Calls Tryd.prog 9 #[bv, rv] w fun e w' => e = .returned (.bool true) ∧ Ext w w' := by
  have HB := Lib.hid hb
  have HR := Lib.hid hr
  have HG := Lib.hid hg
  have HLs := Lib.hid hls
  obtain ⟨bA, bc, rfl, _, _⟩ := hb
  obtain ⟨rA, rc, rfl, _, _⟩ := hr
  clear hg hls
  go_enter Tryd.func9, Tryd.ntmps9
  go_wp2_with fail
  refine (live18_calls w HG.out).mono ?_
  rintro e w1 ⟨rfl, hE1⟩
  have HE1 := Lib.hid hE1
  clear hE1
  go_wp2_with fail
  refine (maps18_calls _ l okB w1 (HB.out.ext HE1.out) (by omega) HLs.out (HG.out.ext HE1.out)).mono ?_
  rintro e w2 ⟨p, r, q, rfl, ⟨ok, hok, hH, _, hp, hr0, _⟩, hE2⟩
  obtain ⟨L, hL⟩ : ∃ L, L = bothL l [] := ⟨_, rfl⟩
  rw [← hL] at hH
  have hLl : L.length ≤ 1048576 := by
    have := bothL_len l []
    rw [← hL] at this
    simp at this
    omega
  have HU : Hid ((univ L roots).length ≤ 2147483647) := Lib.hid (by
    have := univ_le (roots := roots) (L := L) (show OkL L from hH.2.2).small
    omega)
  have HH := Lib.hid hH
  have HE2 := Lib.hid (HE1.out.trans hE2)
  have HR0 := Lib.hid (show w.heap.size ≤ r from Nat.le_trans HE1.out.le hr0)
  clear hok hH hE2 hL hp hr0
  go_wp2_with fail
  refine (needed_calls _ L ok okR _ roots w2 (.inr ⟨p, r, rfl, HH.out⟩) (HR.out.ext HE2.out) HU.out).mono ?_
  rintro e w3 ⟨⟨xv, rfl, hx⟩, hE3⟩
  have HX := Lib.hid hx.sl
  obtain ⟨xA, xc, rfl, _, _⟩ := hx.sl
  obtain ⟨X, hX⟩ : ∃ X, X = neededS L roots := ⟨_, rfl⟩
  rw [← hX] at HX ⊢
  have HXe := Lib.hid hX
  have HE3 := Lib.hid hE3
  clear hx hX hE3
  go_wp2_with fail
  refine (garbage_calls _ L ok okR _ roots w3 (.inr ⟨p, r, rfl, HH.out.ext HE3.out⟩) (HR.out.ext (HE2.out.trans HE3.out)) HU.out (by omega)).mono ?_
  rintro e w4 ⟨⟨gv, rfl, hgo⟩, hE4⟩
  have HGs := Lib.hid hgo.sl
  obtain ⟨gA, gc, rfl, _, hgr⟩ := hgo.sl
  obtain ⟨G, hG⟩ : ∃ G, G = garbageS L roots := ⟨_, rfl⟩
  rw [← hG] at HGs hgr ⊢
  have hGm := hgr.1
  unfold maxLen at hGm
  have HGR := Lib.hid hgr
  have HGe := Lib.hid hG
  have HE4 := Lib.hid (HE3.out.trans hE4)
  have HX4 := Lib.hid (HX.out.ext hE4)
  clear hgo hgr hG hE4
  go_wp2_with fail
  go_loopg [9] G.length (fun g s9 wr => ∃ i : Nat, i ≤ G.length ∧ G.length - i ≤ g ∧ s9 = .int .i64 i ∧ Hid (Ext w4 wr))
  case atStart => exact ⟨0, Nat.zero_le _, Nat.le_refl _, rfl, Lib.hid (Ext.refl _)⟩
  case round =>
    obtain ⟨i, hi, hgg, rfl, HE⟩ := hrel
    by_cases hlt : i < G.length
    · obtain ⟨⟨a, b⟩, hx⟩ : ∃ x, G[i]? = some x := ⟨_, List.getElem?_eq_getElem hlt⟩
      obtain ⟨gb, go, rfl, _, _⟩ := HGR.out.some_ (by omega)
      obtain ⟨_, _, hc0, hc1⟩ := (HGR.out.ext HE.out).nm_at hx
      have hmem : (⟨a, b⟩ : Nm) ∈ garbageS L roots := by rw [← HGe.out]; exact List.mem_of_getElem? hx
      obtain ⟨t, ht⟩ := garb_has hmem
      have hno : hasNm X ⟨a, b⟩ = false := by rw [HXe.out]; exact garb_not hmem
      have HV : Hid (∀ w6, Ext wr w6 → Calls Tryd.prog 14 #[.pointer (some ⟨p, 0, none⟩), .agg #[.int .i64 a, .int .i64 b]] w6 (ValueP w6 (some t))) := Lib.hid fun w6 hE => by
        have h := Value_calls _ L ok a b w6 (.inr ⟨p, r, rfl, HH.out.ext (HE4.out.trans (HE.out.trans hE))⟩)
        rw [ht] at h
        exact h
      have HC : Hid (∀ w6, Ext wr w6 → Calls Tryd.prog 37 #[.slice xA X.length xc, .agg #[.int .i64 a, .int .i64 b]] w6 fun e w' => e = .returned (.bool false) ∧ Ext w6 w') := Lib.hid fun w6 hE => by
        have h := hasName_calls _ X _ a b w6 (HX4.out.ext (HE.out.trans hE))
        rw [hno] at h
        exact h
      clear hx hmem ht hno
      go_wp2_with fail
      refine (HV.out _ (by repeat (first | with_reducible exact Ext.refl _ | assumption | refine Ext.alloc ?_ _ | refine Ext.drewN ?_ _ | refine Ext.drew ?_ | refine Ext.set ?_ (by simp <;> omega) _ _ | refine Ext.trans ?_ (by assumption)))).mono ?_
      rintro e w6 ⟨⟨tv, rfl, _⟩, hE6⟩
      have hd0 := hE6.cell hc0
      have hd1 := hE6.cell hc1
      have HE6 := Lib.hid hE6
      clear hc0 hc1 hE6
      go_wp2_with fail
      refine (HC.out _ HE6.out).mono ?_
      rintro e w7 ⟨rfl, hE7⟩
      have HE7 := Lib.hid (HE.out.trans (HE6.out.trans hE7))
      clear hE7 hd0 hd1
      go_wp2_with fail
      go_roundg (G.length - (i + 1))
      case measure => omega
      case rel => exact ⟨i + 1, by omega, Nat.le_refl _, by go_num, HE7⟩
    · obtain rfl : i = G.length := by omega
      go_wp2_with fail
      refine (drop_calls p r L ok _ _ G wr (HH.out.ext (HE4.out.trans HE.out)) (HGs.out.ext HE.out)).mono ?_
      rintro e w5 ⟨rfl, hB5, hH5⟩
      obtain ⟨es, n, hm⟩ := (HH.out.ext (HE4.out.trans HE.out)).map
      have HX5 := Lib.hid ((HX4.out.ext HE.out).offmap hm fun k h1 h2 => hB5.block k h1 h2)
      have HR5 := Lib.hid ((HR.out.ext (HE2.out.trans (HE4.out.trans HE.out))).offmap hm fun k h1 h2 => hB5.block k h1 h2)
      have hDl := dropL_len L G
      have HE5 := Lib.hid (hB5.ext0 (HE2.out.trans (HE4.out.trans HE.out)) HR0.out)
      obtain ⟨D, hD⟩ : ∃ D, D = dropL L G := ⟨_, rfl⟩
      rw [← hD] at hH5 hDl
      have HDe := Lib.hid (show D = dropL L (garbageS L roots) by rw [hD, HGe.out])
      have HH5 := Lib.hid hH5
      clear hB5 hH5 hm hD
      go_wp2_with fail
      refine (bindings_calls _ D ok w5 (.inr ⟨p, r, rfl, HH5.out⟩) (by omega)).mono ?_
      rintro e w6 ⟨⟨dv, rfl, hdb⟩, hE6⟩
      have HBD := Lib.hid (OB.bd hdb.sl)
      obtain ⟨dA, dc, rfl, _, _⟩ := hdb.sl
      obtain ⟨dA', dc', hbe, _, hbr⟩ := HBD.out
      injection hbe with hb1 _ hb3
      subst hb1 hb3
      have hbm := hbr.1
      unfold maxLen at hbm
      have HBR := Lib.hid hbr
      have HE6 := Lib.hid hE6
      clear hdb hbr hE6
      go_wp2_with fail
      obtain ⟨w8, rfl⟩ : ∃ w8 : World, w8 = w6 := ⟨_, rfl⟩
      go_loopg [13] D.length (fun g s13 wr => ∃ i : Nat, i ≤ D.length ∧ D.length - i ≤ g ∧ s13 = .int .i64 i ∧ Hid (Ext w8 wr))
      case atStart => exact ⟨0, Nat.zero_le _, Nat.le_refl _, rfl, Lib.hid (Ext.refl _)⟩
      case round =>
        obtain ⟨i2, hi2, hg2, rfl, HEd⟩ := hrel
        by_cases hlt2 : i2 < D.length
        · obtain ⟨⟨⟨a, b⟩, t⟩, hx⟩ : ∃ x, D[i2]? = some x := ⟨_, List.getElem?_eq_getElem hlt2⟩
          obtain ⟨lb, lo, rfl, _, _⟩ := HBR.out.some_ (by omega)
          obtain ⟨_, _, _, hc0, hc1, _⟩ := (HBR.out.ext HEd.out).bd_at hx
          have hyes : hasNm X ⟨a, b⟩ = true := by
            have hm := List.mem_of_getElem? hx
            rw [HDe.out] at hm
            rw [HXe.out]
            exact decide_eq_true (needed_mem.2 (garb_rest hm))
          have HC : Hid (∀ w9, Ext wr w9 → Calls Tryd.prog 37 #[.slice xA X.length xc, .agg #[.int .i64 a, .int .i64 b]] w9 fun e w' => e = .returned (.bool true) ∧ Ext w9 w') := Lib.hid fun w9 hE => by
            have h := hasName_calls _ X _ a b w9 (HX5.out.ext (HE6.out.trans (HEd.out.trans hE)))
            rw [hyes] at h
            exact h
          clear hx hyes
          go_wp2_with fail
          refine (HC.out _ (by repeat (first | with_reducible exact Ext.refl _ | assumption | refine Ext.alloc ?_ _ | refine Ext.drewN ?_ _ | refine Ext.drew ?_ | refine Ext.set ?_ (by simp <;> omega) _ _ | refine Ext.trans ?_ (by assumption)))).mono ?_
          rintro e w9 ⟨rfl, hE9⟩
          have HE9 : Hid (Ext w8 w9) := Lib.hid (HEd.out.trans (Ext.trans (by repeat (first | with_reducible exact Ext.refl _ | assumption | refine Ext.alloc ?_ _ | refine Ext.drewN ?_ _ | refine Ext.drew ?_ | refine Ext.set ?_ (by simp <;> omega) _ _ | refine Ext.trans ?_ (by assumption))) hE9))
          clear hE9
          go_wp2_with fail
          go_roundg (D.length - (i2 + 1))
          case measure => omega
          case rel => exact ⟨i2 + 1, by omega, Nat.le_refl _, by go_num, HE9⟩
        · obtain rfl : i2 = D.length := by omega
          have HUD : Hid ((univ D roots).length ≤ 2147483647) := Lib.hid (by
            have := univ_le (roots := roots) (L := D) (show OkL D from HH5.out.2.2).small
            omega)
          have HEw := Lib.hid (HE6.out.trans HEd.out)
          go_wp2_with fail
          refine (needed_calls _ D ok _ _ roots wr (.inr ⟨p, r, rfl, HH5.out.ext HEw.out⟩) (HR5.out.ext HEw.out) HUD.out).mono ?_
          rintro e wA ⟨⟨yv, rfl, hy⟩, hEA⟩
          rw [show neededS D roots = X by rw [HDe.out, HXe.out, garb_needed]] at hy
          have HY := Lib.hid hy.sl
          obtain ⟨yA, yc, rfl, _, _⟩ := hy.sl
          have HEA := Lib.hid (HEw.out.trans hEA)
          clear hy hEA
          go_wp2_with fail
          refine (sameNames_calls _ _ X X _ _ wA HY.out (HX5.out.ext HEA.out)).mono ?_
          rintro e wB ⟨rfl, hEB⟩
          rw [show nmsEq X X = true by simp [nmsEq]]
          have HEB := Lib.hid (HEA.out.trans hEB)
          clear hEB
          go_wp2_with fail
          refine (garbage_calls _ D ok _ _ roots wB (.inr ⟨p, r, rfl, HH5.out.ext HEB.out⟩) (HR5.out.ext HEB.out) HUD.out (by omega)).mono ?_
          rintro e wC ⟨⟨g2v, rfl, hg2o⟩, hEC⟩
          rw [show garbageS D roots = [] by rw [HDe.out, garb_none]] at hg2o
          obtain ⟨g2A, g2c, rfl, _, _⟩ := hg2o.sl
          have HEC := Lib.hid (HE5.out.trans (HEB.out.trans hEC))
          clear hg2o hEC
          go_wp2_with fail
          go_ret
          exact ⟨rfl, HEC.out⟩

end Go.Proofs.YtehljfnoicppnaaDoor
