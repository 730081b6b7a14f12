/- HeapOwn's walk: it answers true. Conditions: fewer than 2^31 bindings, each term of at most 2^31 cells; the list of signs holds what the program lays there. -/
import Derived.Test.YtehljfnoicppnaaDoorOwnA
open Go Go.RowKit
set_option linter.unusedVariables false
namespace Go.Proofs.YtehljfnoicppnaaDoor

set_option maxRecDepth 100000 in
set_option maxHeartbeats 8000000 in
theorem heapOwn_calls (lv : Value) (l : List Bd) (tv : Value) (t : List Cl) (ok okT : Ok) (w : World) (h : Sl BD w ok lv l) (ht : Sl CL w okT tv t) (htl : t.length ≤ 2147483648) (hl : l.length ≤ 2147483647) (hls : ∀ b ∈ l, b.t.length ≤ 2147483648) (hg : Sg w) :
    Calls Tryd.prog 3 #[lv, tv] w fun e w' => e = .returned (.bool true) ∧ Ext w w' := by
  have HT := Lib.hid ht
  have HG := Lib.hid hg
  have HBo := Lib.hid (both_calls lv l ok w h hl hls hg)
  obtain ⟨tA, tc, rfl, _, _⟩ := ht
  obtain ⟨lA, lc, rfl, _, _⟩ := h
  clear hg hls
  obtain ⟨L, hL⟩ : ∃ L, L = bothL l [] := ⟨_, rfl⟩
  have hLl : L.length ≤ 2147483647 := by
    have := bothL_len l []
    rw [hL]
    simp at this
    omega
  have HL := Lib.hid hL
  clear hL
  go_enter Tryd.func3, Tryd.ntmps3
  go_wp2_with fail
  refine HBo.out.mono ?_
  rintro e w1 ⟨p, r, q, rfl, ⟨ok1, _, hH, hR, _⟩, hE1⟩
  rw [← HL.out] at hH hR
  have HH := Lib.hid hH
  have HR := Lib.hid hR
  have HE1 := Lib.hid hE1
  clear hH hR hE1
  go_wp2_with fail
  refine (bindings_calls _ L _ w1 (.inr ⟨p, r, rfl, HH.out⟩) (by omega)).mono ?_
  rintro e w2 ⟨⟨bv, rfl, hb⟩, hE2⟩
  have HE2 := Lib.hid hE2
  have HB := Lib.hid hb
  obtain ⟨bA, bc, rfl, _, hbr⟩ := hb.sl
  have HBR := Lib.hid hbr
  clear hb hE2 hbr
  go_wp2_with fail
  go_loopg [9, 10] L.length (fun g s9 s10 wr => ∃ i : Nat, i ≤ L.length ∧ L.length - i ≤ g ∧ s9 = .int .i64 i ∧ Hid (Wr w1.heap.size w2 wr))
  case atStart => exact ⟨0, Nat.zero_le _, Nat.le_refl _, rfl, Lib.hid (Wr.refl _ _)⟩
  case round =>
    obtain ⟨i, hi, hg, rfl, HW⟩ := hrel
    by_cases hlt : i < L.length
    · obtain ⟨x, hx⟩ : ∃ x, L[i]? = some x := ⟨_, List.getElem?_eq_getElem hlt⟩
      obtain ⟨gb, go, rfl, hgk, _⟩ := HBR.out.some_ (by omega)
      have hnt := HB.out.noTerm (by decide)
      obtain ⟨_, u, hc2, hown⟩ := HBR.out.ob_at hx
      obtain ⟨uA, uc, rfl, huw⟩ := own_writes hown
      obtain ⟨n, hn⟩ : ∃ n, n = x.t.length := ⟨_, rfl⟩
      have hnl : n ≤ 2147483648 := by
        have := HH.out.2.2.small x (List.mem_of_getElem? hx)
        omega
      rw [← hn] at hc2 huw
      have HNT := Lib.hid hnt
      have HC2 := Lib.hid hc2
      have HUW := Lib.hid huw
      clear hx hnt hc2 hown huw hn
      have hc2 := HW.out.cell HNT.out HC2.out
      go_wp2_with fail
      obtain ⟨wo, rfl⟩ : ∃ wo : World, wo = wr := ⟨_, rfl⟩
      have HW0 := HW
      clear HW
      go_loopg [10] n (fun g2 s10 wr => ∃ k : Nat, k ≤ n ∧ n - k ≤ g2 ∧ s10 = .int .i64 k ∧ Hid (Wr w1.heap.size w2 wr))
      case atStart => exact ⟨0, Nat.zero_le _, Nat.le_refl _, rfl, HW0⟩
      case round =>
        obtain ⟨k, hk, hg2, rfl, HW⟩ := hrel
        have hc2 := HW.out.cell HNT.out HC2.out
        by_cases hlt2 : k < n
        · obtain ⟨tb, rfl, htk, hto⟩ := HUW.out (by omega)
          have htw := TbOk.wr hto HW.out
          obtain ⟨⟨v2, hcell⟩, hfz, htl⟩ := htw.cell hlt2
          have HTW := Lib.hid htw
          clear htw hto
          go_wp2_with fail
          go_roundg (n - (k + 1))
          case measure => omega
          case rel => exact ⟨k + 1, by omega, Nat.le_refl _, by go_num, Lib.hid (HW.out.trans (Wr.set HTW.out htk _ _))⟩
        · obtain rfl : k = n := by omega
          go_wp2_with fail
          go_roundg (L.length - (i + 1))
          case measure => omega
          case rel => exact ⟨i + 1, by omega, Nat.le_refl _, by go_num, HW⟩
    · obtain rfl : i = L.length := by omega
      have HE3 : Hid (Ext w1 wr) := Lib.hid (Wr.ext HE2.out HW.out)
      go_wp2_with fail
      refine (chain_calls _ L (fun _ => True) _ t wr (.inr ⟨p, r, rfl, (HH.out.ext HE3.out).imp fun _ _ => trivial⟩) ((HT.out.ext (HE1.out.trans HE3.out)).imp fun _ _ => trivial) htl (by omega)).mono ?_
      rintro e w4 ⟨⟨cv, rfl, hcv⟩, hE4⟩
      have HE4 := Lib.hid hE4
      have HC := Lib.hid hcv
      obtain ⟨cA, cc, rfl, _, hcr⟩ := hcv.sl
      have HCR := Lib.hid hcr
      obtain ⟨C, hC⟩ : ∃ C, C = chainS L t := ⟨_, rfl⟩
      have hCl : C.length ≤ 2147483648 := by
        rw [hC]
        unfold chainS
        split
        · simp
        · have := chainF_len L t
          omega
      rw [← hC] at HC HCR ⊢
      clear hcv hE4 hcr hC
      go_wp2_with fail
      clear HW hlt
      have HCO : Hid (∀ x ∈ C, x.length ≤ maxLen) := Lib.hid (by
        intro x hx
        obtain ⟨j, hj, rfl⟩ := List.getElem_of_mem hx
        obtain ⟨gb, go, hA, _, _⟩ := HCR.out.some_ (by omega)
        subst hA
        obtain ⟨_, u, _, ho⟩ := HCR.out.ot_at (List.getElem?_eq_getElem hj)
        exact ho.sl.len)
      go_loopg [12, 13] (C.length + 1) (fun g s12 s13 wr => ∃ i : Nat, 1 ≤ i ∧ i ≤ C.length + 1 ∧ C.length + 1 - i ≤ g ∧ s12 = .int .i64 i ∧ Hid (Wr w1.heap.size w4 wr))
      case atStart => exact ⟨1, Nat.le_refl _, by omega, by omega, rfl, Lib.hid (Wr.refl _ _)⟩
      case round =>
        obtain ⟨i, hi1, hi, hg, rfl, HW⟩ := hrel
        by_cases hlt : i < C.length
        · obtain ⟨x, hx⟩ : ∃ x, C[i]? = some x := ⟨_, List.getElem?_eq_getElem hlt⟩
          obtain ⟨gb, go, rfl, hgk, _⟩ := HCR.out.some_ (by omega)
          have hnt := HC.out.noTerm (by decide)
          obtain ⟨_, u, hc2, hown⟩ := HCR.out.ot_at hx
          obtain ⟨uA, uc, rfl, huw⟩ := own_writes hown
          obtain ⟨n, hn⟩ : ∃ n, n = x.length := ⟨_, rfl⟩
          have hnl := HCO.out x (List.mem_of_getElem? hx)
          unfold maxLen at hnl
          rw [← hn] at hc2 huw hnl
          have HNT := Lib.hid hnt
          have HC2 := Lib.hid hc2
          have HUW := Lib.hid huw
          clear hx hnt hc2 hown huw hn
          have hc2 := HW.out.cell HNT.out HC2.out
          go_wp2_with fail
          obtain ⟨wo, rfl⟩ : ∃ wo : World, wo = wr := ⟨_, rfl⟩
          have HW0 := HW
          clear HW
          go_loopg [13] n (fun g2 s13 wr => ∃ k : Nat, k ≤ n ∧ n - k ≤ g2 ∧ s13 = .int .i64 k ∧ Hid (Wr w1.heap.size w4 wr))
          case atStart => exact ⟨0, Nat.zero_le _, Nat.le_refl _, rfl, HW0⟩
          case round =>
            obtain ⟨k, hk, hg2, rfl, HW⟩ := hrel
            have hc2 := HW.out.cell HNT.out HC2.out
            by_cases hlt2 : k < n
            · obtain ⟨tb, rfl, htk, hto⟩ := HUW.out (by omega)
              have htk' : w1.heap.size ≤ tb := Nat.le_trans HE3.out.le htk
              have htw := TbOk.wr hto HW.out
              obtain ⟨⟨v2, hcell⟩, hfz, htl⟩ := htw.cell hlt2
              have HTW := Lib.hid htw
              clear htw hto
              go_wp2_with fail
              go_roundg (n - (k + 1))
              case measure => omega
              case rel => exact ⟨k + 1, by omega, Nat.le_refl _, by go_num, Lib.hid (HW.out.trans (Wr.set HTW.out htk' _ _))⟩
            · obtain rfl : k = n := by omega
              go_wp2_with fail
              go_roundg (C.length + 1 - (i + 1))
              case measure => omega
              case rel => exact ⟨i + 1, by omega, by omega, Nat.le_refl _, by go_num, HW⟩
        · have HE5 : Hid (Ext w1 wr) := Lib.hid (Wr.ext (HE3.out.trans HE4.out) HW.out)
          obtain ⟨rv, hr1, hr2⟩ := HR.out
          have hq1 : w1.cell? ⟨q, 0, none⟩ = some rv := cell_of_row w1 q 0 _ _ _ hr1
          have HR2 := Lib.hid hr2
          obtain ⟨rA, rc, rfl, _, hrd⟩ := hr2
          have HRD := Lib.hid hrd
          have HQ1 := Lib.hid hq1
          have hgi : decide ((i : Int) < (C.length : Int)) = false := decide_eq_false (by omega)
          clear hr1 hrd hq1 HW
          go_wp2_with fail
          obtain ⟨w6, rfl⟩ : ∃ w6 : World, w6 = wr := ⟨_, rfl⟩
          go_loopg [14, 15, 16, 17] L.length (fun g s14 s15 s16 s17 wr => ∃ j : Nat, j ≤ L.length ∧ L.length - j ≤ g ∧ s14 = .int .i64 j ∧ Hid (Ext w1 wr))
          case atStart => exact ⟨0, Nat.zero_le _, Nat.le_refl _, rfl, HE5⟩
          case round =>
            obtain ⟨j, hj, hg, rfl, HE⟩ := hrel
            have hq := HE.out.cell HQ1.out
            by_cases hlt3 : j < L.length
            · obtain ⟨⟨⟨x0, x1⟩, xt⟩, hx⟩ : ∃ x, L[j]? = some x := ⟨_, List.getElem?_eq_getElem hlt3⟩
              obtain ⟨gb, go, rfl, _, _⟩ := HRD.out.some_ (by omega)
              obtain ⟨_, _, _, hc0, hc1, _, _, _⟩ := (HRD.out.ext HE.out).bd_at hx
              clear hx
              go_wp2_with fail
              refine (Value_calls _ L _ x0 x1 wr (.inr ⟨p, r, rfl, HH.out.ext HE.out⟩)).mono ?_
              rintro e w7 ⟨⟨v7, rfl, hv7⟩, hE7⟩
              obtain ⟨uA, uc, rfl, huw⟩ := own_writes (own_down (Nat.zero_le _) hv7)
              have hnl := hv7.sl.len
              unfold maxLen at hnl
              obtain ⟨n, hn⟩ : ∃ n, n = ((getL L ⟨x0, x1⟩).getD []).length := ⟨_, rfl⟩
              rw [← hn] at huw hnl ⊢
              have HUW := Lib.hid huw
              have HE7 := Lib.hid (HE.out.trans hE7)
              have hle7 := HE.out.le
              clear huw hv7 hE7 hn
              go_wp2_with fail
              go_loopg [17] n (fun g2 s17 wr => ∃ k : Nat, k ≤ n ∧ n - k ≤ g2 ∧ s17 = .int .i64 k ∧ Hid (Ext w1 wr ∧ Wr w1.heap.size w7 wr))
              case atStart => exact ⟨0, Nat.zero_le _, Nat.le_refl _, rfl, Lib.hid ⟨HE7.out, Wr.refl _ _⟩⟩
              case round =>
                obtain ⟨k, hk, hg2, rfl, HW⟩ := hrel
                by_cases hlt4 : k < n
                · obtain ⟨tb, rfl, htk, hto⟩ := HUW.out (by omega)
                  have htk' : w1.heap.size ≤ tb := Nat.le_trans hle7 htk
                  have htw := TbOk.wr hto HW.out.2
                  obtain ⟨⟨v2, hcell⟩, hfz, htl⟩ := htw.cell hlt4
                  have HTW := Lib.hid htw
                  clear htw hto
                  go_wp2_with fail
                  go_roundg (n - (k + 1))
                  case measure => omega
                  case rel => exact ⟨k + 1, by omega, Nat.le_refl _, by go_num, Lib.hid ⟨HW.out.1.set htk' _ _, HW.out.2.trans (Wr.set HTW.out htk' _ _)⟩⟩
                · obtain rfl : k = n := by omega
                  go_wp2_with fail
                  go_roundg (L.length - (j + 1))
                  case measure => omega
                  case rel => exact ⟨j + 1, by omega, Nat.le_refl _, by go_num, Lib.hid HW.out.1⟩
            · obtain rfl : j = L.length := by omega
              have HQ := Lib.hid hq
              go_wp2_with fail
              go_region_held3 (fun w' => w'.cell? ⟨q, 0, none⟩ = some (.slice rA L.length rc)) (first | exact hq | go_keep)
                (first
                  | (go_at_call 15; refine (live_calls _ (HG.out.ext ((HE1.out.trans HE.out).trans (by repeat (first | with_reducible exact Ext.refl _ | assumption | refine Ext.alloc ?_ _ | refine Ext.drewN ?_ _ | refine Ext.drew ?_ | refine Ext.set ?_ (by simp <;> omega) _ _ | refine Ext.trans ?_ (by assumption)))))).mono ?_; rintro e w8 ⟨rfl, hE8⟩; have HE8 : Hid (Ext w1 w8) := Lib.hid (HE.out.trans (Ext.trans (by repeat (first | with_reducible exact Ext.refl _ | assumption | refine Ext.alloc ?_ _ | refine Ext.drewN ?_ _ | refine Ext.drew ?_ | refine Ext.set ?_ (by simp <;> omega) _ _ | refine Ext.trans ?_ (by assumption))) hE8)); have hq := HE8.out.cell HQ1.out; clear hE8)
                  | (go_at_call 12; refine (bindings_calls _ L _ _ (.inr ⟨p, r, rfl, HH.out.ext (HE8.out.trans (by repeat (first | with_reducible exact Ext.refl _ | assumption | refine Ext.alloc ?_ _ | refine Ext.drewN ?_ _ | refine Ext.drew ?_ | refine Ext.set ?_ (by simp <;> omega) _ _ | refine Ext.trans ?_ (by assumption))))⟩) (by omega)).mono ?_; rintro e w9 ⟨⟨bv9, rfl, hb9⟩, hE9⟩; have HE9 : Hid (Ext w1 w9) := Lib.hid (HE8.out.trans (Ext.trans (by repeat (first | with_reducible exact Ext.refl _ | assumption | refine Ext.alloc ?_ _ | refine Ext.drewN ?_ _ | refine Ext.drew ?_ | refine Ext.set ?_ (by simp <;> omega) _ _ | refine Ext.trans ?_ (by assumption))) hE9)); have hq := HE9.out.cell HQ1.out; have HB9 := Lib.hid (OB.bd hb9.sl); obtain ⟨b9A, b9c, rfl, _, _⟩ := hb9.sl; clear hb9 hE9)
                  | (go_at_call 16; refine (sameBindings_calls _ _ L L _ _ _ (HB9.out.ext (by repeat (first | with_reducible exact Ext.refl _ | assumption | refine Ext.alloc ?_ _ | refine Ext.drewN ?_ _ | refine Ext.drew ?_ | refine Ext.set ?_ (by simp <;> omega) _ _ | refine Ext.trans ?_ (by assumption)))) (HR2.out.ext (HE9.out.trans (by repeat (first | with_reducible exact Ext.refl _ | assumption | refine Ext.alloc ?_ _ | refine Ext.drewN ?_ _ | refine Ext.drew ?_ | refine Ext.set ?_ (by simp <;> omega) _ _ | refine Ext.trans ?_ (by assumption)))))).mono ?_; rintro e w10 ⟨rfl, hE10⟩; rw [show bdsEq L L = true by simp [bdsEq]]; have HE10 : Hid (Ext w1 w10) := Lib.hid (HE9.out.trans (Ext.trans (by repeat (first | with_reducible exact Ext.refl _ | assumption | refine Ext.alloc ?_ _ | refine Ext.drewN ?_ _ | refine Ext.drew ?_ | refine Ext.set ?_ (by simp <;> omega) _ _ | refine Ext.trans ?_ (by assumption))) hE10)); have hq := HE10.out.cell HQ1.out; clear hE10))
              go_wp2
              go_ret
              exact ⟨rfl, HE1.out.trans (by repeat (first | with_reducible exact Ext.refl _ | assumption | refine Ext.alloc ?_ _ | refine Ext.drewN ?_ _ | refine Ext.drew ?_ | refine Ext.set ?_ (by simp <;> omega) _ _ | refine Ext.trans ?_ (by assumption)))⟩

end Go.Proofs.YtehljfnoicppnaaDoor
