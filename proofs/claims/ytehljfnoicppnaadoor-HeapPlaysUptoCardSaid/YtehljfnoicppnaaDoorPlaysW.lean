/- HeapPlays' walk: it answers true. Conditions: fewer than 2^31 bindings, each term of at most 2^31 cells; the list of signs holds what the program lays there. -/
import Derived.Test.YtehljfnoicppnaaDoorBothB
import Derived.Test.YtehljfnoicppnaaDoorRefK
import Derived.Test.YtehljfnoicppnaaDoorDropA
import Derived.Test.YtehljfnoicppnaaDoorForkA
import Derived.Test.YtehljfnoicppnaaDoorChainA
import Derived.Deep.DeepCutAuto
open Go Go.RowKit
set_option linter.unusedVariables false
namespace Go.Proofs.YtehljfnoicppnaaDoor

theorem HeapAt.offmap {w w' : World} {ok : Ok} {p r r0 : Nat} {es : Array MapEntry} {n : Nat} {L : List Bd} (h : HeapAt w ok p r L) (hm : w.heap[r0]? = some (.map es n)) (hr : r ≠ r0) (hk : ∀ k, k < w.heap.size → k ≠ r0 → w'.heap[k]? = w.heap[k]?) : HeapAt w' ok p r L := by
  have hp := h.p_lt
  have hrl := h.r_lt
  obtain ⟨h1, ⟨es', c, h2, h3, hb⟩, h4⟩ := h
  refine ⟨(hk p hp (fun e => ?_)).trans h1, ⟨es', c, (hk r hrl hr).trans h2, h3.imp fun _ _ hs => hs.offmap hm hk, hb⟩, h4⟩
  rw [e, hm] at h1
  cases h1

set_option maxRecDepth 100000 in
set_option maxHeartbeats 8000000 in
theorem heapPlays_calls (lv : Value) (l : List Bd) (a b : Int) (tv dv : Value) (t : List Cl) (ns : List Nm) (ok0 okT okD : Ok) (w : World) (h : Sl BD w ok0 lv l) (ha : NmOk ⟨a, b⟩) (ht : Sl CL w okT tv t) (hd : Sl NM w okD dv ns) (htl : t.length ≤ 2147483648) (hl : l.length ≤ 2147483646) (hls : ∀ b ∈ l, b.t.length ≤ 2147483648) (hg : Sg w) :
    Calls Tryd.prog 5 #[lv, .agg #[.int .i64 a, .int .i64 b], .agg #[tv, dv]] w fun e w' => e = .returned (.bool true) ∧ Ext w w' := by
  have HT := Lib.hid ht
  have HDr := Lib.hid hd
  have HG := Lib.hid hg
  have HBo := Lib.hid (fun w1 (hE : Ext w w1) => both_calls lv l ok0 w1 (h.ext hE) (by omega) hls (hg.ext hE))
  obtain ⟨tA, tc, rfl, _, _⟩ := ht
  obtain ⟨dA, dc, rfl, _, _⟩ := hd
  obtain ⟨lA, lc, rfl, _, _⟩ := h
  clear hg hls
  obtain ⟨L, hL⟩ : ∃ L, L = bothL l [] := ⟨_, rfl⟩
  have hLl : L.length ≤ 2147483646 := by
    have := bothL_len l []
    rw [hL]
    simp at this
    omega
  have HL := Lib.hid hL
  clear hL
  obtain ⟨X, hX⟩ : ∃ X, X = (getL L ⟨a, b⟩).getD [] := ⟨_, rfl⟩
  obtain ⟨zs, hzs⟩ : ∃ zs, zs = (getL L ⟨a, b⟩).isSome := ⟨_, rfl⟩
  have HX := Lib.hid hX
  have HZS := Lib.hid hzs
  obtain ⟨C, hC⟩ : ∃ C, C = if rightS t then (resolveS L t).getD [] else [] := ⟨_, rfl⟩
  obtain ⟨ce, hce⟩ : ∃ ce : Int, ce = if rightS t then (if (resolveS L t).isSome then 0 else 5) else 6 := ⟨_, rfl⟩
  have HC := Lib.hid hC
  have HCe := Lib.hid hce
  clear hX hzs hC hce
  go_enter Tryd.func5, Tryd.ntmps5
  go_wp2_with fail
  have hE0 : Ext w ((w.alloc (.cells #[.int .i64 a, .int .i64 b] 31)).alloc (.cells #[.slice tA t.length tc, .slice dA ns.length dc] 53)) := ((Ext.refl _).alloc _).alloc _
  have hc4 : ∀ w', Ext ((w.alloc (.cells #[.int .i64 a, .int .i64 b] 31)).alloc (.cells #[.slice tA t.length tc, .slice dA ns.length dc] 53)) w' → (w'.cell? ⟨w.heap.size, 0, none⟩ = some (.int .i64 a) ∧ w'.cell? ⟨w.heap.size, 1, none⟩ = some (.int .i64 b)) ∧ w'.cell? ⟨w.heap.size + 1, 0, none⟩ = some (.slice tA t.length tc) ∧ w'.cell? ⟨w.heap.size + 1, 1, none⟩ = some (.slice dA ns.length dc) := by
    intro w' hE
    refine ⟨cell_box2 (((Ext.refl _).alloc _).trans hE), ?_⟩
    have := cell_box2 hE
    simpa using this
  generalize ((w.alloc (.cells #[.int .i64 a, .int .i64 b] 31)).alloc (.cells #[.slice tA t.length tc, .slice dA ns.length dc] 53)) = W at hE0 hc4 ⊢
  have HE0 := Lib.hid hE0
  have HC4 := Lib.hid hc4
  clear hE0 hc4
  refine (HBo.out W HE0.out).mono ?_
  rintro e w1 ⟨p, r, q, rfl, ⟨ok1, hok, hH, hR, hp0, hr0, hq0⟩, hE1⟩
  rw [← HL.out] at hH hR
  have HH := Lib.hid hH
  have HR := Lib.hid hR
  have HOK := Lib.hid hok
  have HE1 := Lib.hid hE1
  have HO := Lib.hid hH.2.2
  clear hH hR hok hE1
  obtain ⟨⟨hv0, hv1⟩, hx0, hx1⟩ := HC4.out _ HE1.out
  go_wp2_with fail
  refine (Value_calls _ L _ a b w1 (.inr ⟨p, r, rfl, HH.out⟩)).mono ?_
  rintro e w2 ⟨⟨v2, rfl, hv2⟩, hE2⟩
  rw [← HX.out] at hv2
  rw [← HZS.out]
  have HV2 := Lib.hid hv2.sl
  obtain ⟨v2A, v2c, rfl, _, _⟩ := hv2.sl
  have HE2 := Lib.hid hE2
  clear hv2 hE2 hv0 hv1 hx0 hx1
  obtain ⟨⟨hv0, hv1⟩, hx0, hx1⟩ := HC4.out _ (HE1.out.trans HE2.out)
  go_wp2_with fail
  refine (refValue_calls q L _ a b w2 (HR.out.ext HE2.out)).mono ?_
  rintro e w3 ⟨⟨v3, rfl, hv3⟩, hE3⟩
  rw [← HZS.out]
  have hv3' : Sl CL w3 ok1 v3 X := by
    rw [HX.out]
    cases hg : getL L ⟨a, b⟩ with
    | none => rw [hg] at hv3; subst hv3; exact Sl.nil _ _ _
    | some t => rw [hg] at hv3; exact hv3
  have HV3 := Lib.hid hv3'
  obtain ⟨v3A, v3c, rfl, _, _⟩ := hv3'
  have HE3 := Lib.hid (HE2.out.trans hE3)
  replace HV2 := Lib.hid (HV2.out.ext hE3)
  clear hv3 hE3 hv0 hv1 hx0 hx1
  obtain ⟨⟨hv0, hv1⟩, hx0, hx1⟩ := HC4.out _ (HE1.out.trans HE3.out)
  go_wp2_with fail
  refine (Resolve_calls _ L (fun _ => True) w3 p r rfl ((HH.out.ext HE3.out).imp fun _ _ => trivial) _ t ((HT.out.ext (HE0.out.trans (HE1.out.trans HE3.out))).imp fun _ _ => trivial) (HG.out.ext (HE0.out.trans (HE1.out.trans HE3.out)))).mono ?_
  rintro e w4 ⟨⟨v4, rfl, hv4⟩, hE4⟩
  rw [← HC.out] at hv4
  rw [← HCe.out]
  have HV4 := Lib.hid hv4.sl
  obtain ⟨v4A, v4c, rfl, _, _⟩ := hv4.sl
  have HE4 := Lib.hid (HE3.out.trans hE4)
  replace HV2 := Lib.hid (HV2.out.ext hE4)
  replace HV3 := Lib.hid (HV3.out.ext hE4)
  clear hv4 hE4 hv0 hv1 hx0 hx1
  obtain ⟨⟨hv0, hv1⟩, hx0, hx1⟩ := HC4.out _ (HE1.out.trans HE4.out)
  go_wp2_with fail
  refine (refResolve_calls q L _ _ _ t w4 (HR.out.ext HE4.out) HO.out (by omega) (HT.out.ext (HE0.out.trans (HE1.out.trans HE4.out)))).mono ?_
  rintro e w5 ⟨⟨v5, rfl, hv5⟩, hE5⟩
  rw [← HC.out] at hv5
  rw [← HCe.out]
  have HV5 := Lib.hid hv5
  obtain ⟨v5A, v5c, rfl, _, _⟩ := hv5
  have HE5 := Lib.hid (HE4.out.trans hE5)
  replace HV2 := Lib.hid (HV2.out.ext hE5)
  replace HV3 := Lib.hid (HV3.out.ext hE5)
  replace HV4 := Lib.hid (HV4.out.ext hE5)
  clear hE5 hv0 hv1 hx0 hx1
  obtain ⟨rv, hr1, hr2⟩ := HR.out
  have hq1 : w1.cell? ⟨q, 0, none⟩ = some rv := cell_of_row w1 q 0 _ _ _ hr1
  have HR2 := Lib.hid hr2
  obtain ⟨rA, rc, rfl, _, _⟩ := hr2
  have HCE : Hid (∀ w6, Ext w1 w6 → w6.cell? ⟨w.heap.size + 1, 0, none⟩ = some (.slice tA t.length tc) ∧ w6.cell? ⟨w.heap.size + 1, 1, none⟩ = some (.slice dA ns.length dc) ∧ w6.cell? ⟨q, 0, none⟩ = some (.slice rA L.length rc)) := Lib.hid fun w6 hE => ⟨(HC4.out _ (HE1.out.trans hE)).2.1, (HC4.out _ (HE1.out.trans hE)).2.2, hE.cell hq1⟩
  clear hr1 hq1
  obtain ⟨hx0, hx1, hq1⟩ := HCE.out _ HE5.out
  have HEc : Hid (Ext w5 w5) := Lib.hid (Ext.refl _)
  have tok1 : True := trivial
  have tok2 : True := trivial
  have HTt : Hid (∀ w6, Ext w5 w6 → Sl CL w6 okT (.slice tA t.length tc) t) := Lib.hid fun w6 hE => HT.out.ext (HE0.out.trans (HE1.out.trans (HE5.out.trans hE)))
  have HGg : Hid (∀ w6, Ext w5 w6 → Sg w6) := Lib.hid fun w6 hE => HG.out.ext (HE0.out.trans (HE1.out.trans (HE5.out.trans hE)))
  have HHh : Hid (∀ w6, Ext w5 w6 → HeapAt w6 ok1 p r L) := Lib.hid fun w6 hE => HH.out.ext (HE5.out.trans hE)
  have HRr : Hid (∀ w6, Ext w5 w6 → RefAt w6 ok1 q L) := Lib.hid fun w6 hE => HR.out.ext (HE5.out.trans hE)
  go_upto_region 6 with fail
  go_cut [113] (fun s wx => s = .bool false ∧ Hid (Ext w5 wx))
  case first =>
    go_region_held3 (fun w' => w'.cell? ⟨w.heap.size + 1, 0, none⟩ = some (.slice tA t.length tc) ∧ w'.cell? ⟨q, 0, none⟩ = some (.slice rA L.length rc)) (first | exact ⟨hx0, hq1⟩ | go_keep)
      (first
        | (go_at_call 15; refine (live_calls _ (HGg.out _ (HEc.out.trans (by repeat (first | with_reducible exact Ext.refl _ | assumption | refine Ext.alloc ?_ _ | refine Ext.drewN ?_ _ | refine Ext.drew ?_ | refine Ext.set ?_ (by simp <;> omega) _ _ | refine Ext.trans ?_ (by assumption)))))).mono ?_; rintro e w8 ⟨rfl, hE8⟩; have HEc : Hid (Ext w5 w8) := Lib.hid (HEc.out.trans (Ext.trans (by repeat (first | with_reducible exact Ext.refl _ | assumption | refine Ext.alloc ?_ _ | refine Ext.drewN ?_ _ | refine Ext.drew ?_ | refine Ext.set ?_ (by simp <;> omega) _ _ | refine Ext.trans ?_ (by assumption))) hE8)); obtain ⟨hx0, hx1, hq1⟩ := HCE.out _ (HE5.out.trans HEc.out); clear hE8)
        | (go_at_call 19; have _t := tok1; clear _t tok1; refine (equal_calls (.slice v2A X.length v2c) (.slice v3A X.length v3c) X X _ _ _ (HV2.out.ext (HEc.out.trans (by repeat (first | with_reducible exact Ext.refl _ | assumption | refine Ext.alloc ?_ _ | refine Ext.drewN ?_ _ | refine Ext.drew ?_ | refine Ext.set ?_ (by simp <;> omega) _ _ | refine Ext.trans ?_ (by assumption))))) (HV3.out.ext (HEc.out.trans (by repeat (first | with_reducible exact Ext.refl _ | assumption | refine Ext.alloc ?_ _ | refine Ext.drewN ?_ _ | refine Ext.drew ?_ | refine Ext.set ?_ (by simp <;> omega) _ _ | refine Ext.trans ?_ (by assumption)))))).mono ?_; rintro e w9 ⟨rfl, hE9⟩; rw [show tmEq X X = true by simp [tmEq]]; have HEc : Hid (Ext w5 w9) := Lib.hid (HEc.out.trans (Ext.trans (by repeat (first | with_reducible exact Ext.refl _ | assumption | refine Ext.alloc ?_ _ | refine Ext.drewN ?_ _ | refine Ext.drew ?_ | refine Ext.set ?_ (by simp <;> omega) _ _ | refine Ext.trans ?_ (by assumption))) hE9)); obtain ⟨hx0, hx1, hq1⟩ := HCE.out _ (HE5.out.trans HEc.out); clear hE9)
        | (go_at_call 19; have _t := tok2; clear _t tok2; refine (equal_calls (.slice v4A C.length v4c) (.slice v5A C.length v5c) C C _ _ _ (HV4.out.ext (HEc.out.trans (by repeat (first | with_reducible exact Ext.refl _ | assumption | refine Ext.alloc ?_ _ | refine Ext.drewN ?_ _ | refine Ext.drew ?_ | refine Ext.set ?_ (by simp <;> omega) _ _ | refine Ext.trans ?_ (by assumption))))) (HV5.out.ext (HEc.out.trans (by repeat (first | with_reducible exact Ext.refl _ | assumption | refine Ext.alloc ?_ _ | refine Ext.drewN ?_ _ | refine Ext.drew ?_ | refine Ext.set ?_ (by simp <;> omega) _ _ | refine Ext.trans ?_ (by assumption)))))).mono ?_; rintro e w10 ⟨rfl, hE10⟩; rw [show tmEq C C = true by simp [tmEq]]; have HEc : Hid (Ext w5 w10) := Lib.hid (HEc.out.trans (Ext.trans (by repeat (first | with_reducible exact Ext.refl _ | assumption | refine Ext.alloc ?_ _ | refine Ext.drewN ?_ _ | refine Ext.drew ?_ | refine Ext.set ?_ (by simp <;> omega) _ _ | refine Ext.trans ?_ (by assumption))) hE10)); obtain ⟨hx0, hx1, hq1⟩ := HCE.out _ (HE5.out.trans HEc.out); clear hE10)
        | (go_at_call 13; refine (chain_calls _ L (fun _ => True) _ t _ (.inr ⟨p, r, rfl, (HHh.out _ (HEc.out.trans (by repeat (first | with_reducible exact Ext.refl _ | assumption | refine Ext.alloc ?_ _ | refine Ext.drewN ?_ _ | refine Ext.drew ?_ | refine Ext.set ?_ (by simp <;> omega) _ _ | refine Ext.trans ?_ (by assumption))))).imp fun _ _ => trivial⟩) ((HTt.out _ (HEc.out.trans (by repeat (first | with_reducible exact Ext.refl _ | assumption | refine Ext.alloc ?_ _ | refine Ext.drewN ?_ _ | refine Ext.drew ?_ | refine Ext.set ?_ (by simp <;> omega) _ _ | refine Ext.trans ?_ (by assumption))))).imp fun _ _ => trivial) htl (by omega)).mono ?_; rintro e w11 ⟨⟨cv, rfl, hcv⟩, hE11⟩; have HCh := Lib.hid (Sl.weak (d := OT) (d' := TM) rfl (fun _ _ h => OT.tm h) hcv.sl); obtain ⟨cA, cc, rfl, _, _⟩ := hcv.sl; have HEc : Hid (Ext w5 w11) := Lib.hid (HEc.out.trans (Ext.trans (by repeat (first | with_reducible exact Ext.refl _ | assumption | refine Ext.alloc ?_ _ | refine Ext.drewN ?_ _ | refine Ext.drew ?_ | refine Ext.set ?_ (by simp <;> omega) _ _ | refine Ext.trans ?_ (by assumption))) hE11)); obtain ⟨hx0, hx1, hq1⟩ := HCE.out _ (HE5.out.trans HEc.out); clear hE11 hcv)
        | (go_at_call 23; refine (refChain_calls q L (fun _ => True) _ t _ ((HRr.out _ (HEc.out.trans (by repeat (first | with_reducible exact Ext.refl _ | assumption | refine Ext.alloc ?_ _ | refine Ext.drewN ?_ _ | refine Ext.drew ?_ | refine Ext.set ?_ (by simp <;> omega) _ _ | refine Ext.trans ?_ (by assumption))))).imp fun _ _ => trivial) HO.out ((HTt.out _ (HEc.out.trans (by repeat (first | with_reducible exact Ext.refl _ | assumption | refine Ext.alloc ?_ _ | refine Ext.drewN ?_ _ | refine Ext.drew ?_ | refine Ext.set ?_ (by simp <;> omega) _ _ | refine Ext.trans ?_ (by assumption))))).imp fun _ _ => trivial) (by omega)).mono ?_; rintro e w12 ⟨⟨cv2, rfl, hcv⟩, hE12⟩; have HCh2 := Lib.hid hcv; replace HCh := Lib.hid (HCh.out.ext (Ext.trans (by repeat (first | with_reducible exact Ext.refl _ | assumption | refine Ext.alloc ?_ _ | refine Ext.drewN ?_ _ | refine Ext.drew ?_ | refine Ext.set ?_ (by simp <;> omega) _ _ | refine Ext.trans ?_ (by assumption))) hE12)); obtain ⟨c2A, c2c, rfl, _, _⟩ := hcv; have HEc : Hid (Ext w5 w12) := Lib.hid (HEc.out.trans (Ext.trans (by repeat (first | with_reducible exact Ext.refl _ | assumption | refine Ext.alloc ?_ _ | refine Ext.drewN ?_ _ | refine Ext.drew ?_ | refine Ext.set ?_ (by simp <;> omega) _ _ | refine Ext.trans ?_ (by assumption))) hE12)); obtain ⟨hx0, hx1, hq1⟩ := HCE.out _ (HE5.out.trans HEc.out); clear hE12)
        | (go_at_call 22; refine (sameTerms_calls _ _ (chainS L t) (chainS L t) _ _ _ (HCh.out.ext (by repeat (first | with_reducible exact Ext.refl _ | assumption | refine Ext.alloc ?_ _ | refine Ext.drewN ?_ _ | refine Ext.drew ?_ | refine Ext.set ?_ (by simp <;> omega) _ _ | refine Ext.trans ?_ (by assumption)))) (HCh2.out.ext (by repeat (first | with_reducible exact Ext.refl _ | assumption | refine Ext.alloc ?_ _ | refine Ext.drewN ?_ _ | refine Ext.drew ?_ | refine Ext.set ?_ (by simp <;> omega) _ _ | refine Ext.trans ?_ (by assumption))))).mono ?_; rintro e w13 ⟨rfl, hE13⟩; rw [show decide (chainS L t = chainS L t) = true by simp]; have HEc : Hid (Ext w5 w13) := Lib.hid (HEc.out.trans (Ext.trans (by repeat (first | with_reducible exact Ext.refl _ | assumption | refine Ext.alloc ?_ _ | refine Ext.drewN ?_ _ | refine Ext.drew ?_ | refine Ext.set ?_ (by simp <;> omega) _ _ | refine Ext.trans ?_ (by assumption))) hE13)); obtain ⟨hx0, hx1, hq1⟩ := HCE.out _ (HE5.out.trans HEc.out); clear hE13)
        | (go_at_call 24; refine (deref_calls _ L (fun _ => True) _ t _ (.inr ⟨p, r, rfl, (HHh.out _ (HEc.out.trans (by repeat (first | with_reducible exact Ext.refl _ | assumption | refine Ext.alloc ?_ _ | refine Ext.drewN ?_ _ | refine Ext.drew ?_ | refine Ext.set ?_ (by simp <;> omega) _ _ | refine Ext.trans ?_ (by assumption))))).imp fun _ _ => trivial⟩) ((HTt.out _ (HEc.out.trans (by repeat (first | with_reducible exact Ext.refl _ | assumption | refine Ext.alloc ?_ _ | refine Ext.drewN ?_ _ | refine Ext.drew ?_ | refine Ext.set ?_ (by simp <;> omega) _ _ | refine Ext.trans ?_ (by assumption))))).imp fun _ _ => trivial) htl).mono ?_; rintro e w14 ⟨⟨dv1, rfl, hdv⟩, hE14⟩; have HDe := Lib.hid hdv.sl; obtain ⟨d1A, d1c, rfl, _, _⟩ := hdv.sl; have HEc : Hid (Ext w5 w14) := Lib.hid (HEc.out.trans (Ext.trans (by repeat (first | with_reducible exact Ext.refl _ | assumption | refine Ext.alloc ?_ _ | refine Ext.drewN ?_ _ | refine Ext.drew ?_ | refine Ext.set ?_ (by simp <;> omega) _ _ | refine Ext.trans ?_ (by assumption))) hE14)); obtain ⟨hx0, hx1, hq1⟩ := HCE.out _ (HE5.out.trans HEc.out); clear hE14 hdv)
        | (go_at_call 25; refine (refDeref_calls q L (fun _ => True) _ t _ ((HRr.out _ (HEc.out.trans (by repeat (first | with_reducible exact Ext.refl _ | assumption | refine Ext.alloc ?_ _ | refine Ext.drewN ?_ _ | refine Ext.drew ?_ | refine Ext.set ?_ (by simp <;> omega) _ _ | refine Ext.trans ?_ (by assumption))))).imp fun _ _ => trivial) HO.out ((HTt.out _ (HEc.out.trans (by repeat (first | with_reducible exact Ext.refl _ | assumption | refine Ext.alloc ?_ _ | refine Ext.drewN ?_ _ | refine Ext.drew ?_ | refine Ext.set ?_ (by simp <;> omega) _ _ | refine Ext.trans ?_ (by assumption))))).imp fun _ _ => trivial) (by omega)).mono ?_; rintro e w15 ⟨⟨dv2, rfl, hdv⟩, hE15⟩; have HDe2 := Lib.hid hdv; replace HDe := Lib.hid (HDe.out.ext (Ext.trans (by repeat (first | with_reducible exact Ext.refl _ | assumption | refine Ext.alloc ?_ _ | refine Ext.drewN ?_ _ | refine Ext.drew ?_ | refine Ext.set ?_ (by simp <;> omega) _ _ | refine Ext.trans ?_ (by assumption))) hE15)); obtain ⟨d2A, d2c, rfl, _, _⟩ := hdv; have HEc : Hid (Ext w5 w15) := Lib.hid (HEc.out.trans (Ext.trans (by repeat (first | with_reducible exact Ext.refl _ | assumption | refine Ext.alloc ?_ _ | refine Ext.drewN ?_ _ | refine Ext.drew ?_ | refine Ext.set ?_ (by simp <;> omega) _ _ | refine Ext.trans ?_ (by assumption))) hE15)); obtain ⟨hx0, hx1, hq1⟩ := HCE.out _ (HE5.out.trans HEc.out); clear hE15)
        | (go_at_call 19; refine (equal_calls _ _ (followS L t) (followS L t) _ _ _ (HDe.out.ext (by repeat (first | with_reducible exact Ext.refl _ | assumption | refine Ext.alloc ?_ _ | refine Ext.drewN ?_ _ | refine Ext.drew ?_ | refine Ext.set ?_ (by simp <;> omega) _ _ | refine Ext.trans ?_ (by assumption)))) (HDe2.out.ext (by repeat (first | with_reducible exact Ext.refl _ | assumption | refine Ext.alloc ?_ _ | refine Ext.drewN ?_ _ | refine Ext.drew ?_ | refine Ext.set ?_ (by simp <;> omega) _ _ | refine Ext.trans ?_ (by assumption))))).mono ?_; rintro e w16 ⟨rfl, hE16⟩; rw [show tmEq (followS L t) (followS L t) = true by simp [tmEq]]; have HEc : Hid (Ext w5 w16) := Lib.hid (HEc.out.trans (Ext.trans (by repeat (first | with_reducible exact Ext.refl _ | assumption | refine Ext.alloc ?_ _ | refine Ext.drewN ?_ _ | refine Ext.drew ?_ | refine Ext.set ?_ (by simp <;> omega) _ _ | refine Ext.trans ?_ (by assumption))) hE16)); obtain ⟨hx0, hx1, hq1⟩ := HCE.out _ (HE5.out.trans HEc.out); clear hE16)
        | (go_at_call 12; refine (bindings_calls _ L _ _ (.inr ⟨p, r, rfl, HHh.out _ (HEc.out.trans (by repeat (first | with_reducible exact Ext.refl _ | assumption | refine Ext.alloc ?_ _ | refine Ext.drewN ?_ _ | refine Ext.drew ?_ | refine Ext.set ?_ (by simp <;> omega) _ _ | refine Ext.trans ?_ (by assumption))))⟩) (by omega)).mono ?_; rintro e w17 ⟨⟨bv, rfl, hb⟩, hE17⟩; have HBd := Lib.hid (OB.bd hb.sl); obtain ⟨bA, bc, rfl, _, _⟩ := hb.sl; have HEc : Hid (Ext w5 w17) := Lib.hid (HEc.out.trans (Ext.trans (by repeat (first | with_reducible exact Ext.refl _ | assumption | refine Ext.alloc ?_ _ | refine Ext.drewN ?_ _ | refine Ext.drew ?_ | refine Ext.set ?_ (by simp <;> omega) _ _ | refine Ext.trans ?_ (by assumption))) hE17)); obtain ⟨hx0, hx1, hq1⟩ := HCE.out _ (HE5.out.trans HEc.out); clear hE17 hb)
        | (go_at_call 16; refine (sameBindings_calls _ _ L L _ _ _ (HBd.out.ext (by repeat (first | with_reducible exact Ext.refl _ | assumption | refine Ext.alloc ?_ _ | refine Ext.drewN ?_ _ | refine Ext.drew ?_ | refine Ext.set ?_ (by simp <;> omega) _ _ | refine Ext.trans ?_ (by assumption)))) (HR2.out.ext (HE5.out.trans (HEc.out.trans (by repeat (first | with_reducible exact Ext.refl _ | assumption | refine Ext.alloc ?_ _ | refine Ext.drewN ?_ _ | refine Ext.drew ?_ | refine Ext.set ?_ (by simp <;> omega) _ _ | refine Ext.trans ?_ (by assumption))))))).mono ?_; rintro e w18 ⟨rfl, hE18⟩; rw [show bdsEq L L = true by simp [bdsEq]]; have HEc : Hid (Ext w5 w18) := Lib.hid (HEc.out.trans (Ext.trans (by repeat (first | with_reducible exact Ext.refl _ | assumption | refine Ext.alloc ?_ _ | refine Ext.drewN ?_ _ | refine Ext.drew ?_ | refine Ext.set ?_ (by simp <;> omega) _ _ | refine Ext.trans ?_ (by assumption))) hE18)); obtain ⟨hx0, hx1, hq1⟩ := HCE.out _ (HE5.out.trans HEc.out); clear hE18))
    go_wp2_with fail
    go_meet
    exact ⟨rfl, Lib.hid (HEc.out.trans (by repeat (first | with_reducible exact Ext.refl _ | assumption | refine Ext.alloc ?_ _ | refine Ext.drewN ?_ _ | refine Ext.drew ?_ | refine Ext.set ?_ (by simp <;> omega) _ _ | refine Ext.trans ?_ (by assumption))))⟩
  case rest =>
    obtain ⟨rfl, HEc⟩ := hcut
    clear hx0 hx1 hq1
    obtain ⟨hx0, hx1, hq1⟩ := HCE.out _ (HE5.out.trans HEc.out)
    go_wp2_with fail
    refine (fork_calls p r L ok1 wc (HHh.out _ HEc.out)).mono ?_
    rintro e w20 ⟨⟨p', r', rfl, hp', hr', hH'⟩, hE20⟩
    have HF := Lib.hid hH'
    have HE20 := Lib.hid hE20
    clear hH' hE20 hx0 hx1 hq1
    obtain ⟨hx0, hx1, hq1⟩ := HCE.out _ ((HE5.out.trans HEc.out).trans HE20.out)
    go_wp2_with fail
    refine (refFork_calls q L ok1 w20 (HRr.out _ (HEc.out.trans HE20.out)) (by omega)).mono ?_
    rintro e w21 ⟨rfl, hR', hE21⟩
    obtain ⟨q', hq'⟩ : ∃ q', q' = w20.heap.size := ⟨_, rfl⟩
    rw [← hq'] at hR' ⊢
    have HS := Lib.hid hR'
    have HE21 := Lib.hid hE21
    have HE521 : Hid (Ext w5 w21) := Lib.hid ((HEc.out.trans HE20.out).trans HE21.out)
    have HQ' := Lib.hid hq'
    have hpq := (HHh.out _ HE521.out).pq (HRr.out _ HE521.out)
    have HPQ := Lib.hid hpq
    have HRQ' := Lib.hid ((HHh.out _ HE521.out).pq HS.out)
    have hle1 := (HE5.out.trans HEc.out).le
    have hle2 := HE20.out.le
    have hpl := HH.out.p_lt
    have hrl := HH.out.r_lt
    have hql := HR.out.q_lt
    obtain ⟨es, nn, hmap⟩ := (HHh.out _ HE521.out).map
    have HMap := Lib.hid hmap
    clear hR' hE21 hx0 hx1 hq1 hpq hmap hq'
    obtain ⟨hx0, hx1, hq1⟩ := HCE.out _ (HE5.out.trans HE521.out)
    have HEW : Hid (Ext w w21) := Lib.hid (HE0.out.trans (HE1.out.trans (HE5.out.trans HE521.out)))
    go_wp2_with fail
    refine (drop_calls p r L ok1 _ _ ns w21 (HHh.out _ HE521.out) (HDr.out.ext HEW.out)).mono ?_
    rintro e w22 ⟨rfl, hX22, hH22⟩
    have HX22 := Lib.hid hX22
    have HH22 := Lib.hid hH22
    have HG22 : Hid (HeapAt w22 ok1 p' r' L) := Lib.hid ((HF.out.ext HE21.out).offmap HMap.out (by omega) HX22.out.block)
    have HR22 : Hid (RefAt w22 ok1 q L) := Lib.hid ((HRr.out _ HE521.out).offmap HMap.out HX22.out.block)
    have HS22 := Lib.hid (HS.out.offmap HMap.out HX22.out.block)
    have HW22 : Hid (Ext W w22) := Lib.hid (ExtBut.ext0 (HE1.out.trans (HE5.out.trans HE521.out)) HX22.out hr0)
    clear hX22 hH22 hx0 hx1 hq1
    obtain ⟨_, hx0, hx1⟩ := HC4.out _ HW22.out
    go_wp2_with fail
    refine (refDrop_calls q L ok1 _ _ ns w22 HR22.out (HDr.out.ext (HE0.out.trans HW22.out)) (by omega)).mono ?_
    rintro e w23 ⟨rfl, hX23, hR23⟩
    have HX23 := Lib.hid hX23
    have HR23 := Lib.hid hR23
    have hs22 := HX22.out.size
    have HW23 : Hid (Ext W w23) := Lib.hid (ExtBut.ext0 HW22.out HX23.out hq0)
    have hle3 := HE21.out.le
    have hqq := HQ'.out
    have HH23 : Hid (HeapAt w23 ok1 p r (dropL L ns)) := Lib.hid (HH22.out.move (HX23.out.block p (by omega) HPQ.out.1) (HX23.out.block r (by omega) HPQ.out.2) (fun k hk hlt => ⟨hk, HX23.out.block k hlt (HOK.out k hk).2.2⟩))
    have HG23 : Hid (HeapAt w23 ok1 p' r' L) := Lib.hid (HG22.out.move (HX23.out.block p' HG22.out.p_lt (by omega)) (HX23.out.block r' HG22.out.r_lt (by omega)) (fun k hk hlt => ⟨hk, HX23.out.block k hlt (HOK.out k hk).2.2⟩))
    have HS23 := Lib.hid (HS22.out.move (HX23.out.block q' HS22.out.q_lt (by omega)) (fun k hk hlt => ⟨hk, HX23.out.block k hlt (by
      rcases hk with hk | hk
      · exact (HOK.out k hk.1).2.2
      · omega)⟩))
    clear hX23 hR23 hx0 hx1 hqq
    obtain ⟨rv1, hr1, hs1⟩ := HR23.out
    obtain ⟨rv2, hr2, hs2⟩ := HS23.out
    have hq1 : w23.cell? ⟨q, 0, none⟩ = some rv1 := cell_of_row w23 q 0 _ _ _ hr1
    have hq2 : w23.cell? ⟨q', 0, none⟩ = some rv2 := cell_of_row w23 q' 0 _ _ _ hr2
    have HQ1 := Lib.hid hq1
    have HQ2 := Lib.hid hq2
    have HS1 := Lib.hid hs1
    have HS2 := Lib.hid hs2
    obtain ⟨r1A, r1c, rfl, _, _⟩ := hs1
    obtain ⟨r2A, r2c, rfl, _, _⟩ := hs2
    obtain ⟨D, hD⟩ : ∃ D, D = dropL L ns := ⟨_, rfl⟩
    have hDl : D.length ≤ 2147483647 := by
      have := dropL_len L ns
      rw [hD]
      omega
    rw [← hD] at hq1 HQ1 HS1 HH23
    clear hr1 hr2 hD hs22 hle1 hle2 hle3
    have HEc : Hid (Ext w23 w23) := Lib.hid (Ext.refl _)
    have HB1 := Lib.hid (fun w1 (hE : Ext w23 w1) => bindings_calls _ D _ w1 (.inr ⟨p, r, rfl, HH23.out.ext hE⟩) (by omega))
    have HB2 := Lib.hid (fun w1 (hE : Ext w23 w1) => bindings_calls _ L _ w1 (.inr ⟨p', r', rfl, HG23.out.ext hE⟩) (by omega))
    have HB3 := Lib.hid (fun bA bc w1 (hb : Sl BD w1 (fun _ => True) (.slice bA D.length bc) D) (hE : Ext w23 w1) => sameBindings_calls _ _ D D _ _ w1 hb (HS1.out.ext hE))
    have HB4 := Lib.hid (fun bA bc w1 (hb : Sl BD w1 (fun _ => True) (.slice bA L.length bc) L) (hE : Ext w23 w1) => sameBindings_calls _ _ L L _ _ w1 hb (HS2.out.ext hE))
    go_wp2_with fail
    go_region_held3 (fun w' => w'.cell? ⟨q, 0, none⟩ = some (.slice r1A D.length r1c) ∧ w'.cell? ⟨q', 0, none⟩ = some (.slice r2A L.length r2c)) (first | exact ⟨hq1, hq2⟩ | go_keep)
      (first
        | (go_at_call 12; (with_reducible refine (HB1.out _ ?_).mono ?_); (focus (exact HEc.out.trans (by repeat (first | with_reducible exact Ext.refl _ | assumption | refine Ext.alloc ?_ _ | refine Ext.drewN ?_ _ | refine Ext.drew ?_ | refine Ext.set ?_ (by simp <;> omega) _ _ | refine Ext.trans ?_ (by assumption))))); rintro e w24 ⟨⟨bv, rfl, hb⟩, hE24⟩; have HBd := Lib.hid (OB.bd hb.sl); obtain ⟨bA, bc, rfl, _, _⟩ := hb.sl; have HEc : Hid (Ext w23 w24) := Lib.hid (HEc.out.trans (Ext.trans (by repeat (first | with_reducible exact Ext.refl _ | assumption | refine Ext.alloc ?_ _ | refine Ext.drewN ?_ _ | refine Ext.drew ?_ | refine Ext.set ?_ (by simp <;> omega) _ _ | refine Ext.trans ?_ (by assumption))) hE24)); have hq1 := HEc.out.cell HQ1.out; have hq2 := HEc.out.cell HQ2.out; clear hE24 hb)
        | (go_at_call 16; (with_reducible refine (HB3.out _ _ _ ?_ ?_).mono ?_); (focus (exact (HBd.out.ext (by repeat (first | with_reducible exact Ext.refl _ | assumption | refine Ext.alloc ?_ _ | refine Ext.drewN ?_ _ | refine Ext.drew ?_ | refine Ext.set ?_ (by simp <;> omega) _ _ | refine Ext.trans ?_ (by assumption)))).imp fun _ _ => trivial)); (focus (exact HEc.out.trans (by repeat (first | with_reducible exact Ext.refl _ | assumption | refine Ext.alloc ?_ _ | refine Ext.drewN ?_ _ | refine Ext.drew ?_ | refine Ext.set ?_ (by simp <;> omega) _ _ | refine Ext.trans ?_ (by assumption))))); rintro e w25 ⟨rfl, hE25⟩; rw [show bdsEq D D = true by simp [bdsEq]]; have HEc : Hid (Ext w23 w25) := Lib.hid (HEc.out.trans (Ext.trans (by repeat (first | with_reducible exact Ext.refl _ | assumption | refine Ext.alloc ?_ _ | refine Ext.drewN ?_ _ | refine Ext.drew ?_ | refine Ext.set ?_ (by simp <;> omega) _ _ | refine Ext.trans ?_ (by assumption))) hE25)); have hq1 := HEc.out.cell HQ1.out; have hq2 := HEc.out.cell HQ2.out; clear hE25)
        | (go_at_call 12; (with_reducible refine (HB2.out _ ?_).mono ?_); (focus (exact HEc.out.trans (by repeat (first | with_reducible exact Ext.refl _ | assumption | refine Ext.alloc ?_ _ | refine Ext.drewN ?_ _ | refine Ext.drew ?_ | refine Ext.set ?_ (by simp <;> omega) _ _ | refine Ext.trans ?_ (by assumption))))); rintro e w26 ⟨⟨bv2, rfl, hb⟩, hE26⟩; have HBd2 := Lib.hid (OB.bd hb.sl); obtain ⟨b2A, b2c, rfl, _, _⟩ := hb.sl; have HEc : Hid (Ext w23 w26) := Lib.hid (HEc.out.trans (Ext.trans (by repeat (first | with_reducible exact Ext.refl _ | assumption | refine Ext.alloc ?_ _ | refine Ext.drewN ?_ _ | refine Ext.drew ?_ | refine Ext.set ?_ (by simp <;> omega) _ _ | refine Ext.trans ?_ (by assumption))) hE26)); have hq1 := HEc.out.cell HQ1.out; have hq2 := HEc.out.cell HQ2.out; clear hE26 hb)
        | (go_at_call 16; (with_reducible refine (HB4.out _ _ _ ?_ ?_).mono ?_); (focus (exact (HBd2.out.ext (by repeat (first | with_reducible exact Ext.refl _ | assumption | refine Ext.alloc ?_ _ | refine Ext.drewN ?_ _ | refine Ext.drew ?_ | refine Ext.set ?_ (by simp <;> omega) _ _ | refine Ext.trans ?_ (by assumption)))).imp fun _ _ => trivial)); (focus (exact HEc.out.trans (by repeat (first | with_reducible exact Ext.refl _ | assumption | refine Ext.alloc ?_ _ | refine Ext.drewN ?_ _ | refine Ext.drew ?_ | refine Ext.set ?_ (by simp <;> omega) _ _ | refine Ext.trans ?_ (by assumption))))); rintro e w27 ⟨rfl, hE27⟩; rw [show bdsEq L L = true by simp [bdsEq]]; have HEc : Hid (Ext w23 w27) := Lib.hid (HEc.out.trans (Ext.trans (by repeat (first | with_reducible exact Ext.refl _ | assumption | refine Ext.alloc ?_ _ | refine Ext.drewN ?_ _ | refine Ext.drew ?_ | refine Ext.set ?_ (by simp <;> omega) _ _ | refine Ext.trans ?_ (by assumption))) hE27)); have hq1 := HEc.out.cell HQ1.out; have hq2 := HEc.out.cell HQ2.out; clear hE27))
    go_wp2
    go_ret
    exact ⟨rfl, HE0.out.trans (HW23.out.trans (HEc.out.trans (by repeat (first | with_reducible exact Ext.refl _ | assumption | refine Ext.alloc ?_ _ | refine Ext.drewN ?_ _ | refine Ext.drew ?_ | refine Ext.set ?_ (by simp <;> omega) _ _ | refine Ext.trans ?_ (by assumption)))))⟩

end Go.Proofs.YtehljfnoicppnaaDoor
