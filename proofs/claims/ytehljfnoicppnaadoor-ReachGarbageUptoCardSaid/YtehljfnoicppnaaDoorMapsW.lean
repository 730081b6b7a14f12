/- maps: the two heaps behind the same bindings hold the same list. Conditions: fewer than 2^31 bindings, each term of at most 2^31 cells; the list of signs holds what the program lays there. -/
import Derived.Test.YtehljfnoicppnaaDoorBothA
import Derived.Test.YtehljfnoicppnaaDoorBothL
import Derived.Deep.RegionHeld3
open Go Go.RowKit
set_option linter.unusedVariables false
namespace Go.Proofs.YtehljfnoicppnaaDoor

/-- What maps hands back. -/
def MapsP (w : World) (l : List Bd) (e : Ending) (w' : World) : Prop :=
  ∃ p r q, e = .returned (.tuple #[.pointer (some ⟨p, 0, none⟩), .pointer (some ⟨q, 0, none⟩)]) ∧ BothAt w w' p r q (bothL l []) ∧ Ext w w'

set_option maxRecDepth 100000 in
set_option maxHeartbeats 8000000 in
theorem maps18_calls (lv : Value) (l : List Bd) (ok0 : Ok) (w : World) (h : Sl BD w ok0 lv l) (hl : l.length ≤ 2147483647) (hls : ∀ b ∈ l, b.t.length ≤ 2147483648) (hg : Sg w) :
    Calls Tryd.prog 32 #[lv] w (MapsP w l) := by
  obtain ⟨A, c, rfl, _, hr⟩ := h
  have HD := Lib.hid hr
  have HG := Lib.hid hg
  clear hr hg hls
  go_enter Tryd.func32, Tryd.ntmps32
  go_wp2_with fail
  refine (new_calls w).mono ?_
  rintro e w1 ⟨⟨p, r, rfl, hp, hr, hh⟩, hE1⟩
  have HH1 := Lib.hid hh
  have HE1 := Lib.hid hE1
  clear hh hE1
  go_wp2_with fail
  refine (refNew_calls w1).mono ?_
  rintro e w2 ⟨rfl, hrr, hE2⟩
  obtain ⟨q, hq⟩ : ∃ q, q = w1.heap.size := ⟨_, rfl⟩
  rw [← hq] at hrr ⊢
  have HB0 : Hid (BothAt w w2 p r q [] ∧ Ext w w2) := Lib.hid (by
    refine ⟨⟨fun k => w.heap.size ≤ k ∧ k < w1.heap.size, fun k hk => ⟨hk.1, Nat.lt_of_lt_of_le hk.2 hE2.le, by omega⟩, HH1.out.lt.ext hE2, ?_, hp, hr, by rw [hq]; exact HE1.out.le⟩, HE1.out.trans hE2⟩
    obtain ⟨v, h1, h2⟩ := hrr
    obtain ⟨A', c', rfl, hc', hrd⟩ := h2
    exact ⟨_, h1, A', c', rfl, hc', Rd.nil _ _ _ _⟩)
  clear hq hrr hE2 hp hr
  go_wp2_with fail
  go_loopg [6] l.length (fun g s7 wr => ∃ i : Nat, i ≤ l.length ∧ l.length - i ≤ g ∧ s7 = .int .i64 i ∧ Hid (BothAt w wr p r q (bothL (l.take i) []) ∧ Ext w wr))
  case atStart => exact ⟨0, Nat.zero_le _, Nat.le_refl _, rfl, HB0⟩
  case round =>
    obtain ⟨i, hi, hg, rfl, HB⟩ := hrel
    by_cases hlt : i < l.length
    · obtain ⟨⟨⟨x0, x1⟩, t⟩, hx⟩ : ∃ x, l[i]? = some x := ⟨_, List.getElem?_eq_getElem hlt⟩
      obtain ⟨lb, lo, rfl, _, _⟩ := HD.out.some_ (by omega)
      obtain ⟨_, _, hxo, hc0, hc1, u, hc2, hu⟩ := HD.out.bd_at hx
      obtain ⟨uA, uc, rfl, huc, hur⟩ := hu
      have HU : Hid (Sl CL w ok0 (.slice uA t.length uc) t) := Lib.hid ⟨uA, uc, rfl, huc, hur⟩
      have HST := Lib.hid (bothL_step (M := []) hx)
      have HXO := Lib.hid hxo
      obtain ⟨L, hL⟩ : ∃ L, L = bothL (l.take i) [] := ⟨_, rfl⟩
      have hLl : L.length ≤ 2147483647 := by
        have := bothL_len (l.take i) []
        rw [List.length_take] at this
        rw [hL]
        simp at this
        omega
      rw [← hL] at HB HST
      have HCE : Hid (∀ w6, Ext w w6 → w6.cell? ⟨lb, lo + i * 3, none⟩ = some (.int .i64 x0) ∧ w6.cell? ⟨lb, lo + i * 3 + 1, none⟩ = some (.int .i64 x1) ∧ w6.cell? ⟨lb, lo + i * 3 + 2, none⟩ = some (.slice uA t.length uc)) := Lib.hid fun w6 hE => ⟨hE.cell hc0, hE.cell hc1, hE.cell hc2⟩
      clear hx hxo hc0 hc1 hc2 huc hur hL
      obtain ⟨hc0, hc1, hc2⟩ := HCE.out _ HB.out.2
      obtain ⟨ok, hok, hH, hR, hp0, hr0, hq0⟩ := HB.out.1
      have hqlt := hR.q_lt
      have HH := Lib.hid hH
      have HR := Lib.hid hR
      have HBO := Lib.hid (show (∀ k, ok k → w.heap.size ≤ k ∧ k < wr.heap.size ∧ k ≠ q) ∧ HeapAt wr ok p r L ∧ RefAt wr ok q L from ⟨hok, hH, hR⟩)
      clear hok hH hR
      go_wp2_with fail
      go_region_held3 (fun w' => w'.cell? ⟨lb, lo + i * 3, none⟩ = some (.int .i64 x0) ∧ w'.cell? ⟨lb, lo + i * 3 + 1, none⟩ = some (.int .i64 x1) ∧ w'.cell? ⟨lb, lo + i * 3 + 2, none⟩ = some (.slice uA t.length uc)) (first | exact ⟨hc0, hc1, hc2⟩ | go_keep)
        (first
          | (go_at_call 30; refine (bind_calls p r L ok _ x0 x1 _ t _ (HH.out.ext (by repeat (first | with_reducible exact Ext.refl _ | assumption | refine Ext.alloc ?_ _ | refine Ext.drewN ?_ _ | refine Ext.drew ?_ | refine Ext.set ?_ (by simp <;> omega) _ _ | refine Ext.trans ?_ (by assumption)))) HXO.out ((HU.out.ext HB.out.2).ext (by repeat (first | with_reducible exact Ext.refl _ | assumption | refine Ext.alloc ?_ _ | refine Ext.drewN ?_ _ | refine Ext.drew ?_ | refine Ext.set ?_ (by simp <;> omega) _ _ | refine Ext.trans ?_ (by assumption)))) (HG.out.ext (HB.out.2.trans (by repeat (first | with_reducible exact Ext.refl _ | assumption | refine Ext.alloc ?_ _ | refine Ext.drewN ?_ _ | refine Ext.drew ?_ | refine Ext.set ?_ (by simp <;> omega) _ _ | refine Ext.trans ?_ (by assumption)))))).mono ?_; rintro e w6 ⟨rfl, hx6, hh6⟩; have HX6 : Hid (ExtBut r wr w6) := Lib.hid (ExtBut.ext_left (by repeat (first | with_reducible exact Ext.refl _ | assumption | refine Ext.alloc ?_ _ | refine Ext.drewN ?_ _ | refine Ext.drew ?_ | refine Ext.set ?_ (by simp <;> omega) _ _ | refine Ext.trans ?_ (by assumption))) hx6); have HH6 : Hid (HeapAt w6 (fun k => ok k ∨ wr.heap.size ≤ k) p r (bindL L ⟨x0, x1⟩ t)) := Lib.hid hh6; have HEW6 : Hid (Ext w w6) := Lib.hid (HX6.out.ext0 HB.out.2 hr0); obtain ⟨hc0, hc1, hc2⟩ := HCE.out _ HEW6.out; clear hx6 hh6; obtain ⟨es6, n6, hm6⟩ := HH.out.map; have HR6 := Lib.hid (HR.out.offmap hm6 HX6.out.block); clear hm6))
      go_wp2_with fail
      go_region_held3 (fun w' => w'.cell? ⟨lb, lo + i * 3, none⟩ = some (.int .i64 x0) ∧ w'.cell? ⟨lb, lo + i * 3 + 1, none⟩ = some (.int .i64 x1) ∧ w'.cell? ⟨lb, lo + i * 3 + 2, none⟩ = some (.slice uA t.length uc)) (first | exact ⟨hc0, hc1, hc2⟩ | go_keep)
        (first
          | (go_at_call 47; refine (refBind_calls q L ok _ x0 x1 _ t _ (HR6.out.ext (by repeat (first | with_reducible exact Ext.refl _ | assumption | refine Ext.alloc ?_ _ | refine Ext.drewN ?_ _ | refine Ext.drew ?_ | refine Ext.set ?_ (by simp <;> omega) _ _ | refine Ext.trans ?_ (by assumption)))) HXO.out ((HU.out.ext HEW6.out).ext (by repeat (first | with_reducible exact Ext.refl _ | assumption | refine Ext.alloc ?_ _ | refine Ext.drewN ?_ _ | refine Ext.drew ?_ | refine Ext.set ?_ (by simp <;> omega) _ _ | refine Ext.trans ?_ (by assumption)))) hLl).mono ?_; rintro e w7 ⟨rfl, hx7, hr7⟩; have HX7 : Hid (ExtBut q w6 w7) := Lib.hid (ExtBut.ext_left (by repeat (first | with_reducible exact Ext.refl _ | assumption | refine Ext.alloc ?_ _ | refine Ext.drewN ?_ _ | refine Ext.drew ?_ | refine Ext.set ?_ (by simp <;> omega) _ _ | refine Ext.trans ?_ (by assumption))) hx7); have HR7 : Hid (RefAt w7 (fun k => ok k ∨ w6.heap.size ≤ k) q (bindL L ⟨x0, x1⟩ t)) := Lib.hid hr7; have HEW7 : Hid (Ext w w7) := Lib.hid (HX7.out.ext0 HEW6.out hq0); obtain ⟨hc0, hc1, hc2⟩ := HCE.out _ HEW7.out; clear hx7 hr7))
      go_wp2_with fail
      go_roundg (l.length - (i + 1))
      case measure => omega
      case rel =>
        refine ⟨i + 1, by omega, Nat.le_refl _, by go_num, Lib.hid ?_⟩
        rw [HST.out]
        have h6 := HX6.out.size
        have h7 := HX7.out.size
        exact both_step (tb := w7.heap.size) HBO.out.1 HBO.out.2.1 HBO.out.2.2 ⟨hp0, hr0, hq0⟩ HB.out.2 (Ext.refl _) HX6.out HH6.out (Ext.refl _) HX7.out HR7.out (Ext.but (by repeat (first | with_reducible exact Ext.refl _ | assumption | refine Ext.alloc ?_ _ | refine Ext.drewN ?_ _ | refine Ext.drew ?_ | refine Ext.set ?_ (by simp <;> omega) _ _ | refine Ext.trans ?_ (by assumption))) _) (by omega) (fun k _ hk => by omega)
    · obtain rfl : i = l.length := by omega
      go_wp2_with fail
      go_ret2
      have := HB.out
      rw [List.take_length] at this
      exact ⟨p, r, q, rfl, this.1, this.2⟩

end Go.Proofs.YtehljfnoicppnaaDoor
