/- live of law 18: a heap of two values that point at each other answers as it must. Conditions: the list of signs holds what the program lays there. -/
import Derived.Test.YtehljfnoicppnaaDoorReachL
open Go Go.RowKit
set_option linter.unusedVariables false
namespace Go.Proofs.YtehljfnoicppnaaDoor

theorem sl_two {w : World} {e : TypeId} {N : Nat} {x y : Cl} {cs : Array Value} {cx cy : List Value} (hN : w.heap.size = N) (hx : ∀ w ok, CL.rel w ok x cx) (hy : ∀ w ok, CL.rel w ok y cy) (hc : cs.toList = cx ++ cy) :
    Sl CL (w.alloc (.cells cs e)) (fun k => False ∨ k = N) (.slice (some ⟨N, 0, none⟩) 2 2) [x, y] := by
  subst hN
  have lx := CL.len (hx w fun _ => True)
  have ly := CL.len (hy w fun _ => True)
  refine ⟨_, 2, rfl, by simp, by simp [maxLen], fun _ => ⟨w.heap.size, 0, rfl, .inr rfl, by simp, fun j z hz => ?_⟩⟩
  have key : ∀ o u, (cx ++ cy)[o]? = some u → (w.alloc (.cells cs e)).cell? ⟨w.heap.size, o, none⟩ = some u := by
    intro o u h
    rw [cell_of_row (w.alloc (.cells cs e)) w.heap.size o cs e (0, 0) (heap_alloc_new w _), ← Array.getElem?_toList, hc, h]
  rcases j with _ | _ | j
  · simp at hz
    subst hz
    refine ⟨cx, hx _ _, fun i u hu => ?_⟩
    have hi : i < cx.length := (List.getElem?_eq_some_iff.1 hu).1
    rw [show 0 + 0 * CL.sz + i = i by omega]
    exact key i u (by rw [List.getElem?_append_left hi]; exact hu)
  · simp at hz
    subst hz
    refine ⟨cy, hy _ _, fun i u hu => ?_⟩
    rw [show 0 + (0 + 1) * CL.sz + i = cx.length + i by rw [lx]; omega]
    exact key _ u (by rw [List.getElem?_append_right (by omega), Nat.add_sub_cancel_left]; exact hu)
  · simp at hz

set_option maxRecDepth 100000 in
set_option maxHeartbeats 4000000 in
theorem live18_calls (w : World) (hg : Sg w) :
    Calls Tryd.prog 31 #[] w fun e w' => e = .returned (.bool true) ∧ Ext w w' := by
  have HG := Lib.hid hg
  clear hg
  go_enter Tryd.func31, Tryd.ntmps31
  go_wp2_with fail
  refine (new_calls w).mono ?_
  rintro e w1 ⟨⟨p, r, rfl, hp, hr, hh⟩, hE1⟩
  have HH1 := Lib.hid hh
  have HE1 := Lib.hid hE1
  clear hh hE1
  have hrl : r < w1.heap.size := by
    obtain ⟨_, ⟨es, ck, hm, _⟩, _⟩ := HH1.out
    exact (Array.getElem?_eq_some_iff.1 hm).1
  go_wp2_with fail
  have hE2 : Ext w1 (((w1.alloc (.cells #[.int .i64 0, .int .i64 1] 31)).alloc (.cells #[.int .i64 0, .int .i64 2] 31)).alloc (.cells #[.int .u8 3, .string ⟨#[102]⟩, .int .i64 1, .int .i64 0, .int .i64 0, .int .u8 4, .string ⟨#[]⟩, .int .i64 0, .int .i64 0, .int .i64 2] 36)) := (((Ext.refl _).alloc _).alloc _).alloc _
  have hA : (((w1.alloc (.cells #[.int .i64 0, .int .i64 1] 31)).alloc (.cells #[.int .i64 0, .int .i64 2] 31)).alloc (.cells #[.int .u8 3, .string ⟨#[102]⟩, .int .i64 1, .int .i64 0, .int .i64 0, .int .u8 4, .string ⟨#[]⟩, .int .i64 0, .int .i64 0, .int .i64 2] 36)).heap[w1.heap.size]? = some (.cells #[.int .i64 0, .int .i64 1] 31 (0, 0)) := (((Ext.refl _).alloc _).alloc _).heap (heap_alloc_new w1 _)
  have hB : (((w1.alloc (.cells #[.int .i64 0, .int .i64 1] 31)).alloc (.cells #[.int .i64 0, .int .i64 2] 31)).alloc (.cells #[.int .u8 3, .string ⟨#[102]⟩, .int .i64 1, .int .i64 0, .int .i64 0, .int .u8 4, .string ⟨#[]⟩, .int .i64 0, .int .i64 0, .int .i64 2] 36)).heap[w1.heap.size + 1]? = some (.cells #[.int .i64 0, .int .i64 2] 31 (0, 0)) := ((Ext.refl _).alloc _).heap (by have := heap_alloc_new (w1.alloc (.cells #[.int .i64 0, .int .i64 1] 31)) (.cells #[.int .i64 0, .int .i64 2] 31); simpa using this)
  have hS : Sl CL (((w1.alloc (.cells #[.int .i64 0, .int .i64 1] 31)).alloc (.cells #[.int .i64 0, .int .i64 2] 31)).alloc (.cells #[.int .u8 3, .string ⟨#[102]⟩, .int .i64 1, .int .i64 0, .int .i64 0, .int .u8 4, .string ⟨#[]⟩, .int .i64 0, .int .i64 0, .int .i64 2] 36)) (fun k => False ∨ k = w1.heap.size + 1 + 1) (.slice (some ⟨w1.heap.size + 1 + 1, 0, none⟩) 2 2) [fcl 102, vcl lvB] :=
    sl_two (cx := cv (fcl 102)) (cy := cv (vcl lvB)) (by simp) (fun _ _ => ⟨rfl, fcl_ok 102⟩) (fun _ _ => ⟨rfl, clok_vcl nmok_B⟩) rfl
  generalize (((w1.alloc (.cells #[.int .i64 0, .int .i64 1] 31)).alloc (.cells #[.int .i64 0, .int .i64 2] 31)).alloc (.cells #[.int .u8 3, .string ⟨#[102]⟩, .int .i64 1, .int .i64 0, .int .i64 0, .int .u8 4, .string ⟨#[]⟩, .int .i64 0, .int .i64 0, .int .i64 2] 36)) = W2 at hE2 hA hB hS ⊢
  refine (bind_calls p r [] _ _ 0 1 _ _ W2 (HH1.out.ext hE2) nmok_A hS (HG.out.ext (HE1.out.trans hE2))).mono ?_
  rintro e W3 ⟨rfl, hB3, hH3⟩
  rw [show bindE [] ⟨0, 1⟩ [fcl 102, vcl lvB] = 0 from cy_e1]
  rw [show bindL [] ⟨0, 1⟩ [fcl 102, vcl lvB] = _ from cy_l1] at hH3
  have HA3 := (hB3.block _ (Array.getElem?_eq_some_iff.1 hA).1 (by omega)).trans hA
  have HB3 := (hB3.block _ (Array.getElem?_eq_some_iff.1 hB).1 (by omega)).trans hB
  have hE3 := hB3.ext0 (HE1.out.trans hE2) hr
  obtain ⟨Bx, hBx⟩ : ∃ Bx, Bx = w1.heap.size := ⟨_, rfl⟩
  obtain ⟨By, hBy⟩ : ∃ By, By = w1.heap.size + 1 := ⟨_, rfl⟩
  rw [← hBy] at HB3
  rw [← hBy]
  rw [← hBx] at HA3
  rw [← hBx]
  have HBX := Lib.hid (And.intro (show Bx ≠ r by omega) (show By ≠ r by omega))
  have ha0 := cell_of_row W3 _ 0 _ _ _ HA3
  have ha1 := cell_of_row W3 _ 1 _ _ _ HA3
  have hb0 := cell_of_row W3 _ 0 _ _ _ HB3
  have hb1 := cell_of_row W3 _ 1 _ _ _ HB3
  have HH3 := Lib.hid hH3
  have HE3 := Lib.hid hE3
  have HA := Lib.hid HA3
  have HB := Lib.hid HB3
  clear hE2 hA hB hS hB3 hH3 hE3 HA3 HB3 hBx hBy hrl
  go_wp2_with fail
  have hE4 : Ext W3 (W3.alloc (.cells #[.int .u8 3, .string ⟨#[103]⟩, .int .i64 1, .int .i64 0, .int .i64 0, .int .u8 4, .string ⟨#[]⟩, .int .i64 0, .int .i64 0, .int .i64 1] 36)) := (Ext.refl _).alloc _
  have hS4 : Sl CL (W3.alloc (.cells #[.int .u8 3, .string ⟨#[103]⟩, .int .i64 1, .int .i64 0, .int .i64 0, .int .u8 4, .string ⟨#[]⟩, .int .i64 0, .int .i64 0, .int .i64 1] 36)) (fun k => False ∨ k = W3.heap.size) (.slice (some ⟨W3.heap.size, 0, none⟩) 2 2) [fcl 103, vcl lvA] :=
    sl_two (cx := cv (fcl 103)) (cy := cv (vcl lvA)) rfl (fun _ _ => ⟨rfl, fcl_ok 103⟩) (fun _ _ => ⟨rfl, clok_vcl nmok_A⟩) rfl
  generalize (W3.alloc (.cells #[.int .u8 3, .string ⟨#[103]⟩, .int .i64 1, .int .i64 0, .int .i64 0, .int .u8 4, .string ⟨#[]⟩, .int .i64 0, .int .i64 0, .int .i64 1] 36)) = W4 at hE4 hS4 ⊢
  refine (bind_calls p r _ _ _ 0 2 _ _ W4 (HH3.out.ext hE4) nmok_B hS4 (HG.out.ext (HE3.out.trans hE4))).mono ?_
  rintro e W5 ⟨rfl, hB5, hH5⟩
  rw [show bindE _ ⟨0, 2⟩ [fcl 103, vcl lvA] = 0 from cy_e2]
  rw [show bindL _ ⟨0, 2⟩ [fcl 103, vcl lvA] = _ from cy_l2] at hH5
  have HA5 := (hB5.block _ (Array.getElem?_eq_some_iff.1 (hE4.heap HA.out)).1 HBX.out.1).trans (hE4.heap HA.out)
  have HB5 := (hB5.block _ (Array.getElem?_eq_some_iff.1 (hE4.heap HB.out)).1 HBX.out.2).trans (hE4.heap HB.out)
  have hE5 := hB5.ext0 (HE3.out.trans hE4) hr
  clear ha0 ha1 hb0 hb1
  have ha0 : W5.cell? ⟨Bx, 0, none⟩ = some (.int .i64 0) := cell_of_row W5 _ 0 _ _ _ HA5
  have ha1 : W5.cell? ⟨Bx, 1, none⟩ = some (.int .i64 1) := cell_of_row W5 _ 1 _ _ _ HA5
  have hb0 : W5.cell? ⟨By, 0, none⟩ = some (.int .i64 0) := cell_of_row W5 _ 0 _ _ _ HB5
  have hb1 : W5.cell? ⟨By, 1, none⟩ = some (.int .i64 2) := cell_of_row W5 _ 1 _ _ _ HB5
  have HH5 := Lib.hid (show HeapOr W5 (fun _ => True) (.pointer (some ⟨p, 0, none⟩)) cyL from .inr ⟨p, r, rfl, hH5.imp fun _ _ => trivial⟩)
  have HE5 := Lib.hid hE5
  clear hE4 hS4 hB5 hH5 hE5 HA5 HB5 hp hr
  go_wp2_with fail
  refine (needed_calls _ cyL _ _ _ [lvB] _ (HH5.out.ext (by repeat (first | with_reducible exact Ext.refl _ | assumption | refine Ext.alloc ?_ _ | refine Ext.drewN ?_ _ | refine Ext.drew ?_ | refine Ext.set ?_ (by simp <;> omega) _ _ | refine Ext.trans ?_ (by assumption)))) (nm_box (w := W5) nmok_B) (by rw [cy_uB]; simp)).mono ?_
  rintro e W6 ⟨⟨nv, rfl, hn⟩, hE6⟩
  rw [cy_needed] at hn
  have hE56 := (Ext.trans ((Ext.refl W5).alloc _) hE6)
  have hla0 := hE56.cell ha0
  have hla1 := hE56.cell ha1
  have hlb0 := hE56.cell hb0
  have hlb1 := hE56.cell hb1
  have HN6 := Lib.hid (Own.sl hn)
  have HH6 := Lib.hid (HH5.out.ext hE56)
  have HE6 := Lib.hid (HE5.out.trans hE56)
  clear ha0 ha1 hb0 hb1 hn hE6 hE56
  go_wp2_with fail
  refine (path_calls _ cyL _ 0 1 0 2 W6 HH6.out nmok_A nmok_B (by rw [show (⟨0, 1⟩ : Nm) = lvA from rfl, cy_uA]; simp)).mono ?_
  rintro e W7 ⟨⟨pv, rfl, hpv⟩, hE7⟩
  rw [show pathR cyL ⟨0, 1⟩ ⟨0, 2⟩ = _ from cy_path] at hpv ⊢
  have ha0 := hE7.cell hla0
  have ha1 := hE7.cell hla1
  have hb0 := hE7.cell hlb0
  have hb1 := hE7.cell hlb1
  obtain ⟨pA, pc, rfl, _, _⟩ := Own.sl hpv
  have HH7 := Lib.hid (HH6.out.ext hE7)
  have HE7 := Lib.hid (HE6.out.trans hE7)
  obtain ⟨nA, nc, rfl, _, hnr⟩ := HN6.out.ext hE7
  obtain ⟨nb, no_, rfl, _, _⟩ := hnr.some_ (by simp)
  obtain ⟨_, _, hc0, hc1⟩ := hnr.nm_at (j := 0) (x := lvA) rfl
  obtain ⟨_, _, hd0, hd1⟩ := hnr.nm_at (j := 1) (x := lvB) rfl
  simp only [Nat.zero_mul, Nat.add_zero, Nat.one_mul, lvA, lvB, List.length_cons, List.length_nil, Nat.zero_add, Nat.reduceAdd] at hc0 hc1 hd0 hd1 ⊢
  clear hla0 hla1 hlb0 hlb1 hpv hE7 hnr
  have HCy : Hid (∀ w8, Ext W7 w8 → Calls Tryd.prog 65 #[.pointer (some ⟨p, 0, none⟩), .agg #[.int .i64 0, .int .i64 1]] w8 fun e w' => e = .returned (.bool true) ∧ Ext w8 w') := Lib.hid fun w8 hE => by
    have h := cyclic_calls _ cyL _ 0 1 w8 (HH7.out.ext hE) (by rw [show (⟨0, 1⟩ : Nm) = lvA from rfl, cy_nA, cy_uB]; simp)
    rw [show hasNm (keysW (walkS cyL (nextV cyL ⟨0, 1⟩))) ⟨0, 1⟩ = true from cy_cyc] at h
    exact h
  have HGa : Hid (∀ w8, Ext W7 w8 → Calls Tryd.prog 38 #[.pointer (some ⟨p, 0, none⟩), .slice none 0 0] w8 fun e w' => (∃ gA gc, e = .returned (.slice gA 2 gc)) ∧ Ext w8 w') := Lib.hid fun w8 hE => by
    refine (garbage_calls _ cyL _ (fun _ => True) (.slice none 0 0) [] w8 (HH7.out.ext hE) (Sl.nil _ _ _) (by simp [univ, cyL, varsT, addV, fcl, vcl, lvA, lvB]) (by simp [cyL])).mono ?_
    rintro e w9 ⟨⟨gv, rfl, hgv⟩, hE9⟩
    rw [cy_garb] at hgv
    obtain ⟨gA, gc, rfl, _, _⟩ := hgv.sl
    exact ⟨⟨gA, gc, rfl⟩, hE9⟩
  have HCn : Hid (∀ w8, Calls Tryd.prog 65 #[.pointer none, .agg #[.int .i64 0, .int .i64 1]] w8 fun e w' => e = .returned (.bool false) ∧ Ext w8 w') := Lib.hid fun w8 => by
    have h := cyclic_calls (.pointer none) [] (fun _ => True) 0 1 w8 (.inl ⟨rfl, rfl⟩) (by simp [nextV, getL, varsT, univ])
    rw [show hasNm (keysW (walkS [] (nextV [] ⟨0, 1⟩))) ⟨0, 1⟩ = false from cy_none] at h
    exact h
  have heq1 := fun d w => (run_eq_nm (d := d) (w := w) (x0 := 0) (x1 := 1) (y0 := 0) (y1 := 1)).trans (by rw [show ((0 : Int) == 0 && (1 : Int) == 1) = true by decide])
  have heq2 := fun d w => (run_eq_nm (d := d) (w := w) (x0 := 0) (x1 := 2) (y0 := 0) (y1 := 2)).trans (by rw [show ((0 : Int) == 0 && (2 : Int) == 2) = true by decide])
  have HCA : Hid (∀ w', Ext W7 w' → w'.cell? ⟨Bx, 0, none⟩ = some (.int .i64 0) ∧ w'.cell? ⟨Bx, 1, none⟩ = some (.int .i64 1) ∧ w'.cell? ⟨By, 0, none⟩ = some (.int .i64 0) ∧ w'.cell? ⟨By, 1, none⟩ = some (.int .i64 2) ∧ w'.cell? ⟨nb, no_, none⟩ = some (.int .i64 0) ∧ w'.cell? ⟨nb, no_ + 1, none⟩ = some (.int .i64 1) ∧ w'.cell? ⟨nb, no_ + 2, none⟩ = some (.int .i64 0) ∧ w'.cell? ⟨nb, no_ + 2 + 1, none⟩ = some (.int .i64 2)) := Lib.hid fun w' hE => ⟨hE.cell ha0, hE.cell ha1, hE.cell hb0, hE.cell hb1, hE.cell hc0, hE.cell hc1, hE.cell hd0, hE.cell hd1⟩
  have HEc := Lib.hid (Ext.refl W7)
  go_wp2_with fail
  go_region_held3 (fun w' => w'.cell? ⟨Bx, 0, none⟩ = some (.int .i64 0) ∧ w'.cell? ⟨Bx, 1, none⟩ = some (.int .i64 1) ∧ w'.cell? ⟨By, 0, none⟩ = some (.int .i64 0) ∧ w'.cell? ⟨By, 1, none⟩ = some (.int .i64 2) ∧ w'.cell? ⟨nb, no_, none⟩ = some (.int .i64 0) ∧ w'.cell? ⟨nb, no_ + 1, none⟩ = some (.int .i64 1) ∧ w'.cell? ⟨nb, no_ + 2, none⟩ = some (.int .i64 0) ∧ w'.cell? ⟨nb, no_ + 2 + 1, none⟩ = some (.int .i64 2)) (first | exact ⟨ha0, ha1, hb0, hb1, hc0, hc1, hd0, hd1⟩ | go_keep)
    (first
      | (go_at_call 65; (with_reducible refine (HCy.out _ ?_).mono ?_); (focus (exact HEc.out.trans (by repeat (first | with_reducible exact Ext.refl _ | assumption | refine Ext.alloc ?_ _ | refine Ext.drewN ?_ _ | refine Ext.drew ?_ | refine Ext.set ?_ (by simp <;> omega) _ _ | refine Ext.trans ?_ (by assumption))))); rintro e w8 ⟨rfl, hE8⟩; have HEc : Hid (Ext W7 w8) := Lib.hid (HEc.out.trans (Ext.trans (by repeat (first | with_reducible exact Ext.refl _ | assumption | refine Ext.alloc ?_ _ | refine Ext.drewN ?_ _ | refine Ext.drew ?_ | refine Ext.set ?_ (by simp <;> omega) _ _ | refine Ext.trans ?_ (by assumption))) hE8)); obtain ⟨ha0, ha1, hb0, hb1, hc0, hc1, hd0, hd1⟩ := HCA.out _ HEc.out; clear hE8)
      | (go_at_call 38; (with_reducible refine (HGa.out _ ?_).mono ?_); (focus (exact HEc.out.trans (by repeat (first | with_reducible exact Ext.refl _ | assumption | refine Ext.alloc ?_ _ | refine Ext.drewN ?_ _ | refine Ext.drew ?_ | refine Ext.set ?_ (by simp <;> omega) _ _ | refine Ext.trans ?_ (by assumption))))); rintro e w8 ⟨⟨gA, gc, rfl⟩, hE8⟩; have HEc : Hid (Ext W7 w8) := Lib.hid (HEc.out.trans (Ext.trans (by repeat (first | with_reducible exact Ext.refl _ | assumption | refine Ext.alloc ?_ _ | refine Ext.drewN ?_ _ | refine Ext.drew ?_ | refine Ext.set ?_ (by simp <;> omega) _ _ | refine Ext.trans ?_ (by assumption))) hE8)); obtain ⟨ha0, ha1, hb0, hb1, hc0, hc1, hd0, hd1⟩ := HCA.out _ HEc.out; clear hE8)
      | (go_at_call 65; (with_reducible refine (HCn.out _).mono ?_); rintro e w8 ⟨rfl, hE8⟩; have HEc : Hid (Ext W7 w8) := Lib.hid (HEc.out.trans (Ext.trans (by repeat (first | with_reducible exact Ext.refl _ | assumption | refine Ext.alloc ?_ _ | refine Ext.drewN ?_ _ | refine Ext.drew ?_ | refine Ext.set ?_ (by simp <;> omega) _ _ | refine Ext.trans ?_ (by assumption))) hE8)); obtain ⟨ha0, ha1, hb0, hb1, hc0, hc1, hd0, hd1⟩ := HCA.out _ HEc.out; clear hE8))
  go_wp2_with fail
  go_ret
  exact ⟨rfl, HE7.out.trans (HEc.out.trans (by repeat (first | with_reducible exact Ext.refl _ | assumption | refine Ext.alloc ?_ _ | refine Ext.drewN ?_ _ | refine Ext.drew ?_ | refine Ext.set ?_ (by simp <;> omega) _ _ | refine Ext.trans ?_ (by assumption))))⟩

end Go.Proofs.YtehljfnoicppnaaDoor
