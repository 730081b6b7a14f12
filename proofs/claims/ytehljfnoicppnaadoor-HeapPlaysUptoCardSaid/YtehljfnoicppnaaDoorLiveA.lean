/- live: a heap with two values answers as it must. Conditions: the list of signs holds what the program lays there. -/
import Derived.Test.YtehljfnoicppnaaDoorLiveG
import Derived.Test.YtehljfnoicppnaaDoorHeapE
open Go Go.RowKit
set_option linter.unusedVariables false
namespace Go.Proofs.YtehljfnoicppnaaDoor

theorem live_g1 : globalS [vcl lvA] = true := globalS_iff.2 ⟨rightB_one (var_cell lvA (by decide) (by decide) (by decide)) (by simp [partsS, vcl]), by simp [varB, vcl, lvA]⟩
theorem live_g2 : globalS [lc3] = true := globalS_iff.2 ⟨rightB_one lc3_cell (by simp [partsS, lc3]), by simp [varB, lc3]⟩
theorem live_e1 : bindE [] lvB [vcl lvA] = 0 := by
  unfold bindE
  rw [var_right lvB (by decide) (by decide) (by decide), live_g1]
  simp [lvB, lvA, getL, vcl, lessB]
theorem live_l1 : bindL [] lvB [vcl lvA] = [⟨lvB, [vcl lvA]⟩] := by
  unfold bindL
  rw [live_e1]
  rfl
theorem live_e2 : bindE [⟨lvB, [vcl lvA]⟩] lvA [lc3] = 0 := by
  unfold bindE
  rw [var_right lvA (by decide) (by decide) (by decide), live_g2]
  simp [lvB, lvA, getL, vcl, lessB, lc3]
theorem live_l2 : bindL [⟨lvB, [vcl lvA]⟩] lvA [lc3] = [⟨lvA, [lc3]⟩, ⟨lvB, [vcl lvA]⟩] := by
  unfold bindL
  rw [live_e2]
  simp [insL, lessB, lvA, lvB]
theorem live_f : followS [⟨lvA, [lc3]⟩, ⟨lvB, [vcl lvA]⟩] [vcl lvB] = [lc3] := by
  simp [followS, followN, nextS, getL, vcl, lvA, lvB]
theorem live_e3 : bindE [⟨lvA, [lc3]⟩, ⟨lvB, [vcl lvA]⟩] lvB [lc3] = 70 := by
  unfold bindE
  rw [var_right lvB (by decide) (by decide) (by decide), live_g2]
  simp [lvB, lvA, getL, vcl, lc3]

set_option maxRecDepth 100000 in
set_option maxHeartbeats 1000000 in
theorem live_calls (w : World) (hg : Sg w) :
    Calls Tryd.prog 15 #[] w fun e w' => e = .returned (.bool true) ∧ Ext w w' := by
  have HG := Lib.hid hg
  clear hg
  go_enter Tryd.func15, Tryd.ntmps15
  go_wp2_with fail
  refine (new_calls w).mono ?_
  rintro e w1 ⟨⟨p, r, rfl, hp, hr, hh⟩, hE1⟩
  have HH1 := Lib.hid hh
  have HE1 := Lib.hid hE1
  clear hh hE1
  have hrl : r < w1.heap.size := by
    obtain ⟨_, ⟨es, ck, hm, _⟩, _⟩ := HH1.out
    exact (Array.getElem?_eq_some_iff.1 hm).1
  go_wp2_with fail
  have hE2 : Ext w1 (((w1.alloc (.cells #[.int .i64 0, .int .i64 1] 31)).alloc (.cells #[.int .i64 0, .int .i64 2] 31)).alloc (.cells #[.int .u8 4, .string ⟨#[]⟩, .int .i64 0, .int .i64 0, .int .i64 1] 36)) := (((Ext.refl _).alloc _).alloc _).alloc _
  have hA : (((w1.alloc (.cells #[.int .i64 0, .int .i64 1] 31)).alloc (.cells #[.int .i64 0, .int .i64 2] 31)).alloc (.cells #[.int .u8 4, .string ⟨#[]⟩, .int .i64 0, .int .i64 0, .int .i64 1] 36)).heap[w1.heap.size]? = some (.cells #[.int .i64 0, .int .i64 1] 31 (0, 0)) := (((Ext.refl _).alloc _).alloc _).heap (heap_alloc_new w1 _)
  have hB : (((w1.alloc (.cells #[.int .i64 0, .int .i64 1] 31)).alloc (.cells #[.int .i64 0, .int .i64 2] 31)).alloc (.cells #[.int .u8 4, .string ⟨#[]⟩, .int .i64 0, .int .i64 0, .int .i64 1] 36)).heap[w1.heap.size + 1]? = some (.cells #[.int .i64 0, .int .i64 2] 31 (0, 0)) := ((Ext.refl _).alloc _).heap (by have := heap_alloc_new (w1.alloc (.cells #[.int .i64 0, .int .i64 1] 31)) (.cells #[.int .i64 0, .int .i64 2] 31); simpa using this)
  have hS : Sl CL (((w1.alloc (.cells #[.int .i64 0, .int .i64 1] 31)).alloc (.cells #[.int .i64 0, .int .i64 2] 31)).alloc (.cells #[.int .u8 4, .string ⟨#[]⟩, .int .i64 0, .int .i64 0, .int .i64 1] 36)) (fun k => False ∨ k = w1.heap.size + 1 + 1) (.slice (some ⟨w1.heap.size + 1 + 1, 0, none⟩) 1 1) [vcl lvA] :=
    Sl.box_at (d := CL) (ok := fun _ => False) (by simp) ⟨rfl, clok_vcl nmok_A⟩
  generalize (((w1.alloc (.cells #[.int .i64 0, .int .i64 1] 31)).alloc (.cells #[.int .i64 0, .int .i64 2] 31)).alloc (.cells #[.int .u8 4, .string ⟨#[]⟩, .int .i64 0, .int .i64 0, .int .i64 1] 36)) = W2 at hE2 hA hB hS ⊢
  refine (bind_calls p r [] _ _ 0 2 _ _ W2 (HH1.out.ext hE2) nmok_B hS (HG.out.ext (HE1.out.trans hE2))).mono ?_
  rintro e W3 ⟨rfl, hB3, hH3⟩
  rw [show bindE [] ⟨0, 2⟩ [vcl lvA] = 0 from live_e1]
  rw [show bindL [] ⟨0, 2⟩ [vcl lvA] = _ from live_l1] at hH3
  have HA3 := (hB3.block _ (Array.getElem?_eq_some_iff.1 hA).1 (by omega)).trans hA
  have HB3 := (hB3.block _ (Array.getElem?_eq_some_iff.1 hB).1 (by omega)).trans hB
  have hE3 := hB3.ext0 (HE1.out.trans hE2) hr
  have ha0 := cell_of_row W3 _ 0 _ _ _ HA3
  have ha1 := cell_of_row W3 _ 1 _ _ _ HA3
  have hb0 := cell_of_row W3 _ 0 _ _ _ HB3
  have hb1 := cell_of_row W3 _ 1 _ _ _ HB3
  have HH3 := Lib.hid hH3
  have HE3 := Lib.hid hE3
  have HA := Lib.hid HA3
  have HB := Lib.hid HB3
  clear hE2 hA hB hS hB3 hH3 hE3 HA3 HB3
  go_wp2_with fail
  have hE4 : Ext W3 (W3.alloc (.cells #[.int .u8 1, .string ⟨#[]⟩, .int .i64 3, .int .i64 0, .int .i64 0] 36)) := (Ext.refl _).alloc _
  have hS4 : Sl CL (W3.alloc (.cells #[.int .u8 1, .string ⟨#[]⟩, .int .i64 3, .int .i64 0, .int .i64 0] 36)) (fun k => False ∨ k = W3.heap.size) (.slice (some ⟨W3.heap.size, 0, none⟩) 1 1) [lc3] :=
    Sl.box_at (d := CL) (ok := fun _ => False) rfl ⟨rfl, clok_lc3⟩
  generalize (W3.alloc (.cells #[.int .u8 1, .string ⟨#[]⟩, .int .i64 3, .int .i64 0, .int .i64 0] 36)) = W4 at hE4 hS4 ⊢
  refine (bind_calls p r _ _ _ 0 1 _ _ W4 (HH3.out.ext hE4) nmok_A hS4 (HG.out.ext (HE3.out.trans hE4))).mono ?_
  rintro e W5 ⟨rfl, hB5, hH5⟩
  rw [show bindE _ ⟨0, 1⟩ [lc3] = 0 from live_e2]
  rw [show bindL _ ⟨0, 1⟩ [lc3] = _ from live_l2] at hH5
  have HA5 := (hB5.block _ (Array.getElem?_eq_some_iff.1 (hE4.heap HA.out)).1 (by omega)).trans (hE4.heap HA.out)
  have HB5 := (hB5.block _ (Array.getElem?_eq_some_iff.1 (hE4.heap HB.out)).1 (by omega)).trans (hE4.heap HB.out)
  have hE5 := hB5.ext0 (HE3.out.trans hE4) hr
  clear ha0 ha1 hb0 hb1
  have ha0 := cell_of_row W5 _ 0 _ _ _ HA5
  have ha1 := cell_of_row W5 _ 1 _ _ _ HA5
  have hb0 := cell_of_row W5 _ 0 _ _ _ HB5
  have hb1 := cell_of_row W5 _ 1 _ _ _ HB5
  have HH5 := Lib.hid hH5
  have HE5 := Lib.hid hE5
  have HBB := Lib.hid HB5
  clear hE4 hS4 hB5 hH5 hE5 HA5 HB5
  go_wp2_with fail
  have hE6 : Ext W5 (W5.alloc (.cells #[.int .u8 4, .string ⟨#[]⟩, .int .i64 0, .int .i64 0, .int .i64 2] 36)) := (Ext.refl _).alloc _
  have hS6 : Sl CL (W5.alloc (.cells #[.int .u8 4, .string ⟨#[]⟩, .int .i64 0, .int .i64 0, .int .i64 2] 36)) (fun k => False ∨ k = W5.heap.size) (.slice (some ⟨W5.heap.size, 0, none⟩) 1 1) [vcl lvB] :=
    Sl.box_at (d := CL) (ok := fun _ => False) rfl ⟨rfl, clok_vcl nmok_B⟩
  generalize (W5.alloc (.cells #[.int .u8 4, .string ⟨#[]⟩, .int .i64 0, .int .i64 0, .int .i64 2] 36)) = W6 at hE6 hS6 ⊢
  refine (deref_calls _ _ (fun _ => True) _ [vcl lvB] W6 (.inr ⟨p, r, rfl, (HH5.out.ext hE6).imp fun _ _ => trivial⟩) (hS6.imp fun _ _ => trivial) (by simp)).mono ?_
  rintro e W7 ⟨⟨dv, rfl, hd⟩, hE7⟩
  rw [live_f] at hd
  have hE67 := hE6.trans hE7
  have hE07 := HE5.out.trans hE67
  clear ha0 ha1 hb0 hb1
  have hb0 := hE67.cell (cell_of_row W5 _ 0 _ _ _ HBB.out)
  have hb1 := hE67.cell (cell_of_row W5 _ 1 _ _ _ HBB.out)
  have HH7 := Lib.hid (HH5.out.ext hE67)
  have HE7 := Lib.hid hE07
  have HD := Lib.hid (Own.sl hd)
  obtain ⟨dA, dc, rfl, _, hdr⟩ := Own.sl hd
  obtain ⟨db, do_, rfl, _, _⟩ := hdr.some_ (by simp)
  obtain ⟨_, _, _, hc0, hc1, hc2, hc3, hc4⟩ := Sl.cl_at (n := 0) (c := 0) (j := 0) hdr rfl
  simp only [Nat.zero_mul, Nat.add_zero] at hc0 hc1 hc2 hc3 hc4
  rw [show lc3.n = 3 from rfl] at hc2
  clear hE6 hS6 hE7 hE67 hE07 hd hdr hc0 hc1 hc3 hc4
  go_wp2_with fail
  refine (bindings_calls _ _ _ W7 (.inr ⟨p, r, rfl, HH7.out⟩) (by simp)).mono ?_
  rintro e W8 ⟨⟨bv, rfl, hb⟩, hE8⟩
  obtain ⟨bA, bc, rfl, _, _⟩ := Own.sl hb
  have hb08 := hE8.cell hb0
  have hb18 := hE8.cell hb1
  have HE8 := Lib.hid hE8
  clear hb hb0 hb1 hc2 hE8
  go_wp2_with fail
  refine (bind_calls p r _ _ _ 0 2 _ [lc3] W8 (HH7.out.ext HE8.out) nmok_B (HD.out.ext HE8.out) (HG.out.ext (HE7.out.trans HE8.out))).mono ?_
  rintro e W9 ⟨rfl, hB9, hH9⟩
  rw [show bindE _ ⟨0, 2⟩ [lc3] = 70 from live_e3]
  have HE9 := Lib.hid (hB9.ext0 (HE7.out.trans HE8.out) hr)
  clear hB9 hH9
  go_wp2
  go_ret
  exact ⟨rfl, HE9.out⟩

end Go.Proofs.YtehljfnoicppnaaDoor
