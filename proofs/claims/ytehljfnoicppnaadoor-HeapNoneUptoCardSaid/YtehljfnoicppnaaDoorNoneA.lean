/- HeapNone's walk: it answers true. Conditions: the term has at most 2^31 cells; the list of signs holds what the program lays there. -/
import Derived.Test.YtehljfnoicppnaaDoorLiveA
import Derived.Test.YtehljfnoicppnaaDoorEqA
open Go Go.RowKit
set_option linter.unusedVariables false
namespace Go.Proofs.YtehljfnoicppnaaDoor

theorem chainS_nil (t : List Cl) : chainS [] t = if t.length = 0 then [] else [t] := by
  unfold chainS chainF
  rfl
theorem followS_nil (t : List Cl) : followS [] t = t := rfl

set_option maxRecDepth 100000 in
set_option maxHeartbeats 1000000 in
theorem heapNone_calls (a b : Int) (tv : Value) (t : List Cl) (ok : Ok) (w : World) (ht : Sl CL w ok tv t) (hl : t.length ≤ 2147483648) (ha : NmOk ⟨a, b⟩) (hg : Sg w) :
    Calls Tryd.prog 6 #[.agg #[.int .i64 a, .int .i64 b], tv] w fun e w' => e = .returned (.bool true) ∧ Ext w w' := by
  have HN : ∀ w1 ok, HeapOr w1 ok (.pointer none) [] := fun _ _ => .inl ⟨rfl, rfl⟩
  have HN := Lib.hid HN
  rename_i HN'
  clear HN'
  have HT := Lib.hid ht
  have HG := Lib.hid hg
  have HA := Lib.hid ha
  obtain ⟨A, c, rfl, hc, hr⟩ := ht
  clear hr hg ha
  go_enter Tryd.func6, Tryd.ntmps6
  go_wp2_with fail
  refine (Value_calls _ [] _ a b _ (HN.out _ (fun _ => True))).mono ?_
  rintro e w1 ⟨⟨u, rfl, hu⟩, hE1⟩
  clear hu
  rw [show (getL [] ⟨a, b⟩).isSome = false from rfl]
  have hb0 := hE1.cell (cell_of_row _ w.heap.size 0 _ _ _ (heap_alloc_new w (.cells #[.int .i64 a, .int .i64 b] 31)))
  have hb1 := hE1.cell (cell_of_row _ w.heap.size 1 _ _ _ (heap_alloc_new w (.cells #[.int .i64 a, .int .i64 b] 31)))
  have HE1 := Lib.hid (Ext.trans ((Ext.refl w).alloc _) hE1)
  clear hE1
  go_wp2_with fail
  refine (chain_calls _ [] ok _ t w1 (HN.out _ _) (HT.out.ext HE1.out) hl (by simp)).mono ?_
  rintro e w2 ⟨⟨cv, rfl, hcv⟩, hE2⟩
  obtain ⟨C, hC⟩ : ∃ C, chainS [] t = C := ⟨_, rfl⟩
  rw [hC] at hcv
  have HC := Lib.hid hC
  clear hC
  obtain ⟨cA, cc, rfl, _, _⟩ := Own.sl hcv
  clear hcv
  have hb02 := hE2.cell hb0
  have hb12 := hE2.cell hb1
  have HE2 := Lib.hid (HE1.out.trans hE2)
  clear hE2 hb0 hb1
  go_wp2_with fail
  have hS : Sl NM (w2.alloc (.cells #[.int .i64 a, .int .i64 b] 31)) (fun k => False ∨ k = w2.heap.size) (.slice (some ⟨w2.heap.size, 0, none⟩) 1 1) [⟨a, b⟩] := Sl.box_at (d := NM) (ok := fun _ => False) rfl ⟨rfl, HA.out⟩
  refine (dropNil_calls _ [⟨a, b⟩] _ _ hS).mono ?_
  rintro e w3 ⟨rfl, hE3⟩
  have hE23 : Ext w2 w3 := Ext.trans ((Ext.refl _).alloc _) hE3
  have hb03 := hE23.cell hb02
  have hb13 := hE23.cell hb12
  have HE3 := Lib.hid (HE2.out.trans hE23)
  clear hE3 hE23 hS hb02 hb12
  go_wp2_with fail
  refine (resolveNil_calls _ _).mono ?_
  rintro e w4 ⟨rfl, hE4⟩
  have hb04 := hE4.cell hb03
  have hb14 := hE4.cell hb13
  have HE4 := Lib.hid (HE3.out.trans hE4)
  clear hE4 hb03 hb13
  go_wp2_with fail
  refine (live_calls w4 (HG.out.ext HE4.out)).mono ?_
  rintro e w5 ⟨rfl, hE5⟩
  have hb05 := hE5.cell hb04
  have hb15 := hE5.cell hb14
  have HE5 := Lib.hid (HE4.out.trans hE5)
  clear hE5 hb04 hb14
  go_wp2_with fail
  refine (bindNil_calls _ _ _ _).mono ?_
  rintro e w6 ⟨rfl, hE6⟩
  have HE6 := Lib.hid (HE5.out.trans hE6)
  clear hE6
  go_wp2_with fail
  refine (bindings_calls _ [] (fun _ => True) w6 (HN.out _ _) (by simp)).mono ?_
  rintro e w7 ⟨⟨bv, rfl, hbv⟩, hE7⟩
  obtain ⟨bA, bc, rfl, _, _⟩ := Own.sl hbv
  have HE7 := Lib.hid (HE6.out.trans hE7)
  clear hE7 hbv
  go_wp2_with fail
  refine (forkNil_calls _).mono ?_
  rintro e w8 ⟨rfl, hE8⟩
  have HE8 := Lib.hid (HE7.out.trans hE8)
  clear hE8
  by_cases h0 : t.length = 0
  · have g : ((t.length : Int) == 0) = true := by simp [h0]
    clear h0
    go_wp2
    go_ret
    exact ⟨rfl, HE8.out⟩
  · have g : ((t.length : Int) == 0) = false := by simp [h0]
    have hC1 : C.length = 1 := by rw [← HC.out, chainS_nil, if_neg h0]; rfl
    have g2 : ((C.length : Int) == 1) = true := by simp [hC1]
    clear h0 hC1
    go_wp2_with fail
    refine (deref_calls _ [] ok _ t w8 (HN.out _ _) (HT.out.ext HE8.out) hl).mono ?_
    rintro e w9 ⟨⟨dv, rfl, hdv⟩, hE9⟩
    rw [followS_nil] at hdv
    have HD := Lib.hid (Own.sl hdv)
    obtain ⟨dA, dc, rfl, _, _⟩ := Own.sl hdv
    have HE9 := Lib.hid (HE8.out.trans hE9)
    clear hE9 hdv
    go_wp2_with fail
    refine (equal_calls _ _ t t _ _ w9 HD.out (HT.out.ext HE9.out)).mono ?_
    rintro e w10 ⟨rfl, hE10⟩
    rw [show tmEq t t = true by simp [tmEq]]
    have HE10 := Lib.hid (HE9.out.trans hE10)
    clear hE10
    go_wp2
    go_ret
    exact ⟨rfl, HE10.out⟩

end Go.Proofs.YtehljfnoicppnaaDoor
