/- The reference's SameBindings, HasName, Vars and VarsOf, each by its contract. Conditions: a term whose variables are asked for has at most 2^31 cells. -/
import Derived.Test.YtehljfnoicppnaaDoorRefE
import Derived.Test.YtehljfnoicppnaaDoorEqA
open Go Go.RowKit
set_option linter.unusedVariables false
namespace Go.Proofs.YtehljfnoicppnaaDoor

theorem drew_more {w wr : World} (h : ∃ m, wr = w.drewN m) (n : Nat) : ∃ m, wr.drewN n = w.drewN m := by
  obtain ⟨m, rfl⟩ := h
  exact ⟨m + n, by simp⟩

set_option maxRecDepth 100000 in
set_option maxHeartbeats 1000000 in
theorem equalQ_calls (v1 v2 : Value) (t u : List Cl) (ok1 ok2 : Ok) (w : World) (h1 : Sl CL w ok1 v1 t) (h2 : Sl CL w ok2 v2 u) :
    Calls Tryd.prog 19 #[v1, v2] w fun e w' => e = .returned (.bool (tmEq t u)) ∧ ∃ m, w' = w.drewN m := by
  obtain ⟨A1, c1, rfl, _, hr1⟩ := h1
  obtain ⟨A2, c2, rfl, _, hr2⟩ := h2
  have hm := hr1.1
  unfold maxLen at hm
  have HR1 := Lib.hid hr1
  have HR2 := Lib.hid hr2
  clear hr1 hr2
  by_cases hl : t.length = u.length
  · have g : ((t.length : Int) != (u.length : Int)) = false := by simp [hl]
    have HL := Lib.hid hl
    go_enter Tryd.func19, Tryd.ntmps19
    go_wp2
    clear g hl
    go_loopw [5] (fun s wr => ∃ i : Nat, i ≤ t.length ∧ s = .int .i64 i ∧ t.take i = u.take i ∧ ∃ m, wr = w.drewN m) (fun s _ => t.length - (intOf s).toNat)
    case atStart => exact ⟨0, Nat.zero_le _, rfl, rfl, 0, rfl⟩
    case round =>
      obtain ⟨i, hi, rfl, htk, hwm⟩ := hrel
      have hE : Ext w wr := by obtain ⟨m, rfl⟩ := hwm; exact (Ext.refl _).drewN m
      have HWM := Lib.hid hwm
      clear hwm
      have HTK := Lib.hid htk
      clear htk
      by_cases hlt : i < t.length
      · obtain ⟨⟨x0, x1, x2, ⟨x3, x4⟩⟩, hx⟩ : ∃ x, t[i]? = some x := ⟨_, List.getElem?_eq_getElem hlt⟩
        obtain ⟨⟨y0, y1, y2, ⟨y3, y4⟩⟩, hy⟩ : ∃ y, u[i]? = some y := ⟨_, List.getElem?_eq_getElem (by rw [← HL.out]; exact hlt)⟩
        obtain ⟨b1, o1, rfl, _, _⟩ := HR1.out.some_ (by omega)
        obtain ⟨b2, o2, rfl, _, _⟩ := HR2.out.some_ (by have := HL.out; omega)
        obtain ⟨_, _, _, hc0, hc1, hc2, hc3, hc4⟩ := Sl.cl_at (n := 0) (c := 0) (HR1.out.ext hE) hx
        obtain ⟨_, _, _, hd0, hd1, hd2, hd3, hd4⟩ := Sl.cl_at (n := 0) (c := 0) (HR2.out.ext hE) hy
        have heq := fun d w => run_eq_cl d w x0 y0 x1 y1 x2 y2 x3 y3 x4 y4
        have hlt2 : i < u.length := by rw [← HL.out]; exact hlt
        have HX := Lib.hid hx
        have HY := Lib.hid hy
        have HE := Lib.hid hE
        have HLT := Lib.hid hlt
        clear hx hy hE
        by_cases he : (⟨x0, x1, x2, ⟨x3, x4⟩⟩ : Cl) = ⟨y0, y1, y2, ⟨y3, y4⟩⟩
        · have heq' := fun d w => (heq d w).trans (by rw [decide_eq_true he])
          have HN := Lib.hid he
          clear heq he
          go_wp2
          go_quiet (fail)
          go_wp2
          have hlt' := HLT.out
          exact ⟨⟨i + 1, by omega, by go_num, take_eq_step HTK.out HX.out HY.out HN.out, drew_more HWM.out _⟩, by simp [intOf]; omega⟩
        · have heq' := fun d w => (heq d w).trans (by rw [decide_eq_false he])
          have hne : tmEq t u = false := by
            refine decide_eq_false fun h => he ?_
            have h1 := HX.out
            rw [h, HY.out] at h1
            injection h1 with h1
            exact h1.symm
          have HN := Lib.hid hne
          clear heq he hne
          go_wp2
          go_quiet (fail)
          go_wp2
          go_ret
          exact ⟨ret_bool HN.out.symm, drew_more HWM.out _⟩
      · obtain rfl : i = t.length := by omega
        have hyes : tmEq t u = true := by
          have h1 := HTK.out
          rw [List.take_length, HL.out, List.take_length] at h1
          exact decide_eq_true h1
        have HY := Lib.hid hyes
        clear hyes
        go_wp2
        go_ret
        exact ⟨ret_bool HY.out.symm, HWM.out⟩
  · have g : ((t.length : Int) != (u.length : Int)) = true := by simp; omega
    have hno : tmEq t u = false := decide_eq_false fun h => hl (by rw [h])
    have HN := Lib.hid hno
    clear hno hl
    go_enter Tryd.func19, Tryd.ntmps19
    go_wp2
    go_ret
    exact ⟨ret_bool HN.out.symm, 0, rfl⟩

def bdsEq (L M : List Bd) : Bool := decide (L = M)
theorem take_eq_more {α : Type} {t u : List α} {i : Nat} {x y : α} (h : t.take i = u.take i) (hx : t[i]? = some x) (hy : u[i]? = some y) (he : x = y) : t.take (i + 1) = u.take (i + 1) := by
  rw [List.take_add_one, List.take_add_one, h, hx, hy, he]

set_option maxRecDepth 100000 in
set_option maxHeartbeats 1000000 in
theorem sameBindings_calls (v1 v2 : Value) (L M : List Bd) (ok1 ok2 : Ok) (w : World) (h1 : Sl BD w ok1 v1 L) (h2 : Sl BD w ok2 v2 M) :
    Calls Tryd.prog 16 #[v1, v2] w fun e w' => e = .returned (.bool (bdsEq L M)) ∧ Ext w w' := by
  obtain ⟨A1, c1, rfl, _, hr1⟩ := h1
  obtain ⟨A2, c2, rfl, _, hr2⟩ := h2
  have hm := hr1.1
  unfold maxLen at hm
  have HR1 := Lib.hid hr1
  have HR2 := Lib.hid hr2
  clear hr1 hr2
  by_cases hl : L.length = M.length
  · have g : ((L.length : Int) != (M.length : Int)) = false := by simp [hl]
    have HL := Lib.hid hl
    go_enter Tryd.func16, Tryd.ntmps16
    go_wp2
    clear g hl
    go_loopw [5] (fun s wr => ∃ i : Nat, i ≤ L.length ∧ s = .int .i64 i ∧ Hid (L.take i = M.take i) ∧ Hid (Ext w wr)) (fun s _ => L.length - (intOf s).toNat)
    case atStart => exact ⟨0, Nat.zero_le _, rfl, Lib.hid rfl, Lib.hid (Ext.refl _)⟩
    case round =>
      obtain ⟨i, hi, rfl, HTK, HE⟩ := hrel
      by_cases hlt : i < L.length
      · obtain ⟨⟨⟨x0, x1⟩, xt⟩, hx⟩ : ∃ x, L[i]? = some x := ⟨_, List.getElem?_eq_getElem hlt⟩
        obtain ⟨⟨⟨y0, y1⟩, yt⟩, hy⟩ : ∃ y, M[i]? = some y := ⟨_, List.getElem?_eq_getElem (by rw [← HL.out]; exact hlt)⟩
        obtain ⟨b1, o1, rfl, _, _⟩ := HR1.out.some_ (by omega)
        obtain ⟨b2, o2, rfl, _, _⟩ := HR2.out.some_ (by have := HL.out; omega)
        obtain ⟨_, _, _, hc0, hc1, u1, hc2, hu1⟩ := (HR1.out.ext HE.out).bd_at hx
        obtain ⟨_, _, _, hd0, hd1, u2, hd2, hu2⟩ := (HR2.out.ext HE.out).bd_at hy
        have hlt2 : i < M.length := by rw [← HL.out]; exact hlt
        have HX := Lib.hid hx
        have HY := Lib.hid hy
        have HLT := Lib.hid hlt
        have HC := Lib.hid (fun n => equalQ_calls u1 u2 xt yt _ _ (wr.drewN n) (hu1.ext ((Ext.refl _).drewN n)) (hu2.ext ((Ext.refl _).drewN n)))
        clear hx hy hu1 hu2
        by_cases he : x0 = y0 ∧ x1 = y1
        · have heq := fun d w => run_eq_nm d w x0 x1 y0 y1
          have hbt : (x0 == y0 && x1 == y1) = true := by simpa using he
          have heq' := fun d w => (heq d w).trans (by rw [hbt])
          have HN := Lib.hid he
          clear heq hbt he
          cases ht : tmEq xt yt
          · have hne : bdsEq L M = false := by
              refine decide_eq_false fun h => ?_
              have h1 := HX.out
              rw [h, HY.out] at h1
              injection h1 with h1
              injection h1 with h2 h3
              rw [h3] at ht
              simp [tmEq] at ht
            have HF := Lib.hid hne
            have HC2 := Lib.hid (fun n => (HC.out n).mono (fun e w' h => (⟨by rw [h.1, ht], h.2⟩ : e = .returned (.bool false) ∧ ∃ m, w' = (wr.drewN n).drewN m)))
            clear hne ht
            go_wp2
            go_quiet ((go_at_call 19; exact Calls.quiet_of (HC2.out _)))
            go_wp2
            go_ret
            exact ⟨ret_bool HF.out.symm, HE.out.drewN _⟩
          · have hyes : (⟨⟨x0, x1⟩, xt⟩ : Bd) = ⟨⟨y0, y1⟩, yt⟩ := by
              have h1 : xt = yt := by simpa [tmEq] using ht
              rw [HN.out.1, HN.out.2, h1]
            have HTN := Lib.hid (take_eq_more HTK.out HX.out HY.out hyes)
            have HC2 := Lib.hid (fun n => (HC.out n).mono (fun e w' h => (⟨by rw [h.1, ht], h.2⟩ : e = .returned (.bool true) ∧ ∃ m, w' = (wr.drewN n).drewN m)))
            clear hyes ht
            go_wp2
            go_quiet ((go_at_call 19; exact Calls.quiet_of (HC2.out _)))
            go_wp2
            exact ⟨⟨i + 1, by omega, by go_num, HTN, Lib.hid (HE.out.drewN _)⟩, by simp [intOf]; omega⟩
        · have heq := fun d w => run_eq_nm d w x0 x1 y0 y1
          have hbt : (x0 == y0 && x1 == y1) = false := by rw [Bool.eq_false_iff]; simpa using he
          have heq' := fun d w => (heq d w).trans (by rw [hbt])
          have hne : bdsEq L M = false := by
            refine decide_eq_false fun h => he ?_
            have h1 := HX.out
            rw [h, HY.out] at h1
            injection h1 with h1
            injection h1 with h2 h3
            injection h2 with h4 h5
            exact ⟨h4.symm, h5.symm⟩
          have HF := Lib.hid hne
          clear heq hbt he hne
          go_wp2
          go_quiet (fail)
          go_wp2
          go_ret
          exact ⟨ret_bool HF.out.symm, HE.out.drewN _⟩
      · obtain rfl : i = L.length := by omega
        have hyes : bdsEq L M = true := by
          have h1 := HTK.out
          rw [List.take_length, HL.out, List.take_length] at h1
          exact decide_eq_true h1
        have HY := Lib.hid hyes
        clear hyes
        go_wp2
        go_ret
        exact ⟨ret_bool HY.out.symm, HE.out⟩
  · have g : ((L.length : Int) != (M.length : Int)) = true := by simp; omega
    have hno : bdsEq L M = false := decide_eq_false fun h => hl (by rw [h])
    have HN := Lib.hid hno
    clear hno hl
    go_enter Tryd.func16, Tryd.ntmps16
    go_wp2
    go_ret
    exact ⟨ret_bool HN.out.symm, Ext.refl _⟩

end Go.Proofs.YtehljfnoicppnaaDoor
