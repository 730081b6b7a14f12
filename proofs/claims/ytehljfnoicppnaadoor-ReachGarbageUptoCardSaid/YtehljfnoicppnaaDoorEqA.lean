/- purlinref01.Equal by its contract. Conditions: none. -/
import Derived.Test.YtehljfnoicppnaaDoorTermB
open Go Go.RowKit
set_option linter.unusedVariables false
namespace Go.Proofs.YtehljfnoicppnaaDoor

def tmEq (t u : List Cl) : Bool := decide (t = u)
theorem take_eq_step {t u : List Cl} {i : Nat} {x y : Cl} (h : t.take i = u.take i) (hx : t[i]? = some x) (hy : u[i]? = some y) (he : x = y) : t.take (i + 1) = u.take (i + 1) := by
  rw [List.take_add_one, List.take_add_one, h, hx, hy, he]

set_option maxRecDepth 100000 in
set_option maxHeartbeats 1000000 in
theorem equal_calls (v1 v2 : Value) (t u : List Cl) (ok1 ok2 : Ok) (w : World) (h1 : Sl CL w ok1 v1 t) (h2 : Sl CL w ok2 v2 u) :
    Calls Tryd.prog 19 #[v1, v2] w fun e w' => e = .returned (.bool (tmEq t u)) ∧ Ext w w' := by
  obtain ⟨A1, c1, rfl, _, hr1⟩ := h1
  obtain ⟨A2, c2, rfl, _, hr2⟩ := h2
  have hm := hr1.1
  unfold maxLen at hm
  have HR1 := Lib.hid hr1
  have HR2 := Lib.hid hr2
  clear hr1 hr2
  by_cases hl : t.length = u.length
  · have g : ((t.length : Int) != (u.length : Int)) = false := by simp [hl]
    have HL := Lib.hid hl
    go_enter Tryd.func19, Tryd.ntmps19
    go_wp2
    clear g hl
    go_loopw [5] (fun s wr => ∃ i : Nat, i ≤ t.length ∧ s = .int .i64 i ∧ t.take i = u.take i ∧ Ext w wr) (fun s _ => t.length - (intOf s).toNat)
    case atStart => exact ⟨0, Nat.zero_le _, rfl, rfl, Ext.refl _⟩
    case round =>
      obtain ⟨i, hi, rfl, htk, hE⟩ := hrel
      have HTK := Lib.hid htk
      clear htk
      by_cases hlt : i < t.length
      · obtain ⟨⟨x0, x1, x2, ⟨x3, x4⟩⟩, hx⟩ : ∃ x, t[i]? = some x := ⟨_, List.getElem?_eq_getElem hlt⟩
        obtain ⟨⟨y0, y1, y2, ⟨y3, y4⟩⟩, hy⟩ : ∃ y, u[i]? = some y := ⟨_, List.getElem?_eq_getElem (by rw [← HL.out]; exact hlt)⟩
        obtain ⟨b1, o1, rfl, _, _⟩ := HR1.out.some_ (by omega)
        obtain ⟨b2, o2, rfl, _, _⟩ := HR2.out.some_ (by have := HL.out; omega)
        obtain ⟨_, _, _, hc0, hc1, hc2, hc3, hc4⟩ := Sl.cl_at (n := 0) (c := 0) (HR1.out.ext hE) hx
        obtain ⟨_, _, _, hd0, hd1, hd2, hd3, hd4⟩ := Sl.cl_at (n := 0) (c := 0) (HR2.out.ext hE) hy
        have heq := fun d w => run_eq_cl d w x0 y0 x1 y1 x2 y2 x3 y3 x4 y4
        have hlt2 : i < u.length := by rw [← HL.out]; exact hlt
        have HX := Lib.hid hx
        have HY := Lib.hid hy
        have HE := Lib.hid hE
        have HLT := Lib.hid hlt
        clear hx hy hE
        by_cases he : (⟨x0, x1, x2, ⟨x3, x4⟩⟩ : Cl) = ⟨y0, y1, y2, ⟨y3, y4⟩⟩
        · have heq' := fun d w => (heq d w).trans (by rw [decide_eq_true he])
          have HN := Lib.hid he
          clear heq he
          go_wp2
          go_quiet (fail)
          go_wp2
          have hlt' := HLT.out
          exact ⟨⟨i + 1, by omega, by go_num, take_eq_step HTK.out HX.out HY.out HN.out, HE.out.drewN _⟩, by simp [intOf]; omega⟩
        · have heq' := fun d w => (heq d w).trans (by rw [decide_eq_false he])
          have hne : tmEq t u = false := by
            refine decide_eq_false fun h => he ?_
            have h1 := HX.out
            rw [h, HY.out] at h1
            injection h1 with h1
            exact h1.symm
          have HN := Lib.hid hne
          clear heq he hne
          go_wp2
          go_quiet (fail)
          go_wp2
          go_ret
          exact ⟨ret_bool HN.out.symm, HE.out.drewN _⟩
      · obtain rfl : i = t.length := by omega
        have hyes : tmEq t u = true := by
          have h1 := HTK.out
          rw [List.take_length, HL.out, List.take_length] at h1
          exact decide_eq_true h1
        have HY := Lib.hid hyes
        clear hyes
        go_wp2
        go_ret
        exact ⟨ret_bool HY.out.symm, hE⟩
  · have g : ((t.length : Int) != (u.length : Int)) = true := by simp; omega
    have hno : tmEq t u = false := decide_eq_false fun h => hl (by rw [h])
    have HN := Lib.hid hno
    clear hno hl
    go_enter Tryd.func19, Tryd.ntmps19
    go_wp2
    go_ret
    exact ⟨ret_bool HN.out.symm, Ext.refl _⟩

end Go.Proofs.YtehljfnoicppnaaDoor
