/- The reference's names, order and signs, each by its contract, in the program side's words. Conditions: none. -/
import Derived.Test.YtehljfnoicppnaaDoorTermF
open Go Go.RowKit
set_option linter.unusedVariables false
namespace Go.Proofs.YtehljfnoicppnaaDoor

set_option maxHeartbeats 400000 in
theorem refLess_calls (x0 x1 y0 y1 : Int) (w : World) :
    Calls Tryd.prog 42 #[.agg #[.int .i64 x0, .int .i64 x1], .agg #[.int .i64 y0, .int .i64 y1]] w fun e w' => e = .returned (.bool (lessB ⟨x0, x1⟩ ⟨y0, y1⟩)) ∧ Ext w w' := by
  go_enter Tryd.func42, Tryd.ntmps42
  go_wp2
  all_goals
    go_ret
    exact ⟨ret_bool (by rw [Bool.eq_iff_iff]; simp [lessB, *] <;> omega), ((Ext.refl _).alloc _).alloc _⟩

set_option maxRecDepth 100000 in
set_option maxHeartbeats 1000000 in
theorem refName_calls (s : ByteArray) (w : World) (hs : s.size ≤ maxLen) :
    Calls Tryd.prog 111 #[.string s] w fun e w' => e = .returned (.bool (nameB s)) ∧ w = w' := by
  unfold maxLen at hs
  by_cases h1 : s.size < 1
  · have hno := Lib.hid (nameB_of (s := s) (b := false) (by simp; intro h; have := h.1; omega))
    have g1 : decide (s.size < 1) = true := decide_eq_true h1
    go_enter Tryd.func111, Tryd.ntmps111
    go_wp2
    all_goals (go_ret; exact ⟨ret_bool hno.out, rfl⟩)
  by_cases h2 : 16 < s.size
  · have hno := Lib.hid (nameB_of (s := s) (b := false) (by simp; intro h; have := h.2.1; omega))
    go_enter Tryd.func111, Tryd.ntmps111
    go_wp2
    all_goals (go_ret; exact ⟨ret_bool hno.out, rfl⟩)
  have h0 : 0 < s.size := by omega
  by_cases h97 : 97 ≤ (s[0].toNat : Int) ∧ (s[0].toNat : Int) ≤ 122
  · obtain ⟨h3, h4⟩ := h97
    go_enter Tryd.func111, Tryd.ntmps111
    go_wp2
    go_loop [3, 4] (fun u _ => ∃ k : Nat, k ≤ s.size ∧ u = .int .i64 k ∧ ∀ i, (h : i < s.size) → i < k → okAt i (s[i].toNat : Int)) (fun u _ => s.size - (intOf u).toNat)
    case atStart => exact ⟨0, Nat.zero_le _, rfl, fun i _ h => absurd h (by omega)⟩
    case round =>
      obtain ⟨k, hk, rfl, hok⟩ := hrel
      have H := Lib.hid hok
      clear hok
      by_cases hlt : k < s.size
      · rcases Nat.eq_zero_or_pos k with rfl | hpos
        · go_wp2
          all_goals exact ⟨⟨1, by omega, rfl, ok_step H.out hlt (.inl ⟨h3, h4⟩)⟩, by simp [intOf]; omega⟩
        · by_cases h95 : (s[k].toNat : Int) = 95
          · have H1 := Lib.hid (ok_step H.out hlt (by unfold okAt; omega))
            have hb : ((s[k].toNat : Int) == 95) = true := by simp [h95]
            have g1 : decide ((97 : Int) ≤ (s[k].toNat : Int)) = false := by simp; omega
            have g2 : decide ((s[k].toNat : Int) < (97 : Int)) = true := by simp; omega
            have g3 : decide ((90 : Int) < (s[k].toNat : Int)) = true := by simp; omega
            have g4 : decide ((57 : Int) < (s[k].toNat : Int)) = true := by simp; omega
            have g5 : decide ((s[k].toNat : Int) ≤ (90 : Int)) = false := by simp; omega
            have g6 : decide ((s[k].toNat : Int) ≤ (57 : Int)) = false := by simp; omega
            clear h95
            go_wp2
            all_goals exact ⟨⟨k + 1, by omega, by go_num, H1.out⟩, by simp [intOf]; omega⟩
          · have hb : ((s[k].toNat : Int) == 95) = false := by simp [h95]
            have H95 := Lib.hid h95
            clear h95
            go_wp2
            all_goals first
              | (go_ret; exact ⟨ret_bool (nameB_no hlt (by have := H95.out; unfold okAt; omega)), rfl⟩)
              | exact ⟨⟨k + 1, by omega, by go_num, ok_step H.out hlt (by unfold okAt; omega)⟩, by simp [intOf]; omega⟩
              | (exfalso; rename_i hq; simp at hq; omega)
      · have hyes := Lib.hid (nameB_end (by omega) H.out)
        have hyes := Lib.hid (hyes.out.trans (by simp; omega : _ = true))
        go_wp2
        go_ret
        exact ⟨ret_bool hyes.out.symm, rfl⟩
  · have hno := Lib.hid (nameB_no (s := s) (k := 0) h0 (by unfold okAt; omega))
    by_cases h3 : (s[0].toNat : Int) < 97
    · clear h97
      go_enter Tryd.func111, Tryd.ntmps111
      go_wp2
      all_goals (go_ret; exact ⟨ret_bool hno.out, rfl⟩)
    · have h4 : (122 : Int) < (s[0].toNat : Int) := by omega
      clear h97
      go_enter Tryd.func111, Tryd.ntmps111
      go_wp2
      all_goals (go_ret; exact ⟨ret_bool hno.out, rfl⟩)

end Go.Proofs.YtehljfnoicppnaaDoor
