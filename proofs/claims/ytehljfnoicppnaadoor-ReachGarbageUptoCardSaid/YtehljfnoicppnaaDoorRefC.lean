/- The reference's cells, by contract, in the program side's words. Conditions: none. -/
import Derived.Test.YtehljfnoicppnaaDoorRefB
open Go Go.RowKit
set_option linter.unusedVariables false
namespace Go.Proofs.YtehljfnoicppnaaDoor

/-- The flag 'no variable'. -/
theorem none_flag (d : Nat) (w : World) (a b : Int) : (Op.equalIn (d + 2) 31 (.agg #[.int .i64 a, .int .i64 b]) (.agg #[.int .i64 0, .int .i64 0])).run Tryd.prog w = .ok (a == 0 && b == 0) w := run_eq_nm d w a b 0 0

set_option maxRecDepth 100000 in
set_option maxHeartbeats 1000000 in
theorem refCell1_calls (s : ByteArray) (n a b : Int) (w : World) :
    Calls Tryd.prog 84 #[.agg #[.int .u8 1, .string s, .int .i64 n, .int .i64 a, .int .i64 b]] w fun e w' => e = .returned (.bool (cellB ⟨1, s, n, ⟨a, b⟩⟩)) ∧ Ext w w' := by
  have HB : cellB ⟨1, s, n, ⟨a, b⟩⟩ = (decide (s = ⟨#[]⟩) && ((a == 0 && b == 0) && (decide (-2147483648 ≤ n) && decide (n ≤ 2147483648)))) := by
    rw [Bool.eq_iff_iff]
    simp [cellB, CellP]
    constructor
    · rintro ⟨h1, h2, h3, h4, h5⟩
      exact ⟨h3, ⟨h4, h5⟩, h1, h2⟩
    · rintro ⟨h3, ⟨h4, h5⟩, h1, h2⟩
      exact ⟨h1, h2, h3, h4, h5⟩
  have HB := Lib.hid HB
  rename_i HB'
  clear HB'
  have hz : ∀ c : Bool, (a == 0 && b == 0) = c → ∀ d w, (Op.equalIn (d + 2) 31 (.agg #[.int .i64 a, .int .i64 b]) (.agg #[.int .i64 0, .int .i64 0])).run Tryd.prog w = .ok c w := fun c hc d w => by rw [none_flag, hc]
  have HZ := Lib.hid hz
  clear hz
  cases hf : (a == 0 && b == 0) <;> cases he : decide (s = ⟨#[]⟩)
  all_goals
    have hq := HZ.out _ hf
    have he2 : s.toList.isEmpty = _ := (decide_eq_emptyBytes s).symm.trans he
    have HV : Hid (cellB ⟨1, s, n, ⟨a, b⟩⟩ = (decide (s = ⟨#[]⟩) && (_ && (decide (-2147483648 ≤ n) && decide (n ≤ 2147483648))))) := Lib.hid (HB.out.trans (by rw [hf]))
    rw [he] at HV
    clear he hf
    go_enter Tryd.func84, Tryd.ntmps84
    go_wp2
    all_goals (go_ret; exact ⟨ret_bool (by rw [HV.out]; simp <;> omega), (by repeat (first | with_reducible exact Ext.refl _ | assumption | refine Ext.alloc ?_ _ | refine Ext.drewN ?_ _ | refine Ext.drew ?_ | refine Ext.set ?_ (by simp <;> omega) _ _ | refine Ext.trans ?_ (by assumption)))⟩)

theorem refName_val (s : ByteArray) (w : World) (hs : s.size ≤ maxLen) (v : Bool) (h : nameB s = v) : Calls Tryd.prog 111 #[.string s] w fun e w' => e = .returned (.bool v) ∧ w = w' := by
  subst h
  exact refName_calls s w hs
theorem refSign_val (s : ByteArray) (w : World) (v : Bool) (h : isSign s = v) : Calls Tryd.prog 112 #[.string s] w fun e w' => e = .returned (.bool v) ∧ Ext w w' := by
  subst h
  exact refSign_calls s w

set_option maxRecDepth 100000 in
set_option maxHeartbeats 1000000 in
theorem refCell2_calls (s : ByteArray) (n a b : Int) (w : World) (hs : s.size ≤ maxLen) :
    Calls Tryd.prog 84 #[.agg #[.int .u8 2, .string s, .int .i64 n, .int .i64 a, .int .i64 b]] w fun e w' => e = .returned (.bool (cellB ⟨2, s, n, ⟨a, b⟩⟩)) ∧ Ext w w' := by
  have HB : cellB ⟨2, s, n, ⟨a, b⟩⟩ = (nameB s && ((a == 0 && b == 0) && (n == 0))) := by
    rw [Bool.eq_iff_iff]
    simp [cellB, CellP]
    intro _
    exact ⟨fun ⟨h2, h3, h4⟩ => ⟨⟨h3, h4⟩, h2⟩, fun ⟨⟨h3, h4⟩, h2⟩ => ⟨h2, h3, h4⟩⟩
  have HB := Lib.hid HB
  rename_i HB'
  clear HB'
  have hz : ∀ c : Bool, (a == 0 && b == 0) = c → ∀ d w, (Op.equalIn (d + 2) 31 (.agg #[.int .i64 a, .int .i64 b]) (.agg #[.int .i64 0, .int .i64 0])).run Tryd.prog w = .ok c w := fun c hc d w => by rw [none_flag, hc]
  have HZ := Lib.hid hz
  clear hz
  cases hf : (a == 0 && b == 0) <;> cases he : nameB s
  all_goals
    have hq := HZ.out _ hf
    have HNM := Lib.hid (fun w1 => refName_val s w1 hs _ he)
    have HV : Hid (cellB ⟨2, s, n, ⟨a, b⟩⟩ = (nameB s && (_ && (n == 0)))) := Lib.hid (HB.out.trans (by rw [hf]))
    rw [he] at HV
    clear he hf
    go_enter Tryd.func84, Tryd.ntmps84
    go_wp2_with (go_at_call 111; refine (HNM.out _).mono ?_; rintro e w1 ⟨rfl, rfl⟩)
    all_goals (go_ret; exact ⟨ret_bool (by rw [HV.out]; simp), (by repeat (first | with_reducible exact Ext.refl _ | assumption | refine Ext.alloc ?_ _ | refine Ext.drewN ?_ _ | refine Ext.drew ?_ | refine Ext.set ?_ (by simp <;> omega) _ _ | refine Ext.trans ?_ (by assumption)))⟩)

set_option maxRecDepth 100000 in
set_option maxHeartbeats 1000000 in
theorem refCell3_calls (s : ByteArray) (n a b : Int) (w : World) (hs : s.size ≤ maxLen) :
    Calls Tryd.prog 84 #[.agg #[.int .u8 3, .string s, .int .i64 n, .int .i64 a, .int .i64 b]] w fun e w' => e = .returned (.bool (cellB ⟨3, s, n, ⟨a, b⟩⟩)) ∧ Ext w w' := by
  have HB : cellB ⟨3, s, n, ⟨a, b⟩⟩ = ((a == 0 && b == 0) && (nameB s && (decide (1 ≤ n) && decide (n ≤ 8)) || isSign s && (n == 2))) := by
    rw [Bool.eq_iff_iff]
    simp [cellB, CellP]
    exact ⟨fun ⟨h1, h2⟩ => ⟨h2, h1⟩, fun ⟨h1, h2⟩ => ⟨h2, h1⟩⟩
  have HB := Lib.hid HB
  rename_i HB'
  clear HB'
  have hz : ∀ c : Bool, (a == 0 && b == 0) = c → ∀ d w, (Op.equalIn (d + 2) 31 (.agg #[.int .i64 a, .int .i64 b]) (.agg #[.int .i64 0, .int .i64 0])).run Tryd.prog w = .ok c w := fun c hc d w => by rw [none_flag, hc]
  have HZ := Lib.hid hz
  clear hz
  cases hf : (a == 0 && b == 0) <;> cases he : nameB s <;> cases hi : isSign s
  all_goals
    have hq := HZ.out _ hf
    have HNM := Lib.hid (fun w1 => refName_val s w1 hs _ he)
    have HSG := Lib.hid (fun w1 => refSign_val s w1 _ hi)
    have HV : Hid (cellB ⟨3, s, n, ⟨a, b⟩⟩ = (_ && (nameB s && (decide (1 ≤ n) && decide (n ≤ 8)) || isSign s && (n == 2)))) := Lib.hid (HB.out.trans (by rw [hf]))
    rw [he, hi] at HV
    clear he hf hi
    go_enter Tryd.func84, Tryd.ntmps84
    go_wp2_with (first | (go_at_call 111; refine (HNM.out _).mono ?_; rintro e w1 ⟨rfl, rfl⟩) | (go_at_call 112; refine (HSG.out _).mono ?_; rintro e w1 ⟨rfl, hw⟩; obtain ⟨hcc, hff⟩ := bcell hw; have HW := Lib.hid hw; clear hw))
    all_goals (go_ret; exact ⟨ret_bool (by rw [HV.out]; first | (simp <;> omega) | (rw [Bool.eq_iff_iff]; simp <;> omega)), (by first | exact (Ext.refl _).alloc _ | exact Ext.trans ((Ext.refl _).alloc _) HW.out)⟩)

set_option maxRecDepth 100000 in
set_option maxHeartbeats 1000000 in
theorem refCell4_calls (s : ByteArray) (n a b : Int) (w : World) :
    Calls Tryd.prog 84 #[.agg #[.int .u8 4, .string s, .int .i64 n, .int .i64 a, .int .i64 b]] w fun e w' => e = .returned (.bool (cellB ⟨4, s, n, ⟨a, b⟩⟩)) ∧ Ext w w' := by
  have HB : cellB ⟨4, s, n, ⟨a, b⟩⟩ = (decide (s = ⟨#[]⟩) && ((n == 0) && (decide (-1 ≤ a) && (decide (a < 4) && decide (0 ≤ b))))) := by
    rw [Bool.eq_iff_iff]
    simp [cellB, CellP]
    constructor
    · rintro ⟨h1, h2, h3, h4, h5⟩
      exact ⟨h4, h5, h1, h2, h3⟩
    · rintro ⟨h4, h5, h1, h2, h3⟩
      exact ⟨h1, h2, h3, h4, h5⟩
  have HB := Lib.hid HB
  rename_i HB'
  clear HB'
  have hq : ∀ d w, (Op.equalIn (d + 2) 31 (.agg #[.int .i64 a, .int .i64 b]) (.agg #[.int .i64 0, .int .i64 0])).run Tryd.prog w = .ok (a == 0 && b == 0) w := fun d w => none_flag d w a b
  generalize (a == 0 && b == 0) = z at hq
  cases he : decide (s = ⟨#[]⟩) <;> cases hn : (n == 0)
  all_goals
    have he2 : s.toList.isEmpty = _ := (decide_eq_emptyBytes s).symm.trans he
    have HV : Hid (cellB ⟨4, s, n, ⟨a, b⟩⟩ = (_ && (_ && (decide (-1 ≤ a) && (decide (a < 4) && decide (0 ≤ b)))))) := Lib.hid (HB.out.trans (by rw [he, hn]))
    clear he
    go_enter Tryd.func84, Tryd.ntmps84
    go_wp2
    all_goals (go_ret; exact ⟨ret_bool (by rw [HV.out]; first | (simp <;> omega) | (rw [Bool.eq_iff_iff]; simp <;> omega)), (by repeat (first | with_reducible exact Ext.refl _ | assumption | refine Ext.alloc ?_ _ | refine Ext.drewN ?_ _ | refine Ext.drew ?_ | refine Ext.set ?_ (by simp <;> omega) _ _ | refine Ext.trans ?_ (by assumption)))⟩)

set_option maxRecDepth 100000 in
set_option maxHeartbeats 1000000 in
theorem refCell_calls (k : Int) (s : ByteArray) (n a b : Int) (w : World) (hs : s.size ≤ maxLen) :
    Calls Tryd.prog 84 #[.agg #[.int .u8 k, .string s, .int .i64 n, .int .i64 a, .int .i64 b]] w fun e w' => e = .returned (.bool (cellB ⟨k, s, n, ⟨a, b⟩⟩)) ∧ Ext w w' := by
  by_cases h1 : k = 1
  · subst h1; exact refCell1_calls s n a b w
  by_cases h2 : k = 2
  · subst h2; exact refCell2_calls s n a b w hs
  by_cases h3 : k = 3
  · subst h3; exact refCell3_calls s n a b w hs
  by_cases h4 : k = 4
  · subst h4; exact refCell4_calls s n a b w
  have HB : cellB ⟨k, s, n, ⟨a, b⟩⟩ = false := by
    rw [Bool.eq_false_iff]
    simp [cellB, CellP, h1, h2, h3, h4]
  have HB := Lib.hid HB
  rename_i HB'
  have hq : ∀ d w, (Op.equalIn (d + 2) 31 (.agg #[.int .i64 a, .int .i64 b]) (.agg #[.int .i64 0, .int .i64 0])).run Tryd.prog w = .ok (a == 0 && b == 0) w := fun d w => none_flag d w a b
  generalize (a == 0 && b == 0) = z at hq
  have g1 : (k == 1) = false := beq_eq_false_iff_ne.2 h1
  have g2 : (k == 2) = false := beq_eq_false_iff_ne.2 h2
  have g3 : (k == 3) = false := beq_eq_false_iff_ne.2 h3
  have g4 : (k == 4) = false := beq_eq_false_iff_ne.2 h4
  clear HB' h1 h2 h3 h4
  go_enter Tryd.func84, Tryd.ntmps84
  go_wp2
  go_ret
  exact ⟨ret_bool HB.out.symm, (by repeat (first | with_reducible exact Ext.refl _ | assumption | refine Ext.alloc ?_ _ | refine Ext.drewN ?_ _ | refine Ext.drew ?_ | refine Ext.set ?_ (by simp <;> omega) _ _ | refine Ext.trans ?_ (by assumption)))⟩

end Go.Proofs.YtehljfnoicppnaaDoor
