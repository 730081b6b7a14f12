/- The rule of structures, the choice of a rule, IndexFunc and ContainsFunc over cells, End and Right: each by its contract. Conditions: the list of signs holds what the program lays there; a string is no longer than the model's greatest length. -/
import Derived.Test.YtehljfnoicppnaaDoorTermB
open Go Go.RowKit
set_option linter.unusedVariables false
namespace Go.Proofs.YtehljfnoicppnaaDoor

theorem name_val (s : ByteArray) (w : World) (hs : s.size ≤ maxLen) (v : Bool) (h : nameB s = v) : Calls Tryd.prog 106 #[.string s] w fun e w' => e = .returned (.bool v) ∧ w' = w := (name_calls s w hs).mono fun _ _ k => ⟨by rw [k.1, h], k.2.symm⟩
theorem contains_val (s : ByteArray) (w : World) (hg : Sg w) (v : Bool) (h : isSign s = v) : Calls Tryd.prog 108 #[.slice (some ⟨0, 0, none⟩) 12 12, .string s] w fun e w' => e = .returned (.bool v) ∧ w' = w := (contains_calls s w hg).mono fun _ _ k => ⟨by rw [k.1, h], k.2.symm⟩

set_option maxHeartbeats 1000000 in
theorem rule3_ff (s : ByteArray) (n a b : Int) (w : World) (hs : s.size ≤ maxLen) (hg : Sg w) (hn : nameB s = false) (hi : isSign s = false) :
    Calls Tryd.prog 107 #[.agg #[.int .u8 3, .string s, .int .i64 n, .int .i64 a, .int .i64 b]] w fun e w' => e = .returned (.bool false) ∧ Ext w w' := by
  have HG := Lib.hid hg
  have hz := hg.1
  have HN := Lib.hid hn
  have HI := Lib.hid hi
  clear hg hn hi
  go_enter Tryd.func107, Tryd.ntmps107
  go_wp2
  go_quiet ((first | (go_at_call 106; exact Calls.quiet_of_same (name_val _ _ hs _ HN.out)) | (go_at_call 108; exact Calls.quiet_of_same (contains_val _ _ (HG.out.ext (((Ext.refl _).alloc _).drewN _)) _ HI.out))))
  go_wp2
  go_ret
  exact ⟨rfl, ((Ext.refl _).alloc _).drewN _⟩

set_option maxHeartbeats 1000000 in
theorem rule3_ft2 (s : ByteArray) (n a b : Int) (w : World) (hs : s.size ≤ maxLen) (hg : Sg w) (hn : nameB s = false) (hi : isSign s = true) (h2 : (n == 2) = true) :
    Calls Tryd.prog 107 #[.agg #[.int .u8 3, .string s, .int .i64 n, .int .i64 a, .int .i64 b]] w fun e w' => e = .returned (.bool (clEq ⟨3, s, n, ⟨a, b⟩⟩ ⟨3, s, n, ⟨0, 0⟩⟩)) ∧ Ext w w' := by
  have HG := Lib.hid hg
  have hz := hg.1
  have HN := Lib.hid hn
  have HI := Lib.hid hi
  clear hg hn hi
  go_enter Tryd.func107, Tryd.ntmps107
  go_wp2
  go_quiet ((first | (go_at_call 106; exact Calls.quiet_of_same (name_val _ _ hs _ HN.out)) | (go_at_call 108; exact Calls.quiet_of_same (contains_val _ _ (HG.out.ext (((Ext.refl _).alloc _).drewN _)) _ HI.out))))
  go_wp2_with (go_at_call 104; refine (only_calls _ _ _ _ _ _ _ _ _ _ _).mono ?_; rintro e w' ⟨rfl, hw⟩)
  go_ret
  exact ⟨rfl, (((Ext.refl _).alloc _).drewN _).trans hw⟩

set_option maxHeartbeats 1000000 in
theorem rule3_ftx (s : ByteArray) (n a b : Int) (w : World) (hs : s.size ≤ maxLen) (hg : Sg w) (hn : nameB s = false) (hi : isSign s = true) (h2 : (n == 2) = false) :
    Calls Tryd.prog 107 #[.agg #[.int .u8 3, .string s, .int .i64 n, .int .i64 a, .int .i64 b]] w fun e w' => e = .returned (.bool false) ∧ Ext w w' := by
  have HG := Lib.hid hg
  have hz := hg.1
  have HN := Lib.hid hn
  have HI := Lib.hid hi
  clear hg hn hi
  go_enter Tryd.func107, Tryd.ntmps107
  go_wp2
  go_quiet ((first | (go_at_call 106; exact Calls.quiet_of_same (name_val _ _ hs _ HN.out)) | (go_at_call 108; exact Calls.quiet_of_same (contains_val _ _ (HG.out.ext (((Ext.refl _).alloc _).drewN _)) _ HI.out))))
  go_wp2
  go_ret
  exact ⟨rfl, ((Ext.refl _).alloc _).drewN _⟩

set_option maxHeartbeats 1000000 in
theorem rule3_tin (s : ByteArray) (n a b : Int) (w : World) (vi : Bool) (hs : s.size ≤ maxLen) (hg : Sg w) (hn : nameB s = true) (hi : isSign s = vi) (h1 : 1 ≤ n) (h8 : n ≤ 8) :
    Calls Tryd.prog 107 #[.agg #[.int .u8 3, .string s, .int .i64 n, .int .i64 a, .int .i64 b]] w fun e w' => e = .returned (.bool (clEq ⟨3, s, n, ⟨a, b⟩⟩ ⟨3, s, n, ⟨0, 0⟩⟩)) ∧ Ext w w' := by
  have HG := Lib.hid hg
  have hz := hg.1
  have HN := Lib.hid hn
  have HI := Lib.hid hi
  clear hg hn hi
  go_enter Tryd.func107, Tryd.ntmps107
  go_wp2
  go_quiet ((first | (go_at_call 106; exact Calls.quiet_of_same (name_val _ _ hs _ HN.out)) | (go_at_call 108; exact Calls.quiet_of_same (contains_val _ _ (HG.out.ext (((Ext.refl _).alloc _).drewN _)) _ HI.out))))
  go_wp2_with (go_at_call 104; refine (only_calls _ _ _ _ _ _ _ _ _ _ _).mono ?_; rintro e w' ⟨rfl, hw⟩)
  go_ret
  exact ⟨rfl, (((Ext.refl _).alloc _).drewN _).trans hw⟩

set_option maxHeartbeats 1000000 in
theorem rule3_thif (s : ByteArray) (n a b : Int) (w : World) (hs : s.size ≤ maxLen) (hg : Sg w) (hn : nameB s = true) (hi : isSign s = false) (h1 : 1 ≤ n) (h8 : 8 < n) :
    Calls Tryd.prog 107 #[.agg #[.int .u8 3, .string s, .int .i64 n, .int .i64 a, .int .i64 b]] w fun e w' => e = .returned (.bool false) ∧ Ext w w' := by
  have HG := Lib.hid hg
  have hz := hg.1
  have HN := Lib.hid hn
  have HI := Lib.hid hi
  clear hg hn hi
  have h2 : (n == 2) = false := by simp; omega
  go_enter Tryd.func107, Tryd.ntmps107
  go_wp2
  go_quiet ((first | (go_at_call 106; exact Calls.quiet_of_same (name_val _ _ hs _ HN.out)) | (go_at_call 108; exact Calls.quiet_of_same (contains_val _ _ (HG.out.ext (((Ext.refl _).alloc _).drewN _)) _ HI.out))))
  go_wp2
  go_ret
  exact ⟨rfl, ((Ext.refl _).alloc _).drewN _⟩

set_option maxHeartbeats 1000000 in
theorem rule3_thit (s : ByteArray) (n a b : Int) (w : World) (hs : s.size ≤ maxLen) (hg : Sg w) (hn : nameB s = true) (hi : isSign s = true) (h1 : 1 ≤ n) (h8 : 8 < n) :
    Calls Tryd.prog 107 #[.agg #[.int .u8 3, .string s, .int .i64 n, .int .i64 a, .int .i64 b]] w fun e w' => e = .returned (.bool false) ∧ Ext w w' := by
  have HG := Lib.hid hg
  have hz := hg.1
  have HN := Lib.hid hn
  have HI := Lib.hid hi
  clear hg hn hi
  have h2 : (n == 2) = false := by simp; omega
  go_enter Tryd.func107, Tryd.ntmps107
  go_wp2
  go_quiet ((first | (go_at_call 106; exact Calls.quiet_of_same (name_val _ _ hs _ HN.out)) | (go_at_call 108; exact Calls.quiet_of_same (contains_val _ _ (HG.out.ext (((Ext.refl _).alloc _).drewN _)) _ HI.out))))
  go_wp2
  go_ret
  exact ⟨rfl, ((Ext.refl _).alloc _).drewN _⟩

set_option maxHeartbeats 1000000 in
theorem rule3_tlof (s : ByteArray) (n a b : Int) (w : World) (hs : s.size ≤ maxLen) (hg : Sg w) (hn : nameB s = true) (hi : isSign s = false) (h1 : n < 1) :
    Calls Tryd.prog 107 #[.agg #[.int .u8 3, .string s, .int .i64 n, .int .i64 a, .int .i64 b]] w fun e w' => e = .returned (.bool false) ∧ Ext w w' := by
  have HG := Lib.hid hg
  have hz := hg.1
  have HN := Lib.hid hn
  have HI := Lib.hid hi
  clear hg hn hi
  have g1 : decide ((1 : Int) ≤ n) = false := by simp; omega
  have h2 : (n == 2) = false := by simp; omega
  go_enter Tryd.func107, Tryd.ntmps107
  go_wp2
  go_quiet ((first | (go_at_call 106; exact Calls.quiet_of_same (name_val _ _ hs _ HN.out)) | (go_at_call 108; exact Calls.quiet_of_same (contains_val _ _ (HG.out.ext (((Ext.refl _).alloc _).drewN _)) _ HI.out))))
  go_wp2
  go_ret
  exact ⟨rfl, ((Ext.refl _).alloc _).drewN _⟩

set_option maxHeartbeats 1000000 in
theorem rule3_tlot (s : ByteArray) (n a b : Int) (w : World) (hs : s.size ≤ maxLen) (hg : Sg w) (hn : nameB s = true) (hi : isSign s = true) (h1 : n < 1) :
    Calls Tryd.prog 107 #[.agg #[.int .u8 3, .string s, .int .i64 n, .int .i64 a, .int .i64 b]] w fun e w' => e = .returned (.bool false) ∧ Ext w w' := by
  have HG := Lib.hid hg
  have hz := hg.1
  have HN := Lib.hid hn
  have HI := Lib.hid hi
  clear hg hn hi
  have g1 : decide ((1 : Int) ≤ n) = false := by simp; omega
  have h2 : (n == 2) = false := by simp; omega
  go_enter Tryd.func107, Tryd.ntmps107
  go_wp2
  go_quiet ((first | (go_at_call 106; exact Calls.quiet_of_same (name_val _ _ hs _ HN.out)) | (go_at_call 108; exact Calls.quiet_of_same (contains_val _ _ (HG.out.ext (((Ext.refl _).alloc _).drewN _)) _ HI.out))))
  go_wp2
  go_ret
  exact ⟨rfl, ((Ext.refl _).alloc _).drewN _⟩

theorem rule3_calls (s : ByteArray) (n a b : Int) (w : World) (hs : s.size ≤ maxLen) (hg : Sg w) :
    Calls Tryd.prog 107 #[.agg #[.int .u8 3, .string s, .int .i64 n, .int .i64 a, .int .i64 b]] w fun e w' => e = .returned (.bool (cellB ⟨3, s, n, ⟨a, b⟩⟩)) ∧ Ext w w' := by
  have HB : cellB ⟨3, s, n, ⟨a, b⟩⟩ = ((nameB s && (decide (1 ≤ n) && decide (n ≤ 8)) || isSign s && decide (n = 2)) && clEq ⟨3, s, n, ⟨a, b⟩⟩ ⟨3, s, n, ⟨0, 0⟩⟩) := by
    rw [Bool.eq_iff_iff]; simp [cellB, CellP, clEq]
  rw [HB]
  cases hn : nameB s
  · cases hi : isSign s
    · simpa [hn, hi] using rule3_ff s n a b w hs hg hn hi
    · by_cases h2 : n = 2
      · simpa [hn, hi, h2] using rule3_ft2 s n a b w hs hg hn hi (by simp [h2])
      · simpa [hn, hi, h2] using rule3_ftx s n a b w hs hg hn hi (by simp [h2])
  · by_cases h1 : 1 ≤ n
    · by_cases h8 : n ≤ 8
      · simpa [hn, h1, h8] using rule3_tin s n a b w _ hs hg hn rfl h1 h8
      · have h2 : n ≠ 2 := by omega
        cases hi : isSign s
        · simpa [hn, hi, h1, h8, h2] using rule3_thif s n a b w hs hg hn hi h1 (by omega)
        · simpa [hn, hi, h1, h8, h2] using rule3_thit s n a b w hs hg hn hi h1 (by omega)
    · have h2 : n ≠ 2 := by omega
      cases hi : isSign s
      · simpa [hn, hi, h1, h2] using rule3_tlof s n a b w hs hg hn hi (by omega)
      · simpa [hn, hi, h1, h2] using rule3_tlot s n a b w hs hg hn hi (by omega)

end Go.Proofs.YtehljfnoicppnaaDoor
