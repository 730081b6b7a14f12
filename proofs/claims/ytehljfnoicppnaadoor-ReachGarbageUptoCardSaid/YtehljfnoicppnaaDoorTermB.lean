/- The rules of a cell's kinds, and slices.IndexFunc and ContainsFunc over cells, each by its contract. Conditions: the list of signs holds what the program lays there. -/
import Derived.Test.YtehljfnoicppnaaDoorTermA
open Go Go.RowKit
set_option linter.unusedVariables false
namespace Go.Proofs.YtehljfnoicppnaaDoor

theorem cl_eq (x y : Cl) : decide (x = y) = (decide (x.k = y.k) && (decide (x.s = y.s) && (decide (x.n = y.n) && (decide (x.v.a = y.v.a) && decide (x.v.b = y.v.b))))) := by
  obtain ⟨x0, x1, x2, x3, x4⟩ := x
  obtain ⟨y0, y1, y2, y3, y4⟩ := y
  simp

/-- Are two cells the same? (A name that the walk does not open.) -/
def clEq (x y : Cl) : Bool := decide (x = y)
theorem clEq_iff {x y : Cl} : clEq x y = true ↔ x = y := decide_eq_true_iff

/-! ### reading a cell of a term -/
theorem Sl.cl_at {w : World} {ok : Ok} {b o n c : Nat} {xs : List Cl} (h : Rd CL w ok (some ⟨b, o, none⟩) xs) {j : Nat} {x : Cl} (hx : xs[j]? = some x) :
    ok b ∧ b < w.heap.size ∧ ClOk x ∧ w.cell? ⟨b, o + j * 5, none⟩ = some (.int .u8 x.k) ∧ w.cell? ⟨b, o + j * 5 + 1, none⟩ = some (.string x.s) ∧ w.cell? ⟨b, o + j * 5 + 2, none⟩ = some (.int .i64 x.n) ∧
      w.cell? ⟨b, o + j * 5 + 3, none⟩ = some (.int .i64 x.v.a) ∧ w.cell? ⟨b, o + j * 5 + 4, none⟩ = some (.int .i64 x.v.b) := by
  have hj := (List.getElem?_eq_some_iff.1 hx).1
  obtain ⟨b', o', hA, hok, hlt, hc⟩ := h.2 (by omega)
  injection hA with hA
  injection hA with h1 h2
  subst h1 h2
  obtain ⟨cs, ⟨rfl, hs⟩, hcell⟩ := hc j x hx
  exact ⟨hok, hlt, hs, hcell 0 _ rfl, hcell 1 _ rfl, hcell 2 _ rfl, hcell 3 _ rfl, hcell 4 _ rfl⟩

theorem Rd.some_ {α : Type} {d : Cd α} {w : World} {ok : Ok} {A : Option Addr} {xs : List α} (h : Rd d w ok A xs) (hn : 0 < xs.length) : ∃ b o, A = some ⟨b, o, none⟩ ∧ ok b ∧ b < w.heap.size := by
  obtain ⟨b, o, hA, hok, hlt, _⟩ := h.2 hn
  exact ⟨b, o, hA, hok, hlt⟩

/-! ### the signs -/
def signL : List (List UInt8) := [[61], [58, 61], [64], [43], [45], [42], [60], [61, 60], [62], [62, 61], [61, 58, 61], [61, 92, 61]]
def signB (i : Nat) : ByteArray := ⟨(signL.getD i []).toArray⟩
def Sg (w : World) : Prop := 0 < w.heap.size ∧ ∀ i, i < 12 → w.cell? ⟨0, i, none⟩ = some (.string (signB i))
theorem Sg.ext {w w' : World} (h : Sg w) (he : Ext w w') : Sg w' := ⟨Nat.lt_of_lt_of_le h.1 he.le, fun i hi => he.cell (h.2 i hi)⟩
def isSign (s : ByteArray) : Bool := (List.range 12).any fun i => decide (s = signB i)

set_option maxHeartbeats 400000 in
theorem index_calls (s : ByteArray) (w : World) (h : Sg w) :
    Calls Tryd.prog 128 #[.slice (some ⟨0, 0, none⟩) 12 12, .string s] w fun e w' => (∃ r : Int, e = .returned (.int .i64 r) ∧ (0 ≤ r ↔ isSign s = true)) ∧ w = w' := by
  go_enter Tryd.func128, Tryd.ntmps128
  go_wp2
  go_loop [5, 8] (fun _ u => ∃ k : Nat, k ≤ 12 ∧ u = .int .i64 k ∧ ∀ i, i < k → s ≠ signB i) (fun _ u => 12 - (intOf u).toNat)
  case atStart => exact ⟨0, Nat.zero_le _, rfl, fun i h => absurd h (by omega)⟩
  case round =>
    obtain ⟨k, hk, rfl, hok⟩ := hrel
    have H := Lib.hid hok
    clear hok
    by_cases hlt : k < 12
    · have hc := h.2 k hlt
      have H2 := Lib.hid h
      clear h
      by_cases he : s = signB k
      · have hb : (s.toList == (signB k).toList) = true := by rw [he]; simp
        have hp : isSign s = true := by simp only [isSign, List.any_eq_true]; exact ⟨k, by simp; omega, by simp [he]⟩
        have He := Lib.hid he
        clear he
        go_wp2
        go_ret
        exact ⟨⟨k, rfl, by omega⟩, rfl⟩
      · have hb : (s.toList == (signB k).toList) = false := by simp [toList_inj, he]
        have He := Lib.hid he
        clear he
        go_wp2
        refine ⟨⟨k + 1, by omega, by go_num, fun i hi => ?_⟩, by simp [intOf]; omega⟩
        rcases Nat.lt_or_ge i k with h1 | h1
        · exact H.out i h1
        · obtain rfl : i = k := by omega
          exact He.out
    · obtain rfl : k = 12 := by omega
      have hn : isSign s = false := by
        rw [Bool.eq_false_iff]
        simp only [isSign, ne_eq, List.any_eq_true, not_exists, not_and, List.mem_range, decide_eq_true_eq]
        exact fun i hi => H.out i hi
      go_wp2
      go_ret
      exact ⟨⟨-1, rfl, by simp⟩, rfl⟩

set_option maxHeartbeats 400000 in
theorem only_calls (k : Int) (s : ByteArray) (n a b : Int) (k' : Int) (s' : ByteArray) (n' a' b' : Int) (w : World) :
    Calls Tryd.prog 104 #[.agg #[.int .u8 k, .string s, .int .i64 n, .int .i64 a, .int .i64 b], .agg #[.int .u8 k', .string s', .int .i64 n', .int .i64 a', .int .i64 b']] w fun e w' => e = .returned (.bool (clEq ⟨k, s, n, ⟨a, b⟩⟩ ⟨k', s', n', ⟨a', b'⟩⟩)) ∧ Ext w w' := by
  have he := fun d w => run_eq_cl d w k k' s s' n n' a a' b b'
  go_enter Tryd.func104, Tryd.ntmps104
  go_wp2
  go_ret
  exact ⟨ret_bool (cl_eq ⟨k, s, n, ⟨a, b⟩⟩ ⟨k', s', n', ⟨a', b'⟩⟩).symm, ((Ext.refl _).alloc _).alloc _⟩

set_option maxHeartbeats 400000 in
theorem contains_calls (s : ByteArray) (w : World) (h : Sg w) :
    Calls Tryd.prog 108 #[.slice (some ⟨0, 0, none⟩) 12 12, .string s] w fun e w' => e = .returned (.bool (isSign s)) ∧ w = w' := by
  go_enter Tryd.func108, Tryd.ntmps108
  go_wp2_with fail
  refine (index_calls s _ h).mono ?_
  rintro e w' ⟨⟨r, rfl, hr⟩, rfl⟩
  go_wp2
  go_ret
  exact ⟨ret_bool (by rw [Bool.eq_iff_iff, ← hr]), rfl⟩

/-! ### the rules -/
def CellP (x : Cl) : Prop :=
  (x.k = 1 ∧ -2147483648 ≤ x.n ∧ x.n ≤ 2147483648 ∧ x = ⟨1, ⟨#[]⟩, x.n, ⟨0, 0⟩⟩) ∨
  (x.k = 2 ∧ nameB x.s = true ∧ x = ⟨2, x.s, 0, ⟨0, 0⟩⟩) ∨
  (x.k = 3 ∧ (nameB x.s = true ∧ 1 ≤ x.n ∧ x.n ≤ 8 ∨ isSign x.s = true ∧ x.n = 2) ∧ x = ⟨3, x.s, x.n, ⟨0, 0⟩⟩) ∨
  (x.k = 4 ∧ -1 ≤ x.v.a ∧ x.v.a < 4 ∧ 0 ≤ x.v.b ∧ x = ⟨4, ⟨#[]⟩, 0, x.v⟩)
open Classical in
noncomputable def cellB (x : Cl) : Bool := decide (CellP x)


set_option maxHeartbeats 400000 in
theorem rule1_calls (s : ByteArray) (n a b : Int) (w : World) :
    Calls Tryd.prog 103 #[.agg #[.int .u8 1, .string s, .int .i64 n, .int .i64 a, .int .i64 b]] w fun e w' => e = .returned (.bool (cellB ⟨1, s, n, ⟨a, b⟩⟩)) ∧ Ext w w' := by
  have HB : cellB ⟨1, s, n, ⟨a, b⟩⟩ = (decide (-2147483648 ≤ n) && (decide (n ≤ 2147483648) && clEq ⟨1, s, n, ⟨a, b⟩⟩ ⟨1, ⟨#[]⟩, n, ⟨0, 0⟩⟩)) := by
    rw [Bool.eq_iff_iff]; simp [cellB, CellP, clEq]
  have H := Lib.hid HB
  clear HB
  by_cases h1 : -2147483648 ≤ n
  · by_cases h2 : n ≤ 2147483648
    · have HR := Lib.hid (H.out.trans (by simp [h1, h2] : _ = clEq ⟨1, s, n, ⟨a, b⟩⟩ ⟨1, ⟨#[]⟩, n, ⟨0, 0⟩⟩))
      go_enter Tryd.func103, Tryd.ntmps103
      go_wp2_with (go_at_call 104; refine (only_calls _ _ _ _ _ _ _ _ _ _ _).mono ?_; rintro e w' ⟨rfl, hw⟩)
      go_ret
      exact ⟨ret_bool HR.out.symm, ((Ext.refl _).alloc _).trans hw⟩
    · have HR := Lib.hid (H.out.trans (by simp [h1, h2] : _ = false))
      go_enter Tryd.func103, Tryd.ntmps103
      go_wp2
      go_ret
      exact ⟨ret_bool HR.out.symm, ((Ext.refl _).alloc _)⟩
  · have HR := Lib.hid (H.out.trans (by simp [h1] : _ = false))
    go_enter Tryd.func103, Tryd.ntmps103
    go_wp2
    go_ret
    exact ⟨ret_bool HR.out.symm, ((Ext.refl _).alloc _)⟩

set_option maxHeartbeats 400000 in
theorem rule2_calls (s : ByteArray) (n a b : Int) (w : World) (hs : s.size ≤ maxLen) :
    Calls Tryd.prog 105 #[.agg #[.int .u8 2, .string s, .int .i64 n, .int .i64 a, .int .i64 b]] w fun e w' => e = .returned (.bool (cellB ⟨2, s, n, ⟨a, b⟩⟩)) ∧ Ext w w' := by
  have HB : cellB ⟨2, s, n, ⟨a, b⟩⟩ = (nameB s && clEq ⟨2, s, n, ⟨a, b⟩⟩ ⟨2, s, 0, ⟨0, 0⟩⟩) := by
    rw [Bool.eq_iff_iff]; simp [cellB, CellP, clEq]
  have H := Lib.hid HB
  clear HB
  cases hn : nameB s
  · have HR := Lib.hid (H.out.trans (by simp [hn] : _ = false))
    go_enter Tryd.func105, Tryd.ntmps105
    go_wp2_with (go_at_call 106; refine (name_calls _ _ hs).mono ?_; rintro e w' ⟨rfl, rfl⟩)
    go_ret
    exact ⟨ret_bool HR.out.symm, ((Ext.refl _).alloc _)⟩
  · have HR := Lib.hid (H.out.trans (by simp [hn] : _ = clEq ⟨2, s, n, ⟨a, b⟩⟩ ⟨2, s, 0, ⟨0, 0⟩⟩))
    go_enter Tryd.func105, Tryd.ntmps105
    go_wp2_with (first | (go_at_call 106; refine (name_calls _ _ hs).mono ?_; rintro e w' ⟨rfl, rfl⟩) | (go_at_call 104; refine (only_calls _ _ _ _ _ _ _ _ _ _ _).mono ?_; rintro e w' ⟨rfl, hw⟩))
    go_ret
    exact ⟨ret_bool HR.out.symm, ((Ext.refl _).alloc _).trans hw⟩

set_option maxHeartbeats 400000 in
theorem rule4_calls (s : ByteArray) (n a b : Int) (w : World) :
    Calls Tryd.prog 109 #[.agg #[.int .u8 4, .string s, .int .i64 n, .int .i64 a, .int .i64 b]] w fun e w' => e = .returned (.bool (cellB ⟨4, s, n, ⟨a, b⟩⟩)) ∧ Ext w w' := by
  have HB : cellB ⟨4, s, n, ⟨a, b⟩⟩ = (decide (-1 ≤ a) && (decide (a < 4) && (decide (0 ≤ b) && clEq ⟨4, s, n, ⟨a, b⟩⟩ ⟨4, ⟨#[]⟩, 0, ⟨a, b⟩⟩))) := by
    rw [Bool.eq_iff_iff]; simp [cellB, CellP, clEq]
  have H := Lib.hid HB
  clear HB
  by_cases h1 : -1 ≤ a ∧ a < 4 ∧ 0 ≤ b
  · obtain ⟨h1, h2, h3⟩ := h1
    have HR := Lib.hid (H.out.trans (by simp [h1, h2, h3] : _ = clEq ⟨4, s, n, ⟨a, b⟩⟩ ⟨4, ⟨#[]⟩, 0, ⟨a, b⟩⟩))
    go_enter Tryd.func109, Tryd.ntmps109
    go_wp2_with (go_at_call 104; refine (only_calls _ _ _ _ _ _ _ _ _ _ _).mono ?_; rintro e w' ⟨rfl, hw⟩)
    go_ret
    exact ⟨ret_bool HR.out.symm, ((Ext.refl _).alloc _).trans hw⟩
  · have HR := Lib.hid (H.out.trans (by rw [Bool.eq_false_iff]; simp; intro h h' h''; exact absurd ⟨h, h', h''⟩ h1 : _ = false))
    have H1 := Lib.hid h1
    clear h1
    go_enter Tryd.func109, Tryd.ntmps109
    go_wp2_with fail
    all_goals first
      | (go_ret; exact ⟨ret_bool HR.out.symm, ((Ext.refl _).alloc _)⟩)
      | (exfalso; have := H1.out; omega)
    go_goals

set_option maxHeartbeats 400000 in
theorem rule5_calls (v : Value) (k : Int) (s : ByteArray) (n a b : Int) (w : World) (h : k ≠ 1 ∧ k ≠ 2 ∧ k ≠ 3 ∧ k ≠ 4) :
    Calls Tryd.prog 110 #[.agg #[.int .u8 k, .string s, .int .i64 n, .int .i64 a, .int .i64 b]] w fun e w' => e = .returned (.bool (cellB ⟨k, s, n, ⟨a, b⟩⟩)) ∧ Ext w w' := by
  have HB : cellB ⟨k, s, n, ⟨a, b⟩⟩ = false := by
    rw [Bool.eq_false_iff]; simp [cellB, CellP, h]
  have H := Lib.hid HB
  clear HB
  go_enter Tryd.func110, Tryd.ntmps110
  go_wp2
  go_ret
  exact ⟨ret_bool H.out.symm, ((Ext.refl _).alloc _)⟩

end Go.Proofs.YtehljfnoicppnaaDoor
