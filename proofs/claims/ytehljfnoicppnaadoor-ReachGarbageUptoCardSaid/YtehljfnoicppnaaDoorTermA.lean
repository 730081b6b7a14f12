/- The terms' small functions (names, cells, rules), each by its contract: what it answers, and that nothing that was there turns. Conditions: the strings are no longer than the model's greatest length; where the signs are read, the list of signs holds what the program lays there. -/
import Derived.Test.YtehljfnoicppnaaDoorBase
import Derived.Test.YtehljfnoicppnaaDoorProg
open Go Go.RowKit
set_option linter.unusedVariables false
namespace Go.Proofs.YtehljfnoicppnaaDoor

structure Nm where
  a : Int
  b : Int
  deriving DecidableEq
structure Cl where
  k : Int
  s : ByteArray
  n : Int
  v : Nm
  deriving DecidableEq
def nv (x : Nm) : List Value := [.int .i64 x.a, .int .i64 x.b]
def cv (x : Cl) : List Value := [.int .u8 x.k, .string x.s, .int .i64 x.n, .int .i64 x.v.a, .int .i64 x.v.b]
def IOk (n : Int) : Prop := -9223372036854775808 ≤ n ∧ n ≤ 9223372036854775807
def NmOk (x : Nm) : Prop := IOk x.a ∧ IOk x.b
def ClOk (x : Cl) : Prop := x.s.size ≤ maxLen ∧ 0 ≤ x.k ∧ x.k ≤ 255 ∧ IOk x.n ∧ NmOk x.v
def NM : Cd Nm where
  sz := 2
  pos := by decide
  rel _ _ x cs := cs = nv x ∧ NmOk x
  len := by rintro w ok x cs ⟨rfl, _⟩; rfl
  one := by
    rintro w ok x cs ⟨rfl, _⟩ u hu
    simp [nv] at hu
    rcases hu with rfl | rfl <;> rfl
  move := by rintro w w' ok ok' x cs ⟨rfl, h⟩ _; exact ⟨rfl, h⟩
  bnd := by rintro w ok x cs ⟨rfl, h⟩; exact ⟨rfl, h⟩
def CL : Cd Cl where
  sz := 5
  pos := by decide
  rel _ _ x cs := cs = cv x ∧ ClOk x
  len := by rintro w ok x cs ⟨rfl, _⟩; rfl
  one := by
    rintro w ok x cs ⟨rfl, _⟩ u hu
    simp [cv] at hu
    rcases hu with rfl | rfl | rfl | rfl | rfl <;> rfl
  move := by rintro w w' ok ok' x cs ⟨rfl, h⟩ _; exact ⟨rfl, h⟩
  bnd := by rintro w ok x cs ⟨rfl, h⟩; exact ⟨rfl, h⟩
def TM : Cd (List Cl) := CL.slice

theorem ret_bool {a b : Bool} (h : a = b) : Ending.returned (.bool a) = .returned (.bool b) := by rw [h]
theorem ret_i64 {a b : Int} (h : a = b) : Ending.returned (.int .i64 a) = .returned (.int .i64 b) := by rw [h]

/-! ### equality of structs -/
theorem toList_inj {x y : ByteArray} : x.toList = y.toList ↔ x = y := by
  rw [ByteArray.toList_eq, ByteArray.toList_eq]
  constructor
  · intro h
    obtain ⟨⟨x⟩⟩ := x
    obtain ⟨⟨y⟩⟩ := y
    simp at h
    rw [h]
  · rintro rfl; rfl
theorem run_eq_nm (d : Nat) (w : World) (x0 x1 y0 y1 : Int) : (Op.equalIn (d + 2) 31 (.agg #[.int .i64 x0, .int .i64 x1]) (.agg #[.int .i64 y0, .int .i64 y1])).run Tryd.prog w = .ok (x0 == y0 && x1 == y1) w := by
  rw [run_equalIn_agg w (d + 1) 31 _ _ (by kernel_rfl) (by kernel_rfl)]
  have hu := Tryd.underlying31
  simp only [Program.fieldsOf, hu]
  go_simp
  by_cases h0 : x0 = y0 <;> by_cases h1 : x1 = y1 <;> simp [h0, h1]
theorem run_eq_cl (d : Nat) (w : World) (x0 y0 : Int) (x1 y1 : ByteArray) (x2 y2 x3 y3 x4 y4 : Int) : (Op.equalIn (d + 3) 36 (.agg #[.int .u8 x0, .string x1, .int .i64 x2, .int .i64 x3, .int .i64 x4]) (.agg #[.int .u8 y0, .string y1, .int .i64 y2, .int .i64 y3, .int .i64 y4])).run Tryd.prog w = .ok (decide ((⟨x0, x1, x2, ⟨x3, x4⟩⟩ : Cl) = ⟨y0, y1, y2, ⟨y3, y4⟩⟩)) w := by
  rw [run_equalIn_agg w (d + 2) 36 _ _ (by kernel_rfl) (by kernel_rfl)]
  have hu := Tryd.underlying36
  have hn := fun w => run_eq_nm d w x3 x4 y3 y4
  simp only [Program.fieldsOf, hu]
  go_simp
  simp only [toList_inj]
  by_cases h0 : x0 = y0 <;> by_cases h1 : x1 = y1 <;> by_cases h2 : x2 = y2 <;> by_cases h3 : x3 = y3 <;> by_cases h4 : x4 = y4 <;> simp [h0, h1, h2, h3, h4]

/-- Which of two names comes first. -/
def lessB (x y : Nm) : Bool := decide (x.a < y.a ∨ x.a = y.a ∧ x.b < y.b)
def partsS (c : Cl) : Int := if c.k = 3 then max c.n 0 else 0
set_option maxHeartbeats 400000 in
theorem parts_calls (k : Int) (s : ByteArray) (n a b : Int) (w : World) :
    Calls Tryd.prog 101 #[.agg #[.int .u8 k, .string s, .int .i64 n, .int .i64 a, .int .i64 b]] w fun e w' => e = .returned (.int .i64 (partsS ⟨k, s, n, ⟨a, b⟩⟩)) ∧ Ext w w' := by
  by_cases h : k = 3
  · have hb : (k != 3) = false := by simp [h]
    go_enter Tryd.func101, Tryd.ntmps101
    go_wp2
    all_goals
      go_ret
      exact ⟨ret_i64 (by simp [partsS]; omega), (Ext.refl _).alloc _⟩
  · have hb : (k != 3) = true := by simp [h]
    go_enter Tryd.func101, Tryd.ntmps101
    go_wp2
    go_ret
    exact ⟨ret_i64 (by simp [partsS, h]), (Ext.refl _).alloc _⟩

set_option maxHeartbeats 400000 in
theorem less_calls (x0 x1 y0 y1 : Int) (w : World) :
    Calls Tryd.prog 64 #[.agg #[.int .i64 x0, .int .i64 x1], .agg #[.int .i64 y0, .int .i64 y1]] w fun e w' => e = .returned (.bool (lessB ⟨x0, x1⟩ ⟨y0, y1⟩)) ∧ Ext w w' := by
  go_enter Tryd.func64, Tryd.ntmps64
  go_wp2
  all_goals
    go_ret
    exact ⟨ret_bool (by rw [Bool.eq_iff_iff]; simp [lessB, *] <;> omega), ((Ext.refl _).alloc _).alloc _⟩

/-! ### names -/
def okAt (i : Nat) (c : Int) : Prop := (97 ≤ c ∧ c ≤ 122) ∨ (i ≠ 0 ∧ ((65 ≤ c ∧ c ≤ 90) ∨ (48 ≤ c ∧ c ≤ 57) ∨ c = 95))
def NameP (s : ByteArray) : Prop := 0 < s.size ∧ s.size ≤ 16 ∧ ∀ i, (h : i < s.size) → okAt i (s[i].toNat : Int)
open Classical in
noncomputable def nameB (s : ByteArray) : Bool := decide (NameP s)
theorem nameB_of {s : ByteArray} {b : Bool} (h : b = true ↔ NameP s) : b = nameB s := by
  unfold nameB
  cases b <;> simp_all
theorem ok_step {s : ByteArray} {k : Nat} (h : ∀ i, (h : i < s.size) → i < k → okAt i (s[i].toNat : Int)) (hk : k < s.size) (h' : okAt k (s[k].toNat : Int)) : ∀ i, (h : i < s.size) → i < k + 1 → okAt i (s[i].toNat : Int) := by
  intro i hi hik
  rcases Nat.lt_or_ge i k with h1 | h1
  · exact h i hi h1
  · obtain rfl : i = k := by omega
    exact h'
theorem nameB_no {s : ByteArray} {k : Nat} (hk : k < s.size) (h' : ¬ okAt k (s[k].toNat : Int)) : false = nameB s := nameB_of (by simp; intro h; exact h' (h.2.2 k hk))
theorem nameB_end {s : ByteArray} {k : Nat} (hk : s.size ≤ k) (h : ∀ i, (h : i < s.size) → i < k → okAt i (s[i].toNat : Int)) : nameB s = (decide (0 < s.size) && decide (s.size ≤ 16)) := by
  symm
  apply nameB_of
  simp only [Bool.and_eq_true, decide_eq_true_eq]
  exact ⟨fun hh => ⟨hh.1, hh.2, fun i hi => h i hi (by omega)⟩, fun hh => ⟨hh.1, hh.2.1⟩⟩

theorem size_pos_of_ne {s : ByteArray} (h : s ≠ ⟨#[]⟩) : 0 < s.size := by
  rcases Nat.eq_zero_or_pos s.size with h0 | h0
  · exact absurd (ByteArray.ext (Array.eq_empty_of_size_eq_zero h0)) h
  · exact h0

set_option maxHeartbeats 1000000 in
theorem name_calls (s : ByteArray) (w : World) (hs : s.size ≤ maxLen) :
    Calls Tryd.prog 106 #[.string s] w fun e w' => e = .returned (.bool (nameB s)) ∧ w = w' := by
  unfold maxLen at hs
  go_enter Tryd.func106, Tryd.ntmps106
  go_wp2
  go_loop [3, 4, 5, 8] (fun _ _ _ u => ∃ k : Nat, k ≤ s.size ∧ u = .int .i64 k ∧ ∀ i, (h : i < s.size) → i < k → okAt i (s[i].toNat : Int)) (fun _ _ _ u => s.size - (intOf u).toNat)
  case atStart => exact ⟨0, Nat.zero_le _, rfl, fun i _ h => absurd h (by omega)⟩
  case round =>
    obtain ⟨k, hk, rfl, hok⟩ := hrel
    by_cases hlt : k < s.size
    · have H := Lib.hid hok
      clear hok hk
      rcases Nat.eq_zero_or_pos k with rfl | hpos
      · by_cases h97 : 97 ≤ (s[0].toNat : Int) ∧ (s[0].toNat : Int) ≤ 122
        · obtain ⟨h1, h2⟩ := h97
          go_wp2
          exact ⟨⟨1, by omega, rfl, ok_step H.out hlt (.inl ⟨h1, h2⟩)⟩, by simp [intOf]; omega⟩
        · have hno := Lib.hid (nameB_no hlt (by unfold okAt; omega))
          by_cases h1 : 97 ≤ (s[0].toNat : Int)
          · have h2 : decide ((s[0].toNat : Int) ≤ (122 : Int)) = false := by simp; omega
            clear h97
            go_wp2
            go_ret
            exact ⟨ret_bool hno.out, rfl⟩
          · have h1' : decide ((97 : Int) ≤ (s[0].toNat : Int)) = false := by simp; omega
            clear h97 h1
            go_wp2
            go_ret
            exact ⟨ret_bool hno.out, rfl⟩
      · have hk0 : ((k : Int) == 0) = false := by simp; omega
        by_cases h97 : 97 ≤ (s[k].toNat : Int) ∧ (s[k].toNat : Int) ≤ 122
        · obtain ⟨h1, h2⟩ := h97
          go_wp2
          exact ⟨⟨k + 1, by omega, by go_num, ok_step H.out hlt (.inl ⟨h1, h2⟩)⟩, by simp [intOf]; omega⟩
        · by_cases h95 : (s[k].toNat : Int) = 95
          · have H1 := Lib.hid (ok_step H.out hlt (by unfold okAt; omega))
            have hb : ((s[k].toNat : Int) != 95) = false := by simp [h95]
            have h1 : decide ((97 : Int) ≤ (s[k].toNat : Int)) = false := by simp; omega
            clear h95 h97
            go_wp2
            all_goals exact ⟨⟨k + 1, by omega, by go_num, H1.out⟩, by simp [intOf]; omega⟩
          · have hb : ((s[k].toNat : Int) != 95) = true := by simp [h95]
            have H95 := Lib.hid h95
            by_cases h1 : 97 ≤ (s[k].toNat : Int)
            · have h2 : decide ((s[k].toNat : Int) ≤ (122 : Int)) = false := by simp; omega
              have hno := Lib.hid (nameB_no hlt (by unfold okAt; omega))
              have h3 : decide ((s[k].toNat : Int) < (65 : Int)) = false := by simp; omega
              have h4 : decide ((90 : Int) < (s[k].toNat : Int)) = true := by simp; omega
              have h5 : decide ((s[k].toNat : Int) < (48 : Int)) = false := by simp; omega
              have h6 : decide ((57 : Int) < (s[k].toNat : Int)) = true := by simp; omega
              clear h95 h97
              go_wp2
              go_ret
              exact ⟨ret_bool hno.out, rfl⟩
            · have h1' : decide ((97 : Int) ≤ (s[k].toNat : Int)) = false := by simp; omega
              have H1 := Lib.hid h1
              clear h95 h97 h1
              go_wp2
              all_goals first
                | (go_ret; exact ⟨ret_bool (nameB_no hlt (by have := H95.out; have := H1.out; unfold okAt; omega)), rfl⟩)
                | exact ⟨⟨k + 1, by omega, by go_num, ok_step H.out hlt (by have := H95.out; have := H1.out; unfold okAt; omega)⟩, by simp [intOf]; omega⟩
    · have H := Lib.hid (nameB_end (by omega) hok)
      clear hok
      by_cases h0 : s = ⟨#[]⟩
      · have hz : ¬ 0 < s.size := by rw [h0]; decide
        have he2 : s.toList.isEmpty = true := by rw [← decide_eq_emptyBytes]; exact decide_eq_true h0
        have H := Lib.hid (H.out.trans (by simp [hz] : _ = false))
        clear h0
        go_wp2
        all_goals (go_ret; exact ⟨ret_bool H.out.symm, rfl⟩)
      · have hp : 0 < s.size := size_pos_of_ne h0
        have he2 : s.toList.isEmpty = false := by rw [← decide_eq_emptyBytes]; exact decide_eq_false h0
        have H := Lib.hid (H.out.trans (by simp [hp] : _ = decide (s.size ≤ 16)))
        go_wp2
        all_goals (go_ret; exact ⟨ret_bool (by rw [H.out]; simp; omega), rfl⟩)


end Go.Proofs.YtehljfnoicppnaaDoor
