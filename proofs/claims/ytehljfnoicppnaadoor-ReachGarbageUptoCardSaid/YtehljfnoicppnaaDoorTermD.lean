/- The choice of a rule, IndexFunc and ContainsFunc over cells, End, Right, Global and OfVar: each by its contract. Conditions: the list of signs holds what the program lays there. -/
import Derived.Test.YtehljfnoicppnaaDoorTermC
import Derived.Laws.EntriesVeiled
import Derived.Deep.RegionWith
open Go Go.RowKit
set_option linter.unusedVariables false
namespace Go.Proofs.YtehljfnoicppnaaDoor

/-- Which rule serves a kind. -/
def ruleF (k : Int) : Nat := if k = 1 then 103 else if k = 2 then 105 else if k = 3 then 107 else if k = 4 then 109 else 110

set_option maxRecDepth 100000 in
set_option maxHeartbeats 1000000 in
theorem rule_calls (k : Int) (w : World) (h0 : 0 ≤ k) (h1 : k ≤ 255) :
    Calls Tryd.prog 83 #[.int .u8 k] w fun e w' => e = .returned (.agg #[.func (.func (ruleF k)) #[] #[]]) ∧ Ext w w' := by
  by_cases hk : 1 ≤ k ∧ k ≤ 4
  · obtain rfl | rfl | rfl | rfl : k = 1 ∨ k = 2 ∨ k = 3 ∨ k = 4 := by omega
    all_goals
      go_enter Tryd.func83, Tryd.ntmps83
      go_wp2
      refine bodyPost_ret (v := .agg #[.func (.func (ruleF _)) #[] #[]]) (by simp [results, Tryd.results83, go_sem, ruleF]; first | done | rfl) rfl ⟨rfl, (by repeat (first | with_reducible exact Ext.refl _ | assumption | refine Ext.alloc ?_ _ | refine Ext.drewN ?_ _ | refine Ext.drew ?_ | refine Ext.set ?_ (by simp <;> omega) _ _ | refine Ext.trans ?_ (by assumption)))⟩
  · have hr : ruleF k = 110 := by unfold ruleF; rw [if_neg (by omega), if_neg (by omega), if_neg (by omega), if_neg (by omega)]
    rw [hr]
    by_cases h2 : k < 1
    · have g1 : decide (k < (1 : Int)) = true := decide_eq_true h2
      go_enter Tryd.func83, Tryd.ntmps83
      go_wp2
      refine bodyPost_ret (v := .agg #[.func (.func 110) #[] #[]]) (by simp [results, Tryd.results83, go_sem]) rfl ⟨rfl, (by repeat (first | with_reducible exact Ext.refl _ | assumption | refine Ext.alloc ?_ _ | refine Ext.drewN ?_ _ | refine Ext.drew ?_ | refine Ext.set ?_ (by simp <;> omega) _ _ | refine Ext.trans ?_ (by assumption)))⟩
    · have g1 : decide (k < (1 : Int)) = false := decide_eq_false h2
      have g2 : decide ((5 : Int) ≤ k) = true := by simp; omega
      go_enter Tryd.func83, Tryd.ntmps83
      go_wp2
      refine bodyPost_ret (v := .agg #[.func (.func 110) #[] #[]]) (by simp [results, Tryd.results83, go_sem]) rfl ⟨rfl, (by repeat (first | with_reducible exact Ext.refl _ | assumption | refine Ext.alloc ?_ _ | refine Ext.drewN ?_ _ | refine Ext.drew ?_ | refine Ext.set ?_ (by simp <;> omega) _ _ | refine Ext.trans ?_ (by assumption)))⟩

/-- The rule of a cell's kind tells whether the cell is one. -/
theorem ruled_calls (k : Int) (s : ByteArray) (n a b : Int) (w : World) (hs : s.size ≤ maxLen) (hg : Sg w) :
    Calls Tryd.prog (ruleF k) #[.agg #[.int .u8 k, .string s, .int .i64 n, .int .i64 a, .int .i64 b]] w fun e w' => e = .returned (.bool (cellB ⟨k, s, n, ⟨a, b⟩⟩)) ∧ Ext w w' := by
  by_cases h1 : k = 1
  · subst h1; exact rule1_calls s n a b w
  by_cases h2 : k = 2
  · subst h2; exact rule2_calls s n a b w hs
  by_cases h3 : k = 3
  · subst h3; exact rule3_calls s n a b w hs hg
  by_cases h4 : k = 4
  · subst h4; exact rule4_calls s n a b w
  have hr : ruleF k = 110 := by unfold ruleF; rw [if_neg h1, if_neg h2, if_neg h3, if_neg h4]
  rw [hr]
  exact rule5_calls (.bool true) k s n a b w ⟨h1, h2, h3, h4⟩

theorem enters_rule (k : Int) : ∀ args w, (callFunc (ruleF k) args).run Tryd.prog w = .ok (.enter (ruleF k) args) w := by
  intro args w
  unfold ruleF
  repeat' split
  all_goals kernel_rfl

set_option maxRecDepth 100000 in
set_option maxHeartbeats 1000000 in
theorem right1_calls (k : Int) (s : ByteArray) (n a b : Int) (w : World) (hs : s.size ≤ maxLen) (h0 : 0 ≤ k) (h1 : k ≤ 255) (hg : Sg w) :
    Calls Tryd.prog 82 #[.agg #[.int .u8 k, .string s, .int .i64 n, .int .i64 a, .int .i64 b]] w fun e w' => e = .returned (.bool (!cellB ⟨k, s, n, ⟨a, b⟩⟩)) ∧ Ext w w' := by
  have HG := Lib.hid hg
  clear hg
  go_enter Tryd.func82, Tryd.ntmps82
  have hfld : ∀ w, (Instr.field 121 (.agg #[.func (.func (ruleF k)) #[] #[]]) 0).run Tryd.prog w = .ok (.func (.func (ruleF k)) #[] #[]) w := fun _ => by kernel_rfl
  have eg : ∀ args w, (callFunc (ruleF k) args).run Tryd.prog w = .ok (.enter (ruleF k) args) w := enters_rule k
  go_wp2
  go_region_with (first
    | (go_at_call 83; refine (rule_calls _ _ h0 h1).mono ?_; rintro e w1 ⟨rfl, hw⟩; obtain ⟨hc, hf⟩ := bcell hw)
    | (refine (ruled_calls _ _ _ _ _ _ hs (HG.out.ext (by repeat (first | with_reducible exact Ext.refl _ | assumption | refine Ext.alloc ?_ _ | refine Ext.drewN ?_ _ | refine Ext.drew ?_ | refine Ext.set ?_ (by simp <;> omega) _ _ | refine Ext.trans ?_ (by assumption))))).mono ?_; rintro e w2 ⟨rfl, hw2⟩))
  all_goals
    go_wp2
    go_ret
    exact ⟨rfl, (by repeat (first | with_reducible exact Ext.refl _ | assumption | refine Ext.alloc ?_ _ | refine Ext.drewN ?_ _ | refine Ext.drew ?_ | refine Ext.set ?_ (by simp <;> omega) _ _ | refine Ext.trans ?_ (by assumption)))⟩

/-! ### IndexFunc and ContainsFunc over cells -/
set_option maxRecDepth 100000 in
set_option maxHeartbeats 1000000 in
theorem indexCl_calls (f : Nat) (eg : ∀ args w, (callFunc f args).run Tryd.prog w = .ok (.enter f args) w) (p : Cl → Bool) (Inv : World → Prop) (hinv : ∀ w w', Inv w → Ext w w' → Inv w')
    (H : ∀ k s n a b w, ClOk ⟨k, s, n, ⟨a, b⟩⟩ → Inv w → Calls Tryd.prog f #[.agg #[.int .u8 k, .string s, .int .i64 n, .int .i64 a, .int .i64 b]] w fun e w' => e = .returned (.bool (p ⟨k, s, n, ⟨a, b⟩⟩)) ∧ Ext w w')
    (v : Value) (xs : List Cl) (ok : Ok) (w : World) (h : Sl CL w ok v xs) (hI : Inv w) :
    Calls Tryd.prog 102 #[v, .func (.func f) #[] #[]] w fun e w' => (∃ r : Int, e = .returned (.int .i64 r) ∧ (0 ≤ r ↔ xs.any p = true)) ∧ Ext w w' := by
  obtain ⟨A, c, rfl, hc, hr⟩ := h
  have hm := hr.1
  unfold maxLen at hm
  have HR := Lib.hid hr
  have HI := Lib.hid hI
  have HV := Lib.hid hinv
  have HH := Lib.hid H
  clear hr hI hinv H
  go_enter Tryd.func102, Tryd.ntmps102
  go_wp2
  go_loopw [5, 8] (fun _ u wr => ∃ k : Nat, k ≤ xs.length ∧ u = .int .i64 k ∧ (xs.take k).any p = false ∧ Ext w wr) (fun _ u _ => xs.length - (intOf u).toNat)
  case atStart => exact ⟨0, Nat.zero_le _, rfl, rfl, Ext.refl _⟩
  case round =>
    obtain ⟨k, hk, rfl, hno, hE⟩ := hrel
    by_cases hlt : k < xs.length
    · obtain ⟨b, o, rfl, hok, hb⟩ := HR.out.some_ (by omega)
      obtain ⟨x, hx⟩ : ∃ x, xs[k]? = some x := ⟨_, List.getElem?_eq_getElem hlt⟩
      obtain ⟨_, _, hxo, hc0, hc1, hc2, hc3, hc4⟩ := Sl.cl_at (n := 0) (c := 0) (HR.out.ext hE) hx
      have Hno := Lib.hid hno
      have HX := Lib.hid hx
      have HE := Lib.hid hE
      have hcall := fun w1 hE1 => HH.out x.k x.s x.n x.v.a x.v.b w1 hxo (HV.out _ w1 HI.out hE1)
      clear hno hx hE hxo
      cases hq : p x with
      | true =>
        rw [show (⟨x.k, x.s, x.n, ⟨x.v.a, x.v.b⟩⟩ : Cl) = x from rfl, hq] at hcall
        have HC := Lib.hid hcall
        have HQ := Lib.hid hq
        clear hcall hq
        go_wp2_with (refine (HC.out _ HE.out).mono ?_; rintro e w1 ⟨rfl, hw⟩)
        go_ret
        have hx := HX.out
        refine ⟨⟨k, rfl, ?_⟩, HE.out.trans hw⟩
        have : xs.any p = true := List.any_eq_true.2 ⟨x, List.mem_of_getElem? hx, HQ.out⟩
        simp [this]
      | false =>
        rw [show (⟨x.k, x.s, x.n, ⟨x.v.a, x.v.b⟩⟩ : Cl) = x from rfl, hq] at hcall
        have HC := Lib.hid hcall
        have HQ := Lib.hid hq
        clear hcall hq
        go_wp2_with (refine (HC.out _ HE.out).mono ?_; rintro e w1 ⟨rfl, hw⟩)
        refine ⟨⟨k + 1, by omega, by go_num, ?_, HE.out.trans hw⟩, by simp [intOf]; omega⟩
        have hx := HX.out
        rw [List.take_add_one, hx, List.any_append, Hno.out]
        simp [HQ.out]
    · obtain rfl : k = xs.length := by omega
      have Hno := Lib.hid hno
      have HE := Lib.hid hE
      clear hno hE
      go_wp2_with fail
      go_ret
      refine ⟨⟨-1, rfl, ?_⟩, HE.out⟩
      have := Hno.out
      rw [List.take_length] at this
      simp [this]

set_option maxRecDepth 100000 in
set_option maxHeartbeats 1000000 in
theorem containsCl_calls (f : Nat) (eg : ∀ args w, (callFunc f args).run Tryd.prog w = .ok (.enter f args) w) (p : Cl → Bool) (Inv : World → Prop) (hinv : ∀ w w', Inv w → Ext w w' → Inv w')
    (H : ∀ k s n a b w, ClOk ⟨k, s, n, ⟨a, b⟩⟩ → Inv w → Calls Tryd.prog f #[.agg #[.int .u8 k, .string s, .int .i64 n, .int .i64 a, .int .i64 b]] w fun e w' => e = .returned (.bool (p ⟨k, s, n, ⟨a, b⟩⟩)) ∧ Ext w w')
    (v : Value) (xs : List Cl) (ok : Ok) (w : World) (h : Sl CL w ok v xs) (hI : Inv w) :
    Calls Tryd.prog 81 #[v, .func (.func f) #[] #[]] w fun e w' => e = .returned (.bool (xs.any p)) ∧ Ext w w' := by
  have HC := Lib.hid (indexCl_calls f eg p Inv hinv H v xs ok w h hI)
  clear H hinv eg hI h
  go_enter Tryd.func81, Tryd.ntmps81
  go_wp2_with (go_at_call 102; refine HC.out.mono ?_; rintro e w1 ⟨⟨r, rfl, hr⟩, hw⟩; have HR := Lib.hid hr; clear hr)
  go_ret
  exact ⟨ret_bool (by rw [Bool.eq_iff_iff, ← HR.out, decide_eq_true_iff]), hw⟩

theorem enters_right1 : ∀ args w, (callFunc 82 args).run Tryd.prog w = .ok (.enter 82 args) w := fun args w => by kernel_rfl
theorem enters_global1 : ∀ args w, (callFunc 88 args).run Tryd.prog w = .ok (.enter 88 args) w := fun args w => by kernel_rfl

def varB (x : Cl) : Bool := decide (x.k = 4) && decide (x.v.a = -1)
set_option maxRecDepth 100000 in
set_option maxHeartbeats 1000000 in
theorem global1_calls (k : Int) (s : ByteArray) (n a b : Int) (w : World) :
    Calls Tryd.prog 88 #[.agg #[.int .u8 k, .string s, .int .i64 n, .int .i64 a, .int .i64 b]] w fun e w' => e = .returned (.bool (varB ⟨k, s, n, ⟨a, b⟩⟩)) ∧ Ext w w' := by
  by_cases h : k = 4
  · have hb : (k == 4) = true := by simp [h]
    have H := Lib.hid h
    clear h
    go_enter Tryd.func88, Tryd.ntmps88
    go_wp2
    go_ret
    exact ⟨ret_bool (by rw [Bool.eq_iff_iff]; simp [varB, H.out]), (by repeat (first | with_reducible exact Ext.refl _ | assumption | refine Ext.alloc ?_ _ | refine Ext.drewN ?_ _ | refine Ext.drew ?_ | refine Ext.set ?_ (by simp <;> omega) _ _ | refine Ext.trans ?_ (by assumption)))⟩
  · have hb : (k == 4) = false := by simp [h]
    have H := Lib.hid h
    clear h
    go_enter Tryd.func88, Tryd.ntmps88
    go_wp2
    go_ret
    exact ⟨ret_bool (by rw [Bool.eq_iff_iff]; simp [varB, H.out]), (by repeat (first | with_reducible exact Ext.refl _ | assumption | refine Ext.alloc ?_ _ | refine Ext.drewN ?_ _ | refine Ext.drew ?_ | refine Ext.set ?_ (by simp <;> omega) _ _ | refine Ext.trans ?_ (by assumption)))⟩

end Go.Proofs.YtehljfnoicppnaaDoor
