/- End, Right, Global, single and OfVar of terms: each by its contract. Conditions: the list of signs holds what the program lays there; End speaks of terms of fewer than 2^31 cells. -/
import Derived.Test.YtehljfnoicppnaaDoorTermD
open Go Go.RowKit
set_option linter.unusedVariables false
namespace Go.Proofs.YtehljfnoicppnaaDoor

/-- How many cells the next so many terms have; none: there are not so many. -/
def endL (len : Nat) : Nat → List Cl → Option Nat
  | 0, _ => some 0
  | _ + 1, [] => none
  | o + 1, c :: r => if (len : Int) < partsS c then none else (endL len (o + (partsS c).toNat) r).map (· + 1)
/-- The place behind the term at a place; 0: there is none. -/
def endS (t : List Cl) (i : Int) : Int :=
  if i < 0 ∨ (t.length : Int) ≤ i then 0 else match endL t.length 1 (t.drop i.toNat) with
    | none => 0
    | some n => i + n
theorem endL_zero (len : Nat) (l : List Cl) : endL len 0 l = some 0 := by cases l <;> simp [endL]
theorem partsS_nonneg (c : Cl) : 0 ≤ partsS c := by unfold partsS; split <;> omega

set_option maxRecDepth 100000 in
set_option maxHeartbeats 1000000 in
theorem end_calls (v : Value) (xs : List Cl) (i : Int) (ok : Ok) (w : World) (h : Sl CL w ok v xs) (hl : xs.length ≤ 2147483648) :
    Calls Tryd.prog 80 #[v, .int .i64 i] w fun e w' => e = .returned (.int .i64 (endS xs i)) ∧ Ext w w' := by
  obtain ⟨A, c, rfl, hc, hr⟩ := h
  have HR := Lib.hid hr
  clear hr
  by_cases hi : 0 ≤ i ∧ i < xs.length
  · obtain ⟨h0, h1⟩ := hi
    have HE : endS xs i = match endL xs.length 1 (xs.drop i.toNat) with | none => 0 | some n => i + n := by unfold endS; rw [if_neg (by omega)]
    have HE := Lib.hid HE
    obtain ⟨i, rfl⟩ := Int.eq_ofNat_of_zero_le h0
    rename_i HE'
    clear HE'
    obtain ⟨b, o, rfl, hok, hb⟩ := HR.out.some_ (by omega)
    have g0 : decide ((i : Int) < (0 : Int)) = false := by simp
    have g1 : decide (xs.length ≤ i) = false := by simp; omega
    have HE := Lib.hid (HE.out.trans (by rw [Int.toNat_natCast]))
    rename_i HE'
    have HI := Lib.hid h1
    clear HE' h0 h1
    go_enter Tryd.func80, Tryd.ntmps80
    go_wp2
    go_loopw [1, 5] (fun u p wr => ∃ (k q : Nat), k ≤ xs.length ∧ u = .int .i64 k ∧ p = .int .i64 q ∧ q ≤ 1 + k * 2147483648 ∧ i ≤ k ∧ Hid (endL xs.length 1 (xs.drop i) = (endL xs.length q (xs.drop k)).map (· + (k - i))) ∧ Ext w wr) (fun u _ _ => xs.length - (intOf u).toNat)
    case atStart => exact ⟨i, 1, by have := HI.out; omega, rfl, rfl, by omega, Nat.le_refl _, Lib.hid (by simp), Ext.refl _⟩
    case round =>
      obtain ⟨k, q, hk, rfl, rfl, hq, hik, HP, hE⟩ := hrel
      have HE1 := Lib.hid hE
      clear hE
      rcases Nat.eq_zero_or_pos q with rfl | hqp
      · have HF : endS xs i = k := by
          rw [HE.out, HP.out]
          rw [endL_zero]
          show (i : Int) + ((0 + (k - i) : Nat) : Int) = k
          omega
        have HF := Lib.hid HF
        rename_i HF'
        clear HF' hik hq
        go_wp2
        go_ret
        exact ⟨ret_i64 HF.out.symm, HE1.out⟩
      · by_cases hlt : k < xs.length
        · obtain ⟨⟨x0, x1, x2, ⟨x3, x4⟩⟩, hx⟩ : ∃ x, xs[k]? = some x := ⟨_, List.getElem?_eq_getElem hlt⟩
          obtain ⟨_, _, hxo, hc0, hc1, hc2, hc3, hc4⟩ := Sl.cl_at (n := 0) (c := 0) (HR.out.ext HE1.out) hx
          have hd : xs.drop k = ⟨x0, x1, x2, ⟨x3, x4⟩⟩ :: xs.drop (k + 1) := by
            rw [List.drop_eq_getElem_cons hlt]
            rw [List.getElem?_eq_getElem hlt] at hx
            rw [Option.some.inj hx]
          obtain ⟨q, rfl⟩ : ∃ m, q = m + 1 := ⟨q - 1, by omega⟩
          have hpn := partsS_nonneg ⟨x0, x1, x2, ⟨x3, x4⟩⟩
          have HPc := fun w1 => parts_calls x0 x1 x2 x3 x4 w1
          have HP2 : endL xs.length (q + 1) (xs.drop k) = if (xs.length : Int) < partsS ⟨x0, x1, x2, ⟨x3, x4⟩⟩ then none else (endL xs.length (q + (partsS ⟨x0, x1, x2, ⟨x3, x4⟩⟩).toNat) (xs.drop (k + 1))).map (· + 1) := by rw [hd, endL]
          have HP2 := Lib.hid HP2
          rename_i HP2'
          clear HP2' hx hxo hd
          generalize partsS ⟨x0, x1, x2, ⟨x3, x4⟩⟩ = p at *
          have HPc := Lib.hid HPc
          rename_i HPc'
          clear HPc'
          by_cases hpl : (xs.length : Int) < p
          · have HF : endS xs i = 0 := by rw [HE.out, HP.out, HP2.out, if_pos hpl]; rfl
            have HF := Lib.hid HF
            rename_i HF'
            clear HF'
            go_wp2_with (go_at_call 101; refine (HPc.out _).mono ?_; rintro e w1 ⟨rfl, hw⟩; obtain ⟨hcc, hff⟩ := bcell hw)
            go_ret
            exact ⟨ret_i64 HF.out.symm, HE1.out.trans (by repeat (first | with_reducible exact Ext.refl _ | assumption | refine Ext.alloc ?_ _ | refine Ext.drewN ?_ _ | refine Ext.drew ?_ | refine Ext.set ?_ (by simp <;> omega) _ _ | refine Ext.trans ?_ (by assumption)))⟩
          · have hpl' : p ≤ (xs.length : Int) := by omega
            have HN : Hid (endL xs.length 1 (xs.drop i) = (endL xs.length (q + p.toNat) (xs.drop (k + 1))).map (· + (k + 1 - i))) := by
              refine Lib.hid ?_
              rw [HP.out, HP2.out, if_neg hpl, Option.map_map]
              congr 1
              funext z
              simp
              omega
            have gp : decide ((xs.length : Int) < p) = false := decide_eq_false hpl
            clear hpl
            go_wp2_with (go_at_call 101; refine (HPc.out _).mono ?_; rintro e w1 ⟨rfl, hw⟩; obtain ⟨hcc, hff⟩ := bcell hw)
            refine ⟨⟨k + 1, q + p.toNat, by omega, by go_num, ?_, by omega, by omega, HN, HE1.out.trans (by repeat (first | with_reducible exact Ext.refl _ | assumption | refine Ext.alloc ?_ _ | refine Ext.drewN ?_ _ | refine Ext.drew ?_ | refine Ext.set ?_ (by simp <;> omega) _ _ | refine Ext.trans ?_ (by assumption)))⟩, by simp [intOf]; omega⟩
            congr 1
            omega
        · obtain rfl : k = xs.length := by omega
          have HF : endS xs i = 0 := by
            rw [HE.out, HP.out, List.drop_length]
            obtain ⟨q, rfl⟩ : ∃ m, q = m + 1 := ⟨q - 1, by omega⟩
            rfl
          have HF := Lib.hid HF
          rename_i HF'
          clear HF' hlt
          have hkk : ((xs.length : Int) == (xs.length : Int)) = true := by simp
          go_wp2
          go_ret
          exact ⟨ret_i64 HF.out.symm, HE1.out⟩
  · have H : endS xs i = 0 := by unfold endS; rw [if_pos (by omega)]
    have H := Lib.hid H
    rename_i H'
    clear H'
    by_cases h0 : i < 0
    · have g0 : decide (i < (0 : Int)) = true := by simp; omega
      clear hi
      go_enter Tryd.func80, Tryd.ntmps80
      go_wp2
      go_ret
      exact ⟨ret_i64 H.out.symm, Ext.refl _⟩
    · have g0 : decide (i < (0 : Int)) = false := by simp; omega
      have g1 : decide ((xs.length : Int) ≤ i) = true := by simp; omega
      clear hi
      go_enter Tryd.func80, Tryd.ntmps80
      go_wp2
      go_ret
      exact ⟨ret_i64 H.out.symm, Ext.refl _⟩

def rightB (t : List Cl) : Prop := 1 ≤ t.length ∧ t.length ≤ 256 ∧ endS t 0 = t.length ∧ ∀ c ∈ t, cellB c = true
open Classical in
noncomputable def rightS (t : List Cl) : Bool := decide (rightB t)
theorem rightS_iff {t : List Cl} : rightS t = true ↔ rightB t := by simp [rightS]

set_option maxRecDepth 100000 in
set_option maxHeartbeats 1000000 in
theorem right_calls (v : Value) (xs : List Cl) (ok : Ok) (w : World) (h : Sl CL w ok v xs) (hg : Sg w) :
    Calls Tryd.prog 54 #[v] w fun e w' => e = .returned (.bool (rightS xs)) ∧ Ext w w' := by
  have HS := Lib.hid h
  have HG := Lib.hid hg
  clear hg
  obtain ⟨A, c, rfl, hc, hr⟩ := h
  clear hr
  have no : (h : ¬ rightB xs) → false = rightS xs := fun h => by unfold rightS; simp [h]
  have NO := Lib.hid no
  clear no
  by_cases h1 : 1 ≤ xs.length ∧ xs.length ≤ 256
  · obtain ⟨h1, h2⟩ := h1
    have g1 : ((xs.length : Int) == 0) = false := beq_eq_false_iff_ne.2 (by omega)
    have g2 : decide ((256 : Int) < (xs.length : Int)) = false := by simp; omega
    have HC := Lib.hid (fun w1 hE => end_calls _ xs 0 ok w1 (HS.out.ext hE) (by omega))
    by_cases he : endS xs 0 = xs.length
    · have HE := Lib.hid he
      have ge : (endS xs 0 != (xs.length : Int)) = false := by simp [he]
      have HF := Lib.hid (fun w1 hE => containsCl_calls 82 enters_right1 (fun c => !cellB c) Sg (fun _ _ h h' => h.ext h') (fun k s n a b w hc hg => right1_calls k s n a b w hc.1 hc.2.1 hc.2.2.1 hg) _ xs ok w1 (HS.out.ext hE) (HG.out.ext hE))
      clear he
      go_enter Tryd.func54, Tryd.ntmps54
      go_wp2_with (go_at_call 80; refine (HC.out _ (Ext.refl _)).mono ?_; rintro e w1 ⟨rfl, hw⟩; have HW := Lib.hid hw; clear hw)
      refine (HF.out _ HW.out).mono ?_
      rintro e w2 ⟨rfl, hw2⟩
      have HW2 := Lib.hid hw2
      clear hw2
      have HV : (!(xs.any fun c => !cellB c)) = rightS xs := by
        rw [Bool.eq_iff_iff, rightS_iff]
        simp [rightB, HE.out, h1, h2]
      have HV := Lib.hid HV
      rename_i HV'
      clear HV'
      go_wp2
      go_ret
      exact ⟨ret_bool HV.out, HW.out.trans HW2.out⟩
    · have HE := Lib.hid he
      have ge : (endS xs 0 != (xs.length : Int)) = true := by simp [he]
      clear he
      go_enter Tryd.func54, Tryd.ntmps54
      go_wp2_with (go_at_call 80; refine (HC.out _ (Ext.refl _)).mono ?_; rintro e w1 ⟨rfl, hw⟩; have HW := Lib.hid hw; clear hw)
      go_ret
      exact ⟨ret_bool (NO.out (fun h => HE.out h.2.2.1)), HW.out⟩
  · have HR := Lib.hid (NO.out (fun h => h1 ⟨h.1, h.2.1⟩))
    by_cases h0 : xs.length = 0
    · have g1 : ((xs.length : Int) == 0) = true := beq_iff_eq.2 (by omega)
      clear h1 h0
      go_enter Tryd.func54, Tryd.ntmps54
      go_wp2
      go_ret
      exact ⟨ret_bool HR.out, Ext.refl _⟩
    · have g1 : ((xs.length : Int) == 0) = false := beq_eq_false_iff_ne.2 (by omega)
      have g2 : decide ((256 : Int) < (xs.length : Int)) = true := by simp; omega
      clear h1 h0
      go_enter Tryd.func54, Tryd.ntmps54
      go_wp2
      go_ret
      exact ⟨ret_bool HR.out, Ext.refl _⟩

end Go.Proofs.YtehljfnoicppnaaDoor
