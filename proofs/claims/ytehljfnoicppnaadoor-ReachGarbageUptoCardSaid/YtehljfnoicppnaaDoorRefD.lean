/- The reference's one, OfVar, End, Right and Global, each by its contract, in the program side's words. Conditions: End speaks of terms of at most 2^31 cells. -/
import Derived.Test.YtehljfnoicppnaaDoorRefC
import Derived.Test.YtehljfnoicppnaaDoorHeapD
open Go Go.RowKit
set_option linter.unusedVariables false
namespace Go.Proofs.YtehljfnoicppnaaDoor

noncomputable def oneS (c : Cl) : List Cl := if cellB c then [c] else []

set_option maxRecDepth 100000 in
set_option maxHeartbeats 1000000 in
theorem refOne_calls (k : Int) (s : ByteArray) (n a b : Int) (w : World) (ho : ClOk ⟨k, s, n, ⟨a, b⟩⟩) :
    Calls Tryd.prog 97 #[.agg #[.int .u8 k, .string s, .int .i64 n, .int .i64 a, .int .i64 b]] w fun e w' => (∃ v' : Value, e = .returned v' ∧ Sl CL w' (fun q => w.heap.size ≤ q) v' (oneS ⟨k, s, n, ⟨a, b⟩⟩)) ∧ Ext w w' := by
  have HO := Lib.hid ho
  have HC := Lib.hid (fun w1 => refCell_calls k s n a b w1 ho.1)
  clear ho
  cases hc : cellB ⟨k, s, n, ⟨a, b⟩⟩
  all_goals
    have HC2 := Lib.hid (fun w1 => (HC.out w1).mono (fun e w' h => (⟨by rw [h.1, hc], h.2⟩ : e = .returned (.bool _) ∧ Ext w1 w')))
    have HV : Hid (oneS ⟨k, s, n, ⟨a, b⟩⟩ = _) := Lib.hid (by unfold oneS; rw [hc])
    clear hc
    go_enter Tryd.func97, Tryd.ntmps97
    have hbx0 := heap_alloc_new w (.cells #[.int .u8 k, .string s, .int .i64 n, .int .i64 a, .int .i64 b] 36)
    go_wp2_with (go_at_call 84; refine (HC2.out _).mono ?_; rintro e w1 ⟨rfl, hw⟩; obtain ⟨hcc, hff⟩ := bcell hw; have HW := Lib.hid hw; clear hw)
    go_ret
  · exact ⟨⟨_, rfl, by rw [HV.out]; exact Sl.nil _ _ _⟩, ((Ext.refl _).alloc _).trans HW.out⟩
  · refine ⟨⟨_, rfl, ?_⟩, (((Ext.refl _).alloc _).trans HW.out).alloc _⟩
    have hle := HW.out.le
    simp at hle
    have HB := (Sl.box (d := CL) (w := w1) (ok := fun _ => False) (x := ⟨k, s, n, ⟨a, b⟩⟩) (cs := #[.int .u8 k, .string s, .int .i64 n, .int .i64 a, .int .i64 b]) (e := 36) ⟨rfl, HO.out⟩)
    rw [HV.out]
    exact HB.imp (by intro q hq; simp at hq; omega)

set_option maxRecDepth 100000 in
set_option maxHeartbeats 1000000 in
theorem refOfVar_calls (a b : Int) (w : World) (ha : NmOk ⟨a, b⟩) :
    Calls Tryd.prog 75 #[.agg #[.int .i64 a, .int .i64 b]] w fun e w' => (∃ v' : Value, e = .returned v' ∧ Sl CL w' (fun q => w.heap.size ≤ q) v' (varS ⟨a, b⟩)) ∧ Ext w w' := by
  have ho : ClOk ⟨4, ⟨#[]⟩, 0, ⟨a, b⟩⟩ := ⟨Nat.zero_le _, by simp, by simp, ⟨by simp, by simp⟩, ha⟩
  have hv : varS ⟨a, b⟩ = oneS ⟨4, ⟨#[]⟩, 0, ⟨a, b⟩⟩ := by
    unfold varS vcl oneS
    rw [right_one _ (by simp)]
  have HO := Lib.hid ho
  have HV := Lib.hid hv
  clear ho ha hv
  go_enter Tryd.func75, Tryd.ntmps75
  go_wp2_with (go_at_call 97; refine (refOne_calls _ _ _ _ _ _ HO.out).mono ?_; rintro e w1 ⟨⟨v, rfl, hv⟩, hw⟩; have HS := Lib.hid hv; have HW := Lib.hid hw; clear hv hw)
  go_ret
  refine ⟨⟨_, rfl, ?_⟩, ((Ext.refl _).alloc _).trans HW.out⟩
  rw [HV.out]
  exact HS.out.imp (by intro q hq; simp at hq; omega)

set_option maxRecDepth 100000 in
set_option maxHeartbeats 1000000 in
theorem refEnd_calls (v : Value) (xs : List Cl) (i : Int) (ok : Ok) (w : World) (h : Sl CL w ok v xs) (hl : xs.length ≤ 2147483648) :
    Calls Tryd.prog 85 #[v, .int .i64 i] w fun e w' => e = .returned (.int .i64 (endS xs i)) ∧ w = w' := by
  obtain ⟨A, c, rfl, hc, hr⟩ := h
  have HR := Lib.hid hr
  clear hr
  by_cases hi : 0 ≤ i ∧ i < xs.length
  · obtain ⟨h0, h1⟩ := hi
    have HE : endS xs i = match endL xs.length 1 (xs.drop i.toNat) with | none => 0 | some n => i + n := by unfold endS; rw [if_neg (by omega)]; rfl
    have HE := Lib.hid HE
    obtain ⟨i, rfl⟩ := Int.eq_ofNat_of_zero_le h0
    rename_i HE'
    clear HE'
    obtain ⟨b, o, rfl, hok, hb⟩ := HR.out.some_ (by omega)
    have g0 : decide ((i : Int) < (0 : Int)) = false := by simp
    have g1 : decide (xs.length ≤ i) = false := by simp; omega
    have HE := Lib.hid (HE.out.trans (by rw [Int.toNat_natCast]))
    rename_i HE'
    have HI := Lib.hid h1
    clear HE' h0 h1
    go_enter Tryd.func85, Tryd.ntmps85
    go_wp2
    go_loop [1, 5] (fun u p => ∃ (k q : Nat), k ≤ xs.length ∧ u = .int .i64 k ∧ p = .int .i64 q ∧ q ≤ 1 + k * 2147483648 ∧ i ≤ k ∧ Hid (endL xs.length 1 (xs.drop i) = (endL xs.length q (xs.drop k)).map (· + (k - i)))) (fun u _ => xs.length - (intOf u).toNat)
    case atStart => exact ⟨i, 1, by have := HI.out; omega, rfl, rfl, by omega, Nat.le_refl _, Lib.hid (by simp)⟩
    case round =>
      obtain ⟨k, q, hk, rfl, rfl, hq, hik, HP⟩ := hrel
      rcases Nat.eq_zero_or_pos q with rfl | hqp
      · have HF : endS xs i = k := by
          rw [HE.out, HP.out]
          rw [endL_zero]
          show (i : Int) + ((0 + (k - i) : Nat) : Int) = k
          omega
        have HF := Lib.hid HF
        rename_i HF'
        clear HF' hik hq
        go_wp2
        go_ret
        exact ⟨ret_i64 HF.out.symm, rfl⟩
      · by_cases hlt : k < xs.length
        · obtain ⟨⟨x0, x1, x2, ⟨x3, x4⟩⟩, hx⟩ : ∃ x, xs[k]? = some x := ⟨_, List.getElem?_eq_getElem hlt⟩
          obtain ⟨_, _, hxo, hc0, hc1, hc2, hc3, hc4⟩ := Sl.cl_at (n := 0) (c := 0) HR.out hx
          have hd : xs.drop k = ⟨x0, x1, x2, ⟨x3, x4⟩⟩ :: xs.drop (k + 1) := by
            rw [List.drop_eq_getElem_cons hlt]
            rw [List.getElem?_eq_getElem hlt] at hx
            rw [Option.some.inj hx]
          obtain ⟨q, rfl⟩ : ∃ m, q = m + 1 := ⟨q - 1, by omega⟩
          have HP2 : endL xs.length (q + 1) (xs.drop k) = if (xs.length : Int) < partsS ⟨x0, x1, x2, ⟨x3, x4⟩⟩ then none else (endL xs.length (q + (partsS ⟨x0, x1, x2, ⟨x3, x4⟩⟩).toNat) (xs.drop (k + 1))).map (· + 1) := by rw [hd, endL]
          have HP2 := Lib.hid HP2
          have hlk : decide (xs.length ≤ k) = false := by simp; omega
          have HLT := Lib.hid hlt
          rename_i HP2'
          clear HP2' hx hxo hd
          have HN : ∀ p : Nat, partsS ⟨x0, x1, x2, ⟨x3, x4⟩⟩ = p → p ≤ xs.length → endL xs.length 1 (xs.drop i) = (endL xs.length (q + p) (xs.drop (k + 1))).map (· + (k + 1 - i)) := by
            intro p hp hpl
            rw [HP.out, HP2.out, hp, if_neg (by omega), Option.map_map, Int.toNat_natCast]
            congr 1
            funext z
            simp
            omega
          have HN := Lib.hid HN
          rename_i HN'
          clear HN'
          by_cases h3 : x0 = 3
          · subst h3
            by_cases hp : 0 < x2
            · obtain ⟨p, rfl⟩ := Int.eq_ofNat_of_zero_le (Int.le_of_lt hp)
              have hps : partsS ⟨3, x1, p, ⟨x3, x4⟩⟩ = p := by simp [partsS]
              by_cases hpl : xs.length < p
              · have HF : endS xs i = 0 := by rw [HE.out, HP.out, HP2.out, hps, if_pos (by omega)]; first | done | rfl
                have HF := Lib.hid HF
                rename_i HF'
                clear HF' hps hlt
                go_wp2
                go_ret
                exact ⟨ret_i64 HF.out.symm, rfl⟩
              · have hpl' : p ≤ xs.length := by omega
                have HM := Lib.hid (HN.out p hps hpl')
                clear hps hpl hlt
                go_wp2
                refine ⟨⟨k + 1, q + p, by omega, by go_num, ?_, by omega, by omega, HM⟩, by simp [intOf]; omega⟩
                congr 1
            · have hp' : x2 ≤ 0 := by omega
              have hps : partsS ⟨3, x1, x2, ⟨x3, x4⟩⟩ = (0 : Nat) := by simp [partsS]; omega
              have g : decide ((0 : Int) < x2) = false := by simp; omega
              have HM := Lib.hid (HN.out 0 hps (by omega))
              clear hps hp hlt
              go_wp2
              refine ⟨⟨k + 1, q, by omega, by go_num, ?_, by omega, by omega, HM⟩, by have := HLT.out; simp [intOf]; omega⟩
              congr 1
          · have g3 : (x0 == 3) = false := beq_eq_false_iff_ne.2 h3
            have hps : partsS ⟨x0, x1, x2, ⟨x3, x4⟩⟩ = (0 : Nat) := by simp [partsS, h3]
            have HM := Lib.hid (HN.out 0 hps (by omega))
            clear hps h3 hlt
            go_wp2
            refine ⟨⟨k + 1, q, by omega, by go_num, ?_, by omega, by omega, HM⟩, by have := HLT.out; simp [intOf]; omega⟩
            congr 1
        · obtain rfl : k = xs.length := by omega
          have HF : endS xs i = 0 := by
            rw [HE.out, HP.out, List.drop_length]
            obtain ⟨q, rfl⟩ : ∃ m, q = m + 1 := ⟨q - 1, by omega⟩
            rfl
          have HF := Lib.hid HF
          rename_i HF'
          clear HF' hlt
          go_wp2
          go_ret
          exact ⟨ret_i64 HF.out.symm, rfl⟩
  · have H : endS xs i = 0 := by unfold endS; rw [if_pos (by omega)]
    have H := Lib.hid H
    rename_i H'
    clear H'
    by_cases h0 : i < 0
    · have g0 : decide (i < (0 : Int)) = true := by simp; omega
      clear hi
      go_enter Tryd.func85, Tryd.ntmps85
      go_wp2
      go_ret
      exact ⟨ret_i64 H.out.symm, rfl⟩
    · have g0 : decide (i < (0 : Int)) = false := by simp; omega
      have g1 : decide ((xs.length : Int) ≤ i) = true := by simp; omega
      clear hi
      go_enter Tryd.func85, Tryd.ntmps85
      go_wp2
      go_ret
      exact ⟨ret_i64 H.out.symm, rfl⟩

theorem ref_no {xs : List Cl} (h : ¬ rightB xs) : false = rightS xs := by unfold rightS; simp [h]

set_option maxRecDepth 100000 in
set_option maxHeartbeats 1000000 in
theorem refRight_calls (v : Value) (xs : List Cl) (ok : Ok) (w : World) (h : Sl CL w ok v xs) :
    Calls Tryd.prog 58 #[v] w fun e w' => e = .returned (.bool (rightS xs)) ∧ Ext w w' := by
  have HS := Lib.hid h
  obtain ⟨A, c, rfl, hc, hr⟩ := h
  have HR := Lib.hid hr
  clear hr
  by_cases h1 : xs.length < 1
  · have HN := Lib.hid (ref_no (xs := xs) (fun h => by have := h.1; omega))
    have g1 : decide ((xs.length : Int) < 1) = true := decide_eq_true (by omega)
    go_enter Tryd.func58, Tryd.ntmps58
    go_wp2
    all_goals (go_ret; exact ⟨ret_bool HN.out, Ext.refl _⟩)
  by_cases h2 : 256 < xs.length
  · have HN := Lib.hid (ref_no (xs := xs) (fun h => by have := h.2.1; omega))
    have g1 : decide ((xs.length : Int) < 1) = false := decide_eq_false (by omega)
    have g2 : decide ((256 : Int) < xs.length) = true := decide_eq_true (by omega)
    go_enter Tryd.func58, Tryd.ntmps58
    go_wp2
    all_goals (go_ret; exact ⟨ret_bool HN.out, Ext.refl _⟩)
  have g1 : decide ((xs.length : Int) < 1) = false := decide_eq_false (by omega)
  have g2 : decide ((256 : Int) < xs.length) = false := decide_eq_false (by omega)
  have hl : xs.length ≤ 256 := by omega
  have H1 := Lib.hid h1
  clear h1 h2
  go_enter Tryd.func58, Tryd.ntmps58
  go_wp2
  go_loopw [3] (fun s wr => ∃ i : Nat, i ≤ xs.length ∧ s = .int .i64 i ∧ Hid (∀ c ∈ xs.take i, cellB c = true) ∧ Hid (Ext w wr)) (fun s _ => xs.length - (intOf s).toNat)
  case atStart => exact ⟨0, Nat.zero_le _, rfl, Lib.hid (by simp), Lib.hid (Ext.refl _)⟩
  case round =>
    obtain ⟨i, hi, rfl, HC, HE⟩ := hrel
    by_cases hlt : i < xs.length
    · obtain ⟨⟨x0, x1, x2, ⟨x3, x4⟩⟩, hx⟩ : ∃ x, xs[i]? = some x := ⟨_, List.getElem?_eq_getElem hlt⟩
      obtain ⟨b, o, rfl, _, _⟩ := HR.out.some_ (by omega)
      obtain ⟨_, _, hxo, hc0, hc1, hc2, hc3, hc4⟩ := Sl.cl_at (n := 0) (c := 0) (HR.out.ext HE.out) hx
      have HX := Lib.hid hx
      have HXO := Lib.hid hxo
      clear hx hxo
      cases hcb : cellB ⟨x0, x1, x2, ⟨x3, x4⟩⟩
      · have HC2 := Lib.hid ((refCell_calls x0 x1 x2 x3 x4 wr HXO.out.1).mono (fun e w' h => (⟨by rw [h.1, hcb], h.2⟩ : e = .returned (.bool false) ∧ Ext wr w')))
        have HN := Lib.hid (ref_no (xs := xs) (fun h => by have := h.2.2.2 _ (List.mem_of_getElem? HX.out); rw [hcb] at this; cases this))
        clear hcb
        go_wp2_with (go_at_call 84; refine HC2.out.mono ?_; rintro e w1 ⟨rfl, hw⟩; have HW := Lib.hid hw; clear hw)
        go_ret
        exact ⟨ret_bool HN.out, HE.out.trans HW.out⟩
      · have HC2 := Lib.hid ((refCell_calls x0 x1 x2 x3 x4 wr HXO.out.1).mono (fun e w' h => (⟨by rw [h.1, hcb], h.2⟩ : e = .returned (.bool true) ∧ Ext wr w')))
        have HN : ∀ c ∈ xs.take (i + 1), cellB c = true := by
          intro c hc
          rw [List.take_add_one, HX.out] at hc
          rcases List.mem_append.1 hc with hc | hc
          · exact HC.out c hc
          · simp at hc; subst hc; exact hcb
        have HN := Lib.hid HN
        rename_i HN'
        clear HN' hcb
        go_wp2_with (go_at_call 84; refine HC2.out.mono ?_; rintro e w1 ⟨rfl, hw⟩; have HW := Lib.hid hw; clear hw)
        exact ⟨⟨i + 1, by omega, by go_num, HN, Lib.hid (HE.out.trans HW.out)⟩, by simp [intOf]; omega⟩
    · obtain rfl : i = xs.length := by omega
      have HV : (endS xs 0 == (xs.length : Int)) = rightS xs := by
        have hc := HC.out
        rw [List.take_length] at hc
        rw [Bool.eq_iff_iff, rightS_iff]
        have := H1.out
        simp [rightB]
        exact ⟨fun h => ⟨by omega, hl, h, hc⟩, fun h => h.2.2.1⟩
      have HV := Lib.hid HV
      rename_i HV'
      clear HV' hlt
      go_wp2_with (go_at_call 85; refine (refEnd_calls _ xs 0 ok wr (HS.out.ext HE.out) (by omega)).mono ?_; rintro e w1 ⟨rfl, rfl⟩)
      go_ret
      exact ⟨ret_bool HV.out, HE.out⟩

end Go.Proofs.YtehljfnoicppnaaDoor
