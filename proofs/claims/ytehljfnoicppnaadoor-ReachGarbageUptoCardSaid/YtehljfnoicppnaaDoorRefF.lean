/- The reference's Bind, by its contract. Conditions: the heap is one of the reference's, of fewer than 2^31 values. -/
import Derived.Test.YtehljfnoicppnaaDoorRefE
import Derived.Deep.DeepCutAuto
open Go Go.RowKit
set_option linter.unusedVariables false
namespace Go.Proofs.YtehljfnoicppnaaDoor

/-! ### the list that grows -/
def anyL (L : List Bd) (v : Nm) : Bool := L.any fun b => lessB v b.v
theorem ins_any {x : Bd} : ∀ {L M : List Bd}, anyL L x.v = true → insL (L ++ M) x = insL L x ++ M
  | [], M, h => by simp [anyL] at h
  | b :: L, M, h => by
    simp only [List.cons_append, insL]
    cases hl : lessB x.v b.v
    · have h' : anyL L x.v = true := by simpa [anyL, hl] using h
      simp [ins_any h']
    · simp
theorem ins_none {x : Bd} : ∀ {L M : List Bd}, anyL L x.v = false → insL (L ++ M) x = L ++ insL M x
  | [], M, h => rfl
  | b :: L, M, h => by
    have h' : lessB x.v b.v = false ∧ anyL L x.v = false := by simpa [anyL] using h
    simp [insL, h'.1, ins_none h'.2]
/-- What stands so far. -/
def insTo (L : List Bd) (x : Bd) (i : Nat) : List Bd := if anyL (L.take i) x.v then insL (L.take i) x else L.take i
theorem insTo_zero (L : List Bd) (x : Bd) : insTo L x 0 = [] := rfl
theorem any_step {L : List Bd} {i : Nat} {b : Bd} (v : Nm) (hx : L[i]? = some b) : anyL (L.take (i + 1)) v = (anyL (L.take i) v || lessB v b.v) := by
  rw [List.take_add_one, hx]
  simp [anyL]
theorem insTo_more {L : List Bd} {x b : Bd} {i : Nat} (hx : L[i]? = some b) (h : anyL (L.take i) x.v = true) : insTo L x (i + 1) = insTo L x i ++ [b] := by
  unfold insTo
  rw [any_step x.v hx, h]
  simp only [Bool.true_or, if_true]
  rw [List.take_add_one, hx]
  exact ins_any h
theorem insTo_here {L : List Bd} {x b : Bd} {i : Nat} (hx : L[i]? = some b) (h : anyL (L.take i) x.v = false) (hl : lessB x.v b.v = true) : insTo L x (i + 1) = insTo L x i ++ [x] ++ [b] := by
  unfold insTo
  rw [any_step x.v hx, h, hl]
  simp only [Bool.or_true, if_true]
  rw [List.take_add_one, hx, Option.toList, ins_none h]
  simp [insL, hl]
theorem insTo_not {L : List Bd} {x b : Bd} {i : Nat} (hx : L[i]? = some b) (h : anyL (L.take i) x.v = false) (hl : lessB x.v b.v = false) : insTo L x (i + 1) = insTo L x i ++ [b] := by
  unfold insTo
  rw [any_step x.v hx, h, hl]
  simp [List.take_add_one, hx]
theorem insTo_end {L : List Bd} {x : Bd} : insL L x = if anyL L x.v then insTo L x L.length else insTo L x L.length ++ [x] := by
  unfold insTo
  rw [List.take_length]
  cases h : anyL L x.v
  · have := ins_none (M := []) h
    simpa [insL] using this
  · simp
theorem insTo_len (L : List Bd) (x : Bd) (i : Nat) : (insTo L x i).length ≤ L.length + 1 := by
  unfold insTo
  split
  · rw [(insL_perm x _).length_eq]
    have : (L.take i).length ≤ L.length := by rw [List.length_take]; omega
    simp only [List.length_cons]
    omega
  · rw [List.length_take]
    omega

theorem cell_box2 {w w1 : World} {x y : Value} {ty : TypeId} (h : Ext (w.alloc (.cells #[x, y] ty)) w1) : w1.cell? ⟨w.heap.size, 0, none⟩ = some x ∧ w1.cell? ⟨w.heap.size, 1, none⟩ = some y :=
  ⟨h.cell (cell_of_row _ _ 0 _ _ _ (heap_alloc_new w _)), h.cell (cell_of_row _ _ 1 _ _ _ (heap_alloc_new w _))⟩
theorem place_some {L : List Bd} {v : Nm} {r : Int} {t : List Cl} (h : PlaceP L v r) (hg : getL L v = some t) : 0 ≤ r := by
  rcases h with ⟨i, rfl, _⟩ | ⟨_, h⟩
  · omega
  · rw [hg] at h; cases h
theorem place_none {L : List Bd} {v : Nm} {r : Int} (h : PlaceP L v r) (hg : getL L v = none) : r = -1 := by
  rcases h with ⟨i, _, t, _, h⟩ | ⟨h, _⟩
  · rw [hg] at h; cases h
  · exact h
abbrev zBdR : Value := .agg #[.int .i64 0, .int .i64 0, .slice none 0 0]
theorem info_bd : (Tryd.prog.info? 33).map (fun i => (i.zero, i.size, i.bytes)) = some (some zBdR, BD.sz, 40) := by kernel_rfl
theorem bd_box {w : World} {ok : Ok} {a b : Int} {u : Value} {t : List Cl} (hn : NmOk ⟨a, b⟩) (h : Sl CL w ok u t) : Sl BD (w.alloc (.cells #[.int .i64 a, .int .i64 b, u] 33)) (fun k => ok k ∨ k = w.heap.size) (.slice (some ⟨w.heap.size, 0, none⟩) 1 1) [⟨⟨a, b⟩, t⟩] :=
  Sl.box (d := BD) (x := ⟨⟨a, b⟩, t⟩) (cs := #[.int .i64 a, .int .i64 b, u]) ⟨u, rfl, hn, h⟩
theorem Rd.lt {α : Type} {d : Cd α} {w : World} {ok : Ok} {A : Option Addr} {xs : List α} (h : Rd d w ok A xs) : Rd d w (fun k => ok k ∧ k < w.heap.size) A xs := h.move fun _ h1 h2 => ⟨⟨h1, h2⟩, rfl⟩
/-- Where the row that Bind makes may read. -/
def okN (w : World) (ok : Ok) (q : Nat) : Ok := fun k => (ok k ∧ k ≠ q ∧ k < w.heap.size) ∨ w.heap.size ≤ k
/-- What Bind leaves of the reference's heap. -/
def RBindP (w : World) (ok : Ok) (q : Nat) (L : List Bd) (v : Nm) (t : List Cl) (e : Ending) (w' : World) : Prop :=
  e = .returned (.int .i64 (bindE L v t)) ∧ ExtBut q w w' ∧ RefAt w' (fun k => ok k ∨ w.heap.size ≤ k) q (bindL L v t)

set_option maxRecDepth 100000 in
set_option maxHeartbeats 8000000 in
theorem refBind_err (q : Nat) (L : List Bd) (ok okT : Ok) (a b : Int) (tv : Value) (t : List Cl) (w : World) (h : RefAt w ok q L) (ha : NmOk ⟨a, b⟩) (ht : Sl CL w okT tv t) (hne : bindE L ⟨a, b⟩ t ≠ 0) :
    Calls Tryd.prog 47 #[.pointer (some ⟨q, 0, none⟩), .agg #[.int .i64 a, .int .i64 b], tv] w (RBindP w ok q L ⟨a, b⟩ t) := by
  have HH := Lib.hid h
  have HNE := Lib.hid hne
  clear hne
  have HA := Lib.hid ha
  have HV := Lib.hid (fun w1 (hE : Ext w w1) => refOfVar_calls a b w1 ha)
  have HGl := Lib.hid (fun w1 (hE : Ext w w1) => refGlobal_calls tv t okT w1 (ht.ext hE))
  have HPl := Lib.hid (fun w1 (hE : Ext w w1) => refPlace_calls q L ok a b w1 (h.ext hE))
  have HT := Lib.hid ht
  -- nothing is bound: the error alone is told
  have no : ∀ (x : Int) (w' : World), bindE L ⟨a, b⟩ t = x → x ≠ 0 → Ext w w' → RBindP w ok q L ⟨a, b⟩ t (.returned (.int .i64 x)) w' := fun x w' hx hne hE => by
    refine ⟨by rw [hx], hE.but q, ?_⟩
    unfold bindL
    rw [if_neg (by rw [hx]; exact hne)]
    exact (HH.out.ext hE).imp fun _ h => .inl h
  have NO := Lib.hid no
  obtain ⟨hv, h1, h2⟩ := h
  have hp : w.cell? ⟨q, 0, none⟩ = some hv := cell_of_row w q 0 _ _ _ h1
  have hpl : q < w.heap.size := World.block_lt_of_cell? w _ hp
  obtain ⟨hA, hcap, rfl, _, hrd⟩ := h2
  have HRD := Lib.hid hrd
  have HP := Lib.hid h1
  clear no ha hrd h1
  obtain ⟨A, c, rfl, hc, hr⟩ := ht
  clear hr
  cases hvs : varS ⟨a, b⟩ with
  | nil =>
    have hx : bindE L ⟨a, b⟩ t = 6 := by unfold bindE; rw [if_pos (.inr (.inl hvs))]
    have HX := Lib.hid hx
    have HVS := Lib.hid hvs
    clear hx hvs
    go_enter Tryd.func47, Tryd.ntmps47
    go_wp2_with (go_at_call 75; refine (HV.out _ (by repeat (first | with_reducible exact Ext.refl _ | assumption | refine Ext.alloc ?_ _ | refine Ext.drewN ?_ _ | refine Ext.drew ?_ | refine Ext.set ?_ (by simp <;> omega) _ _ | refine Ext.trans ?_ (by assumption)))).mono ?_; rintro e w1 ⟨⟨v', rfl, hv⟩, hw⟩; rw [HVS.out] at hv; obtain ⟨A1, c1, rfl, _, _⟩ := hv; have HW := Lib.hid hw; clear hw)
    go_ret
    exact NO.out 6 _ HX.out (by decide) (by repeat (first | with_reducible exact Ext.refl _ | assumption | refine Ext.alloc ?_ _ | refine Ext.drewN ?_ _ | refine Ext.drew ?_ | refine Ext.set ?_ (by simp <;> omega) _ _ | refine Ext.trans ?_ (by assumption)))
  | cons cl rest =>
  have hvs' : varS ⟨a, b⟩ = [vcl ⟨a, b⟩] := by
    unfold varS at hvs ⊢
    split at hvs
    · rename_i hr; rw [if_pos hr]
    · cases hvs
  have HVS := Lib.hid hvs'
  clear hvs hvs'
  by_cases h1 : a < 0
  · have hx : bindE L ⟨a, b⟩ t = 6 := by unfold bindE; rw [if_pos (.inl h1)]
    have HX := Lib.hid hx
    have g1 : decide (a < (0 : Int)) = true := decide_eq_true h1
    clear hx h1
    go_enter Tryd.func47, Tryd.ntmps47
    go_wp2_with (go_at_call 75; refine (HV.out _ (by repeat (first | with_reducible exact Ext.refl _ | assumption | refine Ext.alloc ?_ _ | refine Ext.drewN ?_ _ | refine Ext.drew ?_ | refine Ext.set ?_ (by simp <;> omega) _ _ | refine Ext.trans ?_ (by assumption)))).mono ?_; rintro e w1 ⟨⟨v', rfl, hv⟩, hw⟩; rw [HVS.out] at hv; obtain ⟨A1, c1, rfl, _, _⟩ := hv; obtain ⟨hb0, hb1⟩ := cell_box2 hw; have HW := Lib.hid hw; clear hw)
    go_ret
    exact NO.out 6 _ HX.out (by decide) (by repeat (first | with_reducible exact Ext.refl _ | assumption | refine Ext.alloc ?_ _ | refine Ext.drewN ?_ _ | refine Ext.drew ?_ | refine Ext.set ?_ (by simp <;> omega) _ _ | refine Ext.trans ?_ (by assumption)))
  have g1 : decide (a < (0 : Int)) = false := decide_eq_false h1
  cases hgs : globalS t with
  | false =>
    have hx : bindE L ⟨a, b⟩ t = 6 := by unfold bindE; rw [if_pos (.inr (.inr hgs))]
    have HX := Lib.hid hx
    have HGS := Lib.hid hgs
    clear hx h1 hgs
    go_enter Tryd.func47, Tryd.ntmps47
    go_wp2_with (first | (go_at_call 75; refine (HV.out _ (by repeat (first | with_reducible exact Ext.refl _ | assumption | refine Ext.alloc ?_ _ | refine Ext.drewN ?_ _ | refine Ext.drew ?_ | refine Ext.set ?_ (by simp <;> omega) _ _ | refine Ext.trans ?_ (by assumption)))).mono ?_; rintro e w1 ⟨⟨v', rfl, hv⟩, hw⟩; rw [HVS.out] at hv; obtain ⟨A1, c1, rfl, _, _⟩ := hv; obtain ⟨hb0, hb1⟩ := cell_box2 hw; have HW := Lib.hid hw; clear hw) | (go_at_call 76; refine (HGl.out _ (by repeat (first | with_reducible exact Ext.refl _ | assumption | refine Ext.alloc ?_ _ | refine Ext.drewN ?_ _ | refine Ext.drew ?_ | refine Ext.set ?_ (by simp <;> omega) _ _ | refine Ext.trans ?_ (by assumption)))).mono ?_; rintro e w2 ⟨rfl, hw⟩; rw [HGS.out]; have HW2 := Lib.hid hw; clear hw))
    go_ret
    exact NO.out 6 _ HX.out (by decide) (by repeat (first | with_reducible exact Ext.refl _ | assumption | refine Ext.alloc ?_ _ | refine Ext.drewN ?_ _ | refine Ext.drew ?_ | refine Ext.set ?_ (by simp <;> omega) _ _ | refine Ext.trans ?_ (by assumption)))
  | true =>
  have hgb : globalB t := globalS_iff.1 hgs
  obtain ⟨⟨x0, x1, x2, ⟨x3, x4⟩⟩, t', rfl⟩ : ∃ x t', t = x :: t' := by
    cases t with
    | nil => exact absurd hgb.1.1 (by simp)
    | cons x t' => exact ⟨x, t', rfl⟩
  have HGS := Lib.hid hgs
  have hsl : t'.length ≤ 255 := by have := hgb.1.2.1; simp at this; omega
  have HSL := Lib.hid hsl
  have hbe : bindE L ⟨a, b⟩ (⟨x0, x1, x2, ⟨x3, x4⟩⟩ :: t') = if (getL L ⟨a, b⟩).isSome then 70 else if decide (x0 = 4) && !lessB ⟨x3, x4⟩ ⟨a, b⟩ then 71 else 0 := by
    unfold bindE
    rw [if_neg (by simp only [not_or]; exact ⟨h1, by rw [HVS.out]; simp, by rw [hgs]; simp⟩)]
    rfl
  have HBE := Lib.hid hbe
  clear hgs hgb hsl hbe h1
  cases hgl : getL L ⟨a, b⟩ with
  | some q' =>
    have HX : Hid (bindE L ⟨a, b⟩ (⟨x0, x1, x2, ⟨x3, x4⟩⟩ :: t') = 70) := Lib.hid (by rw [HBE.out, hgl]; rfl)
    have HGL := Lib.hid hgl
    clear hgl
    go_enter Tryd.func47, Tryd.ntmps47
    go_wp2_with (first | (go_at_call 75; refine (HV.out _ (by repeat (first | with_reducible exact Ext.refl _ | assumption | refine Ext.alloc ?_ _ | refine Ext.drewN ?_ _ | refine Ext.drew ?_ | refine Ext.set ?_ (by simp <;> omega) _ _ | refine Ext.trans ?_ (by assumption)))).mono ?_; rintro e w1 ⟨⟨v', rfl, hv⟩, hw⟩; rw [HVS.out] at hv; obtain ⟨A1, c1, rfl, _, _⟩ := hv; obtain ⟨hb0, hb1⟩ := cell_box2 hw; have HW := Lib.hid hw; clear hw) | (go_at_call 76; refine (HGl.out _ (by repeat (first | with_reducible exact Ext.refl _ | assumption | refine Ext.alloc ?_ _ | refine Ext.drewN ?_ _ | refine Ext.drew ?_ | refine Ext.set ?_ (by simp <;> omega) _ _ | refine Ext.trans ?_ (by assumption)))).mono ?_; rintro e w2 ⟨rfl, hw⟩; rw [HGS.out]; have hb02 := Ext.cell hw hb0; have hb12 := Ext.cell hw hb1; have HW2 := Lib.hid hw; clear hw) | (go_at_call 57; refine (HPl.out _ (by repeat (first | with_reducible exact Ext.refl _ | assumption | refine Ext.alloc ?_ _ | refine Ext.drewN ?_ _ | refine Ext.drew ?_ | refine Ext.set ?_ (by simp <;> omega) _ _ | refine Ext.trans ?_ (by assumption)))).mono ?_; rintro e w3 ⟨⟨r, rfl, hr⟩, hw⟩; have hr0 := place_some hr HGL.out; have HW3 := Lib.hid hw; clear hw hr))
    go_ret
    exact NO.out 70 _ HX.out (by decide) (by repeat (first | with_reducible exact Ext.refl _ | assumption | refine Ext.alloc ?_ _ | refine Ext.drewN ?_ _ | refine Ext.drew ?_ | refine Ext.set ?_ (by simp <;> omega) _ _ | refine Ext.trans ?_ (by assumption)))
  | none =>
    have HGL := Lib.hid hgl
    clear hgl
    go_enter Tryd.func47, Tryd.ntmps47
    go_upto_region 7 with (first | (go_at_call 75; refine (HV.out _ (by repeat (first | with_reducible exact Ext.refl _ | assumption | refine Ext.alloc ?_ _ | refine Ext.drewN ?_ _ | refine Ext.drew ?_ | refine Ext.set ?_ (by simp <;> omega) _ _ | refine Ext.trans ?_ (by assumption)))).mono ?_; rintro e w1 ⟨⟨v', rfl, hv⟩, hw⟩; rw [HVS.out] at hv; obtain ⟨A1, c1, rfl, _, _⟩ := hv; obtain ⟨hb0, hb1⟩ := cell_box2 hw; have HW := Lib.hid hw; clear hw) | (go_at_call 76; refine (HGl.out _ (by repeat (first | with_reducible exact Ext.refl _ | assumption | refine Ext.alloc ?_ _ | refine Ext.drewN ?_ _ | refine Ext.drew ?_ | refine Ext.set ?_ (by simp <;> omega) _ _ | refine Ext.trans ?_ (by assumption)))).mono ?_; rintro e w2 ⟨rfl, hw⟩; rw [HGS.out]; have hb02 := Ext.cell hw hb0; have hb12 := Ext.cell hw hb1; have HW2 := Lib.hid hw; clear hw) | (go_at_call 57; refine (HPl.out _ (by repeat (first | with_reducible exact Ext.refl _ | assumption | refine Ext.alloc ?_ _ | refine Ext.drewN ?_ _ | refine Ext.drew ?_ | refine Ext.set ?_ (by simp <;> omega) _ _ | refine Ext.trans ?_ (by assumption)))).mono ?_; rintro e w3 ⟨⟨r, rfl, hr⟩, hw⟩; obtain rfl := place_none hr HGL.out; have hb03 := Ext.cell hw hb02; have hb13 := Ext.cell hw hb12; have HW3 := Lib.hid hw; clear hw hr))
    have hE3 : Ext w w3 := (by repeat (first | with_reducible exact Ext.refl _ | assumption | refine Ext.alloc ?_ _ | refine Ext.drewN ?_ _ | refine Ext.drew ?_ | refine Ext.set ?_ (by simp <;> omega) _ _ | refine Ext.trans ?_ (by assumption)))
    have hp3 := hE3.cell hp
    have HT3 := HT.out.ext hE3
    obtain ⟨A', c', hA', _, hr'⟩ := HT3
    injection hA' with hA1 hA2 hA3
    subst hA1 hA3
    obtain ⟨tb, tof, rfl, _, _⟩ := hr'.some_ (by simp)
    obtain ⟨_, htl, hxo, hc0, hc1, hc2, hc3, hc4⟩ := Sl.cl_at (n := 0) (c := 0) (j := 0) hr' rfl
    simp only [Nat.zero_mul, Nat.add_zero] at hc0 hc1 hc2 hc3 hc4
    have HE3 := Lib.hid hE3
    clear hr' hA2 hxo hb0 hb1 hb02 hb12 hp hE3 hc1 hc2
    obtain ⟨z, hz⟩ : ∃ z, z = (decide (x0 = 4) && !lessB ⟨x3, x4⟩ ⟨a, b⟩) := ⟨_, rfl⟩
    have HZ := Lib.hid hz
    clear hz
    go_cut [34] (fun s34 wx => s34 = .bool z ∧ Hid (Ext w3 wx))
    case first =>
      by_cases hk : x0 = 4
      · subst hk
        cases hls : lessB ⟨x3, x4⟩ ⟨a, b⟩
        · have HZ2 : Hid (z = true) := Lib.hid (by rw [HZ.out, hls]; rfl)
          have HLS := Lib.hid hls
          clear hls
          go_region_with (go_at_call 42; refine (refLess_calls _ _ _ _ _).mono ?_; rintro e w4 ⟨rfl, hw4⟩; rw [HLS.out]; have HW4 := Lib.hid hw4; clear hw4)
          all_goals
            go_wp2_with fail
            go_meet
            exact ⟨by rw [HZ2.out], Lib.hid (by repeat (first | with_reducible exact Ext.refl _ | assumption | refine Ext.alloc ?_ _ | refine Ext.drewN ?_ _ | refine Ext.drew ?_ | refine Ext.set ?_ (by simp <;> omega) _ _ | refine Ext.trans ?_ (by assumption)))⟩
        · have HZ2 : Hid (z = false) := Lib.hid (by rw [HZ.out, hls]; rfl)
          have HLS := Lib.hid hls
          clear hls
          go_region_with (go_at_call 42; refine (refLess_calls _ _ _ _ _).mono ?_; rintro e w4 ⟨rfl, hw4⟩; rw [HLS.out]; have HW4 := Lib.hid hw4; clear hw4)
          all_goals
            go_wp2_with fail
            go_meet
            exact ⟨by rw [HZ2.out], Lib.hid (by repeat (first | with_reducible exact Ext.refl _ | assumption | refine Ext.alloc ?_ _ | refine Ext.drewN ?_ _ | refine Ext.drew ?_ | refine Ext.set ?_ (by simp <;> omega) _ _ | refine Ext.trans ?_ (by assumption)))⟩
      · have hkb : (x0 == 4) = false := beq_eq_false_iff_ne.2 hk
        have HZ2 : Hid (z = false) := Lib.hid (by rw [HZ.out]; simp [hk])
        clear hk
        go_quiet (fail)
        go_wp2_with fail
        go_meet
        exact ⟨by rw [HZ2.out], Lib.hid (by repeat (first | with_reducible exact Ext.refl _ | assumption | refine Ext.alloc ?_ _ | refine Ext.drewN ?_ _ | refine Ext.drew ?_ | refine Ext.set ?_ (by simp <;> omega) _ _ | refine Ext.trans ?_ (by assumption)))⟩
    case rest =>
      obtain ⟨rfl, HE4⟩ := hcut
      have hb04 := HE4.out.cell hb03
      have hb14 := HE4.out.cell hb13
      have hp4 := HE4.out.cell hp3
      cases z
      · exact absurd (show bindE L ⟨a, b⟩ (⟨x0, x1, x2, ⟨x3, x4⟩⟩ :: t') = 0 by rw [HBE.out, HGL.out, ← HZ.out]; rfl) HNE.out
      · have HX : Hid (bindE L ⟨a, b⟩ (⟨x0, x1, x2, ⟨x3, x4⟩⟩ :: t') = 71) := Lib.hid (by rw [HBE.out, HGL.out, ← HZ.out]; rfl)
        clear hb03 hb13 hp3 hc0 hc3 hc4
        go_wp2
        go_ret
        exact NO.out 71 _ HX.out (by decide) (HE3.out.trans HE4.out)

end Go.Proofs.YtehljfnoicppnaaDoor
