/- The reference's Global; a heap of the reference: New and place; each by its contract. Conditions: none beyond what the contracts name. -/
import Derived.Test.YtehljfnoicppnaaDoorRefD
import Derived.Test.YtehljfnoicppnaaDoorBindsB
open Go Go.RowKit
set_option linter.unusedVariables false
namespace Go.Proofs.YtehljfnoicppnaaDoor

theorem var_neg {x : Cl} (h : cellB x = true) : varB x = true ↔ x.k = 4 ∧ x.v.a < 0 := by
  obtain ⟨k, s, n, ⟨a, b⟩⟩ := x
  simp [cellB, CellP] at h
  simp [varB]
  intro hk
  subst hk
  simp at h
  omega

set_option maxRecDepth 100000 in
set_option maxHeartbeats 1000000 in
theorem refGlobal_calls (v : Value) (xs : List Cl) (ok : Ok) (w : World) (h : Sl CL w ok v xs) :
    Calls Tryd.prog 76 #[v] w fun e w' => e = .returned (.bool (globalS xs)) ∧ Ext w w' := by
  have HS := Lib.hid h
  have HR := Lib.hid (refRight_calls v xs ok w h)
  obtain ⟨A, c, rfl, hc, hr⟩ := h
  have HD := Lib.hid hr
  have hm := hr.1
  unfold maxLen at hm
  clear hr
  cases hr : rightS xs
  · have HV : globalS xs = false := by
      rw [Bool.eq_false_iff, ne_eq, globalS_iff]
      intro h
      rw [Bool.eq_false_iff, ne_eq, rightS_iff] at hr
      exact hr h.1
    have HV := Lib.hid HV
    rename_i HV'
    clear HV'
    have HR2 := Lib.hid (HR.out.mono (fun e w' h => (⟨by rw [h.1, hr], h.2⟩ : e = .returned (.bool false) ∧ Ext w w')))
    clear hr
    go_enter Tryd.func76, Tryd.ntmps76
    go_wp2_with (go_at_call 58; refine HR2.out.mono ?_; rintro e w1 ⟨rfl, hw⟩; have HW := Lib.hid hw; clear hw)
    go_ret
    exact ⟨ret_bool HV.out.symm, HW.out⟩
  · have HR2 := Lib.hid (HR.out.mono (fun e w' h => (⟨by rw [h.1, hr], h.2⟩ : e = .returned (.bool true) ∧ Ext w w')))
    have HRR := Lib.hid (rightS_iff.1 hr)
    clear hr
    go_enter Tryd.func76, Tryd.ntmps76
    go_wp2_with (go_at_call 58; refine HR2.out.mono ?_; rintro e w1 ⟨rfl, hw⟩; have HW := Lib.hid hw; clear hw)
    go_loop [3] (fun s => ∃ i : Nat, i ≤ xs.length ∧ s = .int .i64 i ∧ Hid (∀ c ∈ xs.take i, varB c = false)) (fun s => xs.length - (intOf s).toNat)
    case atStart => exact ⟨0, Nat.zero_le _, rfl, Lib.hid (by simp)⟩
    case round =>
      obtain ⟨i, hi, rfl, HC⟩ := hrel
      by_cases hlt : i < xs.length
      · obtain ⟨⟨x0, x1, x2, ⟨x3, x4⟩⟩, hx⟩ : ∃ x, xs[i]? = some x := ⟨_, List.getElem?_eq_getElem hlt⟩
        obtain ⟨b, o, rfl, _, _⟩ := HD.out.some_ (by omega)
        obtain ⟨_, _, hxo, hc0, hc1, hc2, hc3, hc4⟩ := Sl.cl_at (n := 0) (c := 0) (HD.out.ext HW.out) hx
        have hcb := HRR.out.2.2.2 _ (List.mem_of_getElem? hx)
        have hvn := var_neg hcb
        have HX := Lib.hid hx
        have HVN := Lib.hid hvn
        clear hx hxo hcb hvn
        by_cases h4 : x0 = 4
        · subst h4
          by_cases h0 : x3 < 0
          · have HG : globalS xs = false := by
              rw [Bool.eq_false_iff, ne_eq, globalS_iff]
              intro h
              have := h.2 _ (List.mem_of_getElem? HX.out)
              rw [HVN.out.2 ⟨rfl, h0⟩] at this
              cases this
            have HG := Lib.hid HG
            rename_i HG'
            clear HG'
            go_wp2
            go_ret
            exact ⟨ret_bool HG.out.symm, HW.out⟩
          · have g : decide (x3 < (0 : Int)) = false := decide_eq_false h0
            have hn : varB ⟨4, x1, x2, ⟨x3, x4⟩⟩ = false := by
              rw [Bool.eq_false_iff, ne_eq, HVN.out]
              simp
              omega
            have HN : ∀ c ∈ xs.take (i + 1), varB c = false := by
              intro c hc
              rw [List.take_add_one, HX.out] at hc
              rcases List.mem_append.1 hc with hc | hc
              · exact HC.out c hc
              · simp at hc; subst hc; exact hn
            have HN := Lib.hid HN
            rename_i HN'
            clear HN' hn h0
            go_wp2
            exact ⟨⟨i + 1, by omega, by go_num, HN⟩, by simp [intOf]; omega⟩
        · have g : (x0 == 4) = false := beq_eq_false_iff_ne.2 h4
          have hn : varB ⟨x0, x1, x2, ⟨x3, x4⟩⟩ = false := by
            rw [Bool.eq_false_iff, ne_eq, HVN.out]
            simp
            omega
          have HN : ∀ c ∈ xs.take (i + 1), varB c = false := by
            intro c hc
            rw [List.take_add_one, HX.out] at hc
            rcases List.mem_append.1 hc with hc | hc
            · exact HC.out c hc
            · simp at hc; subst hc; exact hn
          have HN := Lib.hid HN
          rename_i HN'
          clear HN' hn h4
          go_wp2
          exact ⟨⟨i + 1, by omega, by go_num, HN⟩, by simp [intOf]; omega⟩
      · obtain rfl : i = xs.length := by omega
        have HG : globalS xs = true := by
          rw [globalS_iff]
          have hc := HC.out
          rw [List.take_length] at hc
          exact ⟨HRR.out, hc⟩
        have HG := Lib.hid HG
        rename_i HG'
        clear HG' hlt
        go_wp2
        go_ret
        exact ⟨ret_bool HG.out.symm, HW.out⟩

/-! ### a heap of the reference -/
/-- The pointer's block q holds a row that reads as the list; what it reads lies elsewhere. -/
def RefAt (w : World) (ok : Ok) (q : Nat) (L : List Bd) : Prop :=
  ∃ v, w.heap[q]? = some (.cells #[v] 40 (0, 0)) ∧ Sl BD w (fun k => ok k ∧ k ≠ q) v L
theorem RefAt.ext {w w' : World} {ok : Ok} {q : Nat} {L : List Bd} (h : RefAt w ok q L) (he : Ext w w') : RefAt w' ok q L := by
  obtain ⟨v, h1, h2⟩ := h
  exact ⟨v, he.heap h1, h2.ext he⟩
theorem RefAt.imp {w : World} {ok ok' : Ok} {q : Nat} {L : List Bd} (h : RefAt w ok q L) (hk : ∀ k, ok k → ok' k) : RefAt w ok' q L := by
  obtain ⟨v, h1, h2⟩ := h
  exact ⟨v, h1, h2.imp fun k h => ⟨hk k h.1, h.2⟩⟩
theorem RefAt.lt {w : World} {ok : Ok} {q : Nat} {L : List Bd} (h : RefAt w ok q L) : RefAt w (fun k => ok k ∧ k < w.heap.size) q L := by
  obtain ⟨v, h1, h2⟩ := h
  exact ⟨v, h1, h2.lt.imp fun k h => ⟨⟨h.1.1, h.2⟩, h.1.2⟩⟩
/-- A block that neither the pointer nor what is read lies in may turn. -/
theorem RefAt.move {w w' : World} {ok ok' : Ok} {q : Nat} {L : List Bd} (h : RefAt w ok q L) (hq : w'.heap[q]? = w.heap[q]?) (hk : ∀ k, ok k → k < w.heap.size → ok' k ∧ w'.heap[k]? = w.heap[k]?) : RefAt w' ok' q L := by
  obtain ⟨v, h1, h2⟩ := h
  exact ⟨v, hq.trans h1, h2.move fun k h h' => ⟨⟨(hk k h.1 h').1, h.2⟩, (hk k h.1 h').2⟩⟩

set_option maxRecDepth 100000 in
set_option maxHeartbeats 1000000 in
theorem refNew_calls (w : World) :
    Calls Tryd.prog 46 #[] w fun e w' => e = .returned (.pointer (some ⟨w.heap.size, 0, none⟩)) ∧ RefAt w' (fun k => w.heap.size ≤ k) w.heap.size [] ∧ Ext w w' := by
  go_enter Tryd.func46, Tryd.ntmps46
  go_wp2
  go_ret
  exact ⟨rfl, ⟨_, heap_alloc_new w _, Sl.nil _ _ _⟩, (by repeat (first | with_reducible exact Ext.refl _ | assumption | refine Ext.alloc ?_ _ | refine Ext.drewN ?_ _ | refine Ext.drew ?_ | refine Ext.set ?_ (by simp <;> omega) _ _ | refine Ext.trans ?_ (by assumption)))⟩

theorem Rd.bd_at {w : World} {ok : Ok} {b o : Nat} {xs : List Bd} (h : Rd BD w ok (some ⟨b, o, none⟩) xs) {j : Nat} {x : Bd} (hx : xs[j]? = some x) :
    ok b ∧ b < w.heap.size ∧ NmOk x.v ∧ w.cell? ⟨b, o + j * 3, none⟩ = some (.int .i64 x.v.a) ∧ w.cell? ⟨b, o + j * 3 + 1, none⟩ = some (.int .i64 x.v.b) ∧ ∃ u, w.cell? ⟨b, o + j * 3 + 2, none⟩ = some u ∧ Sl CL w ok u x.t := by
  have hj := (List.getElem?_eq_some_iff.1 hx).1
  obtain ⟨b', o', hA, hok, hlt, hc⟩ := h.2 (by omega)
  injection hA with hA
  injection hA with h1 h2
  subst h1 h2
  obtain ⟨cs, ⟨u, rfl, hn, hs⟩, hcell⟩ := hc j x hx
  exact ⟨hok, hlt, hn, hcell 0 _ rfl, hcell 1 _ rfl, u, hcell 2 _ rfl, hs⟩

/-- Where a variable stands. -/
def PlaceP (L : List Bd) (v : Nm) (r : Int) : Prop := (∃ i : Nat, r = i ∧ ∃ t, L[i]? = some ⟨v, t⟩ ∧ getL L v = some t) ∨ (r = -1 ∧ getL L v = none)
theorem place_here {L : List Bd} {v : Nm} {i : Nat} {t : List Cl} (hx : L[i]? = some ⟨v, t⟩) (hn : ∀ b ∈ L.take i, b.v ≠ v) : PlaceP L v i := by
  refine .inl ⟨i, rfl, t, hx, ?_⟩
  have hi := (List.getElem?_eq_some_iff.1 hx).1
  have hd : L = L.take i ++ ⟨v, t⟩ :: L.drop (i + 1) := by
    have h1 := List.take_append_drop i L
    rw [List.drop_eq_getElem_cons hi] at h1
    rw [List.getElem?_eq_getElem hi] at hx
    rw [Option.some.inj hx] at h1
    exact h1.symm
  unfold getL
  rw [hd, List.find?_append]
  have : (L.take i).find? (fun b => decide (b.v = v)) = none := by
    rw [List.find?_eq_none]
    intro b hb
    simpa using hn b hb
  rw [this]
  simp
theorem place_nowhere {L : List Bd} {v : Nm} (hn : ∀ b ∈ L, b.v ≠ v) : PlaceP L v (-1) := by
  refine .inr ⟨rfl, ?_⟩
  unfold getL
  rw [Option.map_eq_none_iff, List.find?_eq_none]
  intro b hb
  simpa using hn b hb

set_option maxRecDepth 100000 in
set_option maxHeartbeats 1000000 in
theorem refPlace_calls (q : Nat) (L : List Bd) (ok : Ok) (a b : Int) (w : World) (h : RefAt w ok q L) :
    Calls Tryd.prog 57 #[.pointer (some ⟨q, 0, none⟩), .agg #[.int .i64 a, .int .i64 b]] w fun e w' => (∃ r : Int, e = .returned (.int .i64 r) ∧ PlaceP L ⟨a, b⟩ r) ∧ Ext w w' := by
  obtain ⟨v, h1, h2⟩ := h
  have hq : w.cell? ⟨q, 0, none⟩ = some v := cell_of_row w q 0 _ _ _ h1
  have hql : q < w.heap.size := World.block_lt_of_cell? w _ hq
  obtain ⟨A, c, rfl, _, hr⟩ := h2
  have hm := hr.1
  unfold maxLen at hm
  have HD := Lib.hid hr
  clear hr h1
  go_enter Tryd.func57, Tryd.ntmps57
  go_wp2
  have hE0 : Ext w (w.alloc (.cells #[.int .i64 a, .int .i64 b] 31)) := (Ext.refl _).alloc _
  have hb0 := cell_of_row _ _ 0 _ _ _ (heap_alloc_new w (.cells #[.int .i64 a, .int .i64 b] 31))
  have hb1 := cell_of_row _ _ 1 _ _ _ (heap_alloc_new w (.cells #[.int .i64 a, .int .i64 b] 31))
  have hq0 := hE0.cell hq
  generalize w.alloc (.cells #[.int .i64 a, .int .i64 b] 31) = W at hE0 hb0 hb1 hq0 ⊢
  have HQ0 := Lib.hid hq0
  have HB0 := Lib.hid hb0
  have HB1 := Lib.hid hb1
  have HE0 := Lib.hid hE0
  clear hq hb0 hb1 hE0 hq0
  go_loopw [5] (fun s wr => ∃ i : Nat, i ≤ L.length ∧ s = .int .i64 i ∧ Hid (∀ b' ∈ L.take i, b'.v ≠ ⟨a, b⟩) ∧ Hid (Ext W wr)) (fun s _ => L.length - (intOf s).toNat)
  case atStart => exact ⟨0, Nat.zero_le _, rfl, Lib.hid (by simp), Lib.hid (Ext.refl _)⟩
  case round =>
    obtain ⟨i, hi, rfl, HN, HE⟩ := hrel
    have hq := HE.out.cell HQ0.out
    by_cases hlt : i < L.length
    · obtain ⟨⟨⟨x0, x1⟩, t⟩, hx⟩ : ∃ x, L[i]? = some x := ⟨_, List.getElem?_eq_getElem hlt⟩
      obtain ⟨gb, go, rfl, _, _⟩ := HD.out.some_ (by omega)
      obtain ⟨_, _, hxo, hc0, hc1, u, hc2, _⟩ := (HD.out.ext (HE0.out.trans HE.out)).bd_at hx
      have hb0 := HE.out.cell HB0.out
      have hb1 := HE.out.cell HB1.out
      have HX := Lib.hid hx
      clear hx hxo hc2
      by_cases he : x0 = a ∧ x1 = b
      · have heq := fun d w => run_eq_nm d w x0 x1 a b
        have hbt : (x0 == a && x1 == b) = true := by simpa using he
        have heq' := fun d w => (heq d w).trans (by rw [hbt])
        obtain ⟨rfl, rfl⟩ := he
        clear heq hbt
        go_wp2
        go_quiet (fail)
        go_wp2
        go_ret
        exact ⟨⟨i, rfl, place_here HX.out HN.out⟩, (HE0.out.trans HE.out).drewN _⟩
      · have heq := fun d w => run_eq_nm d w x0 x1 a b
        have hbt : (x0 == a && x1 == b) = false := by rw [Bool.eq_false_iff]; simpa using he
        have heq' := fun d w => (heq d w).trans (by rw [hbt])
        have HM : ∀ b' ∈ L.take (i + 1), b'.v ≠ ⟨a, b⟩ := by
          intro c hc
          rw [List.take_add_one, HX.out] at hc
          rcases List.mem_append.1 hc with hc | hc
          · exact HN.out c hc
          · simp at hc; subst hc; simpa using he
        have HM := Lib.hid HM
        rename_i HM'
        clear HM' heq hbt he
        go_wp2
        go_quiet (fail)
        go_wp2
        exact ⟨⟨i + 1, by omega, by go_num, HM, Lib.hid (HE.out.drewN _)⟩, by simp [intOf]; omega⟩
    · obtain rfl : i = L.length := by omega
      go_wp2
      go_ret
      have hn := HN.out
      rw [List.take_length] at hn
      exact ⟨⟨-1, rfl, place_nowhere hn⟩, HE0.out.trans HE.out⟩

end Go.Proofs.YtehljfnoicppnaaDoor
