/- Global, single, OfVar, the order of names, and slices.Clone of a term: each by its contract. Conditions: the list of signs holds what the program lays there; what is cloned has at most 2^31 elements. -/
import Derived.Test.YtehljfnoicppnaaDoorTermE
import Derived.Test.YtehljfnoicppnaaDoorApp
import Derived.WalkSpells
open Go Go.RowKit
set_option linter.unusedVariables false
namespace Go.Proofs.YtehljfnoicppnaaDoor

theorem clone_pure {w w' : World} {ok ok' : Ok} {x : Cl} {cs : List Value} (h : CL.rel w ok x cs) : CL.rel w' ok' x cs := h
theorem nm_pure {w w' : World} {ok ok' : Ok} {x : Nm} {cs : List Value} (h : NM.rel w ok x cs) : NM.rel w' ok' x cs := h

abbrev zCl : Value := .agg #[.int .u8 0, .string ⟨#[]⟩, .int .i64 0, .int .i64 0, .int .i64 0]
abbrev zNm : Value := .agg #[.int .i64 0, .int .i64 0]
theorem info_cl : (Tryd.prog.info? 36).map (fun i => (i.zero, i.size, i.bytes)) = some (some zCl, CL.sz, 48) := by kernel_rfl
theorem info_nm : (Tryd.prog.info? 31).map (fun i => (i.zero, i.size, i.bytes)) = some (some zNm, NM.sz, 16) := by kernel_rfl

theorem Own.lit0 {α : Type} (d : Cd α) (e base : Nat) (w : World) (ok : Ok) (hb : base ≤ w.heap.size) (hk : ok w.heap.size) : Own d e base (w.alloc (.cells #[] e)) ok (.slice (some ⟨w.heap.size, 0, none⟩) 0 0) [] := by
  refine ⟨?_, [], rfl, by simp, ?_⟩
  · intro k h
    simp [Value.ownBlock] at h
    subst h; exact hk
  · have := World.ownsRow_lit (base := base) (e := e) (size := d.sz) w #[] 0 hb (by simp [maxLen]) (by simp)
    simpa using this

set_option maxRecDepth 100000 in
set_option maxHeartbeats 1000000 in
theorem cloneT_calls (v : Value) (xs : List Cl) (ok : Ok) (w : World) (h : Sl CL w ok v xs) (hl : xs.length ≤ 2147483648) :
    Calls Tryd.prog 51 #[v] w fun e w' => (∃ v', e = .returned v' ∧ Own CL 36 w.heap.size w' (fun k => w.heap.size ≤ k) v' xs) ∧ Ext w w' := by
  have HS := Lib.hid h
  obtain ⟨A, c, rfl, hc, hr⟩ := h
  rcases A with _ | a
  · have hx : xs = [] := by
      rcases Nat.eq_zero_or_pos xs.length with h0 | h0
      · exact List.eq_nil_of_length_eq_zero h0
      · obtain ⟨b, o, hA, _⟩ := hr.2 h0
        cases hA
    subst hx
    clear hr
    have hn := fun w : World => Lib.run_eql_slice_nil (P := Tryd.prog) w 24 36 none 0 c 0 0 Tryd.underlying24
    go_enter Tryd.func51, Tryd.ntmps51
    go_wp2
    go_ret
    exact ⟨⟨_, rfl, Own.nil _ _ _ _ _⟩, Ext.refl _⟩
  · clear hr
    have hn := fun w : World => Lib.run_eql_slice_nil (P := Tryd.prog) w 24 36 (some a) xs.length c 0 0 Tryd.underlying24
    go_enter Tryd.func51, Tryd.ntmps51
    go_wp2_with (at_builtin; go_loud (refine wpList_append_mine (d := CL) (ok2 := fun k => w.heap.size ≤ k) rfl (.tmp 5) (.tmp 6) 24 36 zCl 48 w.heap.size rfl Tryd.underlying24 info_cl rfl (Own.lit0 _ _ _ _ _ (Nat.le_refl _) (Nat.le_refl _)) (HS.out.ext (by repeat (first | with_reducible exact Ext.refl _ | assumption | refine Ext.alloc ?_ _ | refine Ext.drewN ?_ _ | refine Ext.drew ?_ | refine Ext.set ?_ (by simp <;> omega) _ _ | refine Ext.trans ?_ (by assumption)))) rfl rfl (fun _ h => h) ?c2 (.inl fun _ _ _ _ _ _ h => h) ?c3 (by decide) ?c4 ?_); (case c2 => intro k hk; simp at hk; omega); (case c3 => simp; omega); (case c4 => simp); intro v' w' hown hg hat; simp only [List.nil_append] at hown; have HOwn := Lib.hid hown; have HG := Lib.hid hg; clear hown hg hat)
    go_ret
    exact ⟨⟨_, rfl, HOwn.out⟩, ((Ext.refl _).alloc _).grown HG.out (fun k hk => by cases hk; exact Nat.le_refl _)⟩

def globalB (t : List Cl) : Prop := rightB t ∧ ∀ c ∈ t, varB c = false
open Classical in
noncomputable def globalS (t : List Cl) : Bool := decide (globalB t)
theorem globalS_iff {t : List Cl} : globalS t = true ↔ globalB t := by simp [globalS]

set_option maxRecDepth 100000 in
set_option maxHeartbeats 1000000 in
theorem global_calls (v : Value) (xs : List Cl) (ok : Ok) (w : World) (h : Sl CL w ok v xs) (hg : Sg w) :
    Calls Tryd.prog 63 #[v] w fun e w' => e = .returned (.bool (globalS xs)) ∧ Ext w w' := by
  have HS := Lib.hid h
  have HR := Lib.hid (right_calls v xs ok w h hg)
  have HF := Lib.hid (fun w1 hE => containsCl_calls 88 enters_global1 varB (fun _ => True) (fun _ _ _ _ => trivial) (fun k s n a b w hc hg => global1_calls k s n a b w) v xs ok w1 (h.ext hE) trivial)
  clear hg h
  cases hr : rightS xs
  · have HV : globalS xs = false := by
      rw [Bool.eq_false_iff, ne_eq, globalS_iff]
      intro h
      rw [Bool.eq_false_iff, ne_eq, rightS_iff] at hr
      exact hr h.1
    have HV := Lib.hid HV
    rename_i HV'
    clear HV'
    have HR2 := Lib.hid (HR.out.mono (fun e w' h => (⟨by rw [h.1, hr], h.2⟩ : e = .returned (.bool false) ∧ Ext w w')))
    clear hr
    go_enter Tryd.func63, Tryd.ntmps63
    go_wp2_with (go_at_call 54; refine HR2.out.mono ?_; rintro e w1 ⟨rfl, hw⟩; have HW := Lib.hid hw; clear hw)
    go_ret
    exact ⟨ret_bool HV.out.symm, HW.out⟩
  · have HV : globalS xs = !(xs.any varB) := by
      rw [Bool.eq_iff_iff, globalS_iff]
      rw [rightS_iff] at hr
      simp [globalB, hr]
    have HV := Lib.hid HV
    rename_i HV'
    clear HV'
    have HR2 := Lib.hid (HR.out.mono (fun e w' h => (⟨by rw [h.1, hr], h.2⟩ : e = .returned (.bool true) ∧ Ext w w')))
    clear hr
    go_enter Tryd.func63, Tryd.ntmps63
    go_wp2_with (first | (go_at_call 54; refine HR2.out.mono ?_; rintro e w1 ⟨rfl, hw⟩; have HW := Lib.hid hw; clear hw) | (go_at_call 81; refine (HF.out _ HW.out).mono ?_; rintro e w2 ⟨rfl, hw2⟩; have HW2 := Lib.hid hw2; clear hw2))
    go_ret
    exact ⟨ret_bool HV.out.symm, HW.out.trans HW2.out⟩

/-! ### the term of one cell -/
theorem right_one (x : Cl) (h : x.k ≠ 3) : rightS [x] = cellB x := by
  have he : endS [x] 0 = 1 := by
    have hp : partsS x = 0 := by simp [partsS, h]
    simp [endS, endL, hp]
  rw [Bool.eq_iff_iff, rightS_iff]
  simp [rightB, he]

set_option maxRecDepth 100000 in
set_option maxHeartbeats 1000000 in
theorem single_calls (k : Int) (s : ByteArray) (n a b : Int) (w : World) (ho : ClOk ⟨k, s, n, ⟨a, b⟩⟩) (hg : Sg w) :
    Calls Tryd.prog 87 #[.agg #[.int .u8 k, .string s, .int .i64 n, .int .i64 a, .int .i64 b]] w fun e w' => (∃ v' : Value, e = .returned v' ∧ (if rightS [⟨k, s, n, ⟨a, b⟩⟩] then Sl CL w' (fun q => w.heap.size ≤ q) v' [⟨k, s, n, ⟨a, b⟩⟩] else v' = .slice none 0 0)) ∧ Ext w w' := by
  have HO := Lib.hid ho
  have HG := Lib.hid hg
  clear ho hg
  have HB := Lib.hid (Sl.box_at (d := CL) (w := w.alloc (.cells #[.int .u8 k, .string s, .int .i64 n, .int .i64 a, .int .i64 b] 36)) (N := w.heap.size + 1) (ok := fun _ => False) (x := ⟨k, s, n, ⟨a, b⟩⟩) (cs := #[.int .u8 k, .string s, .int .i64 n, .int .i64 a, .int .i64 b]) (e := 36) (by simp) ⟨rfl, HO.out⟩)
  cases hr : rightS [⟨k, s, n, ⟨a, b⟩⟩]
  · have HR := Lib.hid hr
    clear hr
    go_enter Tryd.func87, Tryd.ntmps87
    go_wp2_with (go_at_call 54; refine (right_calls _ _ _ _ HB.out (HG.out.ext (by repeat (first | with_reducible exact Ext.refl _ | assumption | refine Ext.alloc ?_ _ | refine Ext.drewN ?_ _ | refine Ext.drew ?_ | refine Ext.set ?_ (by simp <;> omega) _ _ | refine Ext.trans ?_ (by assumption))))).mono ?_; rintro e w1 ⟨rfl, hw⟩; have HW := Lib.hid hw; clear hw; rw [HR.out])
    go_ret
    exact ⟨rfl, ((Ext.refl _).alloc _ |>.alloc _).trans HW.out⟩
  · have HR := Lib.hid hr
    clear hr
    go_enter Tryd.func87, Tryd.ntmps87
    go_wp2_with (go_at_call 54; refine (right_calls _ _ _ _ HB.out (HG.out.ext (by repeat (first | with_reducible exact Ext.refl _ | assumption | refine Ext.alloc ?_ _ | refine Ext.drewN ?_ _ | refine Ext.drew ?_ | refine Ext.set ?_ (by simp <;> omega) _ _ | refine Ext.trans ?_ (by assumption))))).mono ?_; rintro e w1 ⟨rfl, hw⟩; have HW := Lib.hid hw; clear hw; rw [HR.out])
    go_ret
    refine ⟨⟨_, rfl, ?_⟩, ((Ext.refl _).alloc _ |>.alloc _).trans HW.out⟩
    exact (HB.out.ext HW.out).imp (by intro q hq; simp at hq; omega)

def cmpS (x y : Nm) : Int := if lessB x y then -1 else if x = y then 0 else 1
set_option maxRecDepth 100000 in
set_option maxHeartbeats 1000000 in
theorem order_calls (x0 x1 y0 y1 : Int) (w : World) :
    Calls Tryd.prog 50 #[.agg #[.int .i64 x0, .int .i64 x1], .agg #[.int .i64 y0, .int .i64 y1]] w fun e w' => e = .returned (.int .i64 (cmpS ⟨x0, x1⟩ ⟨y0, y1⟩)) ∧ Ext w w' := by
  have heq := fun d w => run_eq_nm d w x0 x1 y0 y1
  have hl := fun w1 => less_calls x0 x1 y0 y1 w1
  cases h : lessB ⟨x0, x1⟩ ⟨y0, y1⟩
  · rw [h] at hl
    have HL := Lib.hid hl
    clear hl
    by_cases he : x0 = y0 ∧ x1 = y1
    · have HV : cmpS ⟨x0, x1⟩ ⟨y0, y1⟩ = 0 := by unfold cmpS; rw [h, he.1, he.2]; simp
      have HV := Lib.hid HV
      rename_i HV'
      clear HV' h
      obtain ⟨rfl, rfl⟩ := he
      go_enter Tryd.func50, Tryd.ntmps50
      go_wp2_with (go_at_call 64; refine (HL.out _).mono ?_; rintro e w1 ⟨rfl, hw⟩; obtain ⟨hcc, hff⟩ := bcell hw; have HW := Lib.hid hw; clear hw)
      go_ret
      exact ⟨ret_i64 HV.out.symm, (((Ext.refl _).alloc _).alloc _).trans HW.out⟩
    · have HV : cmpS ⟨x0, x1⟩ ⟨y0, y1⟩ = 1 := by simp [cmpS, h, he]
      have HV := Lib.hid HV
      rename_i HV'
      clear HV' h
      have hb : (x0 == y0 && x1 == y1) = false := by rw [Bool.eq_false_iff]; simpa using he
      have heq := fun d w => (run_eq_nm d w x0 x1 y0 y1).trans (by rw [hb])
      rename_i heq'
      clear heq' hb he
      go_enter Tryd.func50, Tryd.ntmps50
      go_wp2_with (go_at_call 64; refine (HL.out _).mono ?_; rintro e w1 ⟨rfl, hw⟩; obtain ⟨hcc, hff⟩ := bcell hw; have HW := Lib.hid hw; clear hw)
      all_goals (go_ret; exact ⟨ret_i64 HV.out.symm, (((Ext.refl _).alloc _).alloc _).trans HW.out⟩)
  · rw [h] at hl
    have HL := Lib.hid hl
    have HV : cmpS ⟨x0, x1⟩ ⟨y0, y1⟩ = -1 := by simp [cmpS, h]
    have HV := Lib.hid HV
    rename_i HV'
    clear HV' hl h
    go_enter Tryd.func50, Tryd.ntmps50
    go_wp2_with (go_at_call 64; refine (HL.out _).mono ?_; rintro e w1 ⟨rfl, hw⟩; have HW := Lib.hid hw; clear hw)
    go_ret
    exact ⟨ret_i64 HV.out.symm, (((Ext.refl _).alloc _).alloc _).trans HW.out⟩

end Go.Proofs.YtehljfnoicppnaaDoor
