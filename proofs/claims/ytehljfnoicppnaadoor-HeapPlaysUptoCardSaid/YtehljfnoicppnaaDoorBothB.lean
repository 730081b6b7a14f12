/- both: the two heaps behind the same bindings hold the same list. Conditions: fewer than 2^31 bindings, each term of at most 2^31 cells; the list of signs holds what the program lays there. -/
import Derived.Test.YtehljfnoicppnaaDoorBothA
import Derived.Test.YtehljfnoicppnaaDoorRefI
import Derived.Test.YtehljfnoicppnaaDoorLiveA
import Derived.Deep.RegionHeld3
open Go Go.RowKit
set_option linter.unusedVariables false
namespace Go.Proofs.YtehljfnoicppnaaDoor

theorem refBind_calls (q : Nat) (L : List Bd) (ok okT : Ok) (a b : Int) (tv : Value) (t : List Cl) (w : World) (h : RefAt w ok q L) (ha : NmOk ⟨a, b⟩) (ht : Sl CL w okT tv t) (hL : L.length ≤ 2147483647) :
    Calls Tryd.prog 47 #[.pointer (some ⟨q, 0, none⟩), .agg #[.int .i64 a, .int .i64 b], tv] w (RBindP w ok q L ⟨a, b⟩ t) := by
  by_cases h0 : bindE L ⟨a, b⟩ t = 0
  · exact refBind_ok q L ok okT a b tv t w h ha ht hL h0
  · exact refBind_err q L ok okT a b tv t w h ha ht h0

theorem bindL_len (L : List Bd) (v : Nm) (t : List Cl) : (bindL L v t).length ≤ L.length + 1 := by
  unfold bindL
  split
  · rw [(insL_perm _ L).length_eq]; simp
  · omega
theorem bothL_len : ∀ (l M : List Bd), (bothL l M).length ≤ M.length + l.length
  | [], M => by simp [bothL]
  | b :: l, M => by
    have h1 := bothL_len l (bindL M b.v b.t)
    have h2 := bindL_len M b.v b.t
    simp only [bothL, List.foldl_cons, List.length_cons] at *
    omega
theorem bothL_step {l M : List Bd} {i : Nat} {b : Bd} (hx : l[i]? = some b) : bothL (l.take (i + 1)) M = bindL (bothL (l.take i) M) b.v b.t := by
  unfold bothL
  rw [List.take_add_one, hx]
  simp

/-- What both hands back. -/
def BothP (w : World) (l : List Bd) (e : Ending) (w' : World) : Prop :=
  ∃ p r q, e = .returned (.tuple #[.pointer (some ⟨p, 0, none⟩), .pointer (some ⟨q, 0, none⟩), .bool true]) ∧ BothAt w w' p r q (bothL l []) ∧ Ext w w'

set_option maxRecDepth 100000 in
set_option maxHeartbeats 8000000 in
theorem both_calls (lv : Value) (l : List Bd) (ok0 : Ok) (w : World) (h : Sl BD w ok0 lv l) (hl : l.length ≤ 2147483647) (hls : ∀ b ∈ l, b.t.length ≤ 2147483648) (hg : Sg w) :
    Calls Tryd.prog 11 #[lv] w (BothP w l) := by
  obtain ⟨A, c, rfl, _, hr⟩ := h
  have HD := Lib.hid hr
  have HG := Lib.hid hg
  have HLS := Lib.hid hls
  clear hr hg hls
  go_enter Tryd.func11, Tryd.ntmps11
  go_wp2_with fail
  refine (new_calls w).mono ?_
  rintro e w1 ⟨⟨p, r, rfl, hp, hr, hh⟩, hE1⟩
  have HH1 := Lib.hid hh
  have HE1 := Lib.hid hE1
  clear hh hE1
  go_wp2_with fail
  refine (refNew_calls w1).mono ?_
  rintro e w2 ⟨rfl, hrr, hE2⟩
  obtain ⟨q, hq⟩ : ∃ q, q = w1.heap.size := ⟨_, rfl⟩
  rw [← hq] at hrr ⊢
  have HB0 : Hid (BothAt w w2 p r q [] ∧ Ext w w2) := Lib.hid (by
    refine ⟨⟨fun k => w.heap.size ≤ k ∧ k < w1.heap.size, fun k hk => ⟨hk.1, Nat.lt_of_lt_of_le hk.2 hE2.le, by omega⟩, HH1.out.lt.ext hE2, ?_, hp, hr, by rw [hq]; exact HE1.out.le⟩, HE1.out.trans hE2⟩
    obtain ⟨v, h1, h2⟩ := hrr
    have h3 : v = .slice none 0 0 ∨ True := .inr trivial
    obtain ⟨A', c', rfl, hc', hrd⟩ := h2
    exact ⟨_, h1, A', c', rfl, hc', Rd.nil _ _ _ _⟩)
  clear hq hrr hE2 hp hr
  go_wp2_with fail
  go_loopg [7] l.length (fun g s7 wr => ∃ i : Nat, i ≤ l.length ∧ l.length - i ≤ g ∧ s7 = .int .i64 i ∧ Hid (BothAt w wr p r q (bothL (l.take i) []) ∧ Ext w wr))
  case atStart => exact ⟨0, Nat.zero_le _, Nat.le_refl _, rfl, HB0⟩
  case round =>
    obtain ⟨i, hi, hg, rfl, HB⟩ := hrel
    by_cases hlt : i < l.length
    · obtain ⟨⟨⟨x0, x1⟩, t⟩, hx⟩ : ∃ x, l[i]? = some x := ⟨_, List.getElem?_eq_getElem hlt⟩
      obtain ⟨lb, lo, rfl, _, _⟩ := HD.out.some_ (by omega)
      obtain ⟨_, _, hxo, hc0, hc1, u, hc2, hu⟩ := HD.out.bd_at hx
      obtain ⟨uA, uc, rfl, huc, hur⟩ := hu
      have hul : t.length ≤ 2147483648 := HLS.out _ (List.mem_of_getElem? hx)
      have HU : Hid (Sl CL w ok0 (.slice uA t.length uc) t) := Lib.hid ⟨uA, uc, rfl, huc, hur⟩
      have HST := Lib.hid (bothL_step (M := []) hx)
      have HXO := Lib.hid hxo
      obtain ⟨L, hL⟩ : ∃ L, L = bothL (l.take i) [] := ⟨_, rfl⟩
      have hLl : L.length ≤ 2147483647 := by
        have := bothL_len (l.take i) []
        rw [List.length_take] at this
        rw [hL]
        simp at this
        omega
      rw [← hL] at HB HST
      have HCE : Hid (∀ w6, Ext w w6 → w6.cell? ⟨lb, lo + i * 3, none⟩ = some (.int .i64 x0) ∧ w6.cell? ⟨lb, lo + i * 3 + 1, none⟩ = some (.int .i64 x1) ∧ w6.cell? ⟨lb, lo + i * 3 + 2, none⟩ = some (.slice uA t.length uc)) := Lib.hid fun w6 hE => ⟨hE.cell hc0, hE.cell hc1, hE.cell hc2⟩
      clear hx hxo hc0 hc1 hc2 huc hur hL
      obtain ⟨hc0, hc1, hc2⟩ := HCE.out _ HB.out.2
      have HUr := Lib.hid (HU.out.ext HB.out.2)
      go_wp2_with (at_builtin; go_loud (refine wpList_append_mine (d := CL) (ok2 := fun k => wr.heap.size ≤ k) rfl (.tmp 18) (.tmp 23) 24 36 zCl 48 wr.heap.size rfl Tryd.underlying24 info_cl rfl (Own.nil CL _ _ _ (fun k => wr.heap.size ≤ k)) HUr.out rfl rfl (fun _ h => h) ?c2 (.inl fun _ _ _ _ _ _ h => h) ?c3 (by decide) ?c4 ?_); (case c2 => intro k hk; exact hk); (case c3 => simp; omega); (case c4 => exact Nat.le_refl _); intro v' w5 hown hg hat; simp only [List.nil_append] at hown; have HOwn := Lib.hid hown; have HG5 : Hid (Ext wr w5) := Lib.hid ((Ext.refl wr).grown hg (fun k hk => by cases hk)); clear hown hg hat)
      obtain ⟨oA, oc, rfl, _, _⟩ := HOwn.out.sl
      clear hc0 hc1 hc2
      obtain ⟨hc0, hc1, hc2⟩ := HCE.out _ (HB.out.2.trans HG5.out)
      go_wp2_with fail
      obtain ⟨ok, hok, hH, hR, hp0, hr0, hq0⟩ := HB.out.1
      have hqlt := hR.q_lt
      have HH := Lib.hid (hH.ext HG5.out)
      have HR := Lib.hid (hR.ext HG5.out)
      have HBO := Lib.hid (show (∀ k, ok k → w.heap.size ≤ k ∧ k < wr.heap.size ∧ k ≠ q) ∧ HeapAt wr ok p r L ∧ RefAt wr ok q L from ⟨hok, hH, hR⟩)
      have HT5 := Lib.hid HOwn.out.sl
      have HEW5 := Lib.hid (HB.out.2.trans HG5.out)
      clear hok hH hR
      go_region_held3 (fun w' => w'.cell? ⟨lb, lo + i * 3, none⟩ = some (.int .i64 x0) ∧ w'.cell? ⟨lb, lo + i * 3 + 1, none⟩ = some (.int .i64 x1) ∧ w'.cell? ⟨lb, lo + i * 3 + 2, none⟩ = some (.slice uA t.length uc)) (first | exact ⟨hc0, hc1, hc2⟩ | go_keep)
        (first
          | (go_at_call 30; refine (bind_calls p r L ok _ x0 x1 _ t _ (HH.out.ext (by repeat (first | with_reducible exact Ext.refl _ | assumption | refine Ext.alloc ?_ _ | refine Ext.drewN ?_ _ | refine Ext.drew ?_ | refine Ext.set ?_ (by simp <;> omega) _ _ | refine Ext.trans ?_ (by assumption)))) HXO.out (HT5.out.ext (by repeat (first | with_reducible exact Ext.refl _ | assumption | refine Ext.alloc ?_ _ | refine Ext.drewN ?_ _ | refine Ext.drew ?_ | refine Ext.set ?_ (by simp <;> omega) _ _ | refine Ext.trans ?_ (by assumption)))) (HG.out.ext (HEW5.out.trans (by repeat (first | with_reducible exact Ext.refl _ | assumption | refine Ext.alloc ?_ _ | refine Ext.drewN ?_ _ | refine Ext.drew ?_ | refine Ext.set ?_ (by simp <;> omega) _ _ | refine Ext.trans ?_ (by assumption)))))).mono ?_; rintro e w6 ⟨rfl, hx6, hh6⟩; have HX6 : Hid (ExtBut r w5 w6) := Lib.hid (ExtBut.ext_left (by repeat (first | with_reducible exact Ext.refl _ | assumption | refine Ext.alloc ?_ _ | refine Ext.drewN ?_ _ | refine Ext.drew ?_ | refine Ext.set ?_ (by simp <;> omega) _ _ | refine Ext.trans ?_ (by assumption))) hx6); have HH6 : Hid (HeapAt w6 (fun k => ok k ∨ w5.heap.size ≤ k) p r (bindL L ⟨x0, x1⟩ t)) := Lib.hid hh6; have HEW6 : Hid (Ext w w6) := Lib.hid (HX6.out.ext0 HEW5.out hr0); obtain ⟨hc0, hc1, hc2⟩ := HCE.out _ HEW6.out; clear hx6 hh6; obtain ⟨es6, n6, hm6⟩ := HH.out.map; have HR6 := Lib.hid (HR.out.offmap hm6 HX6.out.block); have HT6 := Lib.hid (HT5.out.offmap hm6 HX6.out.block); clear hm6)
          | (go_at_call 47; refine (refBind_calls q L ok _ x0 x1 _ t _ (HR6.out.ext (by repeat (first | with_reducible exact Ext.refl _ | assumption | refine Ext.alloc ?_ _ | refine Ext.drewN ?_ _ | refine Ext.drew ?_ | refine Ext.set ?_ (by simp <;> omega) _ _ | refine Ext.trans ?_ (by assumption)))) HXO.out ((HU.out.ext HEW6.out).ext (by repeat (first | with_reducible exact Ext.refl _ | assumption | refine Ext.alloc ?_ _ | refine Ext.drewN ?_ _ | refine Ext.drew ?_ | refine Ext.set ?_ (by simp <;> omega) _ _ | refine Ext.trans ?_ (by assumption)))) hLl).mono ?_; rintro e w7 ⟨rfl, hx7, hr7⟩; have HX7 : Hid (ExtBut q w6 w7) := Lib.hid (ExtBut.ext_left (by repeat (first | with_reducible exact Ext.refl _ | assumption | refine Ext.alloc ?_ _ | refine Ext.drewN ?_ _ | refine Ext.drew ?_ | refine Ext.set ?_ (by simp <;> omega) _ _ | refine Ext.trans ?_ (by assumption))) hx7); have HR7 : Hid (RefAt w7 (fun k => ok k ∨ w6.heap.size ≤ k) q (bindL L ⟨x0, x1⟩ t)) := Lib.hid hr7; have HEW7 : Hid (Ext w w7) := Lib.hid (HX7.out.ext0 HEW6.out hq0); obtain ⟨hc0, hc1, hc2⟩ := HCE.out _ HEW7.out; clear hx7 hr7; have HT7 : Hid (Sl CL w7 (fun k => wr.heap.size ≤ k) (.slice oA t.length oc) t) := Lib.hid (HT6.out.move fun k hk hkl => ⟨hk, HX7.out.block k hkl (by omega)⟩))
          | (go_at_call 19; refine (equal_calls _ _ t t _ _ _ (HT7.out.ext (by repeat (first | with_reducible exact Ext.refl _ | assumption | refine Ext.alloc ?_ _ | refine Ext.drewN ?_ _ | refine Ext.drew ?_ | refine Ext.set ?_ (by simp <;> omega) _ _ | refine Ext.trans ?_ (by assumption)))) ((HU.out.ext HEW7.out).ext (by repeat (first | with_reducible exact Ext.refl _ | assumption | refine Ext.alloc ?_ _ | refine Ext.drewN ?_ _ | refine Ext.drew ?_ | refine Ext.set ?_ (by simp <;> omega) _ _ | refine Ext.trans ?_ (by assumption))))).mono ?_; rintro e w8 ⟨rfl, hw8⟩; rw [show tmEq t t = true by simp [tmEq]]; have HE8 : Hid (Ext w7 w8) := Lib.hid (Ext.trans (by repeat (first | with_reducible exact Ext.refl _ | assumption | refine Ext.alloc ?_ _ | refine Ext.drewN ?_ _ | refine Ext.drew ?_ | refine Ext.set ?_ (by simp <;> omega) _ _ | refine Ext.trans ?_ (by assumption))) hw8); obtain ⟨hc0, hc1, hc2⟩ := HCE.out _ (HEW7.out.trans HE8.out); clear hw8))
      have hle5 := HG5.out.le
      obtain ⟨tb, htb1, htb2, htb3⟩ : ∃ tb, wr.heap.size ≤ tb ∧ (∀ k, w5.heap.size ≤ k → k < w7.heap.size → k ≠ tb) ∧ (0 < t.length → oA = some ⟨tb, 0, none⟩ ∧ TbOk w7 tb t.length) := by
        rcases Nat.eq_zero_or_pos t.length with h0 | h0
        · have h1 := HX6.out.size
          have h2 := HX7.out.size
          exact ⟨w7.heap.size, by omega, fun k _ hk => by omega, fun h => by omega⟩
        · obtain ⟨tb, h1, h2, h3⟩ := own_block HOwn.out h0
          have h4 : tb < w5.heap.size := (h3.cell h0).2.2
          have h6 := HX6.out.size
          have h5 : tb ≠ r := by
            have := HBO.out.2.1.r_lt
            omega
          exact ⟨tb, h2, fun k hk _ => by omega, fun _ => ⟨h1, (h3.move (HX6.out.block tb h4 h5)).move (HX7.out.block tb (by omega) (by omega))⟩⟩
      have HTB := Lib.hid htb3
      have HT2 := Lib.hid htb2
      have HT1 := Lib.hid htb1
      clear htb3 htb2 hc0 hc1 hc2
      go_wp2_with fail
      go_loopg [9] t.length (fun g2 s9 wx => ∃ k : Nat, k ≤ t.length ∧ t.length - k ≤ g2 ∧ s9 = .int .i64 k ∧ Hid (ExtBut tb w7 wx ∧ (0 < t.length → TbOk wx tb t.length)))
      case atStart => exact ⟨0, Nat.zero_le _, Nat.le_refl _, rfl, Lib.hid ⟨(Ext.trans HE8.out (by repeat (first | with_reducible exact Ext.refl _ | assumption | refine Ext.alloc ?_ _ | refine Ext.drewN ?_ _ | refine Ext.drew ?_ | refine Ext.set ?_ (by simp <;> omega) _ _ | refine Ext.trans ?_ (by assumption)))).but tb, fun h => (HTB.out h).2.move ((Ext.trans HE8.out (by repeat (first | with_reducible exact Ext.refl _ | assumption | refine Ext.alloc ?_ _ | refine Ext.drewN ?_ _ | refine Ext.drew ?_ | refine Ext.set ?_ (by simp <;> omega) _ _ | refine Ext.trans ?_ (by assumption)))).block tb ((HTB.out h).2.cell h).2.2)⟩⟩
      case round =>
        obtain ⟨k, hk, hg2, rfl, HW⟩ := hrel
        by_cases hlt2 : k < t.length
        · obtain ⟨⟨v2, hcell⟩, hfz, htl⟩ := (HW.out.2 (by omega)).cell hlt2
          obtain ⟨rfl, _⟩ := HTB.out (by omega)
          go_wp2_with fail
          go_roundg (t.length - (k + 1))
          case measure => omega
          case rel => exact ⟨k + 1, by omega, Nat.le_refl _, by go_num, Lib.hid ⟨HW.out.1.set _ _, fun h => (HW.out.2 h).set _ _⟩⟩
        · obtain rfl : k = t.length := by omega
          go_wp2_with fail
          go_roundg (l.length - (i + 1))
          case measure => omega
          case rel =>
            refine ⟨i + 1, by omega, Nat.le_refl _, by go_num, Lib.hid ?_⟩
            rw [HST.out]
            exact both_step HBO.out.1 HBO.out.2.1 HBO.out.2.2 ⟨hp0, hr0, hq0⟩ HB.out.2 HG5.out HX6.out HH6.out (Ext.refl _) HX7.out HR7.out HW.out.1 HT1.out HT2.out
    · obtain rfl : i = l.length := by omega
      go_wp2_with fail
      go_ret3
      have := HB.out
      rw [List.take_length] at this
      exact ⟨p, r, q, rfl, this.1, this.2⟩

end Go.Proofs.YtehljfnoicppnaaDoor
