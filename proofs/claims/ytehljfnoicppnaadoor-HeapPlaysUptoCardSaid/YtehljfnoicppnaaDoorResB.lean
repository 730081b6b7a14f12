/- resolve and Resolve, by their contracts: what they answer is the term with all values in it, or that it is too long. Conditions: the heap is one that the package made; the list of signs holds what the program lays there. -/
import Derived.Test.YtehljfnoicppnaaDoorResA
import Derived.Test.YtehljfnoicppnaaDoorHeapC
open Go Go.RowKit
set_option linter.unusedVariables false
namespace Go.Proofs.YtehljfnoicppnaaDoor

/-- The variable in which the answer grows. -/
def OutAt (B : Nat) (w : World) (ob : Nat) (ov : Value) (out : List Cl) : Prop :=
  B ≤ ob ∧ w.heap[ob]? = some (.cells #[ov] 24 (0, 0)) ∧ Own CL 36 B w (fun k => B ≤ k) ov out
theorem OutAt.ext {B : Nat} {w w' : World} {ob : Nat} {ov : Value} {out : List Cl} (h : OutAt B w ob ov out) (he : Ext w w') : OutAt B w' ob ov out := ⟨h.1, he.heap h.2.1, h.2.2.ext he⟩
theorem OutAt.ne {B : Nat} {w : World} {ob : Nat} {ov : Value} {out : List Cl} (h : OutAt B w ob ov out) : ov.ownBlock ≠ some ob := by
  intro he
  obtain ⟨cs, hc⟩ := h.2.2.typed ob he
  rw [h.2.1] at hc
  injection hc with hc
  injection hc with _ ht
  cases ht
theorem OutAt.lt {B : Nat} {w : World} {ob : Nat} {ov : Value} {out : List Cl} (h : OutAt B w ob ov out) : ob < w.heap.size := (Array.getElem?_eq_some_iff.1 h.2.1).1
/-- Behind an append and the store of what came of it. -/
theorem OutAt.next {B : Nat} {w w4 : World} {ob : Nat} {ov v' : Value} {out out2 : List Cl} (h : OutAt B w ob ov out) (hg : w.grownBy w4 ov.ownBlock) (hat : v'.ownBlock = ov.ownBlock ∨ v'.ownBlock = some w.heap.size) (ho : Own CL 36 B w4 (fun k => B ≤ k) v' out2) :
    w4.cell? ⟨ob, 0, none⟩ = some ov ∧ w4.frozen? ⟨ob, 0, none⟩ = false ∧ OutAt B (w4.setCell ⟨ob, 0, none⟩ v') ob v' out2 := by
  have hh : w4.heap[ob]? = some (.cells #[ov] 24 (0, 0)) := (hg.block ob h.lt (fun e => h.ne e.symm)).trans h.2.1
  refine ⟨cell_of_row w4 ob 0 _ _ _ hh, by simp [World.frozen?, hh], h.1, ?_, ?_⟩
  · simp [World.setCell, Array.getElem?_modify, hh]
  · have hne : ∀ k, v'.ownBlock = some k → k ≠ ob := by
      intro k hk e
      subst e
      rcases hat with hat | hat
      · exact h.ne (hat ▸ hk)
      · rw [hat] at hk
        injection hk with hk
        have := h.lt
        omega
    obtain ⟨h1, css, h2, h3, h4⟩ := ho
    refine ⟨h1, css, h2, fun j x cs hx hcs => h3 j x cs hx hcs, h4.1, ?_⟩
    rcases h4.2 with h5 | ⟨g, cap, cur, h5, h6, h7, h8⟩
    · exact .inl h5
    · refine .inr ⟨g, cap, cur, h5, h6, (Below.heap_setCell w4 ⟨ob, 0, none⟩ v' g (hne g (by rw [h5]; rfl))).trans h7, h8⟩

theorem Rd.old {α : Type} {d : Cd α} {w w1 w2 : World} {ok : Ok} {A : Option Addr} {xs : List α} (h : Rd d w1 (fun k => ok k ∧ k < w.heap.size) A xs) (h1 : Ext w w1) (h2 : Ext w w2) : Rd d w2 (fun k => ok k ∧ k < w.heap.size) A xs :=
  h.move fun k hk _ => ⟨hk, (h2.block k hk.2).trans (h1.block k hk.2).symm⟩
/-- What a call of resolve comes to. -/
def ResP (L : List Bd) (w0 : World) (ob : Nat) (t out : List Cl) (e : Ending) (w' : World) : Prop :=
  Ext w0 w' ∧ ((e = .returned (.bool true) ∧ ∃ r ov, ResL L t r ∧ (out ++ r).length ≤ 256 ∧ OutAt w0.heap.size w' ob ov (out ++ r)) ∨ (e = .returned (.bool false) ∧ ¬ ∃ r, ResL L t r ∧ (out ++ r).length ≤ 256))

/-- How much depth is left for how long an answer. -/
def DeepOk (L : List Bd) (d : Nat) (t out : List Cl) : Prop := 256 ≤ d + out.length ∨ (255 ≤ d + out.length ∧ ∀ c ∈ t.head?, nextS L [c] = none)

theorem res_split {L : List Bd} {t acc out r rest : List Cl} {k : Nat} {x : Cl} (hR : ResL L (t.take k) acc) (hd : t.drop k = x :: rest) (hr : ResL L t r) : ∃ s, r = acc ++ s ∧ ResL L (x :: rest) s := by
  have h : ResL L (t.take k ++ t.drop k) r := by rw [List.take_append_drop]; exact hr
  obtain ⟨s1, s2, rfl, h1, h2⟩ := ResL.split h
  rw [hd] at h2
  exact ⟨s2, by rw [hR.unique h1], h2⟩
theorem res_stay_long {L : List Bd} {t acc out cur rest : List Cl} {k : Nat} {x : Cl} (hR : ResL L (t.take k) acc) (hd : t.drop k = x :: rest) (hn : nextS L [x] = none) (hc : cur = out ++ acc) (hl : 256 < cur.length + 1) : ¬ ∃ r, ResL L t r ∧ (out ++ r).length ≤ 256 := by
  rintro ⟨r, hr, hle⟩
  obtain ⟨s, rfl, hs⟩ := res_split (out := out) hR hd hr
  cases hs with
  | stay _ _ => subst hc; simp at hle hl; omega
  | go hn' _ _ => rw [hn] at hn'; cases hn'
theorem res_go_long {L : List Bd} (ho : OkL L) {t acc out cur rest q : List Cl} {k : Nat} {x : Cl} (hR : ResL L (t.take k) acc) (hd : t.drop k = x :: rest) (hn : nextS L [x] = some q) (hc : cur = out ++ acc)
    (hl : ¬ ∃ r, ResL L (followS L q) r ∧ (cur ++ r).length ≤ 256) : ¬ ∃ r, ResL L t r ∧ (out ++ r).length ≤ 256 := by
  rintro ⟨r, hr, hle⟩
  obtain ⟨s, rfl, hs⟩ := res_split (out := out) hR hd hr
  cases hs with
  | stay hn' _ => rw [hn] at hn'; cases hn'
  | go hn' h1 h2 =>
    rw [hn] at hn'
    cases hn'
    exact hl ⟨_, h1, by subst hc; simp at hle ⊢; omega⟩
theorem res_zero {L : List Bd} (ho : OkL L) {q cur : List Cl} {x : Cl} (hn : nextS L [x] = some q) (hl : 256 ≤ cur.length) : ¬ ∃ r, ResL L (followS L q) r ∧ (cur ++ r).length ≤ 256 := by
  rintro ⟨r, hr, hle⟩
  have := hr.pos ho (followS_ne ho _ (Nat.le_refl _) (next_ne ho hn))
  simp at hle
  omega
theorem DeepOk.more {L : List Bd} {d : Nat} {t t' cur cur' : List Cl} (h : DeepOk L d t cur) (hl : cur.length + 1 ≤ cur'.length) : DeepOk L d t' cur' := by
  rcases h with h | ⟨h, _⟩
  · exact .inl (by omega)
  · exact .inl (by omega)

set_option maxRecDepth 100000 in
set_option maxHeartbeats 1000000 in
theorem resolve_calls (v : Value) (L : List Bd) (ok0 : Ok) (w0 : World) (h0 : HeapOr w0 ok0 v L) (ob : Nat) : ∀ (d : Nat) (tv : Value) (t out : List Cl) (ov : Value) (w : World), Ext w0 w → Sl CL w (fun k => ok0 k ∧ k < w0.heap.size) tv t → OutAt w0.heap.size w ob ov out → out.length ≤ 256 → DeepOk L d t out → d ≤ 256 → t.length ≤ 2147483648 →
    Calls Tryd.prog 55 #[v, .pointer (some ⟨ob, 0, none⟩), tv, .int .i64 d] w (ResP L w0 ob t out) := by
  replace h0 := h0.lt
  have hL := h0.okL
  have HN := Lib.hid (fun tv t w1 (hE : Ext w0 w1) (okT : Ok) (ht : Sl CL w1 okT tv t) => next_calls v L (fun k => ok0 k ∧ k < w0.heap.size) tv t w1 (h0.ext hE) ht)
  have HF := Lib.hid (fun tv t w1 (hE : Ext w0 w1) (ht : Sl CL w1 (fun k => ok0 k ∧ k < w0.heap.size) tv t) => follow_calls v L (fun k => ok0 k ∧ k < w0.heap.size) tv t w1 (h0.ext hE) ht)
  have HL := Lib.hid hL
  clear h0 hL
  intro d
  induction d using Nat.strongRecOn with
  | _ d ih =>
  intro tv t out ov w hE ht hO hol hdp hd hl
  have IH := Lib.hid ih
  have HE := Lib.hid hE
  have HO := Lib.hid hO
  have HDP := Lib.hid hdp
  clear ih hE hO hdp
  obtain ⟨A, c, rfl, hc, hr⟩ := ht
  have HT := Lib.hid hr
  clear hr
  go_enter Tryd.func55, Tryd.ntmps55
  go_wp2
  go_loopw [15] (fun u wr => ∃ k acc ov, k ≤ t.length ∧ u = .int .i64 (k : Nat) ∧ Hid (OutAt w0.heap.size wr ob ov (out ++ acc)) ∧ Hid (ResL L (t.take k) acc) ∧ Hid (Ext w0 wr) ∧ Hid ((out ++ acc).length ≤ 256) ∧ Hid (DeepOk L d (t.drop k) (out ++ acc))) (fun u _ => t.length - (intOf u).toNat)
  case atStart => exact ⟨0, [], ov, Nat.zero_le _, rfl, Lib.hid (by simpa using HO.out), Lib.hid .nil, Lib.hid HE.out, Lib.hid (by simpa using hol), Lib.hid (by simpa using HDP.out)⟩
  case round =>
    obtain ⟨k, acc, ov1, hk, rfl, HOt, HR, HEr, HLen, HD⟩ := hrel
    obtain ⟨cur, hcur⟩ : ∃ cur, cur = out ++ acc := ⟨_, rfl⟩
    rw [← hcur] at HOt HLen HD
    have HCur := Lib.hid hcur
    clear hcur
    by_cases hlt : k < t.length
    · obtain ⟨b, o, rfl, _, _⟩ := HT.out.some_ (by omega)
      obtain ⟨⟨x0, x1, x2, ⟨x3, x4⟩⟩, hx⟩ : ∃ x, t[k]? = some x := ⟨_, List.getElem?_eq_getElem hlt⟩
      obtain ⟨_, _, hxo, hc0, hc1, hc2, hc3, hc4⟩ := Sl.cl_at (n := 0) (c := 0) (HT.out.old HE.out HEr.out) hx
      have hd' : t.drop k = ⟨x0, x1, x2, ⟨x3, x4⟩⟩ :: t.drop (k + 1) := by
        rw [List.drop_eq_getElem_cons hlt]
        rw [List.getElem?_eq_getElem hlt] at hx
        rw [Option.some.inj hx]
      have htk : t.take (k + 1) = t.take k ++ [⟨x0, x1, x2, ⟨x3, x4⟩⟩] := by rw [List.take_add_one, hx]; rfl
      have HDr := Lib.hid hd'
      have HTk := Lib.hid htk
      have HX := Lib.hid hxo
      have HB := Lib.hid (Sl.box_at (d := CL) (w := wr.alloc (.cells #[.int .u8 x0, .string x1, .int .i64 x2, .int .i64 x3, .int .i64 x4] 36)) (N := wr.heap.size + 1) (ok := fun _ => False) (x := ⟨x0, x1, x2, ⟨x3, x4⟩⟩) (cs := #[.int .u8 x0, .string x1, .int .i64 x2, .int .i64 x3, .int .i64 x4]) (e := 36) (by simp) ⟨rfl, HX.out⟩)
      clear hx hd' htk hxo
      cases hn : nextS L [⟨x0, x1, x2, ⟨x3, x4⟩⟩] with
      | none =>
        have HNx := Lib.hid (HN.out _ _ _ (HEr.out.trans (by repeat (first | with_reducible exact Ext.refl _ | assumption | refine Ext.alloc ?_ _ | refine Ext.drewN ?_ _ | refine Ext.drew ?_ | refine Ext.set ?_ (by simp <;> omega) _ _ | refine Ext.trans ?_ (by assumption)))) _ HB.out)
        rw [hn] at HNx
        have Hn := Lib.hid hn
        clear hn
        go_wp2_with (go_at_call 52; refine HNx.out.mono ?_; rintro e w2 ⟨⟨u, rfl, hu⟩, hw⟩; obtain ⟨hcc, hff⟩ := bcell hw; have HW2 := Lib.hid hw; clear hu hw)
        have HO2 := Lib.hid (HOt.out.ext ((((Ext.refl _).alloc _).alloc _).trans HW2.out))
        have hoc : w2.cell? ⟨ob, 0, none⟩ = some ov1 := cell_of_row w2 ob 0 _ _ _ HO2.out.2.1
        obtain ⟨A1, c1, rfl, _, _⟩ := HO2.out.2.2.sl
        have hobl := HO2.out.lt
        have HB2 := Lib.hid (Sl.box_at (d := CL) (w := w2) (N := w2.heap.size) (ok := fun _ => False) (x := ⟨x0, x1, x2, ⟨x3, x4⟩⟩) (cs := #[.int .u8 x0, .string x1, .int .i64 x2, .int .i64 x3, .int .i64 x4]) (e := 36) rfl ⟨rfl, HX.out⟩)
        have hE2 : Ext w0 w2 := HEr.out.trans ((((Ext.refl _).alloc _).alloc _).trans HW2.out)
        have HE2 := Lib.hid hE2
        rename_i hE2'
        clear hE2'
        go_region_law (refine step_append_mine (d := CL) (ok2 := fun k => w0.heap.size ≤ k) rfl (.tmp 32) (.tmp 34) 24 36 zCl 48 w0.heap.size rfl Tryd.underlying24 info_cl rfl (HO2.out.2.2.ext (by repeat (first | with_reducible exact Ext.refl _ | assumption | refine Ext.alloc ?_ _ | refine Ext.drewN ?_ _ | refine Ext.drew ?_ | refine Ext.set ?_ (by simp <;> omega) _ _ | refine Ext.trans ?_ (by assumption)))) (HB2.out.ext (by repeat (first | with_reducible exact Ext.refl _ | assumption | refine Ext.alloc ?_ _ | refine Ext.drewN ?_ _ | refine Ext.drew ?_ | refine Ext.set ?_ (by simp <;> omega) _ _ | refine Ext.trans ?_ (by assumption)))) rfl rfl (fun _ h => h) ?_ (.inl fun _ _ _ _ _ _ h => h) ?_ (by decide) ?_ ?_; (focus (intro k hk; have := HE2.out.le; simp at hk; omega)); (focus (have := HLen.out; simp; omega)); (focus (have := HE2.out.le; simp; omega)); intro v' w4 hown hg hat; have hnx := OutAt.next (HO2.out.ext (by repeat (first | with_reducible exact Ext.refl _ | assumption | refine Ext.alloc ?_ _ | refine Ext.drewN ?_ _ | refine Ext.drew ?_ | refine Ext.set ?_ (by simp <;> omega) _ _ | refine Ext.trans ?_ (by assumption)))) hg hat hown; obtain ⟨ho1, ho2, ho3⟩ := hnx; have HG := Lib.hid hg; have HO3 := Lib.hid ho3; have hsl := Own.sl hown; obtain ⟨A4, c4, rfl, _, _⟩ := hsl; clear hown hg hat ho3)
        all_goals
          by_cases hl2 : cur.length + 1 ≤ 256
          · have g : decide ((256 : Int) < (cur.length : Int) + 1) = false := by simp; omega
            have HL2 := Lib.hid hl2
            clear hl2
            have HE4 := Lib.hid ((HE2.out.trans (by repeat (first | with_reducible exact Ext.refl _ | assumption | refine Ext.alloc ?_ _ | refine Ext.drewN ?_ _ | refine Ext.drew ?_ | refine Ext.set ?_ (by simp <;> omega) _ _ | refine Ext.trans ?_ (by assumption))) : Ext w0 (w2.alloc (.cells #[.int .u8 x0, .string x1, .int .i64 x2, .int .i64 x3, .int .i64 x4] 36)).drew).grown HG.out HO2.out.2.2.base_le)
            go_wp2
            refine ⟨⟨k + 1, acc ++ [⟨x0, x1, x2, ⟨x3, x4⟩⟩], .slice A4 (cur.length + 1) c4, by omega, by go_num, Lib.hid ?_, Lib.hid ?_, Lib.hid (HE4.out.set HO2.out.1 _ _), Lib.hid ?_, Lib.hid ?_⟩, by simp [intOf]; omega⟩
            · rw [← List.append_assoc, ← HCur.out]
              simpa using HO3.out
            · rw [HTk.out]
              exact HR.out.append (.stay Hn.out .nil)
            · have := HL2.out
              rw [HCur.out] at this
              simp at this ⊢
              omega
            · exact HD.out.more (by rw [HCur.out]; simp; omega)
          · have g : decide ((256 : Int) < (cur.length : Int) + 1) = true := by simp; omega
            have hno := res_stay_long (out := out) HR.out HDr.out Hn.out HCur.out (by omega)
            have HNo := Lib.hid hno
            have HE4 := Lib.hid ((HE2.out.trans (by repeat (first | with_reducible exact Ext.refl _ | assumption | refine Ext.alloc ?_ _ | refine Ext.drewN ?_ _ | refine Ext.drew ?_ | refine Ext.set ?_ (by simp <;> omega) _ _ | refine Ext.trans ?_ (by assumption))) : Ext w0 (w2.alloc (.cells #[.int .u8 x0, .string x1, .int .i64 x2, .int .i64 x3, .int .i64 x4] 36)).drew).grown HG.out HO2.out.2.2.base_le)
            clear hl2 hno
            go_wp2
            go_ret
            exact ⟨HE4.out.set HO2.out.1 _ _, .inr ⟨rfl, HNo.out⟩⟩
      | some q =>
        have HNx := Lib.hid (HN.out _ _ _ (HEr.out.trans (by repeat (first | with_reducible exact Ext.refl _ | assumption | refine Ext.alloc ?_ _ | refine Ext.drewN ?_ _ | refine Ext.drew ?_ | refine Ext.set ?_ (by simp <;> omega) _ _ | refine Ext.trans ?_ (by assumption)))) _ HB.out)
        rw [hn] at HNx
        have Hn := Lib.hid hn
        clear hn
        have HD2 : Hid (256 ≤ d + cur.length) := by
          rcases HD.out with h | ⟨_, h⟩
          · exact h
          · have := h ⟨x0, x1, x2, ⟨x3, x4⟩⟩ (by rw [HDr.out]; rfl)
            rw [Hn.out] at this
            cases this
        have hql : q.length ≤ 2147483648 := by
          obtain ⟨_, _, _, hg⟩ := nextS_some Hn.out
          have := getL_small HL.out hg
          omega
        have HQL := Lib.hid hql
        clear hql
        rcases Nat.eq_zero_or_pos d with rfl | hdpos
        · have hno := res_go_long HL.out (out := out) HR.out HDr.out Hn.out HCur.out (res_zero HL.out Hn.out (by have := HD2.out; omega))
          have HNo := Lib.hid hno
          clear hno
          go_wp2_with (go_at_call 52; refine HNx.out.mono ?_; rintro e w2 ⟨⟨u, rfl, hu⟩, hw⟩; have HW2 := Lib.hid hw; clear hu hw)
          go_ret
          exact ⟨HEr.out.trans (by repeat (first | with_reducible exact Ext.refl _ | assumption | refine Ext.alloc ?_ _ | refine Ext.drewN ?_ _ | refine Ext.drew ?_ | refine Ext.set ?_ (by simp <;> omega) _ _ | refine Ext.trans ?_ (by assumption))), .inr ⟨rfl, HNo.out⟩⟩
        · have gd : ((d : Int) == 0) = false := beq_eq_false_iff_ne.2 (by omega)
          go_wp2_with (first | (go_at_call 52; refine HNx.out.mono ?_; rintro e w2 ⟨⟨u, rfl, hu⟩, hw⟩; have HW2 := Lib.hid hw; have HU := Lib.hid hu; clear hu hw) | (go_at_call 60; refine (HF.out _ _ _ (HEr.out.trans (by repeat (first | with_reducible exact Ext.refl _ | assumption | refine Ext.alloc ?_ _ | refine Ext.drewN ?_ _ | refine Ext.drew ?_ | refine Ext.set ?_ (by simp <;> omega) _ _ | refine Ext.trans ?_ (by assumption)))) HU.out).mono ?_; rintro e w3 ⟨⟨u3, rfl, hu3⟩, hw3⟩; have HW3 := Lib.hid hw3; have HU3 := Lib.hid hu3; clear hu3 hw3))
          have hle := followS_len HL.out _ q (Nat.le_refl _) HQL.out
          have hEr3 : Ext wr w3 := ((((Ext.refl _).alloc _).alloc _).trans HW2.out).trans HW3.out
          have HO3 := HOt.out.ext hEr3
          have HE3 : Ext w0 w3 := HEr.out.trans hEr3
          have HI := IH.out (d - 1) (by omega) u3 (followS L q) cur ov1 w3 HE3 HU3.out HO3 HLen.out (.inr ⟨by have := HD2.out; omega, head_stays HL.out Hn.out⟩) (by omega) hle
          rw [show (((d - 1 : Nat) : Int)) = (d : Int) - 1 by omega] at HI
          refine HI.mono ?_
          clear HI hle HO3 hEr3
          rintro e w4 ⟨hE4, ⟨rfl, r1, ov4, hr1, hlr, ho4⟩ | ⟨rfl, hno⟩⟩
          · have HR1 := Lib.hid hr1
            have HO4 := Lib.hid ho4
            have HE4 := Lib.hid hE4
            have HLr := Lib.hid hlr
            have hoc : w4.cell? ⟨ob, 0, none⟩ = some ov4 := cell_of_row w4 ob 0 _ _ _ HO4.out.2.1
            obtain ⟨A4, c4, rfl, _, _⟩ := HO4.out.2.2.sl
            have hpos := hr1.pos HL.out (followS_ne HL.out _ (Nat.le_refl _) (next_ne HL.out Hn.out))
            have g : decide ((256 : Int) < (cur.length : Int) + (r1.length : Int)) = false := by simp at hlr ⊢; omega
            clear hr1 ho4 hE4 hlr HE3
            go_wp2
            refine ⟨⟨k + 1, acc ++ r1, .slice A4 (cur ++ r1).length c4, by omega, by go_num, Lib.hid ?_, Lib.hid ?_, HE4, Lib.hid ?_, Lib.hid ?_⟩, by simp [intOf]; omega⟩
            · rw [← List.append_assoc, ← HCur.out]
              exact HO4.out
            · rw [HTk.out]
              have := HR.out.append (.go Hn.out HR1.out .nil)
              simpa using this
            · have := HLr.out
              rw [HCur.out, List.append_assoc] at this
              exact this
            · exact HD.out.more (by rw [HCur.out]; simp; omega)
          · have hno' := res_go_long HL.out (out := out) HR.out HDr.out Hn.out HCur.out hno
            have HNo := Lib.hid hno'
            have HE4 := Lib.hid hE4
            clear hno hno' hE4 HE3
            go_wp2
            go_ret
            exact ⟨HE4.out, .inr ⟨rfl, HNo.out⟩⟩
    · obtain rfl : k = t.length := by omega
      have hr := HR.out
      rw [List.take_length] at hr
      have HRR := Lib.hid hr
      clear hr hlt
      go_wp2
      go_ret
      exact ⟨HEr.out, .inl ⟨rfl, acc, ov1, HRR.out, HCur.out ▸ HLen.out, HCur.out ▸ HOt.out⟩⟩

/-- What Resolve's two results are worth: the errors are 0, 5 (too long) and 6 (no term). -/
def ResolveP (w : World) (L : List Bd) (t : List Cl) (e : Ending) (w' : World) : Prop :=
  (∃ v, e = .returned (.tuple #[v, .int .i64 (if rightS t then (if (resolveS L t).isSome then 0 else 5) else 6)]) ∧ OwnT w w' v (if rightS t then (resolveS L t).getD [] else [])) ∧ Ext w w'

set_option maxRecDepth 100000 in
set_option maxHeartbeats 1000000 in
theorem Resolve_calls (v : Value) (L : List Bd) (ok : Ok) (w : World) (p r : Nat) (hv : v = .pointer (some ⟨p, 0, none⟩)) (h : HeapAt w ok p r L) (tv : Value) (t : List Cl) (ht : Sl CL w ok tv t) (hg : Sg w) :
    Calls Tryd.prog 17 #[v, tv] w (ResolveP w L t) := by
  have hO : HeapOr w ok v L := .inr ⟨p, r, hv, h⟩
  subst hv
  have HO := Lib.hid hO
  have HT := Lib.hid ht.lt
  have HR := Lib.hid (right_calls tv t ok w ht hg)
  have hok := hO.okL
  have HK := Lib.hid hok
  clear hO h hg ht hok
  cases hr : rightS t
  · have HR2 := Lib.hid (HR.out.mono (fun e w' h => (⟨by rw [h.1, hr], h.2⟩ : e = .returned (.bool false) ∧ Ext w w')))
    have HRR := Lib.hid hr
    clear hr
    go_enter Tryd.func17, Tryd.ntmps17
    go_wp2_with (go_at_call 54; refine HR2.out.mono ?_; rintro e w1 ⟨rfl, hw⟩; have HW := Lib.hid hw; clear hw)
    go_ret2
    refine ⟨⟨.slice none 0 0, ?_, ?_⟩, HW.out⟩
    · rw [HRR.out]; rfl
    · rw [HRR.out]; exact Own.nil _ _ _ _ _
  · have HR2 := Lib.hid (HR.out.mono (fun e w' h => (⟨by rw [h.1, hr], h.2⟩ : e = .returned (.bool true) ∧ Ext w w')))
    have hl : t.length ≤ 256 := (rightS_iff.1 hr).2.1
    have HL := Lib.hid hl
    have HRR := Lib.hid hr
    clear hr hl
    go_enter Tryd.func17, Tryd.ntmps17
    go_wp2_with (go_at_call 54; refine HR2.out.mono ?_; rintro e w1 ⟨rfl, hw⟩; have HW := Lib.hid hw; clear hw)
    have hout : OutAt w.heap.size (w1.alloc (.cells #[.slice none 0 0] 24)) w1.heap.size (.slice none 0 0) [] := ⟨HW.out.le, heap_alloc_new w1 _, Own.nil _ _ _ _ _⟩
    have HI := resolve_calls _ L ok w HO.out w1.heap.size 256 tv t [] (.slice none 0 0) _ (HW.out.alloc _) (HT.out.ext (HW.out.alloc _)) hout (by simp) (.inl (by simp)) (by omega) (by have := HL.out; omega)
    rw [show (((256 : Nat) : Int)) = 256 from rfl] at HI
    refine HI.mono ?_
    clear HI hout
    rintro e w2 ⟨hE, ⟨rfl, r1, ov, hr1, hl1, ho⟩ | ⟨rfl, hno⟩⟩
    · have hoc : w2.cell? ⟨w1.heap.size, 0, none⟩ = some ov := cell_of_row w2 _ 0 _ _ _ ho.2.1
      have HS := Lib.hid (resolveS_some hr1 (by simpa using hl1))
      have HOw := Lib.hid ho.2.2
      have HE := Lib.hid hE
      obtain ⟨A4, c4, rfl, _, _⟩ := ho.2.2.sl
      clear hr1 hl1 ho hE
      go_wp2
      go_ret2
      refine ⟨⟨.slice A4 ([] ++ r1).length c4, ?_, ?_⟩, HE.out⟩
      · rw [HRR.out, HS.out]; rfl
      · rw [HRR.out, HS.out]; exact HOw.out
    · have HS := Lib.hid (resolveS_none (L := L) (t := t) (by simpa using hno))
      have HE := Lib.hid hE
      clear hno hE
      go_wp2
      go_ret2
      refine ⟨⟨.slice none 0 0, ?_, ?_⟩, HE.out⟩
      · rw [HRR.out, HS.out]; rfl
      · rw [HRR.out, HS.out]; exact Own.nil _ _ _ _ _

end Go.Proofs.YtehljfnoicppnaaDoor
