/- HeapResolves' walk: it answers true. Conditions: fewer than 2^31 bindings, each term of at most 2^31 cells; the list of signs holds what the program lays there. -/
import Derived.Test.YtehljfnoicppnaaDoorBothB
import Derived.Test.YtehljfnoicppnaaDoorResC
import Derived.Test.YtehljfnoicppnaaDoorResB
open Go Go.RowKit
set_option linter.unusedVariables false
namespace Go.Proofs.YtehljfnoicppnaaDoor

theorem vars_mem {c : Nm} : ∀ (t : List Cl) (acc : List Nm), c ∈ varsT acc t → c ∈ acc ∨ ∃ x ∈ t, x.k = 4 ∧ x.v = c
  | [], acc, h => .inl h
  | x :: t, acc, h => by
    have h' : c ∈ varsT (addV acc x) t := h
    rcases vars_mem t _ h' with h1 | ⟨y, hy, h2⟩
    · unfold addV at h1
      split at h1
      · rename_i hk
        rcases List.mem_append.1 h1 with h1 | h1
        · exact .inl h1
        · simp at h1
          exact .inr ⟨x, by simp, hk.1, h1.symm⟩
      · exact .inl h1
    · exact .inr ⟨y, List.mem_cons_of_mem _ hy, h2⟩

/-- A heap and a term that lie anywhere. -/
theorem ResolveAny_calls (p r : Nat) (L : List Bd) (okH okT : Ok) (w : World) (h : HeapAt w okH p r L) (tv : Value) (t : List Cl) (ht : Sl CL w okT tv t) (hg : Sg w) :
    Calls Tryd.prog 17 #[.pointer (some ⟨p, 0, none⟩), tv] w (ResolveP w L t) :=
  Resolve_calls _ L (fun _ => True) w p r rfl (h.imp fun _ _ => trivial) tv t (ht.imp fun _ _ => trivial) hg

set_option maxRecDepth 100000 in
set_option maxHeartbeats 4000000 in
theorem heapResolves_calls (lv : Value) (l : List Bd) (tv : Value) (t : List Cl) (ok okT : Ok) (w : World) (h : Sl BD w ok lv l) (ht : Sl CL w okT tv t) (hl : l.length ≤ 2147483647) (hls : ∀ b ∈ l, b.t.length ≤ 2147483648) (hg : Sg w) :
    Calls Tryd.prog 4 #[lv, tv] w fun e w' => e = .returned (.bool true) ∧ Ext w w' := by
  have HT := Lib.hid ht
  have HG := Lib.hid hg
  have HBo := Lib.hid (both_calls lv l ok w h hl hls hg)
  obtain ⟨tA, tc, rfl, _, _⟩ := ht
  obtain ⟨lA, lc, rfl, _, _⟩ := h
  clear hg hls
  obtain ⟨L, hL⟩ : ∃ L, L = bothL l [] := ⟨_, rfl⟩
  have HL := Lib.hid hL
  clear hL
  cases hr : rightS t
  · have HR := Lib.hid hr
    clear hr
    go_enter Tryd.func4, Tryd.ntmps4
    go_wp2_with fail
    refine HBo.out.mono ?_
    rintro e w1 ⟨p, r, q, rfl, ⟨ok1, _, hH, hR, _⟩, hE1⟩
    rw [← HL.out] at hH hR
    have HH := Lib.hid hH
    have HE1 := Lib.hid hE1
    clear hH hR hE1
    go_wp2_with fail
    refine (ResolveAny_calls p r L _ _ _ HH.out _ t (HT.out.ext HE1.out) (HG.out.ext HE1.out)).mono ?_
    rintro e w2 ⟨⟨v, rfl, _⟩, hE2⟩
    rw [HR.out]
    have HE2 := Lib.hid (HE1.out.trans hE2)
    clear hE2
    go_wp2_with fail
    refine (live_calls _ (HG.out.ext HE2.out)).mono ?_
    rintro e w3 ⟨rfl, hE3⟩
    have HE3 := Lib.hid (HE2.out.trans hE3)
    clear hE3
    go_wp2
    go_ret
    exact ⟨rfl, HE3.out⟩
  cases hs : resolveS L t with
  | none =>
    have HR := Lib.hid hr
    have HS := Lib.hid hs
    clear hr hs
    go_enter Tryd.func4, Tryd.ntmps4
    go_wp2_with fail
    refine HBo.out.mono ?_
    rintro e w1 ⟨p, r, q, rfl, ⟨ok1, _, hH, hR, _⟩, hE1⟩
    rw [← HL.out] at hH hR
    have HH := Lib.hid hH
    have HE1 := Lib.hid hE1
    clear hH hR hE1
    go_wp2_with fail
    refine (ResolveAny_calls p r L _ _ _ HH.out _ t (HT.out.ext HE1.out) (HG.out.ext HE1.out)).mono ?_
    rintro e w2 ⟨⟨v, rfl, _⟩, hE2⟩
    rw [HR.out, HS.out]
    have HE2 := Lib.hid (HE1.out.trans hE2)
    clear hE2
    go_wp2_with fail
    refine (live_calls _ (HG.out.ext HE2.out)).mono ?_
    rintro e w3 ⟨rfl, hE3⟩
    have HE3 := Lib.hid (HE2.out.trans hE3)
    clear hE3
    go_wp2
    go_ret
    exact ⟨rfl, HE3.out⟩
  | some s =>
    have HR := Lib.hid hr
    have HS := Lib.hid hs
    clear hr hs
    go_enter Tryd.func4, Tryd.ntmps4
    go_wp2_with fail
    refine HBo.out.mono ?_
    rintro e w1 ⟨p, r, q, rfl, ⟨ok1, _, hH, hR, _⟩, hE1⟩
    rw [← HL.out] at hH hR
    have HGd := Lib.hid (resolved_good hH.2.2 HR.out HS.out)
    have HH := Lib.hid hH
    have HE1 := Lib.hid hE1
    clear hH hR hE1
    go_wp2_with fail
    refine (ResolveAny_calls p r L _ _ _ HH.out _ t (HT.out.ext HE1.out) (HG.out.ext HE1.out)).mono ?_
    rintro e w2 ⟨⟨v, rfl, hv⟩, hE2⟩
    rw [HR.out, HS.out] at hv ⊢
    have HE2 := Lib.hid (HE1.out.trans hE2)
    have HH2 := Lib.hid (HH.out.ext hE2)
    have HV : Hid (Sl CL w2 (fun k => w1.heap.size ≤ k) v s) := Lib.hid (Own.sl hv)
    have hsl : s.length ≤ 256 := (rightS_iff.1 HGd.out.1).2.1
    have HSL := Lib.hid hsl
    obtain ⟨vA, vc, rfl, _, _⟩ := HV.out
    clear hv hE2 hsl
    go_wp2_with fail
    refine (ResolveAny_calls p r L _ _ _ HH2.out _ s HV.out (HG.out.ext HE2.out)).mono ?_
    rintro e w3 ⟨⟨v3, rfl, hv3⟩, hE3⟩
    rw [HGd.out.1, HGd.out.2.1] at hv3 ⊢
    have HE3 := Lib.hid (HE2.out.trans hE3)
    have HH3 := Lib.hid (HH2.out.ext hE3)
    have HV3 : Hid (Sl CL w3 (fun k => w2.heap.size ≤ k) v3 s) := Lib.hid (Own.sl hv3)
    have HV2 := Lib.hid (HV.out.ext hE3)
    obtain ⟨v3A, v3c, rfl, _, _⟩ := HV3.out
    clear hv3 hE3
    go_wp2_with fail
    refine (varsOf_calls _ s _ _ HV2.out (by have := HSL.out; omega)).mono ?_
    rintro e w4 ⟨⟨v4, rfl, hv4⟩, hE4⟩
    have HN4 : Hid (Sl NM w4 (fun k => w3.heap.size ≤ k) v4 (varsT [] s)) := Lib.hid hv4.sl
    obtain ⟨NS, hns⟩ : ∃ NS, NS = varsT [] s := ⟨_, rfl⟩
    rw [← hns] at HN4
    have HNS : Hid (∀ x ∈ NS, getL L x = none) := Lib.hid (by
      intro x hx
      rw [hns] at hx
      rcases vars_mem s [] hx with h | ⟨c, hc, hk, rfl⟩
      · simp at h
      · exact HGd.out.2.2 c hc hk)
    have HE4 := Lib.hid (HE3.out.trans hE4)
    have HH4 := Lib.hid (HH3.out.ext hE4)
    have HV24 := Lib.hid (HV2.out.ext hE4)
    have HV34 := Lib.hid (HV3.out.ext hE4)
    obtain ⟨nA, nc, rfl, _, hrd⟩ := HN4.out
    have hnl := hrd.1
    unfold maxLen at hnl
    have HRD := Lib.hid hrd
    clear hns hv4 hE4 hrd
    go_wp2_with fail
    go_loopg [13] NS.length (fun g s13 wr => ∃ i : Nat, i ≤ NS.length ∧ NS.length - i ≤ g ∧ s13 = .int .i64 i ∧ Hid (Ext w4 wr))
    case atStart => exact ⟨0, Nat.zero_le _, Nat.le_refl _, rfl, Lib.hid (Ext.refl _)⟩
    case round =>
      obtain ⟨i, hi, hg, rfl, HE⟩ := hrel
      by_cases hlt : i < NS.length
      · obtain ⟨⟨a, b⟩, hx⟩ : ∃ x, NS[i]? = some x := ⟨_, List.getElem?_eq_getElem hlt⟩
        obtain ⟨gb, go, rfl, _, _⟩ := HRD.out.some_ (by omega)
        obtain ⟨_, _, hc0, hc1⟩ := (HRD.out.ext HE.out).nm_at hx
        have HGN := Lib.hid (HNS.out _ (List.mem_of_getElem? hx))
        clear hx
        go_wp2_with fail
        refine (Value_calls _ L _ a b wr (.inr ⟨p, r, rfl, HH4.out.ext HE.out⟩)).mono ?_
        rintro e w5 ⟨⟨v5, rfl, _⟩, hE5⟩
        rw [HGN.out]
        have HE5 := Lib.hid hE5
        clear hE5
        go_wp2_with fail
        go_roundg (NS.length - (i + 1))
        case measure => omega
        case rel => exact ⟨i + 1, by omega, Nat.le_refl _, by go_num, Lib.hid (HE.out.trans HE5.out)⟩
      · obtain rfl : i = NS.length := by omega
        go_wp2_with fail
        refine (live_calls _ (HG.out.ext (HE4.out.trans HE.out))).mono ?_
        rintro e w5 ⟨rfl, hE5⟩
        have HE5 := Lib.hid hE5
        clear hE5
        go_wp2_with fail
        refine (equal_calls _ _ s s _ _ w5 (HV24.out.ext (HE.out.trans HE5.out)) (HV34.out.ext (HE.out.trans HE5.out))).mono ?_
        rintro e w6 ⟨rfl, hE6⟩
        rw [show tmEq s s = true by simp [tmEq]]
        have HE6 := Lib.hid hE6
        clear hE6
        go_wp2
        go_ret
        exact ⟨rfl, ((HE4.out.trans HE.out).trans HE5.out).trans HE6.out⟩

end Go.Proofs.YtehljfnoicppnaaDoor
