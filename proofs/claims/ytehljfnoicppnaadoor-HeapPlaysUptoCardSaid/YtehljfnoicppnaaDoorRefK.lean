/- The reference's resolved and Resolve, by their contracts. Conditions: the heap is one of the reference's whose values may be. -/
import Derived.Test.YtehljfnoicppnaaDoorRefJ
import Derived.Test.YtehljfnoicppnaaDoorResB
open Go Go.RowKit
set_option linter.unusedVariables false
namespace Go.Proofs.YtehljfnoicppnaaDoor

theorem res_stay_over {L : List Bd} {t acc rest : List Cl} {k most : Nat} {x : Cl} (hR : ResL L (t.take k) acc) (hd : t.drop k = x :: rest) (hn : nextS L [x] = none) (hl : most < acc.length + 1) : ¬ ∃ r, ResL L t r ∧ r.length ≤ most := by
  rintro ⟨r, hr, hle⟩
  obtain ⟨s, rfl, hs⟩ := res_split (out := []) hR hd hr
  cases hs with
  | stay _ _ => simp at hle; omega
  | go hn' _ _ => rw [hn] at hn'; cases hn'
theorem res_go_over {L : List Bd} {t acc rest q : List Cl} {k most : Nat} {x : Cl} (hR : ResL L (t.take k) acc) (hd : t.drop k = x :: rest) (hn : nextS L [x] = some q) (hl : ¬ ∃ r, ResL L (followS L q) r ∧ acc.length + r.length ≤ most) : ¬ ∃ r, ResL L t r ∧ r.length ≤ most := by
  rintro ⟨r, hr, hle⟩
  obtain ⟨s, rfl, hs⟩ := res_split (out := []) hR hd hr
  cases hs with
  | stay hn' _ => rw [hn] at hn'; cases hn'
  | go hn' h1 h2 =>
    rw [hn] at hn'
    cases hn'
    exact hl ⟨_, h1, by simp at hle; omega⟩
/-- How deep it may be, for how much room. -/
def RoomOk (L : List Bd) (deep most : Nat) (t out : List Cl) : Prop := deep + most ≤ 256 + out.length ∨ (deep + most ≤ 257 + out.length ∧ ∀ c ∈ t.head?, nextS L [c] = none)
theorem RoomOk.more {L : List Bd} {d m : Nat} {t t' out out' : List Cl} (h : RoomOk L d m t out) (hl : out.length + 1 ≤ out'.length) : RoomOk L d m t' out' := by
  rcases h with h | ⟨h, _⟩
  · exact .inl (by omega)
  · exact .inl (by omega)

/-- What resolved's two results are worth. -/
def ResdP (w0 : World) (L : List Bd) (most : Nat) (t : List Cl) (e : Ending) (w' : World) : Prop :=
  Ext w0 w' ∧ ((∃ r v, e = .returned (.tuple #[v, .bool true]) ∧ ResL L t r ∧ r.length ≤ most ∧ Sl CL w' (fun k => w0.heap.size ≤ k) v r) ∨ (∃ v, e = .returned (.tuple #[v, .bool false]) ∧ ¬ ∃ r, ResL L t r ∧ r.length ≤ most))

theorem Sl.up {α : Type} {d : Cd α} {w0 w1 w : World} {v : Value} {xs : List α} (he : Ext w0 w1) (h : Sl d w (fun k => w1.heap.size ≤ k) v xs) : Sl d w (fun k => w0.heap.size ≤ k) v xs := h.imp fun k hk => Nat.le_trans he.le hk

set_option maxRecDepth 100000 in
set_option maxHeartbeats 8000000 in
theorem resolved_calls (q : Nat) (L : List Bd) (ok : Ok) (w0 : World) (h0 : RefAt w0 ok q L) (ho : OkL L) (hL : L.length ≤ 2147483647) : ∀ (n deep most : Nat) (tv : Value) (t : List Cl) (okT : Ok) (w : World), 301 ≤ n + deep → Ext w0 w → Sl CL w okT tv t → RoomOk L deep most t [] → most ≤ 256 → t.length ≤ 2147483648 →
    Calls Tryd.prog 59 #[.pointer (some ⟨q, 0, none⟩), tv, .int .i64 most, .int .i64 deep] w (ResdP w L most t) := by
  have HV := Lib.hid (fun a b w1 (hE : Ext w0 w1) => refValue_calls q L ok a b w1 (h0.ext hE))
  have HD := Lib.hid (fun tv t w1 (hE : Ext w0 w1) (ht : Sl CL w1 (fun _ => True) tv t) => refDeref_calls q L (fun _ => True) tv t w1 ((h0.ext hE).imp fun _ _ => trivial) ho ht hL)
  have HO := Lib.hid ho
  clear h0 ho
  intro n
  induction n with
  | zero =>
    intro deep most tv t okT w hn hE ht hroom hm hl
    exfalso
    rcases hroom with h | ⟨h, _⟩ <;> simp at h <;> omega
  | succ n ih =>
  intro deep most tv t okT w hn hE ht hroom hm hl
  have IH := Lib.hid ih
  have HE0 := Lib.hid hE
  have HRoom := Lib.hid hroom
  have hdp : deep ≤ 257 := by rcases hroom with h | ⟨h, _⟩ <;> simp at h <;> omega
  obtain ⟨A, c, rfl, hc, hr⟩ := ht
  have HT := Lib.hid hr
  clear ih hE hroom hr
  have gd : decide ((300 : Int) < (deep : Int)) = false := decide_eq_false (by omega)
  go_enter Tryd.func59, Tryd.ntmps59
  go_wp2_with fail
  go_loopg [10, 11, 12, 13] t.length (fun g s10 s11 s12 s13 wr => ∃ k acc, k ≤ t.length ∧ t.length - k ≤ g ∧ s11 = .int .i64 (k : Nat) ∧ Hid (Own CL 36 w.heap.size wr (fun k => w.heap.size ≤ k) s10 acc) ∧ Hid (ResL L (t.take k) acc) ∧ Hid (Ext w wr) ∧ acc.length ≤ most ∧ Hid (RoomOk L deep most (t.drop k) acc))
  case atStart => exact ⟨0, [], Nat.zero_le _, Nat.le_refl _, rfl, Lib.hid (Own.nil _ _ _ _ _), Lib.hid .nil, Lib.hid (Ext.refl _), Nat.zero_le _, Lib.hid (by simpa using HRoom.out)⟩
  case round =>
    obtain ⟨k, acc, hk, hg, rfl, HOw, HR, HE, hal, HRm⟩ := hrel
    obtain ⟨oA, oc, rfl, _, _⟩ := HOw.out.sl
    by_cases hlt : k < t.length
    · obtain ⟨b, o, rfl, _, _⟩ := HT.out.some_ (by omega)
      obtain ⟨⟨x0, x1, x2, ⟨x3, x4⟩⟩, hx⟩ : ∃ x, t[k]? = some x := ⟨_, List.getElem?_eq_getElem hlt⟩
      obtain ⟨_, _, hxo, hc0, hc1, hc2, hc3, hc4⟩ := Sl.cl_at (n := 0) (c := 0) (HT.out.ext HE.out) hx
      have hd' : t.drop k = ⟨x0, x1, x2, ⟨x3, x4⟩⟩ :: t.drop (k + 1) := by
        rw [List.drop_eq_getElem_cons hlt]
        rw [List.getElem?_eq_getElem hlt] at hx
        rw [Option.some.inj hx]
      have htk : t.take (k + 1) = t.take k ++ [⟨x0, x1, x2, ⟨x3, x4⟩⟩] := by rw [List.take_add_one, hx]; rfl
      have HDr := Lib.hid hd'
      have HTk := Lib.hid htk
      have HX := Lib.hid hxo
      have HCE : Hid (∀ w6, Ext wr w6 → w6.cell? ⟨b, o + k * 5, none⟩ = some (.int .u8 x0) ∧ w6.cell? ⟨b, o + k * 5 + 1, none⟩ = some (.string x1) ∧ w6.cell? ⟨b, o + k * 5 + 2, none⟩ = some (.int .i64 x2) ∧ w6.cell? ⟨b, o + k * 5 + 3, none⟩ = some (.int .i64 x3) ∧ w6.cell? ⟨b, o + k * 5 + 4, none⟩ = some (.int .i64 x4)) := Lib.hid fun w6 hE => ⟨hE.cell hc0, hE.cell hc1, hE.cell hc2, hE.cell hc3, hE.cell hc4⟩
      clear hx hd' htk hxo
      cases hn : nextS L [⟨x0, x1, x2, ⟨x3, x4⟩⟩] with
      | none =>
        have Hn := Lib.hid hn
        have hk4 : x0 = 4 → getL L ⟨x3, x4⟩ = none := fun h => by have := hn; simpa [nextS, h] using this
        have HK4 := Lib.hid hk4
        clear hn hk4
        by_cases hk : x0 = 4
        · subst hk
          have HGN := Lib.hid (HK4.out rfl)
          by_cases hl2 : acc.length + 1 ≤ most
          · go_wp2_with (first | (go_at_call 20; refine (HV.out _ _ _ (HE0.out.trans HE.out)).mono ?_; rintro e w1 ⟨⟨uv, rfl, hu⟩, hw⟩; rw [HGN.out]; clear hc0 hc1 hc2 hc3 hc4; obtain ⟨hc0, hc1, hc2, hc3, hc4⟩ := HCE.out _ hw; have HW := Lib.hid hw; clear hu hw) | (at_builtin; go_loud (refine wpList_append_mine (d := CL) (ok2 := fun k => w.heap.size ≤ k) rfl (.tmp 43) (.tmp 48) 24 36 zCl 48 w.heap.size rfl Tryd.underlying24 info_cl rfl (HOw.out.ext (HW.out.alloc _)) (Sl.box (d := CL) (ok := fun _ => False) (x := ⟨4, x1, x2, ⟨x3, x4⟩⟩) (cs := #[.int .u8 4, .string x1, .int .i64 x2, .int .i64 x3, .int .i64 x4]) ⟨rfl, HX.out⟩) rfl rfl (fun _ h => h) ?c2 (.inl fun _ _ _ _ _ _ h => h) ?c3 (by decide) ?c4 ?_); (case c2 => intro k hk; have := (HE.out.trans HW.out).le; (try simp at hk); omega); (case c3 => (try simp); omega); (case c4 => have := (HE.out.trans HW.out).le; (try simp); omega); intro v5 w5 hown hg hat; have HE5 : Hid (Ext w w5) := Lib.hid ((Ext.trans HE.out (HW.out.alloc _)).grown hg (fun k hk => HOw.out.base_le k hk)); obtain ⟨A5, c5, hv5, _, _⟩ := hown.sl; obtain ⟨n2, hn2⟩ : ∃ n2, n2 = (acc ++ ([⟨4, x1, x2, ⟨x3, x4⟩⟩] : List Cl)).length := ⟨_, rfl⟩; rw [← hn2] at hv5; subst hv5; have HN2 := Lib.hid hn2; have HOwn := Lib.hid hown; have hn2a : n2 ≤ most ∨ most < n2 := (by omega); have g1 : decide (most < n2) = false := (by have h := hn2; simp at h; simp; omega); clear hown hg hat hn2 hn2a))
            go_roundg (t.length - (k + 1))
            case measure => omega
            case rel =>
              refine ⟨k + 1, acc ++ [⟨4, x1, x2, ⟨x3, x4⟩⟩], by omega, Nat.le_refl _, by go_num, HOwn, Lib.hid ?_, HE5, by simp; omega, Lib.hid (HRm.out.more (by simp))⟩
              rw [HTk.out]
              exact HR.out.append (.stay Hn.out .nil)
          · have hno := res_stay_over HR.out HDr.out Hn.out (by omega : most < acc.length + 1)
            have HNo := Lib.hid hno
            clear hno
            go_wp2_with (first | (go_at_call 20; refine (HV.out _ _ _ (HE0.out.trans HE.out)).mono ?_; rintro e w1 ⟨⟨uv, rfl, hu⟩, hw⟩; rw [HGN.out]; clear hc0 hc1 hc2 hc3 hc4; obtain ⟨hc0, hc1, hc2, hc3, hc4⟩ := HCE.out _ hw; have HW := Lib.hid hw; clear hu hw) | (at_builtin; go_loud (refine wpList_append_mine (d := CL) (ok2 := fun k => w.heap.size ≤ k) rfl (.tmp 43) (.tmp 48) 24 36 zCl 48 w.heap.size rfl Tryd.underlying24 info_cl rfl (HOw.out.ext (HW.out.alloc _)) (Sl.box (d := CL) (ok := fun _ => False) (x := ⟨4, x1, x2, ⟨x3, x4⟩⟩) (cs := #[.int .u8 4, .string x1, .int .i64 x2, .int .i64 x3, .int .i64 x4]) ⟨rfl, HX.out⟩) rfl rfl (fun _ h => h) ?c2 (.inl fun _ _ _ _ _ _ h => h) ?c3 (by decide) ?c4 ?_); (case c2 => intro k hk; have := (HE.out.trans HW.out).le; (try simp at hk); omega); (case c3 => (try simp); omega); (case c4 => have := (HE.out.trans HW.out).le; (try simp); omega); intro v5 w5 hown hg hat; have HE5 : Hid (Ext w w5) := Lib.hid ((Ext.trans HE.out (HW.out.alloc _)).grown hg (fun k hk => HOw.out.base_le k hk)); obtain ⟨A5, c5, hv5, _, _⟩ := hown.sl; obtain ⟨n2, hn2⟩ : ∃ n2, n2 = (acc ++ ([⟨4, x1, x2, ⟨x3, x4⟩⟩] : List Cl)).length := ⟨_, rfl⟩; rw [← hn2] at hv5; subst hv5; have HN2 := Lib.hid hn2; have HOwn := Lib.hid hown; have hn2a : n2 ≤ most ∨ most < n2 := (by omega); have g1 : decide (most < n2) = true := (by have h := hn2; simp at h; simp; omega); clear hown hg hat hn2 hn2a))
            go_ret2
            exact ⟨HE5.out, .inr ⟨_, rfl, HNo.out⟩⟩
        · have hkb : (x0 == 4) = false := beq_eq_false_iff_ne.2 hk
          clear hk
          by_cases hl2 : acc.length + 1 ≤ most
          · go_wp2_with ((at_builtin; go_loud (refine wpList_append_mine (d := CL) (ok2 := fun k => w.heap.size ≤ k) rfl (.tmp 43) (.tmp 48) 24 36 zCl 48 w.heap.size rfl Tryd.underlying24 info_cl rfl (HOw.out.ext ((Ext.refl wr).alloc _)) (Sl.box (d := CL) (ok := fun _ => False) (x := ⟨x0, x1, x2, ⟨x3, x4⟩⟩) (cs := #[.int .u8 x0, .string x1, .int .i64 x2, .int .i64 x3, .int .i64 x4]) ⟨rfl, HX.out⟩) rfl rfl (fun _ h => h) ?c2 (.inl fun _ _ _ _ _ _ h => h) ?c3 (by decide) ?c4 ?_); (case c2 => intro k hk; have := HE.out.le; (try simp at hk); omega); (case c3 => (try simp); omega); (case c4 => have := HE.out.le; (try simp); omega); intro v5 w5 hown hg hat; have HE5 : Hid (Ext w w5) := Lib.hid ((Ext.trans HE.out ((Ext.refl wr).alloc _)).grown hg (fun k hk => HOw.out.base_le k hk)); obtain ⟨A5, c5, hv5, _, _⟩ := hown.sl; obtain ⟨n2, hn2⟩ : ∃ n2, n2 = (acc ++ ([⟨x0, x1, x2, ⟨x3, x4⟩⟩] : List Cl)).length := ⟨_, rfl⟩; rw [← hn2] at hv5; subst hv5; have HN2 := Lib.hid hn2; have HOwn := Lib.hid hown; have hn2a : n2 ≤ most ∨ most < n2 := (by omega); have g1 : decide (most < n2) = false := (by have h := hn2; simp at h; simp; omega); clear hown hg hat hn2 hn2a))
            go_roundg (t.length - (k + 1))
            case measure => omega
            case rel =>
              refine ⟨k + 1, acc ++ [⟨x0, x1, x2, ⟨x3, x4⟩⟩], by omega, Nat.le_refl _, by go_num, HOwn, Lib.hid ?_, HE5, by simp; omega, Lib.hid (HRm.out.more (by simp))⟩
              rw [HTk.out]
              exact HR.out.append (.stay Hn.out .nil)
          · have hno := res_stay_over HR.out HDr.out Hn.out (by omega : most < acc.length + 1)
            have HNo := Lib.hid hno
            clear hno
            go_wp2_with ((at_builtin; go_loud (refine wpList_append_mine (d := CL) (ok2 := fun k => w.heap.size ≤ k) rfl (.tmp 43) (.tmp 48) 24 36 zCl 48 w.heap.size rfl Tryd.underlying24 info_cl rfl (HOw.out.ext ((Ext.refl wr).alloc _)) (Sl.box (d := CL) (ok := fun _ => False) (x := ⟨x0, x1, x2, ⟨x3, x4⟩⟩) (cs := #[.int .u8 x0, .string x1, .int .i64 x2, .int .i64 x3, .int .i64 x4]) ⟨rfl, HX.out⟩) rfl rfl (fun _ h => h) ?c2 (.inl fun _ _ _ _ _ _ h => h) ?c3 (by decide) ?c4 ?_); (case c2 => intro k hk; have := HE.out.le; (try simp at hk); omega); (case c3 => (try simp); omega); (case c4 => have := HE.out.le; (try simp); omega); intro v5 w5 hown hg hat; have HE5 : Hid (Ext w w5) := Lib.hid ((Ext.trans HE.out ((Ext.refl wr).alloc _)).grown hg (fun k hk => HOw.out.base_le k hk)); obtain ⟨A5, c5, hv5, _, _⟩ := hown.sl; obtain ⟨n2, hn2⟩ : ∃ n2, n2 = (acc ++ ([⟨x0, x1, x2, ⟨x3, x4⟩⟩] : List Cl)).length := ⟨_, rfl⟩; rw [← hn2] at hv5; subst hv5; have HN2 := Lib.hid hn2; have HOwn := Lib.hid hown; have hn2a : n2 ≤ most ∨ most < n2 := (by omega); have g1 : decide (most < n2) = true := (by have h := hn2; simp at h; simp; omega); clear hown hg hat hn2 hn2a))
            go_ret2
            exact ⟨HE5.out, .inr ⟨_, rfl, HNo.out⟩⟩
      | some u =>
        have Hn := Lib.hid hn
        clear hn
        obtain ⟨_, hcc, hk, hg⟩ := nextS_some Hn.out
        injection hcc with hcc _
        subst hcc
        have hk : x0 = 4 := hk
        subst hk
        have HGS := Lib.hid (show getL L ⟨x3, x4⟩ = some u from hg)
        have hul := getL_small HO.out hg
        have HF0 := Lib.hid (followS_len HO.out _ u (Nat.le_refl _) (by omega))
        have HFE := Lib.hid (followS_end HO.out u)
        have HHS := Lib.hid (head_stays HO.out Hn.out)
        have HRm2 : Hid (deep + most ≤ 256 + acc.length) := Lib.hid (by
          rcases HRm.out with h | ⟨_, h⟩
          · exact h
          · have := h ⟨4, x1, x2, ⟨x3, x4⟩⟩ (by rw [HDr.out]; rfl)
            rw [Hn.out] at this
            cases this)
        obtain ⟨F, hF⟩ : ∃ F, F = followS L u := ⟨_, rfl⟩
        have HF := Lib.hid hF
        clear hg hul hF
        by_cases hF1 : F.length = 1
        · have gF : ((F.length : Int) == 1) = true := by simp [hF1]
          have HFR : Hid (ResL L F F) := Lib.hid (by
            obtain ⟨c, hc⟩ := List.length_eq_one_iff.1 hF1
            have h := HFE.out
            rw [← HF.out, hc] at h
            rw [hc]
            exact .stay h .nil)
          have HF1 := Lib.hid hF1
          by_cases hl2 : acc.length + 1 ≤ most
          · have hl3 : acc.length + F.length ≤ most := by omega
            clear hF1
            go_wp2_with (first | (go_at_call 20; refine (HV.out _ _ _ (HE0.out.trans HE.out)).mono ?_; rintro e w1 ⟨⟨uv, rfl, hu⟩, hw⟩; rw [HGS.out] at hu ⊢; have HU := Lib.hid hu; obtain ⟨uA, uc, rfl, _, _⟩ := hu; have HW := Lib.hid hw; clear hw) | (go_at_call 25; refine (HD.out _ u _ (HE0.out.trans (HE.out.trans HW.out)) (HU.out.imp fun _ _ => trivial)).mono ?_; rintro e w2 ⟨⟨dv, rfl, hd⟩, hw⟩; rw [← HF.out] at hd; have HDv := Lib.hid hd; obtain ⟨dA, dc, rfl, _, _⟩ := hd; have HW2 : Hid (Ext wr w2) := Lib.hid (HW.out.trans hw); clear hw; have hFl : F.length ≤ 2147483648 := (by rw [HF.out]; exact HF0.out)) | (at_builtin; go_loud (refine wpList_append_mine (d := CL) (ok2 := fun k => w.heap.size ≤ k) rfl (.tmp 60) (.tmp 61) 24 36 zCl 48 w.heap.size rfl Tryd.underlying24 info_cl rfl (HOw.out.ext HW2.out) HDv.out rfl rfl (fun _ h => h) ?c2 (.inl fun _ _ _ _ _ _ h => h) ?c3 (by decide) ?c4 ?_); (case c2 => intro k hk; have := (HE.out.trans HW2.out).le; (try simp at hk); omega); (case c3 => (try simp); omega); (case c4 => have := (HE.out.trans HW2.out).le; (try simp); omega); intro v5 w5 hown hg hat; have HE5 : Hid (Ext w w5) := Lib.hid ((Ext.trans HE.out HW2.out).grown hg (fun k hk => HOw.out.base_le k hk)); obtain ⟨A5, c5, hv5, _, _⟩ := hown.sl; obtain ⟨n2, hn2⟩ : ∃ n2, n2 = (acc ++ (F : List Cl)).length := ⟨_, rfl⟩; rw [← hn2] at hv5; subst hv5; have HN2 := Lib.hid hn2; have HOwn := Lib.hid hown; have hn2a : n2 ≤ most ∨ most < n2 := (by omega); have g1 : decide (most < n2) = false := (by have h := hn2; simp at h; simp; omega); clear hown hg hat hn2 hn2a))
            go_roundg (t.length - (k + 1))
            case measure => omega
            case rel =>
              refine ⟨k + 1, acc ++ F, by omega, Nat.le_refl _, by go_num, HOwn, Lib.hid ?_, HE5, by simp; omega, Lib.hid (HRm.out.more (by have := HF1.out; simp; omega))⟩
              rw [HTk.out]
              have := HR.out.append (.go Hn.out (by rw [← HF.out]; exact HFR.out) .nil)
              simpa using this
          · have hl3 : most < acc.length + F.length := by omega
            have hno := res_go_over HR.out HDr.out Hn.out (most := most) (by
              rintro ⟨r, hr, hle⟩
              rw [← HF.out] at hr
              have := hr.unique HFR.out
              subst this
              omega)
            have HNo := Lib.hid hno
            clear hF1 hno
            go_wp2_with (first | (go_at_call 20; refine (HV.out _ _ _ (HE0.out.trans HE.out)).mono ?_; rintro e w1 ⟨⟨uv, rfl, hu⟩, hw⟩; rw [HGS.out] at hu ⊢; have HU := Lib.hid hu; obtain ⟨uA, uc, rfl, _, _⟩ := hu; have HW := Lib.hid hw; clear hw) | (go_at_call 25; refine (HD.out _ u _ (HE0.out.trans (HE.out.trans HW.out)) (HU.out.imp fun _ _ => trivial)).mono ?_; rintro e w2 ⟨⟨dv, rfl, hd⟩, hw⟩; rw [← HF.out] at hd; have HDv := Lib.hid hd; obtain ⟨dA, dc, rfl, _, _⟩ := hd; have HW2 : Hid (Ext wr w2) := Lib.hid (HW.out.trans hw); clear hw; have hFl : F.length ≤ 2147483648 := (by rw [HF.out]; exact HF0.out)) | (at_builtin; go_loud (refine wpList_append_mine (d := CL) (ok2 := fun k => w.heap.size ≤ k) rfl (.tmp 60) (.tmp 61) 24 36 zCl 48 w.heap.size rfl Tryd.underlying24 info_cl rfl (HOw.out.ext HW2.out) HDv.out rfl rfl (fun _ h => h) ?c2 (.inl fun _ _ _ _ _ _ h => h) ?c3 (by decide) ?c4 ?_); (case c2 => intro k hk; have := (HE.out.trans HW2.out).le; (try simp at hk); omega); (case c3 => (try simp); omega); (case c4 => have := (HE.out.trans HW2.out).le; (try simp); omega); intro v5 w5 hown hg hat; have HE5 : Hid (Ext w w5) := Lib.hid ((Ext.trans HE.out HW2.out).grown hg (fun k hk => HOw.out.base_le k hk)); obtain ⟨A5, c5, hv5, _, _⟩ := hown.sl; obtain ⟨n2, hn2⟩ : ∃ n2, n2 = (acc ++ (F : List Cl)).length := ⟨_, rfl⟩; rw [← hn2] at hv5; subst hv5; have HN2 := Lib.hid hn2; have HOwn := Lib.hid hown; have hn2a : n2 ≤ most ∨ most < n2 := (by omega); have g1 : decide (most < n2) = true := (by have h := hn2; simp at h; simp; omega); clear hown hg hat hn2 hn2a))
            go_ret2
            exact ⟨HE5.out, .inr ⟨_, rfl, HNo.out⟩⟩
        · have gF : ((F.length : Int) == 1) = false := beq_eq_false_iff_ne.2 (by omega)
          have HIH : Hid (∀ (dv : Value) (okD : Ok) (w2 : World), Ext w w2 → Sl CL w2 okD dv F → F.length ≤ 2147483648 → Calls Tryd.prog 59 #[.pointer (some ⟨q, 0, none⟩), dv, .int .i64 ((most : Int) - (acc.length : Int)), .int .i64 ((deep : Int) + 1)] w2 (ResdP w2 L (most - acc.length) F)) := Lib.hid (by
            intro dv okD w2 hE2 hd hFl
            have := IH.out (deep + 1) (most - acc.length) dv F okD w2 (by omega) (HE0.out.trans hE2) hd (.inr ⟨by have := HRm2.out; simp; omega, by rw [HF.out]; exact HHS.out⟩) (by omega) hFl
            rw [show (((most - acc.length : Nat) : Int)) = (most : Int) - (acc.length : Int) by omega, show (((deep + 1 : Nat) : Int)) = (deep : Int) + 1 by omega] at this
            exact this)
          clear hF1
          go_wp2_with (first | (go_at_call 20; refine (HV.out _ _ _ (HE0.out.trans HE.out)).mono ?_; rintro e w1 ⟨⟨uv, rfl, hu⟩, hw⟩; rw [HGS.out] at hu ⊢; have HU := Lib.hid hu; obtain ⟨uA, uc, rfl, _, _⟩ := hu; have HW := Lib.hid hw; clear hw) | (go_at_call 25; refine (HD.out _ u _ (HE0.out.trans (HE.out.trans HW.out)) (HU.out.imp fun _ _ => trivial)).mono ?_; rintro e w2 ⟨⟨dv, rfl, hd⟩, hw⟩; rw [← HF.out] at hd; have HDv := Lib.hid hd; obtain ⟨dA, dc, rfl, _, _⟩ := hd; have HW2 : Hid (Ext wr w2) := Lib.hid (HW.out.trans hw); clear hw; have hFl : F.length ≤ 2147483648 := (by rw [HF.out]; exact HF0.out)) | fail)
          refine (HIH.out _ _ _ (HE.out.trans HW2.out) HDv.out hFl).mono ?_
          rintro e w4 ⟨hE4, ⟨r1, v1, rfl, hr1, hl1, hs1⟩ | ⟨v1, rfl, hno⟩⟩
          · have HE4 : Hid (Ext wr w4) := Lib.hid (HW2.out.trans hE4)
            have HR1 := Lib.hid hs1
            have HRes := Lib.hid hr1
            have hl4 : acc.length + r1.length ≤ most := by omega
            obtain ⟨rA, rc, rfl, _, _⟩ := hs1
            have hpos : 0 < r1.length := hr1.pos HO.out (by rw [HF.out]; exact followS_ne HO.out _ (Nat.le_refl _) (next_ne HO.out Hn.out))
            clear hE4 hr1
            go_wp2_with (at_builtin; go_loud (refine wpList_append_mine (d := CL) (ok2 := fun k => w.heap.size ≤ k) rfl (.tmp 77) (.tmp 78) 24 36 zCl 48 w.heap.size rfl Tryd.underlying24 info_cl rfl (HOw.out.ext HE4.out) HR1.out rfl rfl (fun _ h => h) ?c2 (.inl fun _ _ _ _ _ _ h => h) ?c3 (by decide) ?c4 ?_); (case c2 => intro k hk; have := (HE.out.trans HE4.out).le; (try simp at hk); omega); (case c3 => (try simp); omega); (case c4 => have := (HE.out.trans HE4.out).le; (try simp); omega); intro v5 w5 hown hg hat; have HE5 : Hid (Ext w w5) := Lib.hid ((Ext.trans HE.out HE4.out).grown hg (fun k hk => HOw.out.base_le k hk)); obtain ⟨A5, c5, hv5, _, _⟩ := hown.sl; obtain ⟨n2, hn2⟩ : ∃ n2, n2 = (acc ++ (r1 : List Cl)).length := ⟨_, rfl⟩; rw [← hn2] at hv5; subst hv5; have HN2 := Lib.hid hn2; have HOwn := Lib.hid hown; have hn2a : n2 ≤ most ∨ most < n2 := (by omega); have g1 : decide (most < n2) = false := (by have h := hn2; simp at h; simp; omega); clear hown hg hat hn2 hn2a)
            go_roundg (t.length - (k + 1))
            case measure => omega
            case rel =>
              refine ⟨k + 1, acc ++ r1, by omega, Nat.le_refl _, by go_num, HOwn, Lib.hid ?_, HE5, by simp; omega, Lib.hid (HRm.out.more (by simp; omega))⟩
              rw [HTk.out]
              have := HR.out.append (.go Hn.out (by rw [← HF.out]; exact HRes.out) .nil)
              simpa using this
          · have hno' := res_go_over HR.out HDr.out Hn.out (most := most) (by
              rintro ⟨r, hr, hle⟩
              rw [← HF.out] at hr
              exact hno ⟨r, hr, by omega⟩)
            have HNo := Lib.hid hno'
            have HE4 : Hid (Ext wr w4) := Lib.hid (HW2.out.trans hE4)
            clear hno hno' hE4
            go_wp2
            go_ret2
            exact ⟨HE.out.trans HE4.out, .inr ⟨_, rfl, HNo.out⟩⟩
    · obtain rfl : k = t.length := by omega
      have hr := HR.out
      rw [List.take_length] at hr
      have HRR := Lib.hid hr
      clear hr hlt
      go_wp2_with fail
      go_ret2
      exact ⟨HE.out, .inl ⟨acc, _, rfl, HRR.out, hal, HOw.out.sl⟩⟩

/-- What the reference's Resolve tells. -/
def RResolveP (w : World) (L : List Bd) (t : List Cl) (e : Ending) (w' : World) : Prop :=
  (∃ v, e = .returned (.tuple #[v, .int .i64 (if rightS t then (if (resolveS L t).isSome then 0 else 5) else 6)]) ∧ Sl CL w' (fun k => w.heap.size ≤ k) v (if rightS t then (resolveS L t).getD [] else [])) ∧ Ext w w'

set_option maxRecDepth 100000 in
set_option maxHeartbeats 1000000 in
theorem refResolve_calls (q : Nat) (L : List Bd) (ok okT : Ok) (tv : Value) (t : List Cl) (w : World) (h : RefAt w ok q L) (ho : OkL L) (hL : L.length ≤ 2147483647) (ht : Sl CL w okT tv t) :
    Calls Tryd.prog 21 #[.pointer (some ⟨q, 0, none⟩), tv] w (RResolveP w L t) := by
  have HR := Lib.hid (refRight_calls tv t okT w ht)
  cases hr : rightS t
  · have HR2 := Lib.hid (HR.out.mono (fun e w' h => (⟨by rw [h.1, hr], h.2⟩ : e = .returned (.bool false) ∧ Ext w w')))
    have HRR := Lib.hid hr
    clear hr ht h
    go_enter Tryd.func21, Tryd.ntmps21
    go_wp2_with (go_at_call 58; refine HR2.out.mono ?_; rintro e w1 ⟨rfl, hw⟩; have HW := Lib.hid hw; clear hw)
    go_ret2
    refine ⟨⟨.slice none 0 0, ?_, ?_⟩, HW.out⟩
    · rw [HRR.out]; rfl
    · rw [HRR.out]; exact Sl.nil _ _ _
  · have HR2 := Lib.hid (HR.out.mono (fun e w' h => (⟨by rw [h.1, hr], h.2⟩ : e = .returned (.bool true) ∧ Ext w w')))
    have hl : t.length ≤ 256 := (rightS_iff.1 hr).2.1
    have HRes : Hid (∀ w1, Ext w w1 → Calls Tryd.prog 59 #[.pointer (some ⟨q, 0, none⟩), tv, .int .i64 256, .int .i64 0] w1 (ResdP w1 L 256 t)) := Lib.hid (fun w1 hE => resolved_calls q L ok w h ho hL 301 0 256 tv t okT w1 (by omega) hE (ht.ext hE) (.inl (by simp)) (by omega) (by omega))
    have HRR := Lib.hid hr
    clear hr hl ht h
    go_enter Tryd.func21, Tryd.ntmps21
    go_wp2_with (go_at_call 58; refine HR2.out.mono ?_; rintro e w1 ⟨rfl, hw⟩; have HW := Lib.hid hw; clear hw)
    refine (HRes.out _ HW.out).mono ?_
    rintro e w2 ⟨hE, ⟨r1, v1, rfl, hr1, hl1, hs1⟩ | ⟨v1, rfl, hno⟩⟩
    · have HS := Lib.hid (resolveS_some hr1 hl1)
      have HV := Lib.hid (Sl.up HW.out hs1)
      have HE := Lib.hid hE
      clear hr1 hl1 hs1 hE
      go_wp2
      go_ret2
      refine ⟨⟨v1, ?_, ?_⟩, HW.out.trans HE.out⟩
      · rw [HRR.out, HS.out]; rfl
      · rw [HRR.out, HS.out]; exact HV.out
    · have HS := Lib.hid (resolveS_none hno)
      have HE := Lib.hid hE
      clear hno hE
      go_wp2
      go_ret2
      refine ⟨⟨.slice none 0 0, ?_, ?_⟩, HW.out.trans HE.out⟩
      · rw [HRR.out, HS.out]; rfl
      · rw [HRR.out, HS.out]; exact Sl.nil _ _ _

end Go.Proofs.YtehljfnoicppnaaDoor
