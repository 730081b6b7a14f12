/- Following a variable: why it ends; follow, Deref, Value: each by its contract. Conditions: the heap is one that the package made; what is cloned has at most 2^31 elements. -/
import Derived.Test.YtehljfnoicppnaaDoorHeapA
open Go Go.RowKit
set_option linter.unusedVariables false
namespace Go.Proofs.YtehljfnoicppnaaDoor

def followN : Nat → List Bd → List Cl → List Cl
  | 0, _, t => t
  | n + 1, L, t => match nextS L t with | none => t | some u => followN n L u
/-- What a term leads to by values. -/
def followS (L : List Bd) (t : List Cl) : List Cl := followN L.length L t

theorem countP_lt {α : Type} {p q : α → Bool} : ∀ {L : List α}, (∀ x ∈ L, p x = true → q x = true) → (∃ x ∈ L, q x = true ∧ p x = false) → L.countP p < L.countP q
  | [], _, h => by obtain ⟨x, hx, _⟩ := h; simp at hx
  | a :: L, hi, h => by
    have hle : L.countP p ≤ L.countP q := List.countP_mono_left fun x hx => hi x (List.mem_cons_of_mem _ hx)
    obtain ⟨x, hx, hq, hp⟩ := h
    rcases List.mem_cons.1 hx with rfl | hm
    · rw [List.countP_cons, List.countP_cons, hq, hp]
      simp
      omega
    · have := countP_lt (fun x hx => hi x (List.mem_cons_of_mem _ hx)) ⟨x, hm, hq, hp⟩
      have h1 := hi a (by simp)
      rw [List.countP_cons, List.countP_cons]
      cases ha : p a
      · simp; split <;> omega
      · rw [h1 ha]; simp; omega

def rank (L : List Bd) : List Cl → Nat
  | [c] => if c.k = 4 then L.countP fun b => !lessB c.v b.v else 0
  | _ => 0
theorem rank_le (L : List Bd) (t : List Cl) : rank L t ≤ L.length := by
  unfold rank
  split
  · split
    · exact List.countP_le_length
    · omega
  · omega
theorem nextS_some {L : List Bd} {t u : List Cl} (h : nextS L t = some u) : ∃ c, t = [c] ∧ c.k = 4 ∧ getL L c.v = some u := by
  unfold nextS at h
  split at h
  · rename_i c
    split at h
    · rename_i hk; exact ⟨c, rfl, hk, h⟩
    · cases h
  · cases h
theorem rank_next {L : List Bd} (ho : OkL L) {t u : List Cl} (h : nextS L t = some u) : rank L u < rank L t := by
  obtain ⟨c, rfl, hk, hg⟩ := nextS_some h
  have hm := getL_mem hg
  have hpos : 0 < rank L [c] := by
    simp only [rank, hk, if_true]
    exact List.countP_pos_iff.2 ⟨_, hm, by simp [lessB_irrefl]⟩
  have hb := ho.2 _ hm
  have hR : rank L [c] = L.countP fun b => !lessB c.v b.v := by simp [rank, hk]
  rw [hR] at hpos ⊢
  unfold rank
  split
  · rename_i c'
    split
    · rename_i hk'
      have hl : lessB c'.v c.v = true := hb.2.2.2.2.2 c' (by simp) hk'
      refine countP_lt (fun x hx hp => ?_) ⟨_, hm, by simp [lessB_irrefl], by simp [hl]⟩
      simp only [Bool.not_eq_true'] at hp ⊢
      cases hq : lessB c.v x.v
      · rfl
      · rw [lessB_trans hl hq] at hp; cases hp
    · exact hpos
  · exact hpos
theorem follow_end {L : List Bd} (ho : OkL L) : ∀ (n : Nat) (t : List Cl), rank L t ≤ n → nextS L (followN n L t) = none
  | 0, t, h => by
    cases hn : nextS L t with
    | none => exact hn
    | some u => have := rank_next ho hn; omega
  | n + 1, t, h => by
    simp only [followN]
    cases hn : nextS L t with
    | none => exact hn
    | some u => exact follow_end ho n u (by have := rank_next ho hn; omega)
theorem follow_more {L : List Bd} : ∀ (n m : Nat) (t : List Cl), nextS L (followN n L t) = none → n ≤ m → followN m L t = followN n L t
  | 0, 0, t, h, _ => rfl
  | 0, m + 1, t, h, _ => by
    simp only [followN] at *
    rw [h]
  | n + 1, 0, t, h, hm => by omega
  | n + 1, m + 1, t, h, hm => by
    simp only [followN] at *
    cases hn : nextS L t with
    | none => rfl
    | some u =>
      rw [hn] at h
      exact follow_more n m u h (by omega)
theorem followS_none {L : List Bd} {t : List Cl} (h : nextS L t = none) : followS L t = t := by
  unfold followS
  cases L.length <;> simp [followN, h]
theorem followS_some {L : List Bd} (ho : OkL L) {t u : List Cl} (h : nextS L t = some u) : followS L t = followS L u := by
  unfold followS
  have h1 := follow_end ho L.length u (rank_le L u)
  have h2 : followN (L.length + 1) L t = followN L.length L u := by simp only [followN, h]
  rw [← h2]
  exact (follow_more L.length (L.length + 1) t (follow_end ho _ _ (rank_le L t)) (by omega)).symm
theorem followS_end {L : List Bd} (ho : OkL L) (t : List Cl) : nextS L (followS L t) = none := follow_end ho _ _ (rank_le L t)

/-- The two slots behind a call of next. -/
def Looked (w : World) (ok : Ok) (r : Option (List Cl)) (u th : Value) : Prop := th = .bool r.isSome ∧ match r with | none => True | some t => Sl CL w ok u t
theorem Looked.ext {w w' : World} {ok : Ok} {r : Option (List Cl)} {u th : Value} (h : Looked w ok r u th) (he : Ext w w') : Looked w' ok r u th := by
  refine ⟨h.1, ?_⟩
  have h2 := h.2
  cases r with
  | none => trivial
  | some t => exact Sl.ext h2 he

theorem looked_of {w : World} {ok : Ok} {r : Option (List Cl)} {u : Value} (h : match r with | none => u = .slice none 0 0 | some t => Sl CL w ok u t) : Looked w ok r u (.bool r.isSome) := by
  refine ⟨rfl, ?_⟩
  cases r with
  | none => trivial
  | some t => exact h

set_option maxRecDepth 100000 in
set_option maxHeartbeats 1000000 in
theorem follow_calls (v : Value) (L : List Bd) (ok : Ok) (tv : Value) (t : List Cl) (w : World) (h : HeapOr w ok v L) (ht : Sl CL w ok tv t) :
    Calls Tryd.prog 60 #[v, tv] w fun e w' => (∃ v', e = .returned v' ∧ Sl CL w' ok v' (followS L t)) ∧ Ext w w' := by
  have ho := h.okL
  have HN := Lib.hid (fun tv t w1 (hE : Ext w w1) (ht : Sl CL w1 ok tv t) => next_calls v L ok tv t w1 (h.ext hE) ht)
  have HT := Lib.hid ht
  have HO := Lib.hid ho
  clear h ht ho
  go_enter Tryd.func60, Tryd.ntmps60
  go_wp2_with (go_at_call 52; refine (HN.out _ _ _ (Ext.refl _) HT.out).mono ?_; rintro e w1 ⟨⟨u, rfl, hu⟩, hw⟩; have HU := Lib.hid hu; have HW := Lib.hid hw; clear hu hw)
  go_loopg [1, 5, 6] (rank L t) (fun g s1 s5 s6 wr => ∃ tc, rank L tc ≤ g ∧ Hid (Sl CL wr ok s1 tc) ∧ Hid (Looked wr ok (nextS L tc) s5 s6) ∧ Hid (followS L tc = followS L t) ∧ Hid (Ext w wr))
  case atStart => exact ⟨t, Nat.le_refl _, Lib.hid (HT.out.ext HW.out), Lib.hid (looked_of HU.out), Lib.hid rfl, Lib.hid HW.out⟩
  case round =>
    obtain ⟨tc, hr, H1, H2, H3, H4⟩ := hrel
    obtain ⟨h21, h22⟩ := H2.out
    clear H2
    subst h21
    cases hn : nextS L tc with
    | none =>
      have H5 := Lib.hid (H3.out.symm.trans (followS_none hn))
      simp only [Option.isSome_none]
      clear hn h22
      go_wp2
      go_ret
      exact ⟨⟨_, rfl, by rw [H5.out]; exact H1.out⟩, H4.out⟩
    | some q =>
      rw [hn] at h22
      have HQ := Lib.hid h22
      have H5 := Lib.hid (followS_some HO.out hn)
      have hlt := rank_next HO.out hn
      simp only [Option.isSome_some]
      have H6 := Lib.hid hn
      clear hn h22
      go_wp2_with (go_at_call 52; refine (HN.out _ _ _ H4.out HQ.out).mono ?_; rintro e w1 ⟨⟨u, rfl, hu⟩, hw⟩; have HU := Lib.hid hu; have HW1 := Lib.hid hw; clear hu hw)
      go_roundg (rank L q)
      case measure => omega
      case rel => exact ⟨q, Nat.le_refl _, Lib.hid (HQ.out.ext HW1.out), Lib.hid (looked_of HU.out), Lib.hid (H5.out.symm.trans H3.out), Lib.hid (H4.out.trans HW1.out)⟩

/-- An owned slice of cells. -/
def OwnT (w0 w : World) (v : Value) (t : List Cl) : Prop := Own CL 36 w0.heap.size w (fun k => w0.heap.size ≤ k) v t
def SmallL (L : List Bd) : Prop := ∀ b ∈ L, b.t.length ≤ 256
theorem OkL.small {L : List Bd} (h : OkL L) : SmallL L := fun b hb => (h.2 b hb).2.2.2.2.1.1.2.1
theorem getL_small {L : List Bd} (h : OkL L) {k : Nm} {t : List Cl} (hg : getL L k = some t) : t.length ≤ 256 := h.small _ (getL_mem hg)
theorem followS_len {L : List Bd} (ho : OkL L) : ∀ (n : Nat) (t : List Cl), rank L t ≤ n → t.length ≤ 2147483648 → (followS L t).length ≤ 2147483648
  | 0, t, h, hl => by
    cases hn : nextS L t with
    | none => rw [followS_none hn]; exact hl
    | some u => have := rank_next ho hn; omega
  | n + 1, t, h, hl => by
    cases hn : nextS L t with
    | none => rw [followS_none hn]; exact hl
    | some u =>
      rw [followS_some ho hn]
      obtain ⟨c, _, _, hg⟩ := nextS_some hn
      exact followS_len ho n u (by have := rank_next ho hn; omega) (by have := getL_small ho hg; omega)

theorem ownT_of {w0 w1 w : World} {v : Value} {t : List Cl} (he : Ext w0 w1) (h : OwnT w1 w v t) : OwnT w0 w v t := by
  have hle := he.le
  obtain ⟨h1, css, h2, h3, h4⟩ := h
  refine ⟨fun k hk => Nat.le_trans hle (h1 k hk), css, h2, h3, h4.1, ?_⟩
  rcases h4.2 with h5 | ⟨g, cap, cur, h5, h6, h7⟩
  · exact .inl h5
  · exact .inr ⟨g, cap, cur, h5, Nat.le_trans hle h6, h7⟩

set_option maxRecDepth 100000 in
set_option maxHeartbeats 1000000 in
theorem deref_calls (v : Value) (L : List Bd) (ok : Ok) (tv : Value) (t : List Cl) (w : World) (h : HeapOr w ok v L) (ht : Sl CL w ok tv t) (hl : t.length ≤ 2147483648) :
    Calls Tryd.prog 24 #[v, tv] w fun e w' => (∃ v', e = .returned v' ∧ OwnT w w' v' (followS L t)) ∧ Ext w w' := by
  have HL := Lib.hid (followS_len h.okL _ t (Nat.le_refl _) hl)
  have HF := Lib.hid (follow_calls v L ok tv t w h ht)
  clear h ht
  go_enter Tryd.func24, Tryd.ntmps24
  go_wp2_with (first | (go_at_call 60; refine HF.out.mono ?_; rintro e w1 ⟨⟨u, rfl, hu⟩, hw⟩; have HU := Lib.hid hu; have HW := Lib.hid hw; clear hu hw) | (go_at_call 51; refine (cloneT_calls _ _ _ _ HU.out HL.out).mono ?_; rintro e w2 ⟨⟨u2, rfl, hu2⟩, hw2⟩; have HU2 := Lib.hid hu2; have HW2 := Lib.hid hw2; clear hu2 hw2))
  go_ret
  exact ⟨⟨_, rfl, ownT_of HW.out HU2.out⟩, HW.out.trans HW2.out⟩

/-- What Value's two results are worth. -/
def ValueP (w : World) (r : Option (List Cl)) (e : Ending) (w' : World) : Prop :=
  (∃ v, e = .returned (.tuple #[v, .bool r.isSome]) ∧ OwnT w w' v (r.getD [])) ∧ Ext w w'

set_option maxRecDepth 100000 in
set_option maxHeartbeats 1000000 in
theorem Value_calls (v : Value) (L : List Bd) (ok : Ok) (a b : Int) (w : World) (h : HeapOr w ok v L) :
    Calls Tryd.prog 14 #[v, .agg #[.int .i64 a, .int .i64 b]] w (ValueP w (getL L ⟨a, b⟩)) := by
  have ho := h.okL
  have HV := Lib.hid (fun w1 (hE : Ext w w1) => valueOr_calls v L ok a b w1 (h.ext hE))
  clear h
  have HS : ∀ (w1 : World) (u : Value), (match getL L ⟨a, b⟩ with | none => u = .slice none 0 0 | some t => Sl CL w1 ok u t) → Sl CL w1 ok u ((getL L ⟨a, b⟩).getD []) ∧ ((getL L ⟨a, b⟩).getD []).length ≤ 2147483648 := by
    intro w1 u hu
    cases hg : getL L ⟨a, b⟩ with
    | none => rw [hg] at hu; subst hu; exact ⟨Sl.nil _ _ _, by simp⟩
    | some t => rw [hg] at hu; exact ⟨hu, by have := getL_small ho hg; simp; omega⟩
  have HS := Lib.hid HS
  rename_i HS'
  clear HS' ho
  go_enter Tryd.func14, Tryd.ntmps14
  go_wp2_with (first | (go_at_call 53; refine (HV.out _ (by repeat (first | with_reducible exact Ext.refl _ | assumption | refine Ext.alloc ?_ _ | refine Ext.drewN ?_ _ | refine Ext.drew ?_ | refine Ext.set ?_ (by simp <;> omega) _ _ | refine Ext.trans ?_ (by assumption)))).mono ?_; rintro e w1 ⟨⟨u, rfl, hu⟩, hw⟩; have HU := Lib.hid (HS.out _ _ hu); have HW := Lib.hid hw; clear hu hw) | (go_at_call 51; refine (cloneT_calls _ _ _ _ HU.out.1 HU.out.2).mono ?_; rintro e w2 ⟨⟨u2, rfl, hu2⟩, hw2⟩; have HU2 := Lib.hid hu2; have HW2 := Lib.hid hw2; clear hu2 hw2))
  go_ret2
  exact ⟨⟨_, rfl, ownT_of (((Ext.refl _).alloc _).trans HW.out) HU2.out⟩, (((Ext.refl _).alloc _).trans HW.out).trans HW2.out⟩

end Go.Proofs.YtehljfnoicppnaaDoor
