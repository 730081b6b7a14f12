/- What is resolved is a right term again, and is so for good. No program is walked here. -/
import Derived.Test.YtehljfnoicppnaaDoorResA
open Go Go.RowKit
set_option linter.unusedVariables false
namespace Go.Proofs.YtehljfnoicppnaaDoor

/-- So many terms, no more and no less. -/
inductive Bal : Nat → List Cl → Prop
  | nil : Bal 0 []
  | cons {o : Nat} {c : Cl} {t : List Cl} : Bal (o + (partsS c).toNat) t → Bal (o + 1) (c :: t)
theorem Bal.le {o : Nat} {t : List Cl} (h : Bal o t) : o ≤ t.length := by
  induction h with
  | nil => simp
  | cons _ ih => simp; omega
theorem Bal.append {a : Nat} {s : List Cl} (h : Bal a s) : ∀ {b : Nat} {t : List Cl}, Bal b t → Bal (a + b) (s ++ t) := by
  induction h with
  | nil => intro b t h; simpa using h
  | @cons o c t h ih =>
    intro b u hu
    have := ih hu
    rw [show o + 1 + b = (o + b) + 1 by omega]
    refine .cons ?_
    rw [show o + b + (partsS c).toNat = o + (partsS c).toNat + b by omega]
    exact this
theorem endL_bal {len : Nat} : ∀ {t : List Cl} {o : Nat}, t.length ≤ len → (endL len o t = some t.length ↔ Bal o t)
  | [], 0, _ => by simp [endL]; exact .nil
  | [], o + 1, _ => by
    simp [endL]
    intro h
    cases h
  | c :: t, 0, _ => by
    simp [endL]
    intro h
    cases h
  | c :: t, o + 1, hl => by
    simp only [endL]
    have hl' : t.length ≤ len := by simp at hl; omega
    have ih := endL_bal (o := o + (partsS c).toNat) hl'
    split
    · rename_i hp
      constructor
      · intro h; cases h
      · intro h
        cases h with
        | cons h =>
          have := h.le
          have := partsS_nonneg c
          omega
    · rw [Option.map_eq_some_iff]
      constructor
      · rintro ⟨n, h1, h2⟩
        simp at h2
        subst h2
        exact .cons (ih.1 h1)
      · intro h
        cases h with
        | cons h => exact ⟨t.length, ih.2 h, by simp⟩
theorem right_bal {t : List Cl} : rightB t ↔ 1 ≤ t.length ∧ t.length ≤ 256 ∧ Bal 1 t ∧ ∀ c ∈ t, cellB c = true := by
  unfold rightB
  constructor
  · rintro ⟨h1, h2, h3, h4⟩
    refine ⟨h1, h2, ?_, h4⟩
    unfold endS at h3
    rw [if_neg (by omega)] at h3
    simp only [Int.toNat_zero, List.drop_zero] at h3
    rw [← endL_bal (Nat.le_refl _)]
    cases he : endL t.length 1 t with
    | none => rw [he] at h3; simp at h3; omega
    | some n =>
      rw [he] at h3
      have h5 : (0 : Int) + (n : Int) = (t.length : Int) := h3
      have : n = t.length := by omega
      rw [this]
  · rintro ⟨h1, h2, h3, h4⟩
    refine ⟨h1, h2, ?_, h4⟩
    unfold endS
    rw [if_neg (by omega)]
    simp only [Int.toNat_zero, List.drop_zero]
    rw [(endL_bal (Nat.le_refl _)).2 h3]
    simp

theorem follow_right {L : List Bd} (ho : OkL L) : ∀ (n : Nat) (u : List Cl), rank L u ≤ n → rightB u → rightB (followS L u)
  | 0, u, h, hr => by
    cases hn : nextS L u with
    | none => rw [followS_none hn]; exact hr
    | some q => have := rank_next ho hn; omega
  | n + 1, u, h, hr => by
    cases hn : nextS L u with
    | none => rw [followS_none hn]; exact hr
    | some q =>
      rw [followS_some ho hn]
      obtain ⟨c, _, _, hg⟩ := nextS_some hn
      exact follow_right ho n q (by have := rank_next ho hn; omega) (ho.2 _ (getL_mem hg)).2.2.2.2.1.1

theorem res_bal {L : List Bd} (ho : OkL L) {t s : List Cl} (h : ResL L t s) : (∀ {o : Nat}, Bal o t → Bal o s) ∧ ((∀ c ∈ t, cellB c = true) → ∀ c ∈ s, cellB c = true) := by
  induction h with
  | nil => exact ⟨fun h => h, fun h => h⟩
  | @stay c t s hn _ ih =>
    refine ⟨fun h => ?_, fun h x hx => ?_⟩
    · cases h with
      | cons h => exact .cons (ih.1 h)
    · rcases List.mem_cons.1 hx with rfl | hx
      · exact h _ (by simp)
      · exact ih.2 (fun c hc => h c (List.mem_cons_of_mem _ hc)) x hx
  | @go c t u r s hn _ _ ih1 ih2 =>
    obtain ⟨c', hc', hk, hg⟩ := nextS_some hn
    simp at hc'
    subst hc'
    have hr : rightB (followS L u) := follow_right ho _ u (Nat.le_refl _) (ho.2 _ (getL_mem hg)).2.2.2.2.1.1
    have hb := right_bal.1 hr
    refine ⟨fun h => ?_, fun h x hx => ?_⟩
    · cases h with
      | @cons o _ _ h =>
        have hp : partsS c = 0 := by simp [partsS, hk]
        rw [hp] at h
        have h1 := (ih1.1 hb.2.2.1).append (ih2.1 h)
        rw [show o + 1 = 1 + (o + (0 : Int).toNat) by simp; omega]
        exact h1
    · rcases List.mem_append.1 hx with hx | hx
      · exact ih1.2 hb.2.2.2 x hx
      · exact ih2.2 (fun c hc => h c (List.mem_cons_of_mem _ hc)) x hx
theorem res_stays {L : List Bd} {t s : List Cl} (h : ResL L t s) : ∀ c ∈ s, nextS L [c] = none := by
  induction h with
  | nil => simp
  | stay hn _ ih =>
    intro x hx
    rcases List.mem_cons.1 hx with rfl | hx
    · exact hn
    · exact ih x hx
  | go hn _ _ ih1 ih2 =>
    intro x hx
    rcases List.mem_append.1 hx with hx | hx
    · exact ih1 x hx
    · exact ih2 x hx
theorem res_self {L : List Bd} : ∀ {s : List Cl}, (∀ c ∈ s, nextS L [c] = none) → ResL L s s
  | [], _ => .nil
  | c :: s, h => .stay (h c (by simp)) (res_self fun x hx => h x (List.mem_cons_of_mem _ hx))

/-- What is resolved is right, stays so, and has no variable with a value. -/
theorem resolved_good {L : List Bd} (ho : OkL L) {t s : List Cl} (hr : rightS t = true) (h : resolveS L t = some s) : rightS s = true ∧ resolveS L s = some s ∧ ∀ c ∈ s, c.k = 4 → getL L c.v = none := by
  obtain ⟨h1, h2⟩ := resolveS_spec h
  have hb := right_bal.1 (rightS_iff.1 hr)
  obtain ⟨h3, h4⟩ := res_bal ho h1
  have hs := res_stays h1
  refine ⟨rightS_iff.2 (right_bal.2 ⟨h1.pos ho (by intro e; rw [e] at hb; simp at hb), h2, h3 hb.2.2.1, h4 hb.2.2.2⟩), resolveS_some (res_self hs) h2, fun c hc hk => ?_⟩
  have := hs c hc
  simpa [nextS, hk] using this

end Go.Proofs.YtehljfnoicppnaaDoor
