/- What it is to put all values into a term: a relation, that it answers at most one row of cells, and what bounds its depth. No program stands here. -/
import Derived.Test.YtehljfnoicppnaaDoorHeapB
open Go Go.RowKit
set_option linter.unusedVariables false
namespace Go.Proofs.YtehljfnoicppnaaDoor

/-- A row of cells with all values in it. -/
inductive ResL (L : List Bd) : List Cl → List Cl → Prop
  | nil : ResL L [] []
  | stay {c : Cl} {t s : List Cl} : nextS L [c] = none → ResL L t s → ResL L (c :: t) (c :: s)
  | go {c : Cl} {t u r s : List Cl} : nextS L [c] = some u → ResL L (followS L u) r → ResL L t s → ResL L (c :: t) (r ++ s)

theorem ResL.unique {L : List Bd} {t s : List Cl} (h : ResL L t s) : ∀ {s' : List Cl}, ResL L t s' → s = s' := by
  induction h with
  | nil => intro s' h'; cases h'; rfl
  | stay hn _ ih =>
    intro s' h'
    cases h' with
    | stay _ h2 => rw [ih h2]
    | go hn' _ _ => rw [hn] at hn'; cases hn'
  | go hn _ _ ih1 ih2 =>
    intro s' h'
    cases h' with
    | stay hn' _ => rw [hn] at hn'; cases hn'
    | go hn' h1 h2 =>
      rw [hn] at hn'
      cases hn'
      rw [ih1 h1, ih2 h2]
theorem ResL.append {L : List Bd} {t1 s1 : List Cl} (h : ResL L t1 s1) : ∀ {t2 s2 : List Cl}, ResL L t2 s2 → ResL L (t1 ++ t2) (s1 ++ s2) := by
  induction h with
  | nil => intro t2 s2 h2; exact h2
  | stay hn _ ih => intro t2 s2 h2; exact .stay hn (ih h2)
  | go hn h1 _ _ ih => intro t2 s2 h2; rw [List.append_assoc]; exact .go hn h1 (ih h2)
theorem ResL.split {L : List Bd} : ∀ {t1 t2 s : List Cl}, ResL L (t1 ++ t2) s → ∃ s1 s2, s = s1 ++ s2 ∧ ResL L t1 s1 ∧ ResL L t2 s2
  | [], t2, s, h => ⟨[], s, rfl, .nil, h⟩
  | c :: t1, t2, s, h => by
    cases h with
    | stay hn h2 =>
      obtain ⟨s1, s2, rfl, h3, h4⟩ := ResL.split h2
      exact ⟨_ :: s1, s2, rfl, .stay hn h3, h4⟩
    | go hn h1 h2 =>
      obtain ⟨s1, s2, rfl, h3, h4⟩ := ResL.split h2
      exact ⟨_ ++ s1, s2, (List.append_assoc ..).symm, .go hn h1 h3, h4⟩
theorem followS_ne {L : List Bd} (ho : OkL L) : ∀ (n : Nat) {u : List Cl}, rank L u ≤ n → u ≠ [] → followS L u ≠ []
  | 0, u, h, hu => by
    cases hn : nextS L u with
    | none => rw [followS_none hn]; exact hu
    | some q => have := rank_next ho hn; omega
  | n + 1, u, h, hu => by
    cases hn : nextS L u with
    | none => rw [followS_none hn]; exact hu
    | some q =>
      rw [followS_some ho hn]
      obtain ⟨c, _, _, hg⟩ := nextS_some hn
      have hq := ((ho.2 _ (getL_mem hg)).2.2.2.2.1.1).1
      exact followS_ne ho n (by have := rank_next ho hn; omega) (by intro e; simp [e] at hq)
theorem next_ne {L : List Bd} (ho : OkL L) {t u : List Cl} (hn : nextS L t = some u) : u ≠ [] := by
  obtain ⟨c, _, _, hg⟩ := nextS_some hn
  have hq := ((ho.2 _ (getL_mem hg)).2.2.2.2.1.1).1
  intro e; simp [e] at hq
theorem ResL.pos {L : List Bd} (ho : OkL L) {t s : List Cl} (h : ResL L t s) : t ≠ [] → 0 < s.length := by
  induction h with
  | nil => intro h; exact absurd rfl h
  | stay _ _ _ => intro _; simp
  | go hn _ _ ih1 _ =>
    intro _
    have := ih1 (followS_ne ho _ (Nat.le_refl _) (next_ne ho hn))
    simp; omega
theorem endS_leaf (x : Cl) (t : List Cl) (h : partsS x = 0) : endS (x :: t) 0 = 1 := by
  unfold endS
  rw [if_neg (by simp)]
  have h0 : ¬ ((x :: t).length : Int) < 0 := by omega
  simp only [Int.toNat_zero, List.drop_zero, endL, h, if_neg h0, Int.toNat_zero, Nat.add_zero, endL_zero]
  rfl
/-- Where a value leads, the first cell leads no further. -/
theorem head_stays {L : List Bd} (ho : OkL L) {t u : List Cl} (hn : nextS L t = some u) : ∀ c ∈ (followS L u).head?, nextS L [c] = none := by
  have key : ∀ (n : Nat) (u : List Cl), rank L u ≤ n → rightB u → rightB (followS L u) := by
    intro n
    induction n with
    | zero =>
      intro u h hr
      cases hn : nextS L u with
      | none => rw [followS_none hn]; exact hr
      | some q => have := rank_next ho hn; omega
    | succ n ih =>
      intro u h hr
      cases hn : nextS L u with
      | none => rw [followS_none hn]; exact hr
      | some q =>
        rw [followS_some ho hn]
        obtain ⟨c, _, _, hg⟩ := nextS_some hn
        exact ih q (by have := rank_next ho hn; omega) (ho.2 _ (getL_mem hg)).2.2.2.2.1.1
  obtain ⟨c0, _, _, hg⟩ := nextS_some hn
  have hr := key _ u (Nat.le_refl _) (ho.2 _ (getL_mem hg)).2.2.2.2.1.1
  have he := followS_end ho u
  intro c hc
  match hf : followS L u with
  | [] => rw [hf] at hc; simp at hc
  | [x] =>
    rw [hf] at hc he
    simp at hc
    subst hc
    exact he
  | x :: y :: z =>
    rw [hf] at hc hr
    simp at hc
    subst hc
    have hk : x.k = 3 := by
      apply Classical.byContradiction
      intro hk
      have h3 := hr.2.2.1
      have hp : partsS x = 0 := by simp [partsS, hk]
      rw [endS_leaf _ _ hp] at h3
      simp at h3
      omega
    simp [nextS, hk]

open Classical in
/-- What is to be answered; none: it is too long. -/
noncomputable def resolveS (L : List Bd) (t : List Cl) : Option (List Cl) := if h : ∃ r, ResL L t r ∧ r.length ≤ 256 then some (Classical.choose h) else none
theorem resolveS_some {L : List Bd} {t r : List Cl} (h : ResL L t r) (hl : r.length ≤ 256) : resolveS L t = some r := by
  have hex : ∃ r, ResL L t r ∧ r.length ≤ 256 := ⟨r, h, hl⟩
  unfold resolveS
  rw [dif_pos hex]
  exact congrArg some ((Classical.choose_spec hex).1.unique h)
theorem resolveS_none {L : List Bd} {t : List Cl} (h : ¬ ∃ r, ResL L t r ∧ r.length ≤ 256) : resolveS L t = none := by
  unfold resolveS
  rw [dif_neg h]
theorem resolveS_spec {L : List Bd} {t r : List Cl} (h : resolveS L t = some r) : ResL L t r ∧ r.length ≤ 256 := by
  unfold resolveS at h
  split at h
  · rename_i hex
    injection h with h
    subst h
    exact Classical.choose_spec hex
  · cases h

end Go.Proofs.YtehljfnoicppnaaDoor
