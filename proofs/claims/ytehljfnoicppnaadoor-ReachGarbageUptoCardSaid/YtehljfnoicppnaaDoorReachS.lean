/- What is reached: the walk's row of names with by which each was come to, and what it comes to. No program stands here. -/
import Derived.Test.YtehljfnoicppnaaDoorVarsA
import Derived.Test.YtehljfnoicppnaaDoorSortA
open Go Go.RowKit
set_option linter.unusedVariables false
namespace Go.Proofs.YtehljfnoicppnaaDoor

abbrev Way := Nm × Nm
def keysW (S : List Way) : List Nm := S.map (·.1)
def comeS (S : List Way) (v by_ : Nm) : List Way := if v ∈ keysW S then S else S ++ [(v, by_)]
def comeAll (S : List Way) (by_ : Nm) (vs : List Nm) : List Way := vs.foldl (fun S v => comeS S v by_) S
def rootsS (roots : List Nm) (S : List Way) : List Way := roots.foldl (fun S v => comeS S v v) S
def bfsN : Nat → List Bd → List Way → Nat → List Way
  | 0, _, S, _ => S
  | n + 1, L, S, i => match S[i]? with | none => S | some p => bfsN n L (comeAll S p.1 (nextV L p.1)) (i + 1)

/-- All variables that can be come to. -/
def univ (L : List Bd) (roots : List Nm) : List Nm := roots ++ (L.flatMap fun b => varsT [] b.t)
def walkS (L : List Bd) (roots : List Nm) : List Way := bfsN ((univ L roots).length + 1) L (rootsS roots []) 0

theorem comeS_pre (S : List Way) (v b : Nm) : ∃ T, comeS S v b = S ++ T := by
  unfold comeS
  split
  · exact ⟨[], by simp⟩
  · exact ⟨[(v, b)], rfl⟩
theorem comeAll_pre : ∀ (vs : List Nm) (S : List Way) (b : Nm), ∃ T, comeAll S b vs = S ++ T
  | [], S, b => ⟨[], by simp [comeAll]⟩
  | v :: vs, S, b => by
    obtain ⟨T1, h1⟩ := comeS_pre S v b
    obtain ⟨T2, h2⟩ := comeAll_pre vs (comeS S v b) b
    refine ⟨T1 ++ T2, ?_⟩
    simp only [comeAll, List.foldl_cons] at *
    rw [h2, h1, List.append_assoc]
theorem comeS_keys {S : List Way} {v b x : Nm} : x ∈ keysW (comeS S v b) ↔ x ∈ keysW S ∨ x = v := by
  unfold comeS
  split
  · rename_i h
    constructor
    · exact .inl
    · rintro (h1 | rfl)
      · exact h1
      · exact h
  · simp [keysW]
theorem comeAll_keys {b x : Nm} : ∀ {vs : List Nm} {S : List Way}, x ∈ keysW (comeAll S b vs) ↔ x ∈ keysW S ∨ x ∈ vs
  | [], S => by simp [comeAll]
  | v :: vs, S => by
    have := comeAll_keys (b := b) (x := x) (vs := vs) (S := comeS S v b)
    simp only [comeAll, List.foldl_cons] at *
    rw [this, comeS_keys]
    simp [or_assoc]
theorem comeS_nodup {S : List Way} {v b : Nm} (h : (keysW S).Nodup) : (keysW (comeS S v b)).Nodup := by
  unfold comeS
  split
  · exact h
  · rename_i hv
    unfold keysW at *
    rw [List.map_append, List.nodup_append]
    refine ⟨h, by simp, ?_⟩
    intro a ha c hc
    simp at hc
    subst hc
    intro e
    subst e
    exact hv ha
theorem comeAll_nodup : ∀ {vs : List Nm} {S : List Way} {b : Nm}, (keysW S).Nodup → (keysW (comeAll S b vs)).Nodup
  | [], S, b, h => h
  | v :: vs, S, b, h => by
    have := comeAll_nodup (vs := vs) (b := b) (comeS_nodup (v := v) (b := b) h)
    simpa [comeAll] using this
theorem rootsS_keys {x : Nm} : ∀ {rs : List Nm} {S : List Way}, x ∈ keysW (rootsS rs S) ↔ x ∈ keysW S ∨ x ∈ rs
  | [], S => by simp [rootsS]
  | v :: vs, S => by
    have := rootsS_keys (x := x) (rs := vs) (S := comeS S v v)
    simp only [rootsS, List.foldl_cons] at *
    rw [this, comeS_keys]
    simp [or_assoc]
theorem rootsS_nodup : ∀ {vs : List Nm} {S : List Way}, (keysW S).Nodup → (keysW (rootsS vs S)).Nodup
  | [], S, h => h
  | v :: vs, S, h => by
    have := rootsS_nodup (vs := vs) (comeS_nodup (v := v) (b := v) h)
    simpa [rootsS] using this

/-- What may be reached from roots. -/
inductive Reach (L : List Bd) (roots : List Nm) : Nm → Prop
  | root {v : Nm} : v ∈ roots → Reach L roots v
  | step {v x : Nm} : Reach L roots v → x ∈ nextV L v → Reach L roots x

theorem nextV_univ {L : List Bd} {roots : List Nm} {v x : Nm} (h : x ∈ nextV L v) : x ∈ univ L roots := by
  unfold nextV at h
  cases hg : getL L v with
  | none => rw [hg] at h; simp [varsT] at h
  | some t =>
    rw [hg] at h
    exact List.mem_append_right _ (List.mem_flatMap.2 ⟨⟨v, t⟩, getL_mem hg, h⟩)
theorem reach_univ {L : List Bd} {roots : List Nm} {v : Nm} (h : Reach L roots v) : v ∈ univ L roots := by
  cases h with
  | root h => exact List.mem_append_left _ h
  | step _ h => exact nextV_univ h

/-- The walk's row, so far: i of them are done. -/
structure WalkOk (L : List Bd) (roots : List Nm) (S : List Way) (i : Nat) : Prop where
  nodup : (keysW S).Nodup
  roots_in : ∀ v ∈ roots, v ∈ keysW S
  sound : ∀ v ∈ keysW S, Reach L roots v
  done : ∀ (j : Nat) (p : Way), j < i → S[j]? = some p → ∀ x ∈ nextV L p.1, x ∈ keysW S
  from_ : ∀ (j : Nat) (p : Way), S[j]? = some p → (p.1 ∈ roots ∧ p.2 = p.1) ∨ ∃ (k : Nat) (q : Way), k < j ∧ S[k]? = some q ∧ p.2 = q.1 ∧ p.1 ∈ nextV L q.1

theorem from_come {L : List Bd} {roots : List Nm} {S : List Way} {v b : Nm} (h : ∀ (j : Nat) (p : Way), S[j]? = some p → (p.1 ∈ roots ∧ p.2 = p.1) ∨ ∃ (k : Nat) (q : Way), k < j ∧ S[k]? = some q ∧ p.2 = q.1 ∧ p.1 ∈ nextV L q.1)
    (hv : (v ∈ roots ∧ b = v) ∨ ∃ (k : Nat) (q : Way), k < S.length ∧ S[k]? = some q ∧ b = q.1 ∧ v ∈ nextV L q.1) :
    ∀ (j : Nat) (p : Way), (comeS S v b)[j]? = some p → (p.1 ∈ roots ∧ p.2 = p.1) ∨ ∃ (k : Nat) (q : Way), k < j ∧ (comeS S v b)[k]? = some q ∧ p.2 = q.1 ∧ p.1 ∈ nextV L q.1 := by
  unfold comeS
  split
  · exact h
  · intro j p hp
    by_cases hj : j < S.length
    · rw [List.getElem?_append_left hj] at hp
      rcases h j p hp with h1 | ⟨k, q, hk, hq, h1⟩
      · exact .inl h1
      · exact .inr ⟨k, q, hk, by rw [List.getElem?_append_left (by omega)]; exact hq, h1⟩
    · rw [List.getElem?_append_right (by omega)] at hp
      have hj0 : j - S.length = 0 := by
        have := (List.getElem?_eq_some_iff.1 hp).1
        simp at this
        omega
      rw [hj0] at hp
      simp at hp
      subst hp
      rcases hv with h1 | ⟨k, q, hk, hq, h1⟩
      · exact .inl h1
      · exact .inr ⟨k, q, by omega, by rw [List.getElem?_append_left hk]; exact hq, h1⟩
theorem walk_roots {L : List Bd} {roots : List Nm} : WalkOk L roots (rootsS roots []) 0 := by
  refine ⟨rootsS_nodup (by simp [keysW]), fun v hv => rootsS_keys.2 (.inr hv), fun v hv => ?_, fun j p h => by omega, ?_⟩
  · rcases rootsS_keys.1 hv with h | h
    · simp [keysW] at h
    · exact .root h
  · have key : ∀ (rs : List Nm) (S : List Way), (∀ v ∈ rs, v ∈ roots) → (∀ (j : Nat) (p : Way), S[j]? = some p → (p.1 ∈ roots ∧ p.2 = p.1) ∨ ∃ (k : Nat) (q : Way), k < j ∧ S[k]? = some q ∧ p.2 = q.1 ∧ p.1 ∈ nextV L q.1) →
        (∀ (j : Nat) (p : Way), (rootsS rs S)[j]? = some p → (p.1 ∈ roots ∧ p.2 = p.1) ∨ ∃ (k : Nat) (q : Way), k < j ∧ (rootsS rs S)[k]? = some q ∧ p.2 = q.1 ∧ p.1 ∈ nextV L q.1) := by
      intro rs
      induction rs with
      | nil => intro S _ h; exact h
      | cons v rs ih =>
        intro S hr h
        have := ih (comeS S v v) (fun x hx => hr x (List.mem_cons_of_mem _ hx)) (from_come h (.inl ⟨hr v (by simp), rfl⟩))
        simpa [rootsS] using this
    exact key roots [] (fun v h => h) (fun j p h => by simp at h)
theorem WalkOk.step {L : List Bd} {roots : List Nm} {S : List Way} {i : Nat} {p : Way} (h : WalkOk L roots S i) (hp : S[i]? = some p) : WalkOk L roots (comeAll S p.1 (nextV L p.1)) (i + 1) := by
  obtain ⟨T, hT⟩ := comeAll_pre (nextV L p.1) S p.1
  have hil := (List.getElem?_eq_some_iff.1 hp).1
  refine ⟨comeAll_nodup h.nodup, fun v hv => comeAll_keys.2 (.inl (h.roots_in v hv)), fun v hv => ?_, fun j q hj hq x hx => ?_, ?_⟩
  · rcases comeAll_keys.1 hv with h1 | h1
    · exact h.sound v h1
    · exact .step (h.sound p.1 (List.mem_map.2 ⟨p, List.mem_of_getElem? hp, rfl⟩)) h1
  · rw [hT, List.getElem?_append_left (by omega)] at hq
    rcases Nat.lt_or_ge j i with h1 | h1
    · exact comeAll_keys.2 (.inl (h.done j q h1 hq x hx))
    · obtain rfl : j = i := by omega
      rw [hp] at hq
      injection hq with hq
      subst hq
      exact comeAll_keys.2 (.inr hx)
  · have key : ∀ (vs : List Nm) (S' : List Way), (∀ v ∈ vs, v ∈ nextV L p.1) → S'[i]? = some p → (∀ (j : Nat) (p : Way), S'[j]? = some p → (p.1 ∈ roots ∧ p.2 = p.1) ∨ ∃ (k : Nat) (q : Way), k < j ∧ S'[k]? = some q ∧ p.2 = q.1 ∧ p.1 ∈ nextV L q.1) →
        (∀ (j : Nat) (q : Way), (comeAll S' p.1 vs)[j]? = some q → (q.1 ∈ roots ∧ q.2 = q.1) ∨ ∃ (k : Nat) (q' : Way), k < j ∧ (comeAll S' p.1 vs)[k]? = some q' ∧ q.2 = q'.1 ∧ q.1 ∈ nextV L q'.1) := by
      intro vs
      induction vs with
      | nil => intro S' _ _ h; exact h
      | cons v vs ih =>
        intro S' hr hi' h'
        have hil' := (List.getElem?_eq_some_iff.1 hi').1
        obtain ⟨T1, hT1⟩ := comeS_pre S' v p.1
        have := ih (comeS S' v p.1) (fun x hx => hr x (List.mem_cons_of_mem _ hx)) (by rw [hT1, List.getElem?_append_left hil']; exact hi') (from_come h' (.inr ⟨i, p, hil', hi', rfl, hr v (by simp)⟩))
        simpa [comeAll] using this
    exact key _ S (fun v h => h) hp h.from_
theorem nodup_le : ∀ {a b : List Nm}, a.Nodup → (∀ x ∈ a, x ∈ b) → a.length ≤ b.length
  | [], b, _, _ => by simp
  | x :: a, b, h, hs => by
    rw [List.nodup_cons] at h
    have hx := hs x (by simp)
    have h1 : a.length ≤ (b.erase x).length := nodup_le h.2 (fun y hy => by
      refine (List.mem_erase_of_ne ?_).2 (hs y (List.mem_cons_of_mem _ hy))
      intro e
      subst e
      exact h.1 hy)
    rw [List.length_erase_of_mem hx] at h1
    have := List.length_pos_of_mem hx
    simp
    omega
theorem WalkOk.len {L : List Bd} {roots : List Nm} {S : List Way} {i : Nat} (h : WalkOk L roots S i) : S.length ≤ (univ L roots).length := by
  have := nodup_le h.nodup (fun x hx => reach_univ (h.sound x hx))
  simpa [keysW] using this
theorem bfs_ok {L : List Bd} {roots : List Nm} : ∀ (n : Nat) (S : List Way) (i : Nat), WalkOk L roots S i → (univ L roots).length < n + i → i ≤ S.length → WalkOk L roots (bfsN n L S i) (bfsN n L S i).length
  | 0, S, i, h, hn, hi => by
    have := h.len
    omega
  | n + 1, S, i, h, hn, hi => by
    simp only [bfsN]
    cases hp : S[i]? with
    | none =>
      have hil : S.length ≤ i := by simpa using hp
      have : i = S.length := by omega
      subst this
      exact h
    | some p =>
      obtain ⟨T, hT⟩ := comeAll_pre (nextV L p.1) S p.1
      have hil := (List.getElem?_eq_some_iff.1 hp).1
      exact bfs_ok n _ (i + 1) (h.step hp) (by omega) (by rw [hT]; simp; omega)
theorem walkS_ok (L : List Bd) (roots : List Nm) : WalkOk L roots (walkS L roots) (walkS L roots).length :=
  bfs_ok _ _ _ walk_roots (by omega) (Nat.zero_le _)
theorem walk_reach {L : List Bd} {roots : List Nm} {v : Nm} : v ∈ keysW (walkS L roots) ↔ Reach L roots v := by
  have h := walkS_ok L roots
  constructor
  · exact h.sound v
  · intro hr
    induction hr with
    | root hv => exact h.roots_in _ hv
    | step _ hx ih =>
      obtain ⟨p, hp, rfl⟩ := List.mem_map.1 ih
      obtain ⟨j, hj, rfl⟩ := List.getElem_of_mem hp
      exact h.done j _ hj (List.getElem?_eq_getElem hj) _ hx
/-- The walk's further way does not hang on how much fuel is left. -/
theorem bfs_more {L : List Bd} {roots : List Nm} : ∀ (n m : Nat) (S : List Way) (i : Nat), WalkOk L roots S i → (univ L roots).length < n + i → n ≤ m → i ≤ S.length → bfsN m L S i = bfsN n L S i
  | 0, m, S, i, h, hn, _, hi => by have := h.len; omega
  | n + 1, 0, S, i, h, hn, hm, hi => by omega
  | n + 1, m + 1, S, i, h, hn, hm, hi => by
    simp only [bfsN]
    cases hp : S[i]? with
    | none => rfl
    | some p =>
      obtain ⟨T, hT⟩ := comeAll_pre (nextV L p.1) S p.1
      have hil := (List.getElem?_eq_some_iff.1 hp).1
      exact bfs_more n m _ (i + 1) (h.step hp) (by omega) (by omega) (by rw [hT]; simp; omega)

/-- What is needed: what is reached, ascending. -/
def neededS (L : List Bd) (roots : List Nm) : List Nm := (keysW (walkS L roots)).mergeSort leNm
theorem needed_mem {L : List Bd} {roots : List Nm} {v : Nm} : v ∈ neededS L roots ↔ Reach L roots v := by
  unfold neededS
  rw [(List.mergeSort_perm _ leNm).mem_iff, walk_reach]
theorem perm_of_mem {a b : List Nm} (ha : a.Nodup) (hb : b.Nodup) (h : ∀ x, x ∈ a ↔ x ∈ b) : a.Perm b := (List.perm_ext_iff_of_nodup ha hb).2 h
theorem needed_same {L M : List Bd} {r1 r2 : List Nm} (h : ∀ v, Reach L r1 v ↔ Reach M r2 v) : neededS L r1 = neededS M r2 :=
  perm_sort (perm_of_mem (walkS_ok L r1).nodup (walkS_ok M r2).nodup fun x => by rw [walk_reach, walk_reach]; exact h x)

end Go.Proofs.YtehljfnoicppnaaDoor
