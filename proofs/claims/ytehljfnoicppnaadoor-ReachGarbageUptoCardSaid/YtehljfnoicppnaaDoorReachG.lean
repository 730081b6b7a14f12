/- What stays when the garbage is dropped: what is reached, as it was; no garbage. Conditions: none; no program stands here. -/
import Derived.Test.YtehljfnoicppnaaDoorReachD
import Derived.Test.YtehljfnoicppnaaDoorDropA
open Go Go.RowKit
set_option linter.unusedVariables false
namespace Go.Proofs.YtehljfnoicppnaaDoor

theorem garb_mem {L : List Bd} {roots : List Nm} {v : Nm} : v ∈ garbageS L roots ↔ (∃ b ∈ L, b.v = v) ∧ ¬ Reach L roots v := by
  unfold garbageS
  rw [List.mem_map]
  constructor
  · rintro ⟨b, hb, rfl⟩
    rw [List.mem_filter] at hb
    refine ⟨⟨b, hb.1, rfl⟩, fun hr => ?_⟩
    have h1 := hb.2
    simp [hasNm, walk_reach.2 hr] at h1
  · rintro ⟨⟨b, hb, rfl⟩, hr⟩
    refine ⟨b, List.mem_filter.2 ⟨hb, ?_⟩, rfl⟩
    have : b.v ∉ keysW (walkS L roots) := fun h => hr (walk_reach.1 h)
    simp [hasNm, this]
theorem getL_keep {ns : List Nm} {k : Nm} (h : k ∉ ns) : ∀ L : List Bd, getL (dropL L ns) k = getL L k
  | [] => rfl
  | b :: L => by
    have ih := getL_keep h L
    unfold dropL at *
    by_cases hb : b.v = k
    · have hn : (!hasNm ns b.v) = true := by rw [hb]; simp [hasNm, h]
      rw [List.filter_cons_of_pos (by exact hn)]
      simp [getL, hb]
    · by_cases hn : (!hasNm ns b.v) = true
      · rw [List.filter_cons_of_pos (by exact hn)]
        simp [getL] at ih ⊢
        simp [hb, ih]
      · rw [List.filter_cons_of_neg (by exact hn)]
        simp [getL] at ih ⊢
        simp [hb, ih]
theorem reach_keep {L : List Bd} {roots : List Nm} {v : Nm} (h : Reach L roots v) : nextV (dropL L (garbageS L roots)) v = nextV L v := by
  unfold nextV
  rw [getL_keep fun hg => (garb_mem.1 hg).2 h]
theorem garb_reach {L : List Bd} {roots : List Nm} {v : Nm} : Reach (dropL L (garbageS L roots)) roots v ↔ Reach L roots v := by
  constructor
  · intro h
    induction h with
    | root h => exact .root h
    | step _ hx ih => exact .step ih (by rwa [reach_keep ih] at hx)
  · intro h
    induction h with
    | root h => exact .root h
    | step h1 hx ih => exact .step ih (by rwa [reach_keep h1])
theorem garb_needed (L : List Bd) (roots : List Nm) : neededS (dropL L (garbageS L roots)) roots = neededS L roots := needed_same fun _ => garb_reach
theorem garb_rest {L : List Bd} {roots : List Nm} {b : Bd} (h : b ∈ dropL L (garbageS L roots)) : Reach L roots b.v := by
  unfold dropL at h
  rw [List.mem_filter] at h
  refine Classical.byContradiction fun hn => ?_
  have h1 := h.2
  have h2 : b.v ∈ garbageS L roots := garb_mem.2 ⟨⟨b, h.1, rfl⟩, hn⟩
  simp [hasNm, h2] at h1
theorem garb_none (L : List Bd) (roots : List Nm) : garbageS (dropL L (garbageS L roots)) roots = [] := by
  refine List.eq_nil_iff_forall_not_mem.2 fun v hv => ?_
  obtain ⟨⟨b, hb, rfl⟩, hr⟩ := garb_mem.1 hv
  exact hr (garb_reach.2 (garb_rest hb))
theorem garb_has {L : List Bd} {roots : List Nm} {v : Nm} (h : v ∈ garbageS L roots) : ∃ t, getL L v = some t := by
  obtain ⟨⟨b, hb, hbv⟩, _⟩ := garb_mem.1 h
  cases hg : getL L v with
  | some t => exact ⟨t, rfl⟩
  | none => exact absurd hbv (getL_none hg b hb)
theorem garb_not {L : List Bd} {roots : List Nm} {v : Nm} (h : v ∈ garbageS L roots) : hasNm (neededS L roots) v = false := by
  have : v ∉ neededS L roots := fun hn => (garb_mem.1 h).2 (needed_mem.1 hn)
  simp [hasNm, this]

end Go.Proofs.YtehljfnoicppnaaDoor
