/- What the walk says at a heap of two values that point at each other. Conditions: none; no program stands here. -/
import Derived.Test.YtehljfnoicppnaaDoorReachF
import Derived.Test.YtehljfnoicppnaaDoorLiveG
open Go Go.RowKit
set_option linter.unusedVariables false
namespace Go.Proofs.YtehljfnoicppnaaDoor

/-- The struct's head: a name of one byte, one part. -/
def fcl (k : UInt8) : Cl := ⟨3, ⟨#[k]⟩, 1, ⟨0, 0⟩⟩
theorem fcl_name (k : UInt8) (h : okAt 0 (k.toNat : Int)) : nameB (ByteArray.mk #[k]) = true := by
  have hp : NameP (ByteArray.mk #[k]) := by
    refine ⟨by show 0 < 1; decide, by show 1 ≤ 16; decide, fun i hi => ?_⟩
    have hi' : i < 1 := hi
    obtain rfl : i = 0 := by omega
    exact h
  simpa [nameB] using hp
theorem fcl_cell (k : UInt8) (h : okAt 0 (k.toNat : Int)) : cellB (fcl k) = true := by
  have := fcl_name k h
  simp [cellB, CellP, fcl, this]
theorem fT_global (k : UInt8) (v : Nm) (h : okAt 0 (k.toNat : Int)) (h1 : 0 ≤ v.a) (h2 : v.a < 4) (h3 : 0 ≤ v.b) : globalS [fcl k, vcl v] = true := by
  refine globalS_iff.2 ⟨⟨by simp, by simp, ?_, ?_⟩, ?_⟩
  · have h1 : partsS (fcl k) = 1 := rfl
    have h2 : partsS (vcl v) = 0 := rfl
    simp [endS, endL, h1, h2]
  · intro c hc
    simp at hc
    rcases hc with rfl | rfl
    · exact fcl_cell k h
    · exact var_cell v (by omega) h2 h3
  · simp [varB, vcl, fcl]
    omega
theorem fcl_ok (k : UInt8) : ClOk (fcl k) := ⟨by show 1 ≤ maxLen; simp [maxLen], by simp [fcl], by simp [fcl], ⟨by simp [fcl], by simp [fcl]⟩, ⟨by simp [fcl, IOk], by simp [fcl, IOk]⟩⟩
def cyL : List Bd := [⟨lvA, [fcl 102, vcl lvB]⟩, ⟨lvB, [fcl 103, vcl lvA]⟩]
theorem cy_e1 : bindE [] lvA [fcl 102, vcl lvB] = 0 := by
  unfold bindE
  rw [var_right lvA (by decide) (by decide) (by decide), fT_global 102 lvB (by simp [okAt]) (by decide) (by decide) (by decide)]
  simp [lvB, lvA, getL, fcl]
theorem cy_l1 : bindL [] lvA [fcl 102, vcl lvB] = [⟨lvA, [fcl 102, vcl lvB]⟩] := by
  unfold bindL
  rw [cy_e1]
  rfl
theorem cy_e2 : bindE [⟨lvA, [fcl 102, vcl lvB]⟩] lvB [fcl 103, vcl lvA] = 0 := by
  unfold bindE
  rw [var_right lvB (by decide) (by decide) (by decide), fT_global 103 lvA (by simp [okAt]) (by decide) (by decide) (by decide)]
  simp [lvB, lvA, getL, fcl]
theorem cy_l2 : bindL [⟨lvA, [fcl 102, vcl lvB]⟩] lvB [fcl 103, vcl lvA] = cyL := by
  unfold bindL
  rw [cy_e2]
  simp [insL, lessB, lvA, lvB, cyL]
theorem cy_nA : nextV cyL lvA = [lvB] := by simp [nextV, cyL, getL, varsT, addV, fcl, vcl, lvA, lvB]
theorem cy_nB : nextV cyL lvB = [lvA] := by simp [nextV, cyL, getL, varsT, addV, fcl, vcl, lvA, lvB]
theorem cy_uB : univ cyL [lvB] = [lvB, lvB, lvA] := by simp [univ, cyL, varsT, addV, fcl, vcl, lvA, lvB]
theorem cy_ab : lvA ≠ lvB := by simp [lvA, lvB]
theorem cy_ba : lvB ≠ lvA := by simp [lvA, lvB]
theorem cy_wB : walkS cyL [lvB] = [(lvB, lvB), (lvA, lvB)] := by
  unfold walkS
  rw [cy_uB]
  have h1 : rootsS [lvB] [] = [(lvB, lvB)] := by simp [rootsS, comeS, keysW]
  rw [h1]
  simp [bfsN, cy_nA, cy_nB, comeAll, comeS, keysW, cy_ab, cy_ba]
theorem cy_uA : univ cyL [lvA] = [lvA, lvB, lvA] := by simp [univ, cyL, varsT, addV, fcl, vcl, lvA, lvB]
theorem cy_wA : walkS cyL [lvA] = [(lvA, lvA), (lvB, lvA)] := by
  unfold walkS
  rw [cy_uA]
  have h1 : rootsS [lvA] [] = [(lvA, lvA)] := by simp [rootsS, comeS, keysW]
  rw [h1]
  simp [bfsN, cy_nA, cy_nB, comeAll, comeS, keysW, cy_ab, cy_ba]
theorem cy_needed : neededS cyL [lvB] = [lvA, lvB] := by
  unfold neededS
  rw [cy_wB]
  have h1 : (keysW [(lvB, lvB), (lvA, lvB)]).Perm [lvA, lvB] := List.Perm.swap _ _ _
  rw [perm_sort h1]
  exact List.mergeSort_of_pairwise (by simp [leNm, lessB, lvA, lvB])
theorem cy_path : pathR cyL lvA lvB = ([lvA, lvB], true) := by
  unfold pathR
  rw [cy_wA]
  simp [keysW, pathS, restN, byOf, cy_ab, cy_ba]
theorem cy_cyc : hasNm (keysW (walkS cyL (nextV cyL lvA))) lvA = true := by
  rw [cy_nA, cy_wB]
  simp [keysW, hasNm, lvA, lvB]
theorem cy_garb : garbageS cyL [] = [lvA, lvB] := by
  have h : walkS cyL [] = [] := by simp [walkS, rootsS, bfsN]
  unfold garbageS
  rw [h]
  simp [cyL, keysW, hasNm]
theorem cy_none : hasNm (keysW (walkS [] (nextV [] lvA))) lvA = false := by
  have h : nextV [] lvA = [] := by simp [nextV, getL, varsT]
  rw [h]
  simp [walkS, rootsS, bfsN, keysW, hasNm]

end Go.Proofs.YtehljfnoicppnaaDoor
