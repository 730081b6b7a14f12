/- What a row's list gives: the signs' cells; and a world for the witnesses. Conditions: none. -/
import Derived.Test.YtehljfnoicppnaaDoorOpen
open Go Go.RowKit Go.ChangeShapes Go.WideShapes Go.Deep Go.Joins
set_option linter.unusedVariables false
set_option maxRecDepth 100000
namespace Go.Proofs.YtehljfnoicppnaaDoor

def strsData {H : Type} (zs : List (List UInt8)) : DataW H := .agg (zs.map fun b => .lit (.string b))
theorem cells_of_strs {H : Type} {enc : TypeId × Value → H} {P : Program} {w : World} {base : Nat} {sp : Nat → Bool} {held : Bool} {fuel : Nat} {t e : TypeId} {n : Nat} {cs : List Value} {zs : List (List UInt8)} {p : List MemPlace}
    (ht : P.underlying t = some (.array n e)) (he : P.underlying e = some .string) (hce : P.cellsOf e = 1) (hct : P.cellsOf t = n)
    (h : DataW.trod enc P w base sp held fuel t cs = some (strsData zs, p)) : cs = zs.map fun z => Value.string ⟨z.toArray⟩ := by
  cases fuel with
  | zero => simp [DataW.trod] at h
  | succ fuel =>
    simp only [DataW.trod, ht, hce, hct, Nat.mul_one] at h
    split at h
    · rename_i hl
      obtain ⟨xs, hm, hx⟩ := Option.map_eq_some_iff.1 h
      have hxs : xs.map (·.1) = zs.map fun z => (DataW.lit (.string z) : DataW H) := by
        have := congrArg Prod.fst hx
        simpa [strsData] using this
      have hxl : xs.length = n := by simpa using Lib.mapM_length hm
      have hzl : zs.length = n := by
        have := congrArg List.length hxs
        simp at this
        omega
      apply List.ext_getElem?
      intro i
      by_cases hi : i < n
      · obtain ⟨b, hb, hf⟩ := Lib.mapM_at hm i i (by simp [hi])
        obtain ⟨z, hc, rfl, _⟩ := DataW.trod_string he hf
        have h1 : cs[i]? = some (.string z) := by
          have := congrArg (·[0]?) hc
          simpa [List.getElem?_take, List.getElem?_drop] using this
        have h2 : (xs.map (·.1))[i]? = some (DataW.lit (.string z.data.toList) : DataW H) := by simp [hb]
        rw [hxs] at h2
        simp only [List.getElem?_map, Option.map_eq_some_iff, DataW.lit.injEq, Lit.string.injEq] at h2
        obtain ⟨z', hz', rfl⟩ := h2
        simp [h1, hz']
      · rw [List.getElem?_eq_none (by omega), List.getElem?_eq_none (by simp; omega)]
    · cases h

theorem gSignsType : (Tryd.prog.globals[0]?).map (·.type) = some 140 := by kernel_rfl
theorem cellsSigns : Tryd.prog.cellsOf 140 = 12 := by kernel_rfl

/-- The row's list is met: the signs lie where the program lays them. -/
theorem sg_of_met {W : World} (h : laidMet Tryd.prog [("purlin/term.signs", strsData signL)] W) : Sg W := by
  obtain ⟨ps, ⟨g', t', cs, fuel, p, q, hg', ht', hvar, hd, _, _⟩, _⟩ := h
  obtain rfl := Option.some.inj (gSigns.symm.trans hg')
  obtain rfl := Option.some.inj (gSignsType.symm.trans ht')
  have hcs := cells_of_strs Tryd.underlying140 Tryd.underlying9 cellsS cellsSigns hd
  have hc : ∀ i, i < 12 → W.cell? ⟨0, i, none⟩ = some (.string (signB i)) := by
    intro i hi
    have h1 := World.var?_cell gSigns hvar i
    have h2 : cs[i]? = some (.string (signB i)) := by
      rw [← Array.getElem?_toList, hcs, List.getElem?_map]
      have h3 : signL[i]? = some (signL.getD i []) := by
        have hl : signL.length = 12 := rfl
        rw [List.getElem?_eq_getElem (by omega)]
        simp [List.getD, List.getElem?_eq_getElem (show i < signL.length by omega)]
      rw [h3]
      rfl
    simpa [h2] using h1
  refine ⟨?_, hc⟩
  have := World.block_lt_of_cell? W _ (hc 0 (by decide))
  omega

/-- A world for a witness: the settled one, the signs laid as their initialiser lays them. -/
noncomputable def laidWorld (os : Os) : World :=
  { World.holding Tryd.prog os ⟨#[], #[], []⟩ with heap := (World.holding Tryd.prog os ⟨#[], #[], []⟩).heap.modify 0 fun
      | .cells _ t frozen => .cells (signL.map fun z => Value.string ⟨z.toArray⟩).toArray t frozen
      | o => o }

theorem own : ownKnob Tryd.prog.godebug = none := by kernel_rfl
theorem laidOut : laidOutB Tryd.prog = true := by kernel_rfl

end Go.Proofs.YtehljfnoicppnaaDoor
