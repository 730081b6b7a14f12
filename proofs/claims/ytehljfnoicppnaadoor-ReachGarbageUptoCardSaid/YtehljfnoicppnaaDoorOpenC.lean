/- The laws' further arguments, opened with their sizes: rows of names. Conditions: none. -/
import Derived.Test.YtehljfnoicppnaaDoorOpenB
open Go Go.RowKit Go.ChangeShapes Go.WideShapes Go.Deep Go.Joins
set_option linter.unusedVariables false
set_option maxRecDepth 100000
namespace Go.Proofs.YtehljfnoicppnaaDoor

theorem arg_nms {H : Type} {enc : TypeId × Value → H} {w : World} {r : Reach} {b0 : Nat} {v : Value} {D : DataW H} {p : List MemPlace}
    (hv : Value.okWide Tryd.prog w r b0 49 v) (h : DataW.Trod enc Tryd.prog w 0 (fun _ => true) true 49 v D p) : ∃ xs, Sl NM w (Here w) v xs ∧ xs.length + 1 ≤ Rows.uptoBulk D := by
  obtain ⟨xs, h1, h2⟩ := arg_slz (OpensAt.one opens_nm) Tryd.underlying49 cellsNm hv h
  rw [sum_ones] at h2
  exact ⟨xs, h1, h2⟩

end Go.Proofs.YtehljfnoicppnaaDoor
