/- Bindings in memory: the codecs of a binding that somebody owns, and of one that can be read. Conditions: none. -/
import Derived.Test.YtehljfnoicppnaaDoorHeapD
open Go Go.RowKit
set_option linter.unusedVariables false
namespace Go.Proofs.YtehljfnoicppnaaDoor

/-- A binding in memory that somebody owns. -/
def OB : Cd Bd where
  sz := 3
  pos := by decide
  rel w ok x cs := ∃ v, cs = [.int .i64 x.v.a, .int .i64 x.v.b, v] ∧ NmOk x.v ∧ Own CL 36 0 w ok v x.t
  len := by rintro w ok x cs ⟨v, rfl, _⟩; rfl
  one := by
    rintro w ok x cs ⟨v, rfl, _, h⟩ u hu
    obtain ⟨A, c, rfl, _⟩ := h.sl
    simp at hu
    rcases hu with rfl | rfl | rfl <;> rfl
  move := by
    rintro w w' ok ok' x cs ⟨v, rfl, h, h2⟩ hk
    exact ⟨v, rfl, h, h2.move hk⟩
  bnd := by
    rintro w ok x cs ⟨v, rfl, h, h2⟩
    exact ⟨v, rfl, h, h2.bnd⟩
/-- A binding that can be read. -/
def BD : Cd Bd where
  sz := 3
  pos := by decide
  rel w ok x cs := ∃ v, cs = [.int .i64 x.v.a, .int .i64 x.v.b, v] ∧ NmOk x.v ∧ Sl CL w ok v x.t
  len := by rintro w ok x cs ⟨v, rfl, _⟩; rfl
  one := by
    rintro w ok x cs ⟨v, rfl, _, h⟩ u hu
    obtain ⟨A, c, rfl, _⟩ := h
    simp at hu
    rcases hu with rfl | rfl | rfl <;> rfl
  move := by
    rintro w w' ok ok' x cs ⟨v, rfl, h, h2⟩ hk
    exact ⟨v, rfl, h, h2.move hk⟩
  bnd := by
    rintro w ok x cs ⟨v, rfl, h, h2⟩
    exact ⟨v, rfl, h, h2.bnd⟩
/-- A codec that reads no less. -/
theorem Sl.weak {α : Type} {d d' : Cd α} {w : World} {ok : Ok} {v : Value} {xs : List α} (hs : d.sz = d'.sz) (hr : ∀ x cs, d.rel w ok x cs → d'.rel w ok x cs) (h : Sl d w ok v xs) : Sl d' w ok v xs := by
  obtain ⟨A, c, h1, h2, h3, h4⟩ := h
  refine ⟨A, c, h1, h2, h3, fun hn => ?_⟩
  obtain ⟨b, o, h5, h6, h7, h8⟩ := h4 hn
  refine ⟨b, o, h5, h6, h7, fun j x hx => ?_⟩
  obtain ⟨cs, h9, h10⟩ := h8 j x hx
  exact ⟨cs, hr x cs h9, fun i u hu => by rw [← hs]; exact h10 i u hu⟩
theorem OB.bd {w : World} {ok : Ok} {v : Value} {xs : List Bd} (h : Sl OB w ok v xs) : Sl BD w ok v xs :=
  Sl.weak (d := OB) rfl (fun x cs hr => by obtain ⟨u, h1, h2, h3⟩ := hr; exact ⟨u, h1, h2, Own.sl h3⟩) h

theorem Rd.nm_at {w : World} {ok : Ok} {b o : Nat} {xs : List Nm} (h : Rd NM w ok (some ⟨b, o, none⟩) xs) {j : Nat} {x : Nm} (hx : xs[j]? = some x) :
    b < w.heap.size ∧ NmOk x ∧ w.cell? ⟨b, o + j * 2, none⟩ = some (.int .i64 x.a) ∧ w.cell? ⟨b, o + j * 2 + 1, none⟩ = some (.int .i64 x.b) := by
  have hj := (List.getElem?_eq_some_iff.1 hx).1
  obtain ⟨b', o', hA, hok, hlt, hc⟩ := h.2 (by omega)
  injection hA with hA
  injection hA with h1 h2
  subst h1 h2
  obtain ⟨cs, ⟨rfl, hs⟩, hcell⟩ := hc j x hx
  exact ⟨hlt, hs, hcell 0 _ rfl, hcell 1 _ rfl⟩
theorem own_down {α : Type} {d : Cd α} {e base base' : Nat} {w : World} {ok : Ok} {v : Value} {xs : List α} (hb : base' ≤ base) (h : Own d e base w ok v xs) : Own d e base' w ok v xs := by
  obtain ⟨h1, css, h2, h3, h4⟩ := h
  refine ⟨h1, css, h2, h3, h4.1, ?_⟩
  rcases h4.2 with h5 | ⟨g, cap, cur, h5, h6, h7⟩
  · exact .inl h5
  · exact .inr ⟨g, cap, cur, h5, Nat.le_trans hb h6, h7⟩

end Go.Proofs.YtehljfnoicppnaaDoor
