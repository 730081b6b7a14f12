/- Writing over terms that were handed out: what stays, and that it can be written. Conditions: none; no program is walked here. -/
import Derived.Test.YtehljfnoicppnaaDoorBothB
open Go Go.RowKit
set_option linter.unusedVariables false
namespace Go.Proofs.YtehljfnoicppnaaDoor

/-- A block of cells of terms. -/
def IsTerm (w : World) (k : Nat) : Prop := ∃ cur : Array Value, w.heap[k]? = some (Obj.cells cur 36 (0, 0))
/-- From block B on, cells of terms alone have been written. -/
structure Wr (B : Nat) (w w' : World) : Prop where
  os : w'.os = w.os
  tape : w'.tape = w.tape
  output : w'.output = w.output
  size : w.heap.size ≤ w'.heap.size
  keep : ∀ k, k < w.heap.size → (k < B ∨ ¬ IsTerm w k) → w'.heap[k]? = w.heap[k]?
  cells : ∀ (k : Nat) (cur : Array Value), w.heap[k]? = some (Obj.cells cur 36 (0, 0)) → ∃ cur' : Array Value, w'.heap[k]? = some (Obj.cells cur' 36 (0, 0)) ∧ cur'.size = cur.size
theorem Ext.wr {w w' : World} (h : Ext w w') (B : Nat) : Wr B w w' := ⟨h.os, h.tape, h.output, h.size, fun k hk _ => h.block k hk, fun k cur hc => ⟨cur, h.heap hc, rfl⟩⟩
theorem Wr.refl (B : Nat) (w : World) : Wr B w w := (Ext.refl w).wr B
theorem Wr.trans {B : Nat} {a b c : World} (h : Wr B a b) (k : Wr B b c) : Wr B a c := by
  refine ⟨k.os.trans h.os, k.tape.trans h.tape, k.output.trans h.output, Nat.le_trans h.size k.size, fun i hi hb => ?_, fun i cur hc => ?_⟩
  · have h1 := h.keep i hi hb
    refine (k.keep i (Nat.lt_of_lt_of_le hi h.size) ?_).trans h1
    rcases hb with hb | hb
    · exact .inl hb
    · exact .inr fun ⟨cur, hc⟩ => hb ⟨cur, h1 ▸ hc⟩
  · obtain ⟨c1, h1, h2⟩ := h.cells i cur hc
    obtain ⟨c2, h3, h4⟩ := k.cells i c1 h1
    exact ⟨c2, h3, h4.trans h2⟩
theorem Wr.set {B : Nat} {w : World} {tb n : Nat} (h : TbOk w tb n) (hB : B ≤ tb) (o : Nat) (v : Value) : Wr B w (w.setCell ⟨tb, o, none⟩ v) := by
  obtain ⟨cur, h1, _⟩ := h
  refine ⟨rfl, rfl, rfl, by simp, fun k hk hb => Below.heap_setCell w ⟨tb, o, none⟩ v k ?_, fun k c hc => ?_⟩
  · intro he
    have he : k = tb := he
    rcases hb with hb | hb
    · omega
    · exact hb ⟨cur, by rw [he]; exact h1⟩
  · by_cases hk : k = tb
    · subst hk
      rw [h1] at hc
      injection hc with hc
      injection hc with hc
      subst hc
      exact ⟨cur.setIfInBounds o v, by simp [World.setCell, Array.getElem?_modify, h1], by simp⟩
    · exact ⟨c, (Below.heap_setCell w ⟨tb, o, none⟩ v k hk).trans hc, rfl⟩
theorem Wr.ext {w0 w w' : World} (h : Ext w0 w) (k : Wr w0.heap.size w w') : Ext w0 w' :=
  ⟨k.os.trans h.os, k.tape.trans h.tape, k.output.trans h.output, Nat.le_trans h.le k.size, fun i hi => (k.keep i (Nat.lt_of_lt_of_le hi h.le) (.inl hi)).trans (h.block i hi)⟩
theorem TbOk.wr {B : Nat} {w w' : World} {tb n : Nat} (h : TbOk w tb n) (k : Wr B w w') : TbOk w' tb n := by
  obtain ⟨cur, h1, h2⟩ := h
  obtain ⟨c, h3, h4⟩ := k.cells tb cur h1
  exact ⟨c, h3, by omega⟩
theorem Wr.cell {B : Nat} {w w' : World} (k : Wr B w w') {b o : Nat} {v : Value} (hb : ¬ IsTerm w b) (hc : w.cell? ⟨b, o, none⟩ = some v) : w'.cell? ⟨b, o, none⟩ = some v :=
  (cell_of_block (k.keep b (World.block_lt_of_cell? w _ hc) (.inr hb))).trans hc
theorem Own.noTerm {α : Type} {d : Cd α} {e base : Nat} {w : World} {ok : Ok} {b o n c : Nat} {xs : List α} (h : Own d e base w ok (.slice (some ⟨b, o, none⟩) n c) xs) (he : e ≠ 36) : ¬ IsTerm w b := by
  rintro ⟨cur, hc⟩
  obtain ⟨cs, hcs⟩ := h.typed b rfl
  rw [hcs] at hc
  injection hc with hc
  injection hc with _ hc
  exact he hc

theorem Rd.ob_at {w : World} {ok : Ok} {b o : Nat} {xs : List Bd} (h : Rd OB w ok (some ⟨b, o, none⟩) xs) {j : Nat} {x : Bd} (hx : xs[j]? = some x) :
    b < w.heap.size ∧ ∃ u, w.cell? ⟨b, o + j * 3 + 2, none⟩ = some u ∧ Own CL 36 0 w ok u x.t := by
  have hj := (List.getElem?_eq_some_iff.1 hx).1
  obtain ⟨b', o', hA, hok, hlt, hc⟩ := h.2 (by omega)
  injection hA with hA
  injection hA with h1 h2
  subst h1 h2
  obtain ⟨cs, ⟨u, rfl, hn, hs⟩, hcell⟩ := hc j x hx
  exact ⟨hlt, u, hcell 2 _ rfl, hs⟩
theorem Rd.ot_at {w : World} {ok : Ok} {b o : Nat} {xs : List (List Cl)} (h : Rd OT w ok (some ⟨b, o, none⟩) xs) {j : Nat} {x : List Cl} (hx : xs[j]? = some x) :
    b < w.heap.size ∧ ∃ u, w.cell? ⟨b, o + j, none⟩ = some u ∧ Own CL 36 0 w ok u x := by
  have hj := (List.getElem?_eq_some_iff.1 hx).1
  obtain ⟨b', o', hA, hok, hlt, hc⟩ := h.2 (by omega)
  injection hA with hA
  injection hA with h1 h2
  subst h1 h2
  obtain ⟨cs, ⟨u, rfl, hs⟩, hcell⟩ := hc j x hx
  refine ⟨hlt, u, ?_, hs⟩
  have := hcell 0 _ rfl
  have h1 : OT.sz = 1 := rfl
  rw [h1] at this
  simpa using this
/-- What is written lies at the head of a block of its own, or there is nothing. -/
theorem own_writes {w : World} {ok : Ok} {u : Value} {t : List Cl} (h : Own CL 36 0 w ok u t) : ∃ A c, u = .slice A t.length c ∧ (0 < t.length → ∃ tb, A = some ⟨tb, 0, none⟩ ∧ ok tb ∧ TbOk w tb t.length) := by
  obtain ⟨A, c, rfl, _, _⟩ := h.sl
  exact ⟨A, c, rfl, fun hn => own_block h hn⟩

end Go.Proofs.YtehljfnoicppnaaDoor
