/- Small words for the laws' own live tests: names, cells and terms that are right; what stays beside one block. Conditions: none. -/
import Derived.Test.YtehljfnoicppnaaDoorHeapD
open Go Go.RowKit
set_option linter.unusedVariables false
namespace Go.Proofs.YtehljfnoicppnaaDoor

theorem ExtBut.ext0 {r : Nat} {w0 w w' : World} (h0 : Ext w0 w) (h : ExtBut r w w') (hr : w0.heap.size ≤ r) : Ext w0 w' :=
  ⟨h.os.trans h0.os, h.tape.trans h0.tape, h.output.trans h0.output, Nat.le_trans h0.le h.size, fun k hk => (h.block k (Nat.lt_of_lt_of_le hk h0.le) (by omega)).trans (h0.block k hk)⟩
theorem ExtBut.cell {r : Nat} {w w' : World} (h : ExtBut r w w') {b o : Nat} {v : Value} (hb : b ≠ r) (hc : w.cell? ⟨b, o, none⟩ = some v) : w'.cell? ⟨b, o, none⟩ = some v :=
  (cell_of_block (h.block b (World.block_lt_of_cell? w _ hc) hb)).trans hc
theorem rightB_one {c : Cl} (h : cellB c = true) (hp : partsS c = 0) : rightB [c] := by
  refine ⟨by simp, by simp, ?_, by simpa using h⟩
  unfold endS
  simp [endL, hp]
def lvA : Nm := ⟨0, 1⟩
def lvB : Nm := ⟨0, 2⟩
def lc3 : Cl := ⟨1, ⟨#[]⟩, 3, ⟨0, 0⟩⟩
theorem var_cell (v : Nm) (h1 : -1 ≤ v.a) (h2 : v.a < 4) (h3 : 0 ≤ v.b) : cellB (vcl v) = true := by
  simp [cellB, CellP, vcl, h1, h2, h3]
theorem var_right (v : Nm) (h1 : -1 ≤ v.a) (h2 : v.a < 4) (h3 : 0 ≤ v.b) : varS v = [vcl v] := by
  unfold varS
  rw [if_pos]
  exact rightS_iff.2 (rightB_one (var_cell v h1 h2 h3) (by simp [partsS, vcl]))
theorem nmok_A : NmOk ⟨0, 1⟩ := by refine ⟨?_, ?_⟩ <;> simp [IOk]
theorem nmok_B : NmOk ⟨0, 2⟩ := by refine ⟨?_, ?_⟩ <;> simp [IOk]
theorem clok_vcl {v : Nm} (h : NmOk v) : ClOk (vcl v) := ⟨Nat.zero_le _, by simp [vcl], by simp [vcl], ⟨by simp [vcl], by simp [vcl]⟩, h⟩
theorem clok_lc3 : ClOk lc3 := ⟨Nat.zero_le _, by simp [lc3], by simp [lc3], ⟨by simp [lc3], by simp [lc3]⟩, ⟨by simp [lc3, IOk], by simp [lc3, IOk]⟩⟩
theorem lc3_cell : cellB lc3 = true := by simp [cellB, CellP, lc3]
end Go.Proofs.YtehljfnoicppnaaDoor
