/- The reference's signs, cells and variables, each by its contract, in the program side's words. Conditions: none. -/
import Derived.Test.YtehljfnoicppnaaDoorRefA
open Go Go.RowKit
set_option linter.unusedVariables false
namespace Go.Proofs.YtehljfnoicppnaaDoor

set_option maxRecDepth 100000 in
set_option maxHeartbeats 1000000 in
theorem refSign_calls (s : ByteArray) (w : World) :
    Calls Tryd.prog 112 #[.string s] w fun e w' => e = .returned (.bool (isSign s)) ∧ Ext w w' := by
  go_enter Tryd.func112, Tryd.ntmps112
  go_wp2
  have hE0 : Ext w (w.alloc (.cells #[.string ⟨#[61]⟩, .string ⟨#[58, 61]⟩, .string ⟨#[64]⟩, .string ⟨#[43]⟩, .string ⟨#[45]⟩, .string ⟨#[42]⟩, .string ⟨#[60]⟩, .string ⟨#[61, 60]⟩, .string ⟨#[62]⟩, .string ⟨#[62, 61]⟩, .string ⟨#[61, 58, 61]⟩, .string ⟨#[61, 92, 61]⟩] 140)) := (Ext.refl w).alloc _
  have hb0 := heap_alloc_new w (.cells #[.string ⟨#[61]⟩, .string ⟨#[58, 61]⟩, .string ⟨#[64]⟩, .string ⟨#[43]⟩, .string ⟨#[45]⟩, .string ⟨#[42]⟩, .string ⟨#[60]⟩, .string ⟨#[61, 60]⟩, .string ⟨#[62]⟩, .string ⟨#[62, 61]⟩, .string ⟨#[61, 58, 61]⟩, .string ⟨#[61, 92, 61]⟩] 140)
  generalize w.alloc (.cells #[.string ⟨#[61]⟩, .string ⟨#[58, 61]⟩, .string ⟨#[64]⟩, .string ⟨#[43]⟩, .string ⟨#[45]⟩, .string ⟨#[42]⟩, .string ⟨#[60]⟩, .string ⟨#[61, 60]⟩, .string ⟨#[62]⟩, .string ⟨#[62, 61]⟩, .string ⟨#[61, 58, 61]⟩, .string ⟨#[61, 92, 61]⟩] 140) = W at hE0 hb0 ⊢
  have hcell : ∀ i, i < 12 → W.cell? ⟨w.heap.size, i, none⟩ = some (.string (signB i)) := by
    intro i hi
    rw [cell_of_row W w.heap.size i _ _ _ hb0]
    match i, hi with
    | 0, _ | 1, _ | 2, _ | 3, _ | 4, _ | 5, _ | 6, _ | 7, _ | 8, _ | 9, _ | 10, _ | 11, _ => rfl
  have HC := Lib.hid hcell
  clear hcell hb0
  go_loop [4] (fun u => ∃ k : Nat, k ≤ 12 ∧ u = .int .i64 k ∧ ∀ i, i < k → s ≠ signB i) (fun u => 12 - (intOf u).toNat)
  case atStart => exact ⟨0, Nat.zero_le _, rfl, fun i h => absurd h (by omega)⟩
  case round =>
    obtain ⟨k, hk, rfl, hok⟩ := hrel
    have H := Lib.hid hok
    clear hok
    by_cases hlt : k < 12
    · have hc := HC.out k hlt
      by_cases he : s = signB k
      · have hb : (s.toList == (signB k).toList) = true := by rw [he]; simp
        have hp : isSign s = true := by simp only [isSign, List.any_eq_true]; exact ⟨k, by simp; omega, by simp [he]⟩
        have HP := Lib.hid hp
        clear he hp
        go_wp2
        go_ret
        exact ⟨ret_bool HP.out.symm, hE0⟩
      · have hb : (s.toList == (signB k).toList) = false := beq_eq_false_iff_ne.2 (fun h => he (toList_inj.1 h))
        have HE := Lib.hid he
        clear he
        go_wp2
        refine ⟨⟨k + 1, by omega, by go_num, fun i hi => ?_⟩, by simp [intOf]; omega⟩
        rcases Nat.lt_or_ge i k with h1 | h1
        · exact H.out i h1
        · obtain rfl : i = k := by omega
          exact HE.out
    · obtain rfl : k = 12 := by omega
      have hn : isSign s = false := by
        simp only [isSign, List.any_eq_false]
        intro i hi
        simp at hi
        simpa using H.out i hi
      have HN := Lib.hid hn
      clear hn
      go_wp2
      go_ret
      exact ⟨ret_bool HN.out.symm, hE0⟩

end Go.Proofs.YtehljfnoicppnaaDoor
