/- The reference's Bind in one; the list behind a row of bindings. Conditions: the heap is one of the reference's, of fewer than 2^31 values. -/
import Derived.Test.YtehljfnoicppnaaDoorBothA
import Derived.Test.YtehljfnoicppnaaDoorRefI
open Go Go.RowKit
set_option linter.unusedVariables false
namespace Go.Proofs.YtehljfnoicppnaaDoor

theorem refBind_calls (q : Nat) (L : List Bd) (ok okT : Ok) (a b : Int) (tv : Value) (t : List Cl) (w : World) (h : RefAt w ok q L) (ha : NmOk ⟨a, b⟩) (ht : Sl CL w okT tv t) (hL : L.length ≤ 2147483647) :
    Calls Tryd.prog 47 #[.pointer (some ⟨q, 0, none⟩), .agg #[.int .i64 a, .int .i64 b], tv] w (RBindP w ok q L ⟨a, b⟩ t) := by
  by_cases h0 : bindE L ⟨a, b⟩ t = 0
  · exact refBind_ok q L ok okT a b tv t w h ha ht hL h0
  · exact refBind_err q L ok okT a b tv t w h ha ht h0

theorem bindL_len (L : List Bd) (v : Nm) (t : List Cl) : (bindL L v t).length ≤ L.length + 1 := by
  unfold bindL
  split
  · rw [(insL_perm _ L).length_eq]; simp
  · omega
theorem bothL_len : ∀ (l M : List Bd), (bothL l M).length ≤ M.length + l.length
  | [], M => by simp [bothL]
  | b :: l, M => by
    have h1 := bothL_len l (bindL M b.v b.t)
    have h2 := bindL_len M b.v b.t
    simp only [bothL, List.foldl_cons, List.length_cons] at *
    omega
theorem bothL_step {l M : List Bd} {i : Nat} {b : Bd} (hx : l[i]? = some b) : bothL (l.take (i + 1)) M = bindL (bothL (l.take i) M) b.v b.t := by
  unfold bothL
  rw [List.take_add_one, hx]
  simp

end Go.Proofs.YtehljfnoicppnaaDoor
