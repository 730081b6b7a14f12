/- A nil heap: Bind, Resolve, Fork and Drop; and Drop from a heap. Conditions: the list of names has at most 2^62 names. -/
import Derived.Test.YtehljfnoicppnaaDoorHeapE
open Go Go.RowKit
set_option linter.unusedVariables false
namespace Go.Proofs.YtehljfnoicppnaaDoor

set_option maxRecDepth 100000 in
set_option maxHeartbeats 1000000 in
theorem bindNil_calls (a b : Int) (tv : Value) (w : World) :
    Calls Tryd.prog 30 #[.pointer none, .agg #[.int .i64 a, .int .i64 b], tv] w fun e w' => e = .returned (.int .i64 1) ∧ Ext w w' := by
  go_enter Tryd.func30, Tryd.ntmps30
  go_wp2
  go_ret
  exact ⟨rfl, (by repeat (first | with_reducible exact Ext.refl _ | assumption | refine Ext.alloc ?_ _ | refine Ext.drewN ?_ _ | refine Ext.drew ?_ | refine Ext.set ?_ (by simp <;> omega) _ _ | refine Ext.trans ?_ (by assumption)))⟩
set_option maxRecDepth 100000 in
set_option maxHeartbeats 1000000 in
theorem resolveNil_calls (tv : Value) (w : World) :
    Calls Tryd.prog 17 #[.pointer none, tv] w fun e w' => e = .returned (.tuple #[.slice none 0 0, .int .i64 1]) ∧ Ext w w' := by
  go_enter Tryd.func17, Tryd.ntmps17
  go_wp2
  go_ret2
  exact ⟨rfl, (by repeat (first | with_reducible exact Ext.refl _ | assumption | refine Ext.alloc ?_ _ | refine Ext.drewN ?_ _ | refine Ext.drew ?_ | refine Ext.set ?_ (by simp <;> omega) _ _ | refine Ext.trans ?_ (by assumption)))⟩
set_option maxRecDepth 100000 in
set_option maxHeartbeats 1000000 in
theorem forkNil_calls (w : World) :
    Calls Tryd.prog 26 #[.pointer none] w fun e w' => e = .returned (.pointer none) ∧ Ext w w' := by
  go_enter Tryd.func26, Tryd.ntmps26
  go_wp2
  go_ret
  exact ⟨rfl, (by repeat (first | with_reducible exact Ext.refl _ | assumption | refine Ext.alloc ?_ _ | refine Ext.drewN ?_ _ | refine Ext.drew ?_ | refine Ext.set ?_ (by simp <;> omega) _ _ | refine Ext.trans ?_ (by assumption)))⟩
theorem Rd.nm_at {w : World} {ok : Ok} {b o : Nat} {xs : List Nm} (h : Rd NM w ok (some ⟨b, o, none⟩) xs) {j : Nat} {x : Nm} (hx : xs[j]? = some x) :
    b < w.heap.size ∧ NmOk x ∧ w.cell? ⟨b, o + j * 2, none⟩ = some (.int .i64 x.a) ∧ w.cell? ⟨b, o + j * 2 + 1, none⟩ = some (.int .i64 x.b) := by
  have hj := (List.getElem?_eq_some_iff.1 hx).1
  obtain ⟨b', o', hA, hok, hlt, hc⟩ := h.2 (by omega)
  injection hA with hA
  injection hA with h1 h2
  subst h1 h2
  obtain ⟨cs, ⟨rfl, hs⟩, hcell⟩ := hc j x hx
  exact ⟨hlt, hs, hcell 0 _ rfl, hcell 1 _ rfl⟩
set_option maxRecDepth 100000 in
set_option maxHeartbeats 1000000 in
theorem dropNil_calls (lv : Value) (ns : List Nm) (ok : Ok) (w : World) (h : Sl NM w ok lv ns) :
    Calls Tryd.prog 28 #[.pointer none, lv] w fun e w' => e = .returned (.tuple #[]) ∧ Ext w w' := by
  obtain ⟨A, c, rfl, _, hr⟩ := h
  have hm := hr.1
  unfold maxLen at hm
  have HR := Lib.hid hr
  clear hr
  go_enter Tryd.func28, Tryd.ntmps28
  go_wp2
  go_loopw [8] (fun s wr => ∃ i : Nat, i ≤ ns.length ∧ s = .int .i64 i ∧ Ext w wr) (fun s _ => ns.length - (intOf s).toNat)
  case atStart => exact ⟨0, Nat.zero_le _, rfl, Ext.refl _⟩
  case round =>
    obtain ⟨i, hi, rfl, hE⟩ := hrel
    by_cases hlt : i < ns.length
    · obtain ⟨⟨a, b⟩, hx⟩ : ∃ x, ns[i]? = some x := ⟨_, List.getElem?_eq_getElem hlt⟩
      obtain ⟨gb, go, rfl, _, _⟩ := HR.out.some_ (by omega)
      obtain ⟨_, _, hc0, hc1⟩ := (HR.out.ext hE).nm_at hx
      have HE := Lib.hid hE
      clear hx hE
      go_wp2
      exact ⟨⟨i + 1, by omega, by go_num, HE.out.alloc _⟩, by simp [intOf]; omega⟩
    · obtain rfl : i = ns.length := by omega
      go_wp2
      go_end0
      exact ⟨rfl, hE⟩

end Go.Proofs.YtehljfnoicppnaaDoor
