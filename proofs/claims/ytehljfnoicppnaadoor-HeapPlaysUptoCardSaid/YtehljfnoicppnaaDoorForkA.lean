/- Fork of a heap, the program's and the reference's, each by its contract. Conditions: the heap is one that was made so; the reference's has at most 2^31 values. -/
import Derived.Test.YtehljfnoicppnaaDoorRefI
import Derived.Test.YtehljfnoicppnaaDoorHeapF
import Derived.Shelf.SlMaps.Clone
import Derived.Deep.RegionLaw
open Go Go.RowKit
set_option linter.unusedVariables false
namespace Go.Proofs.YtehljfnoicppnaaDoor

set_option maxRecDepth 100000 in
set_option maxHeartbeats 1000000 in
theorem mapsClone_calls (r : Nat) (es : List MEnt) (ck : Nat) (w : World) (h : MapAt w r es ck) :
    Calls Tryd.prog 61 #[.map (some r)] w fun e w' => e = .returned (.map (some w.heap.size)) ∧ w' = w.alloc (.map (es.map ment).toArray ck) := by
  have hq := fun w => run_eql_map_nil_sl (P := Tryd.prog) w 87 _ _ (some r) Tryd.underlying87
  have hc := run_maps_clone_sl (P := Tryd.prog) w 87 h
  have HC := Lib.hid hc
  clear hc
  go_enter Tryd.func61, Tryd.ntmps61
  go_wp2
  rw [run_callFunc_extern Tryd.func86 (by kernel_rfl) (by kernel_rfl) (by kernel_rfl) (e := Extern.MapsClone.clone) (by kernel_rfl), HC.out]
  simp only [Result.andThen]
  rw [Oper.upon_value]
  go_wp2
  rw [run_typeAssert_map_sl _ 87 20 _ _ _ Tryd.underlying87]
  simp only [Result.andThen]
  rw [Oper.upon_value]
  go_wp2
  go_ret
  exact ⟨rfl, rfl⟩

set_option maxRecDepth 100000 in
set_option maxHeartbeats 1000000 in
theorem fork_calls (p r : Nat) (L : List Bd) (ok : Ok) (w : World) (h : HeapAt w ok p r L) :
    Calls Tryd.prog 26 #[.pointer (some ⟨p, 0, none⟩)] w fun e w' => (∃ p' r', e = .returned (.pointer (some ⟨p', 0, none⟩)) ∧ w.heap.size ≤ p' ∧ w.heap.size ≤ r' ∧ HeapAt w' ok p' r' L) ∧ Ext w w' := by
  have hp : w.cell? ⟨p, 0, none⟩ = some (.map (some r)) := cell_of_row w p 0 _ _ _ h.1
  have hpl : p < w.heap.size := World.block_lt_of_cell? w _ hp
  obtain ⟨h1, ⟨es, ck, h2, h3, hb⟩, h4⟩ := h
  have HC := Lib.hid (mapsClone_calls r es ck w h2)
  have HF := Lib.hid (show Fits w ok es L ∧ Births es ck ∧ OkL L from ⟨h3, hb, h4⟩)
  clear h1 h2 h3 hb h4
  go_enter Tryd.func26, Tryd.ntmps26
  go_wp2_with (go_at_call 61; refine HC.out.mono ?_; rintro e w1 ⟨rfl, rfl⟩)
  go_ret
  have hE : Ext w ((w.alloc (.map (es.map ment).toArray ck)).alloc (.cells #[.map (some w.heap.size)] 89)) := ((Ext.refl _).alloc _).alloc _
  refine ⟨⟨w.heap.size + 1, w.heap.size, rfl, by omega, Nat.le_refl _, ?_, ⟨es, ck, ?_, HF.out.1.imp fun _ _ hs => hs.ext hE, HF.out.2.1⟩, HF.out.2.2⟩, hE⟩
  · have := heap_alloc_new (w.alloc (.map (es.map ment).toArray ck)) (.cells #[.map (some w.heap.size)] 89)
    simpa using this
  · have := heap_alloc_new w (.map (es.map ment).toArray ck)
    exact (Below.heap_alloc _ _ _ (by simp)).trans this

set_option maxRecDepth 100000 in
set_option maxHeartbeats 1000000 in
theorem refFork_calls (q : Nat) (L : List Bd) (ok : Ok) (w : World) (h : RefAt w ok q L) (hL : L.length ≤ 2147483648) :
    Calls Tryd.prog 27 #[.pointer (some ⟨q, 0, none⟩)] w fun e w' => e = .returned (.pointer (some ⟨w.heap.size, 0, none⟩)) ∧ RefAt w' (fun k => (ok k ∧ k < w.heap.size) ∨ w.heap.size ≤ k) w.heap.size L ∧ Ext w w' := by
  obtain ⟨v, h1, h2⟩ := h
  have hq : w.cell? ⟨q, 0, none⟩ = some v := cell_of_row w q 0 _ _ _ h1
  have hql : q < w.heap.size := World.block_lt_of_cell? w _ hq
  have HS := Lib.hid h2.lt
  obtain ⟨A, c, rfl, _, _⟩ := h2
  clear h1
  go_enter Tryd.func27, Tryd.ntmps27
  go_wp2_with fail
  have hE0 : Ext w (w.alloc (.cells #[.slice none 0 0] 40)) := (Ext.refl _).alloc _
  have hn := heap_alloc_new w (.cells #[.slice none 0 0] 40)
  have hsz : (w.alloc (.cells #[.slice none 0 0] 40)).heap.size = w.heap.size + 1 := by simp
  generalize w.alloc (.cells #[.slice none 0 0] 40) = W at hE0 hn hsz ⊢
  have hq0 := hE0.cell hq
  have hn0 : W.cell? ⟨w.heap.size, 0, none⟩ = some (.slice none 0 0) := cell_of_row W _ 0 _ _ _ hn
  have HE0 := Lib.hid hE0
  have HN := Lib.hid hn
  have HSZ := Lib.hid hsz
  clear hE0 hn hq hsz
  go_region_law (refine step_append_mine (d := BD) (okS := fun k => (ok k ∧ k ≠ q) ∧ k < w.heap.size) (ok2 := fun k => (((ok k ∧ k ≠ q) ∧ k < w.heap.size) ∨ w.heap.size + 1 ≤ k)) rfl (.tmp 12) (.tmp 16) 22 33 zBdR 40 (w.heap.size + 1) rfl Tryd.underlying22 info_bd rfl (Own.nil BD _ _ _ (fun k => w.heap.size + 1 ≤ k)) (HS.out.ext (Ext.trans HE0.out (by repeat (first | with_reducible exact Ext.refl _ | assumption | refine Ext.alloc ?_ _ | refine Ext.drewN ?_ _ | refine Ext.drew ?_ | refine Ext.set ?_ (by simp <;> omega) _ _ | refine Ext.trans ?_ (by assumption))))) rfl rfl (fun k h => .inr h) ?_ (.inr ?_) ?_ (by decide) ?_ ?_; (focus (intro k hk; have := HSZ.out; simp at hk; exact .inr (by omega))); (focus (intro k hk _; exact ⟨.inl hk, by simp [Value.ownBlock]⟩)); (focus (simp; omega)); (focus (have := HSZ.out; simp; omega)); intro v' w4 hown hg hat; simp only [List.nil_append] at hown; have hE4 : Ext W w4 := (Ext.trans (by repeat (first | with_reducible exact Ext.refl _ | assumption | refine Ext.alloc ?_ _ | refine Ext.drewN ?_ _ | refine Ext.drew ?_ | refine Ext.set ?_ (by simp <;> omega) _ _ | refine Ext.trans ?_ (by assumption))) ((Ext.refl _).grown hg (fun k hk => by cases hk))); have hn4 := hE4.cell hn0; have HE4 := Lib.hid hE4; have hfz := frozen_of_row (hE4.heap HN.out); have HOwn := Lib.hid hown; obtain ⟨A4, c4, rfl, _, _⟩ := hown.sl; clear hown hg hat hE4)
  all_goals
    go_wp2
    go_ret
    refine ⟨rfl, ?_, (Ext.trans HE0.out HE4.out).set (Nat.le_refl _) _ _⟩
    have hn4' := HE4.out.heap HN.out
    refine ⟨.slice A4 L.length c4, by simp [World.setCell, Array.getElem?_modify, hn4'], HOwn.out.sl.move fun k hk hlt => ?_⟩
    have hkq : k ≠ w.heap.size := by rcases hk with hk | hk <;> omega
    exact ⟨⟨hk.elim (fun h => .inl ⟨h.1.1, h.2⟩) (fun h => .inr (by omega)), hkq⟩, Below.heap_setCell w4 ⟨w.heap.size, 0, none⟩ _ k hkq⟩

end Go.Proofs.YtehljfnoicppnaaDoor
