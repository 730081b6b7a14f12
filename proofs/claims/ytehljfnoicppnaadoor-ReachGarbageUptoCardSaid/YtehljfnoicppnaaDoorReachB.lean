/- reach.walk and its come, by their contracts. Conditions: the heap is nil or one that the package made; at most 2^31 names can be come to. -/
import Derived.Test.YtehljfnoicppnaaDoorReachS
import Derived.Test.YtehljfnoicppnaaDoorHeapD
open Go Go.RowKit
set_option linter.unusedVariables false
namespace Go.Proofs.YtehljfnoicppnaaDoor

theorem ExtBut.ext00 {r : Nat} {w0 w w' : World} (h : ExtBut r w w') (h0 : Ext w0 w) (hr : w0.heap.size ≤ r) : Ext w0 w' :=
  ⟨h.os.trans h0.os, h.tape.trans h0.tape, h.output.trans h0.output, Nat.le_trans h0.le h.size, fun k hk => (h.block k (Nat.lt_of_lt_of_le hk h0.le) (by omega)).trans (h0.block k hk)⟩
/-- What the map's entries say. -/
def Vals (es : List MEnt) (S : List Way) : Prop := es.map (fun e => (e.1, e.2.1)) = S.map (fun p => (p.1, kv p.2))
theorem Vals.keys {es : List MEnt} {S : List Way} (h : Vals es S) : es.map (·.1) = keysW S := by
  have := congrArg (List.map Prod.fst) h
  simpa [keysW, Function.comp_def] using this
/-- The walk's two variables: the row in block Bl, the map r in block Bf. -/
structure WkAt (w0 w : World) (Bl Bf r : Nat) (lv : Value) (S : List Way) : Prop where
  lb : w0.heap.size ≤ Bl
  fb : w0.heap.size ≤ Bf
  rb : w0.heap.size ≤ r
  l : w.heap[Bl]? = some (.cells #[lv] 49 (0, 0))
  own : Own NM 31 w0.heap.size w (fun k => w0.heap.size ≤ k) lv (keysW S)
  f : w.heap[Bf]? = some (.cells #[.map (some r)] 101 (0, 0))
  m : ∃ es ck, MapAt w r es ck ∧ Vals es S
theorem WkAt.ext {w0 w w' : World} {Bl Bf r : Nat} {lv : Value} {S : List Way} (h : WkAt w0 w Bl Bf r lv S) (he : Ext w w') : WkAt w0 w' Bl Bf r lv S := by
  obtain ⟨es, ck, h1, h2⟩ := h.m
  exact ⟨h.lb, h.fb, h.rb, he.heap h.l, h.own.ext he, he.heap h.f, es, ck, he.heap h1, h2⟩

/-- What a call of come may turn: the row's variable, the map, the row's own block. -/
def Chg (w w' : World) (Bl r : Nat) (lv lv' : Value) : Prop :=
  (∀ k, k < w.heap.size → k ≠ Bl → k ≠ r → lv.ownBlock ≠ some k → w'.heap[k]? = w.heap[k]?) ∧ (lv'.ownBlock = lv.ownBlock ∨ ∀ k, lv'.ownBlock = some k → w.heap.size ≤ k) ∧ w.heap.size ≤ w'.heap.size
/-- What is left behind a name that is new. -/
theorem wk_new {w0 w W w5 w6 w7 : World} {Bl Bf r ck : Nat} {lv v' : Value} {S : List Way} {es : List MEnt} {x y : Nm} (h : WkAt w0 w Bl Bf r lv S) (h0 : Ext w0 w) (hW : Ext w W) (hm : MapAt W r es ck) (hv : Vals es S) (hx : x ∉ keysW S)
    (h5 : w5 = ({ W with heap := W.heap.setIfInBounds r (.map ((storeM x (kv y) es ck).1.map ment).toArray (storeM x (kv y) es ck).2) } : World))
    (h6 : Ext w0 w6) (h6f : w6.heap[Bf]? = w5.heap[Bf]?) (h6r : w6.heap[r]? = w5.heap[r]?) (h6l : w6.heap[Bl]? = some (.cells #[lv] 49 (0, 0))) (hown : Own NM 31 w0.heap.size w6 (fun k => w0.heap.size ≤ k) v' (keysW S ++ [x]))
    (h7 : w7 = w6.setCell ⟨Bl, 0, none⟩ v') : WkAt w0 w7 Bl Bf r v' (comeS S x y) ∧ Ext w0 w7 := by
  have hc : comeS S x y = S ++ [(x, y)] := by unfold comeS; rw [if_neg hx]
  have hrl : r < W.heap.size := (Array.getElem?_eq_some_iff.1 hm).1
  have hother : ∀ k, k ≠ Bl → w7.heap[k]? = w6.heap[k]? := fun k hk => by rw [h7]; exact Below.heap_setCell w6 ⟨Bl, 0, none⟩ v' k hk
  have hfl : Bf ≠ Bl := fun e => by
    have h1 := h.f
    rw [e, h.l] at h1
    injection h1 with h1
    injection h1 with _ h1
    cases h1
  have hmw : w.heap[r]? = some (.map (es.map ment).toArray ck) := by
    obtain ⟨es', ck', h1, h2⟩ := h.m
    have := hW.heap h1
    unfold MapAt at hm
    rw [hm] at this
    injection this with this
    injection this with h3 h4
    rw [h3, h4]
    exact h1
  have hrl' : r ≠ Bl := fun e => by rw [e, h.l] at hmw; cases hmw
  have hrf : r ≠ Bf := fun e => by rw [e, h.f] at hmw; cases hmw
  have hob : v'.ownBlock ≠ some Bl := by
    intro e
    obtain ⟨cs, hcs⟩ := hown.typed Bl e
    rw [h6l] at hcs
    injection hcs with hcs
    injection hcs with _ hcs
    cases hcs
  refine ⟨⟨h.lb, h.fb, h.rb, ?_, ?_, ?_, es ++ [(x, kv y, ck)], ck + 1, ?_, ?_⟩, ?_⟩
  · rw [h7]
    simp [World.setCell, Array.getElem?_modify, h6l]
  · rw [hc]
    have hk : keysW (S ++ [(x, y)]) = keysW S ++ [x] := by simp [keysW]
    rw [hk]
    have h8 : Own NM 31 w0.heap.size w6 (fun k => w0.heap.size ≤ k ∧ k ≠ Bl) v' (keysW S ++ [x]) := by
      obtain ⟨h9, css, h10, h11, h12⟩ := hown
      exact ⟨fun k hk => ⟨h9 k hk, fun e => hob (e ▸ hk)⟩, css, h10, fun j z cs hz hcs => h11 j z cs hz hcs, h12⟩
    exact h8.move fun k hk _ => ⟨hk.1, hother k hk.2⟩
  · refine (hother Bf hfl).trans (h6f.trans ?_)
    have := (ExtBut.put r W (.map ((storeM x (kv y) es ck).1.map ment).toArray (storeM x (kv y) es ck).2)).block Bf (Array.getElem?_eq_some_iff.1 (hW.heap h.f)).1 (Ne.symm hrf)
    rw [h5, this]
    exact hW.heap h.f
  · unfold MapAt
    rw [hother r hrl', h6r, h5]
    have hfn : findM x es 0 = none := findM_none fun e he hk => hx (by rw [← hv.keys]; exact List.mem_map.2 ⟨e, he, hk⟩)
    have hst : storeM x (kv y) es ck = (es ++ [(x, kv y, ck)], ck + 1) := by unfold storeM; rw [hfn]
    rw [hst]
    simp [hrl]
  · unfold Vals
    rw [hc, List.map_append, List.map_append, hv]
    rfl
  · rw [h7]
    exact h6.set h.lb _ _

theorem wk_apart {w0 w5 w6 : World} {Bl n lc : Nat} {lA : Option Addr} {xs : List Nm} {o : Obj} (h : Own NM 31 w0.heap.size w5 (fun k => w0.heap.size ≤ k) (.slice lA n lc) xs) {u : Value} (hl : w5.heap[Bl]? = some (.cells #[u] 49 (0, 0))) (hg : (w5.alloc o).grownBy w6 (Value.slice lA n lc).ownBlock) : w6.heap[Bl]? = some (.cells #[u] 49 (0, 0)) := by
  have hlt := (Array.getElem?_eq_some_iff.1 hl).1
  refine (hg.block Bl (by simp; omega) (fun e => ?_)).trans ((Below.heap_alloc w5 o Bl hlt).trans hl)
  obtain ⟨cs, hcs⟩ := h.typed Bl e.symm
  rw [hl] at hcs
  injection hcs with hcs
  injection hcs with _ hcs
  cases hcs
theorem wk_apart_f {w0 w5 w6 : World} {Bf n lc : Nat} {lA : Option Addr} {xs : List Nm} {o : Obj} (h : Own NM 31 w0.heap.size w5 (fun k => w0.heap.size ≤ k) (.slice lA n lc) xs) {u : Value} (hl : w5.heap[Bf]? = some (.cells #[u] 101 (0, 0))) (hg : (w5.alloc o).grownBy w6 (Value.slice lA n lc).ownBlock) : w6.heap[Bf]? = w5.heap[Bf]? := by
  have hlt := (Array.getElem?_eq_some_iff.1 hl).1
  refine (hg.block Bf (by simp; omega) (fun e => ?_)).trans (Below.heap_alloc w5 o Bf hlt)
  obtain ⟨cs, hcs⟩ := h.typed Bf e.symm
  rw [hl] at hcs
  injection hcs with hcs
  injection hcs with _ hcs
  cases hcs
theorem wk_apart_r {w0 w5 w6 : World} {r n lc : Nat} {lA : Option Addr} {xs : List Nm} {o : Obj} (h : Own NM 31 w0.heap.size w5 (fun k => w0.heap.size ≤ k) (.slice lA n lc) xs) (hl : ∃ es n', w5.heap[r]? = some (.map es n')) (hg : (w5.alloc o).grownBy w6 (Value.slice lA n lc).ownBlock) : w6.heap[r]? = w5.heap[r]? := by
  obtain ⟨es, n', hl⟩ := hl
  have hlt := (Array.getElem?_eq_some_iff.1 hl).1
  refine (hg.block r (by simp; omega) (fun e => ?_)).trans (Below.heap_alloc w5 o r hlt)
  obtain ⟨cs, hcs⟩ := h.typed r e.symm
  rw [hl] at hcs
  cases hcs

set_option maxRecDepth 100000 in
set_option maxHeartbeats 4000000 in
theorem come_calls (a b c d : Int) (w0 w : World) (Bl Bf r : Nat) (lv : Value) (S : List Way) (h : WkAt w0 w Bl Bf r lv S) (h0 : Ext w0 w) (hn : NmOk ⟨a, b⟩) (hl : S.length ≤ 2147483648) :
    Calls Tryd.prog 91 #[.agg #[.int .i64 a, .int .i64 b], .agg #[.int .i64 c, .int .i64 d], .pointer (some ⟨Bf, 0, none⟩), .pointer (some ⟨Bl, 0, none⟩)] w fun e w' => e = .returned (.tuple #[]) ∧ (∃ lv', WkAt w0 w' Bl Bf r lv' (comeS S ⟨a, b⟩ ⟨c, d⟩) ∧ Chg w w' Bl r lv lv') ∧ Ext w0 w' := by
  obtain ⟨es, ck, hm, hv⟩ := h.m
  have hf : w.cell? ⟨Bf, 0, none⟩ = some (.map (some r)) := cell_of_row w Bf 0 _ _ _ h.f
  have hlc : w.cell? ⟨Bl, 0, none⟩ = some lv := cell_of_row w Bl 0 _ _ _ h.l
  have hfl : Bf < w.heap.size := World.block_lt_of_cell? w _ hf
  have hll : Bl < w.heap.size := World.block_lt_of_cell? w _ hlc
  have hrl : r < w.heap.size := (Array.getElem?_eq_some_iff.1 hm).1
  have HH := Lib.hid h
  have H0 := Lib.hid h0
  have HM := Lib.hid hm
  have HV := Lib.hid hv
  have HNm := Lib.hid hn
  obtain ⟨lA, lc, rfl, _, _⟩ := h.own.sl
  have hkl : (keysW S).length = S.length := by simp [keysW]
  have hlook := lookup_run (w := (w.alloc (.cells #[.int .i64 a, .int .i64 b] 31)).alloc (.cells #[.int .i64 c, .int .i64 d] 31)) 101 31 Tryd.underlying101 (kv ⟨0, 0⟩) (fun _ => zero_name) ⟨a, b⟩ true ((((Ext.refl w).alloc _).alloc _).heap hm)
  by_cases hx : (⟨a, b⟩ : Nm) ∈ keysW S
  · obtain ⟨j, v, hfm, e, he, hek, hev⟩ := findM_some (es := es) (i := 0) (k := ⟨a, b⟩) (by rw [← hv.keys] at hx; exact List.mem_map.1 hx)
    have hvl : ∃ y : Nm, v = kv y := by
      have : (e.1, e.2.1) ∈ S.map (fun p => (p.1, kv p.2)) := by rw [← hv]; exact List.mem_map.2 ⟨e, he, rfl⟩
      obtain ⟨p, _, hp⟩ := List.mem_map.1 this
      injection hp with _ hp
      exact ⟨p.2, by rw [← hev, ← hp]⟩
    obtain ⟨⟨y0, y1⟩, rfl⟩ := hvl
    have hlv : lookV ⟨a, b⟩ es (kv ⟨0, 0⟩) true = .tuple #[kv ⟨y0, y1⟩, .bool true] := by unfold lookV; rw [hfm]; rfl
    rw [hlv] at hlook
    simp only [kv] at hlook
    have HC : Hid (comeS S ⟨a, b⟩ ⟨c, d⟩ = S) := Lib.hid (by unfold comeS; rw [if_pos hx])
    clear h h0 hm hv hn hkl hx hfm he hek hev hlv
    go_enter Tryd.func91, Tryd.ntmps91
    go_wp2
    go_end0
    refine ⟨rfl, ⟨.slice lA (keysW S).length lc, ?_, ?_, .inl rfl, ?_⟩, H0.out.trans (by repeat (first | with_reducible exact Ext.refl _ | assumption | refine Ext.alloc ?_ _ | refine Ext.drewN ?_ _ | refine Ext.drew ?_ | refine Ext.set ?_ (by simp <;> omega) _ _ | refine Ext.trans ?_ (by assumption)))⟩
    · rw [HC.out]
      exact HH.out.ext (by repeat (first | with_reducible exact Ext.refl _ | assumption | refine Ext.alloc ?_ _ | refine Ext.drewN ?_ _ | refine Ext.drew ?_ | refine Ext.set ?_ (by simp <;> omega) _ _ | refine Ext.trans ?_ (by assumption)))
    · intro k hk _ _ _
      refine Below.block (B := w.heap.size) ?_ k hk
      show Ext w _
      exact (by repeat (first | with_reducible exact Ext.refl _ | assumption | refine Ext.alloc ?_ _ | refine Ext.drewN ?_ _ | refine Ext.drew ?_ | refine Ext.set ?_ (by simp <;> omega) _ _ | refine Ext.trans ?_ (by assumption)))
    · refine Ext.le ?_
      exact (by repeat (first | with_reducible exact Ext.refl _ | assumption | refine Ext.alloc ?_ _ | refine Ext.drewN ?_ _ | refine Ext.drew ?_ | refine Ext.set ?_ (by simp <;> omega) _ _ | refine Ext.trans ?_ (by assumption)))
  · have hfn : findM ⟨a, b⟩ es 0 = none := findM_none fun e he hk => hx (by rw [← hv.keys]; exact List.mem_map.2 ⟨e, he, hk⟩)
    have hlv : lookV ⟨a, b⟩ es (kv ⟨0, 0⟩) true = .tuple #[kv ⟨0, 0⟩, .bool false] := by unfold lookV; rw [hfn]; rfl
    rw [hlv] at hlook
    simp only [kv] at hlook
    have HXX := Lib.hid hx
    obtain ⟨W, hW⟩ : ∃ W, W = ((w.alloc (.cells #[.int .i64 a, .int .i64 b] 31)).alloc (.cells #[.int .i64 c, .int .i64 d] 31)).alloc (.cells #[.int .i64 0, .int .i64 0] 31) := ⟨_, rfl⟩
    have hEW : Ext w W := by rw [hW]; exact (((Ext.refl _).alloc _).alloc _).alloc _
    have hmW : MapAt W r es ck := hEW.heap hm
    obtain ⟨w5, hw5⟩ : ∃ w5, w5 = ({ W with heap := W.heap.setIfInBounds r (.map ((storeM ⟨a, b⟩ (kv ⟨c, d⟩) es ck).1.map ment).toArray (storeM ⟨a, b⟩ (kv ⟨c, d⟩) es ck).2) } : World) := ⟨_, rfl⟩
    have hmu := mapUpdate_run (w := W) 101 31 Tryd.underlying101 ⟨a, b⟩ (kv ⟨c, d⟩) hmW
    rw [← hw5] at hmu
    simp only [kv] at hmu
    have hB5 : ExtBut r W w5 := by rw [hw5]; exact ExtBut.put r W _
    have hsz5 : w5.heap.size = w.heap.size + 3 := by rw [hw5, hW]; simp
    have hbx : W.cell? ⟨w.heap.size, 0, none⟩ = some (.int .i64 a) ∧ W.cell? ⟨w.heap.size, 1, none⟩ = some (.int .i64 b) := by
      rw [hW]
      have hE : Ext (w.alloc (.cells #[.int .i64 a, .int .i64 b] 31)) (((w.alloc (.cells #[.int .i64 a, .int .i64 b] 31)).alloc (.cells #[.int .i64 c, .int .i64 d] 31)).alloc (.cells #[.int .i64 0, .int .i64 0] 31)) := ((Ext.refl _).alloc _).alloc _
      exact ⟨hE.cell (cell_of_row _ _ 0 _ _ _ (heap_alloc_new w _)), hE.cell (cell_of_row _ _ 1 _ _ _ (heap_alloc_new w _))⟩
    have hkeep : ∀ k o u, k ≠ r → W.cell? ⟨k, o, none⟩ = some u → w5.cell? ⟨k, o, none⟩ = some u := fun k o u hk hc => (cell_of_block (hB5.block k (World.block_lt_of_cell? W _ hc) hk)).trans hc
    have hrBl : Bl ≠ r := fun e => by
      have := HH.out.l
      rw [e] at this
      unfold MapAt at hm
      rw [hm] at this
      cases this
    have hl5 := hkeep Bl 0 _ hrBl (hEW.cell hlc)
    have hb50 := hkeep w.heap.size 0 _ (by omega) hbx.1
    have hb51 := hkeep w.heap.size 1 _ (by omega) hbx.2
    have HO5 : Hid (Own NM 31 w0.heap.size w5 (fun k => w0.heap.size ≤ k) (.slice lA (keysW S).length lc) (keysW S)) := Lib.hid (by
      have h1 := (HH.out.own.ext hEW).bnd
      exact h1.move fun k hk hlt => ⟨hk.1, hB5.block k hlt (fun e => by
        obtain ⟨c1, t1, f1, hc1⟩ := hk.2
        unfold MapAt at hmW
        rw [e, hmW] at hc1
        cases hc1)⟩)
    have HE5 : Hid (Ext w0 w5) := Lib.hid (hB5.ext00 (H0.out.trans hEW) HH.out.rb)
    have HB5 := Lib.hid hB5
    have HW5 := Lib.hid hw5
    have HEW := Lib.hid hEW
    have HMW := Lib.hid hmW
    have HSZ := Lib.hid hsz5
    have HL5 : Hid (w5.heap[Bl]? = some (.cells #[.slice lA (keysW S).length lc] 49 (0, 0))) := Lib.hid ((hB5.block Bl (Nat.lt_of_lt_of_le hll hEW.le) hrBl).trans (hEW.heap HH.out.l))
    have hfW := hEW.cell hf
    obtain ⟨hbW0, hbW1⟩ := hbx
    have hcW : W.cell? ⟨w.heap.size + 1, 0, none⟩ = some (.int .i64 c) ∧ W.cell? ⟨w.heap.size + 1, 1, none⟩ = some (.int .i64 d) := by
      rw [hW]
      have h1 := heap_alloc_new (w.alloc (.cells #[.int .i64 a, .int .i64 b] 31)) (.cells #[.int .i64 c, .int .i64 d] 31)
      have hE : Ext ((w.alloc (.cells #[.int .i64 a, .int .i64 b] 31)).alloc (.cells #[.int .i64 c, .int .i64 d] 31)) (((w.alloc (.cells #[.int .i64 a, .int .i64 b] 31)).alloc (.cells #[.int .i64 c, .int .i64 d] 31)).alloc (.cells #[.int .i64 0, .int .i64 0] 31)) := (Ext.refl _).alloc _
      have h2 := hE.cell (cell_of_row _ _ 0 _ _ _ h1)
      have h3 := hE.cell (cell_of_row _ _ 1 _ _ _ h1)
      simpa using And.intro h2 h3
    obtain ⟨hcW0, hcW1⟩ := hcW
    rw [hW] at hmu hfW hbW0 hbW1 hcW0 hcW1
    rw [hkl] at hl5 HO5 hlc HL5
    clear h h0 hm hv hn hkl hx hfn hlv hW hEW hmW hw5 hB5 hkeep hsz5
    go_enter Tryd.func91, Tryd.ntmps91
    go_wp2_with (at_builtin; go_loud (refine wpList_append_mine (d := NM) (ok2 := fun k => w0.heap.size ≤ k) rfl (.tmp 19) (.tmp 21) 49 31 zNm 16 w0.heap.size rfl Tryd.underlying49 info_nm rfl (HO5.out.ext (by repeat (first | with_reducible exact Ext.refl _ | assumption | refine Ext.alloc ?_ _ | refine Ext.drewN ?_ _ | refine Ext.drew ?_ | refine Ext.set ?_ (by simp <;> omega) _ _ | refine Ext.trans ?_ (by assumption)))) (nm_box HNm.out) rfl rfl (fun _ h => h) ?c2 (.inl fun _ _ _ _ _ _ h => h) ?c3 (by decide) ?c4 ?_); (case c2 => intro k hk; have := HE5.out.le; simp at hk; omega); (case c3 => simp [keysW]; omega); (case c4 => have := HE5.out.le; simp; omega); intro v' w6 hown hg hat; have hap := wk_apart HO5.out HL5.out hg; have hl6 : w6.cell? ⟨Bl, 0, none⟩ = some (.slice lA S.length lc) := (cell_of_row w6 Bl 0 _ _ _ hap); have hfz6 : w6.frozen? ⟨Bl, 0, none⟩ = false := (by simp [World.frozen?, hap]); have HAP := Lib.hid hap; have HG := Lib.hid hg; have HAT := Lib.hid hat; have HE6 : Hid (Ext w0 w6) := Lib.hid ((HE5.out.alloc _).grown hg HO5.out.base_le); obtain ⟨n6, hn6⟩ : ∃ n6, n6 = (keysW S ++ [(⟨a, b⟩ : Nm)]).length := ⟨_, rfl⟩; obtain ⟨A6, c6, hv6, _, _⟩ := hown.sl; rw [← hn6] at hv6; subst hv6; have HOwn := Lib.hid hown; clear hown hg hat hap hn6)
    go_end0
    have hfb : w5.heap[Bf]? = some (.cells #[.map (some r)] 101 (0, 0)) := (HB5.out.block Bf (Nat.lt_of_lt_of_le hfl HEW.out.le) (fun e => by
      have h1 := HH.out.f
      have h2 := HM.out
      unfold MapAt at h2
      rw [e, h2] at h1
      cases h1)).trans (HEW.out.heap HH.out.f)
    have hrb : ∃ es' n', w5.heap[r]? = some (.map es' n') := by
      rw [HW5.out]
      have := (Array.getElem?_eq_some_iff.1 HMW.out).1
      exact ⟨_, _, by simp [this]; exact ⟨rfl, rfl⟩⟩
    have hfin := wk_new (y := ⟨c, d⟩) HH.out H0.out HEW.out HMW.out HV.out HXX.out HW5.out HE6.out (wk_apart_f HO5.out hfb HG.out) (wk_apart_r HO5.out hrb HG.out) (by have := HAP.out; rw [show S.length = (keysW S).length by simp [keysW]] at this; exact this) HOwn.out rfl
    refine ⟨rfl, ⟨_, hfin.1, fun k hk hkl hkr hkb => ?_, ?_, ?_⟩, hfin.2⟩
    · have hkW : k < W.heap.size := Nat.lt_of_lt_of_le hk HEW.out.le
      have hk5 : k < w5.heap.size := Nat.lt_of_lt_of_le hkW HB5.out.size
      refine (Below.heap_setCell w6 ⟨Bl, 0, none⟩ _ k hkl).trans ((HG.out.block k (by simp; omega) (fun e => hkb ?_)).trans ((Below.heap_alloc w5 _ k hk5).trans ((HB5.out.block k hkW hkr).trans (HEW.out.block k hk))))
      rw [e]
      cases lA <;> rfl
    · rcases HAT.out with h | h
      · left
        rw [h]
        cases lA <;> rfl
      · right
        intro k hk
        rw [h] at hk
        injection hk with hk
        have := HSZ.out
        simp at hk
        omega
    · have h1 := HSZ.out
      have h2 := HG.out.size
      simp at h2 ⊢
      omega

end Go.Proofs.YtehljfnoicppnaaDoor
