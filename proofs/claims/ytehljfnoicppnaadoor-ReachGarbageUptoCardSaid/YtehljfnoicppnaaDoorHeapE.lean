/- Bindings: all that is bound, by the names' order, in memory of its own. Conditions: the heap is nil or one that the package made, of at most 2^31 values. -/
import Derived.Test.YtehljfnoicppnaaDoorHeapD
import Derived.Test.YtehljfnoicppnaaDoorSortA
import Derived.Test.YtehljfnoicppnaaDoorBindsB
open Go Go.RowKit
set_option linter.unusedVariables false
namespace Go.Proofs.YtehljfnoicppnaaDoor

/-- A call as one step of a region that draws. -/
theorem step_call {P : Program} {ops : Array Oper} {o : Oper} {a : Act} {w : World} {K : Act → World → Prop} {Q : Exit → Act → World → Prop} {E : Prop} (hgd : o.guard = none) (f : Nat) (x : Operand) (t : TypeId)
    (ho : o.op = .call { callee := .value (.func f), args := #[x], argTypes := #[t] }) (v : Value) (hx : a.eval x = v) (eg : ∀ args w, (callFunc f args).run P w = .ok (.enter f args) w) {R : Ending → World → Prop} (hc : Calls P f #[v] w R)
    (h : ∀ e w', R e w' → ∃ u, e = .returned u ∧ K (a.put o.dst u) w') : if Region.wanted o (yielded ops a.tmps) = true then Oper.wp P o a w K Q else E := by
  have hw : Region.wanted o (yielded ops a.tmps) = true := by simp [Region.wanted, hgd]
  rw [if_pos hw]
  have hrun : (execOp a.eval o).run P w = .ok (.enter f #[v]) w := by
    unfold execOp
    have hx' := hx
    simp [go_sem] at hx'
    simp [ho, resolve, invoke, go_sem, eg]
    exact hx'
  unfold Oper.wp
  rw [hrun, Oper.upon_enter]
  refine hc.mono ?_
  intro e w' hr
  obtain ⟨u, rfl, hk⟩ := h e w' hr
  exact hk

abbrev zBd : Value := .agg #[.int .i64 0, .int .i64 0, .slice none 0 0]
theorem info_ob : (Tryd.prog.info? 33).map (fun i => (i.zero, i.size, i.bytes)) = some (some zBd, OB.sz, 40) := by kernel_rfl

theorem Rd.nf_at {w : World} {ok : Ok} {b o : Nat} {xs : List Nm} (h : Rd NF w ok (some ⟨b, o, none⟩) xs) {j : Nat} {x : Nm} (hx : xs[j]? = some x) :
    b < w.heap.size ∧ w.cell? ⟨b, o + j * 2, none⟩ = some (.int .i64 x.a) ∧ w.cell? ⟨b, o + j * 2 + 1, none⟩ = some (.int .i64 x.b) := by
  have hj := (List.getElem?_eq_some_iff.1 hx).1
  obtain ⟨b', o', hA, hok, hlt, hc⟩ := h.2 (by omega)
  injection hA with hA
  injection hA with h1 h2
  subst h1 h2
  obtain ⟨cs, hr, hcell⟩ := hc j x hx
  have hr' : cs = nv x := hr
  subst hr'
  exact ⟨hlt, hcell 0 _ rfl, hcell 1 _ rfl⟩

theorem sorted_keys {w : World} {ok : Ok} {es : List MEnt} {L : List Bd} (h : Fits w ok es L) (hs : Sorted L) : (es.map (·.1)).mergeSort leNm = L.map (·.v) := by
  rw [perm_sort h.1]
  refine List.mergeSort_of_pairwise ?_
  rw [List.pairwise_map]
  refine hs.imp fun {a b} hab => ?_
  simp only [leNm, Bool.not_eq_true']
  cases hba : lessB b.v a.v
  · rfl
  · have := lessB_trans hab hba
    rw [lessB_irrefl] at this
    cases this

theorem own_lower {α : Type} {d : Cd α} {e base base' : Nat} {w : World} {ok : Ok} {v : Value} {xs : List α} (hb : base' ≤ base) (h : Own d e base w ok v xs) : Own d e base' w ok v xs := by
  obtain ⟨h1, css, h2, h3, h4⟩ := h
  refine ⟨h1, css, h2, h3, h4.1, ?_⟩
  rcases h4.2 with h5 | ⟨g, cap, cur, h5, h6, h7⟩
  · exact .inl h5
  · exact .inr ⟨g, cap, cur, h5, Nat.le_trans hb h6, h7⟩
theorem OB.mk {w0 w : World} {u : Value} {x : Bd} (hn : NmOk x.v) (h : OwnT w0 w u x.t) : OB.rel w (fun k => w0.heap.size ≤ k) x [.int .i64 x.v.a, .int .i64 x.v.b, u] := by
  obtain ⟨v, hv, ho⟩ := h.ot
  simp at hv
  subst hv
  exact ⟨_, rfl, hn, ho⟩
theorem OB.box {wr w3 : World} {u : Value} {a b : Int} {t : List Cl} (hE : Ext wr w3) (hn : NmOk ⟨a, b⟩) (h : OwnT wr w3 u t) : Sl OB (w3.alloc (.cells #[.int .i64 a, .int .i64 b, u] 33)) (fun k => wr.heap.size ≤ k) (.slice (some ⟨w3.heap.size, 0, none⟩) 1 1) [⟨⟨a, b⟩, t⟩] :=
  (Sl.box (d := OB) (cs := #[.int .i64 a, .int .i64 b, u]) (OB.mk (x := ⟨⟨a, b⟩, t⟩) hn h)).imp fun k hk => by
    have := hE.le
    rcases hk with hk | hk <;> omega
/-- What Bindings hands back. -/
def BindsP (w : World) (L : List Bd) (e : Ending) (w' : World) : Prop := (∃ v, e = .returned v ∧ Own OB 33 w.heap.size w' (fun k => w.heap.size ≤ k) v L) ∧ Ext w w'

set_option maxRecDepth 100000 in
set_option maxHeartbeats 1000000 in
theorem bindings_calls (v : Value) (L : List Bd) (ok : Ok) (w : World) (h : HeapOr w ok v L) (hL : L.length ≤ 2147483648) :
    Calls Tryd.prog 12 #[v] w (BindsP w L) := by
  rcases h with ⟨rfl, rfl⟩ | ⟨p, r, rfl, h⟩
  · go_enter Tryd.func12, Tryd.ntmps12
    go_wp2
    go_ret
    exact ⟨⟨_, rfl, Own.nil _ _ _ _ _⟩, Ext.refl _⟩
  have hp : w.cell? ⟨p, 0, none⟩ = some (.map (some r)) := cell_of_row w p 0 _ _ _ h.1
  obtain ⟨hh1, ⟨es, ck, hmap, hfit, hbir⟩, hokl⟩ := h
  have hks := sorted_keys hfit hokl.1
  have hlen : es.length = L.length := by have := hfit.1.length_eq; simpa using this
  have HK := Lib.hid (fun mb W => callsIn_wide.1 (keys_in Fence.wide 3 trivial rfl mb W))
  have HS := Lib.hid (fun w1 Bm (hE : Ext w w1) hB => sortedFunc_calls Bm r ck es w1 hB (hE.heap hmap) hbir (by omega))
  have HKS := Lib.hid hks
  have HM := Lib.hid hmap
  have HF := Lib.hid hfit
  have HO := Lib.hid hokl
  have HP := Lib.hid hp
  clear hh1 hmap hfit hbir hokl hks hlen
  have hpl : p < w.heap.size := World.block_lt_of_cell? w _ hp
  go_enter Tryd.func12, Tryd.ntmps12
  go_wp2_with (first | (go_at_call 49; refine (HK.out _ _).mono ?_; rintro e w1 ⟨rfl, rfl⟩) | (go_at_call 48; refine (HS.out _ _ (by repeat (first | with_reducible exact Ext.refl _ | assumption | refine Ext.alloc ?_ _ | refine Ext.drewN ?_ _ | refine Ext.drew ?_ | refine Ext.set ?_ (by simp <;> omega) _ _ | refine Ext.trans ?_ (by assumption))) (cell_of_row _ _ 0 _ _ _ (heap_alloc_new w _))).mono ?_; rintro e w2 ⟨⟨sv, rfl, hsv⟩, hw2⟩; rw [HKS.out] at hsv; obtain ⟨A, c, rfl, _, hrd⟩ := Own.sl hsv; have HRD := Lib.hid hrd; have HE2 : Hid (Ext w w2) := Lib.hid (Ext.trans ((Ext.refl _).alloc _) hw2); clear hsv hrd hw2))
  go_loopg [3, 15] L.length (fun g s3 s15 wr => ∃ i : Nat, i ≤ L.length ∧ L.length - i ≤ g ∧ s15 = .int .i64 i ∧ Hid (Own OB 33 w2.heap.size wr (fun k => w2.heap.size ≤ k) s3 (L.take i)) ∧ Hid (Ext w2 wr))
  case atStart => exact ⟨0, Nat.zero_le _, Nat.le_refl _, rfl, Lib.hid (Own.nil _ _ _ _ _), Lib.hid (Ext.refl _)⟩
  case round =>
    obtain ⟨i, hi, hg, rfl, HOw, HE⟩ := hrel
    by_cases hlt : i < L.length
    · obtain ⟨⟨⟨a, b⟩, t⟩, hx⟩ : ∃ x, L[i]? = some x := ⟨_, List.getElem?_eq_getElem hlt⟩
      have hmem : (⟨⟨a, b⟩, t⟩ : Bd) ∈ L := List.mem_of_getElem? hx
      have hxn : (L.map (·.v))[i]? = some ⟨a, b⟩ := by simp [hx]
      obtain ⟨gb, go, rfl, _, _⟩ := HRD.out.some_ (by simp; omega)
      obtain ⟨hgl, hc0, hc1⟩ := HRD.out.nf_at hxn
      have hc0r := HE.out.cell hc0
      have hc1r := HE.out.cell hc1
      have hEr : Ext w wr := HE2.out.trans HE.out
      have hpr := hEr.cell HP.out
      have hbt : t.length ≤ 256 := HO.out.small _ hmem
      have hnm : NmOk ⟨a, b⟩ := (HO.out.2 _ hmem).2.2.2.1
      have htk : L.take (i + 1) = L.take i ++ [⟨⟨a, b⟩, t⟩] := by rw [List.take_add_one, hx]; rfl
      have hl := HF.out.look HO.out.1 ⟨a, b⟩
      rw [mem_getL HO.out.1 hmem] at hl
      obtain ⟨j, u, hf, hu⟩ := hl
      have hv : lookV ⟨a, b⟩ es (.slice none 0 0) false = u := by unfold lookV; rw [hf]; rfl
      have hlook : ∀ W, Ext (wr.alloc (.cells #[.int .i64 a, .int .i64 b] 31)) W → (Instr.lookup 87 (.map (some r)) (.agg #[.int .i64 a, .int .i64 b]) false).run Tryd.prog W = .ok u W := fun W hW => by
        have := lookup_run (w := W) 87 24 Tryd.underlying87 (.slice none 0 0) (fun _ => zero_term) ⟨a, b⟩ false ((hEr.trans (((Ext.refl _).alloc _).trans hW)).heap HM.out)
        rw [hv] at this
        exact this
      obtain ⟨uA, uc, rfl, huc, hur⟩ := hu
      have HU : Hid (Sl CL w ok (.slice uA t.length uc) t) := Lib.hid ⟨uA, uc, rfl, huc, hur⟩
      have HX := Lib.hid hx
      have HTK := Lib.hid htk
      have HNM := Lib.hid hnm
      have HER := Lib.hid hEr
      have HC := Lib.hid (fun w1 (hE : Ext wr w1) => cloneT_calls _ _ ok w1 (HU.out.ext (hEr.trans hE)) (by omega))
      clear hmem hxn hc0 hc1 hv hf huc hur hx htk hnm
      obtain ⟨oA, oc, rfl, _, _⟩ := HOw.out.sl
      have hli : (L.take i).length = i := by simp; omega
      rw [hli] at HOw
      have HLI := Lib.hid hli
      clear hli
      have hpa := ((Ext.refl wr).alloc (.cells #[.int .i64 a, .int .i64 b] 31)).cell hpr
      have hba := heap_alloc_new wr (.cells #[.int .i64 a, .int .i64 b] 31)
      have hb0 := cell_of_row _ _ 0 _ _ _ hba
      have hb1 := cell_of_row _ _ 1 _ _ _ hba
      have hEA := (Ext.refl wr).alloc (.cells #[.int .i64 a, .int .i64 b] 31)
      obtain ⟨wa, hwa⟩ : ∃ wa, wr.alloc (.cells #[.int .i64 a, .int .i64 b] 31) = wa := ⟨_, rfl⟩
      have HLK := Lib.hid hlook
      clear hlook hba
      have eg : ∀ args w, (callFunc 51 args).run Tryd.prog w = .ok (.enter 51 args) w := enters_of Tryd.func51 (by kernel_rfl) rfl
      have EG := Lib.hid eg
      rename_i eg'
      clear eg'
      go_wp2
      rw [hwa] at hpa hb0 hb1 hEA HLK
      have hlook0 := HLK.out _ (Ext.refl _)
      have hlook1 := HLK.out _ (Ext.refl _).drew
      have hlook2 := HLK.out _ (Ext.refl _).drew.drew
      have hlook3 := HLK.out _ (Ext.refl _).drew.drew.drew
      have HEA := Lib.hid hEA
      have hszw : wr.heap.size < wa.heap.size := by rw [← hwa]; simp
      clear hwa hEA
      go_region_law (first | (refine step_call rfl 51 (.tmp 26) 24 rfl _ rfl EG.out (HC.out _ (HEA.out.trans (by repeat (first | with_reducible exact Ext.refl _ | assumption | refine Ext.alloc ?_ _ | refine Ext.drewN ?_ _ | refine Ext.drew ?_ | refine Ext.set ?_ (by simp <;> omega) _ _ | refine Ext.trans ?_ (by assumption))))) ?_; rintro e w3 ⟨⟨cv, rfl, hcv⟩, hw3⟩; refine ⟨_, rfl, ?_⟩; have hE3 : Ext wa w3 := (Ext.trans (by repeat (first | with_reducible exact Ext.refl _ | assumption | refine Ext.alloc ?_ _ | refine Ext.drewN ?_ _ | refine Ext.drew ?_ | refine Ext.set ?_ (by simp <;> omega) _ _ | refine Ext.trans ?_ (by assumption))) hw3); have hb03 := hE3.cell hb0; have hb13 := hE3.cell hb1; have HCV := Lib.hid (ownT_of (HEA.out.trans (by repeat (first | with_reducible exact Ext.refl _ | assumption | refine Ext.alloc ?_ _ | refine Ext.drewN ?_ _ | refine Ext.drew ?_ | refine Ext.set ?_ (by simp <;> omega) _ _ | refine Ext.trans ?_ (by assumption)))) hcv : OwnT wr w3 cv t); obtain ⟨cA, cc, rfl, _, _⟩ := Own.sl hcv; have HE3 := Lib.hid (HEA.out.trans hE3); clear hcv hw3 hE3) | (refine step_append_mine (d := OB) (okS := fun k => wr.heap.size ≤ k) (ys := [⟨⟨a, b⟩, t⟩]) (ok2 := fun k => w2.heap.size ≤ k) rfl (.tmp 19) (.tmp 29) 22 33 zBd 40 w2.heap.size rfl Tryd.underlying22 info_ob rfl (HOw.out.ext (by repeat (first | exact HE3.out | refine Ext.alloc ?_ _ | refine Ext.drew ?_))) (by first | exact OB.box HE3.out HNM.out HCV.out | exact OB.box (HE3.out.drew) HNM.out (HCV.out.ext (Ext.refl _).drew) | exact (OB.box HE3.out HNM.out HCV.out).ext (Ext.refl _).drew) rfl rfl (fun _ h => h) ?_ (.inr ?_) ?_ (by decide) ?_ ?_; (focus (intro k hk; have := (HE.out.trans HE3.out).le; simp at hk; omega)); (focus (intro k hk _; have h1 := HE.out.le; refine ⟨by omega, fun he => ?_⟩; have := HOw.out.blk_lt k he; omega)); (focus (have := HLI.out; simp; omega)); (focus (have := (HE.out.trans HE3.out).le; simp; omega)); intro v' w4 hown hg hat; have HOwn := Lib.hid hown; have HG := Lib.hid hg; have hsl := Own.sl hown; obtain ⟨A4, c4, rfl, _, _⟩ := hsl; clear hown hg hat))
      all_goals
        go_wp2
        go_roundg (L.length - (i + 1))
        case measure => omega
        case rel =>
          refine ⟨i + 1, by omega, Nat.le_refl _, by go_num, Lib.hid ?_, Lib.hid ?_⟩
          · have h1 := HOwn.out
            have h2 : (L.take i ++ [(⟨⟨a, b⟩, t⟩ : Bd)]).length = i + 1 := by rw [List.length_append, HLI.out]; rfl
            rw [h2] at h1
            rw [HTK.out]
            exact h1
          · refine Ext.grown (HE.out.trans ?_) HG.out HOw.out.base_le
            repeat (first | exact HE3.out | refine Ext.alloc ?_ _ | refine Ext.drew ?_)
    · obtain rfl : i = L.length := by omega
      go_wp2
      go_ret
      have := HOw.out
      rw [List.take_length] at this
      exact ⟨⟨_, rfl, (own_lower HE2.out.le this).imp fun k hk => Nat.le_trans HE2.out.le hk⟩, HE2.out.trans HE.out⟩

end Go.Proofs.YtehljfnoicppnaaDoor
