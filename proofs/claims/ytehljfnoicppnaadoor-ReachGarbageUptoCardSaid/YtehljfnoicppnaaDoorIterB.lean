/- slices.AppendSeq and slices.Collect over maps.Keys: a row of the call's own with the map's names, in some order. Conditions: no more than 2^31 names. -/
import Derived.Test.YtehljfnoicppnaaDoorIterA
open Go Go.RowKit Go.Shelf
set_option linter.unusedVariables false
attribute [local go_sem] Oper.semAt_some
namespace Go.Proofs.YtehljfnoicppnaaDoor

theorem wpListIn_append_mine {α : Type} {d : Cd α} {P : Program} {F : Fence} {n : Nat} {w : World} {o : Oper} {a : Act} {Q : Exit → Act → World → Prop} {ops : Array Oper} {rest : List Oper}
    {ok okS ok2 : Ok} {v vs : Value} {xs ys : List α} (hgd : o.guard = none) (s x : Operand) (t e : TypeId) (z : Value) (bytes base : Nat) (ho : o.op = .call { callee := .builtin .append, args := #[s, x], argTypes := #[t, t] })
    (ht : P.underlying t = some (.slice e)) (hinfo : (P.info? e).map (fun i => (i.zero, i.size, i.bytes)) = some (some z, d.sz, bytes)) (hzs : z.cells.size = d.sz)
    (HO : Own d e base w ok v xs) (HS : Sl d w okS vs ys) (hs : a.eval s = v) (hx : a.eval x = vs)
    (h1 : ∀ k, ok k → ok2 k) (h2 : ∀ k, w.heap.size ≤ k → ok2 k) (hS : (∀ w w' ok ok' x cs, d.rel w ok x cs → d.rel w' ok' x cs) ∨ ∀ k, okS k → k < w.heap.size → ok2 k ∧ v.ownBlock ≠ some k)
    (hl : (xs.length + ys.length) * bytes ≤ 140737488355328) (hb : 0 < bytes) (hbase : base ≤ w.heap.size)
    (h : ∀ v' w', Own d e base w' ok2 v' (xs ++ ys) → w.grownBy w' v.ownBlock → (v'.ownBlock = v.ownBlock ∨ v'.ownBlock = some w.heap.size) → wpListIn F n P ops Q rest (a.put o.dst v') w') : wpListIn F n P ops Q (o :: rest) a w := by
  refine wpListIn_plain hgd fun K hK => ?_
  obtain ⟨v', w', hr, hown, hg, hat⟩ := run_append_mine (P := P) w base t o.type e z bytes ht hinfo hzs HO HS h1 h2 hS hl hb hbase
  unfold Oper.wpIn
  refine ⟨?_, ?_⟩
  · simp [Oper.about, ho, resolve, Target.leads, Sem.run_pure]
  · rw [Oper.semAt_plain F _ _ (by rw [ho]; intro c hc'; cases hc')]
    simp [execOp, ho, resolve, invoke, builtin, hs, hx, hr, Result.andThen]
    exact hK _ _ (h v' w' hown hg hat)

/-- A name, whatever it is. -/
def NF : Cd Nm := Cd.flat 2 (by decide) nv (fun _ => rfl) (fun x u hu => by simp [nv] at hu; rcases hu with rfl | rfl <;> rfl)
theorem own_nf {e base : Nat} {w : World} {ok : Ok} {v : Value} {xs : List Nm} (h : Own NF e base w ok v xs) (hx : ∀ x ∈ xs, NmOk x) : Own NM e base w ok v xs := by
  obtain ⟨h1, css, h2, h3, h4⟩ := h
  exact ⟨h1, css, h2, fun j x cs hj hc => ⟨h3 j x cs hj hc, hx x (List.mem_of_getElem? hj)⟩, h4⟩
theorem info_nf : (Tryd.prog.info? 31).map (fun i => (i.zero, i.size, i.bytes)) = some (some zNm, NF.sz, 16) := info_nm
/-- The box of the slice that collects. -/
def Col (w0 : World) (Bs : Nat) (pre : List Nm) (W : World) : Prop := ∃ v, Boxed W Bs 49 v ∧ Own NF 31 w0.heap.size W (fun k => w0.heap.size ≤ k) v pre
theorem col_own (w0 : World) (Bs : Nat) : Go.Own (Col w0 Bs) := by
  rintro s A B row ⟨v, hv, ho⟩ hg hr
  have hne : ∀ k, IsCells A k → some k ≠ row := fun k hk e => by
    obtain ⟨o, ho, hc⟩ := hr k e.symm
    obtain ⟨c, t, f, h⟩ := hk
    rw [h] at ho; cases ho; cases hc
  refine ⟨v, hv.kept hg (hne Bs ⟨_, _, _, hv⟩), ho.bnd.move fun k hk hl => ⟨hk.1, hg.block k hl (hne k hk.2)⟩⟩
theorem col_ext {w0 : World} {Bs : Nat} {pre : List Nm} {W W' : World} (h : Col w0 Bs pre W) (he : Ext W W') : Col w0 Bs pre W' := by
  obtain ⟨v, hv, ho⟩ := h
  exact ⟨v, he.heap hv, ho.ext he⟩
/-- The box of a loop variable that is a name. -/
def NmBox (W : World) (B : Nat) (x : Nm) : Prop := W.heap[B]? = some (.cells #[.int .i64 x.a, .int .i64 x.b] 31 (0, 0))
theorem NmBox.kept {W W' : World} {row : Option Nat} {B : Nat} {x : Nm} (h : NmBox W B x) (hg : W.grownBy W' row) (hne : some B ≠ row) : NmBox W' B x := (hg.block B (Array.getElem?_eq_some_iff.1 h).1 hne).trans h
theorem nm_free : ∀ (w w' : World) (ok ok' : Ok) (x : Nm) (cs : List Value), NF.rel w ok x cs → NF.rel w' ok' x cs := fun _ _ _ _ _ _ h => h

/-- What a round leaves. -/
theorem body_fin {w W w1 : World} {tmp : Obj} {v v' : Value} {pre xs : List Nm} (hv : Boxed W w.heap.size 49 v) (ho : Own NF 31 w.heap.size W (fun k => w.heap.size ≤ k) v pre) (hle : w.heap.size ≤ W.heap.size)
    (hown : Own NF 31 w.heap.size w1 (fun k => w.heap.size ≤ k) v' xs) (hg : (W.alloc tmp).grownBy w1 v.ownBlock) :
    Boxed w1 w.heap.size 49 v ∧ (Boxed (w1.setCell ⟨w.heap.size, 0, none⟩ v') w.heap.size 49 v' ∧ Own NF 31 w.heap.size (w1.setCell ⟨w.heap.size, 0, none⟩ v') (fun k => w.heap.size ≤ k) v' xs) ∧ KeepsOthers W (w1.setCell ⟨w.heap.size, 0, none⟩ v') ∧ KeepsWalks W (w1.setCell ⟨w.heap.size, 0, none⟩ v') ∧ Below w.heap.size W (w1.setCell ⟨w.heap.size, 0, none⟩ v') := by
  obtain ⟨_, css, hl, _, hrow⟩ := ho
  have ho' := hown
  obtain ⟨hk, css', hl', hr', hrow'⟩ := hown
  obtain ⟨h1, h2, h3, h4, h5⟩ := hv.appended (by decide) hrow hle (Nat.le_refl _) hrow' hg
  refine ⟨h1, ⟨h2, hk, css', hl', hr', h3⟩, h4, ⟨h4.size, fun k o hk ho => h4.same k o hk (by cases o <;> simp_all [Obj.isWalk, Obj.isCells])⟩, h5⟩

set_option maxRecDepth 100000 in
set_option maxHeartbeats 1000000 in
theorem appendSeq_in (Bm b clock : Nat) (es : List MEnt) (w : World) (hBm : w.cell? ⟨Bm, 0, none⟩ = some (.map (some b))) (hM : MapAt w b es clock) (hB : Births es clock) (hN : es.length ≤ 2147483648) (n : Nat) (hn : 4 ≤ n) :
    CallsIn Fence.wide n Tryd.prog 98 #[.slice none 0 0, .func (.func 79) #[] #[.pointer (some ⟨Bm, 0, none⟩)]] w
      fun e w' => ∃ v ss, e = .returned v ∧ ss.Perm (es.map (·.1)) ∧ Own NF 31 w.heap.size w' (fun k => w.heap.size ≤ k) v ss ∧ Ext w w' := by
  have h1 : 1 ≤ n := by omega
  refine callsIn_of_wp_marks Tryd.func98 rfl trivial ?_
  simp only [Tryd.ntmps98, List.size_toArray, List.length_cons, List.length_nil, Nat.reduceAdd, Nat.reduceSub, Array.replicate_succ, Array.replicate_zero, List.push_toArray, List.append_toArray, List.nil_append, List.cons_append]
  have HBm := Lib.hid hBm
  have HM := Lib.hid hM
  have HB := Lib.hid hB
  clear hBm hM hB
  gi_wp2
  have hs0 := heap_alloc_new w (.cells #[.slice none 0 0] 49)
  have hE0 : Ext w (w.alloc (.cells #[.slice none 0 0] 49)) := (Ext.refl w).alloc _
  have hsz : (w.alloc (.cells #[.slice none 0 0] 49)).heap.size = w.heap.size + 1 := by simp
  generalize hW0 : w.alloc (.cells #[.slice none 0 0] 49) = W0 at hs0 hE0 hsz ⊢
  clear hW0
  refine wpIn_rangeFunc_ownH (Kp := KeepsWalks) rfl h1 (gf := 79) (lb := #[.pointer (some ⟨Bm, 0, none⟩)]) rfl trivial (enters_of Tryd.func79 (by kernel_rfl) rfl)
    (encs := fun x => #[kv x]) (keys_stops Fence.wide (n - 1) trivial rfl (by omega) Bm b clock es W0 (hE0.cell HBm.out) (hE0.heap HM.out) HB.out) walksK_t (walksK_b (w := W0)) (Below.refl _ _) (fun _ => rfl)
    (fun pre W => Col w w.heap.size pre W ∧ Ext w W) (fun _ _ _ => False)
    (OwnFrom.and (Own.from (col_own w w.heap.size) _) (ownFrom_below (Nat.le_refl _) (by omega)))
    (fun _ _ _ _ _ hs _ _ => hs)
    ⟨⟨_, hs0, Own.nil _ _ _ _ _⟩, hE0⟩
    (fun x a' W => ∃ Bx, W0.heap.size ≤ Bx ∧ NmBox W Bx x ∧ a' = { tmps := #[.slice none 0 0, .func (.func 79) #[] #[.pointer (some ⟨Bm, 0, none⟩)], .pointer (some ⟨w.heap.size, 0, none⟩), undef, .slice none 0 0, .pointer (some ⟨Bx, 0, none⟩), .func (.func 79) #[] #[.pointer (some ⟨Bm, 0, none⟩)], .agg #[.int .i64 x.a, .int .i64 x.b], undef, undef, undef, undef, undef], defers := [] })
    (fun x a' => ?hAx) ?assign ?body ?done ?stop
  case hAx =>
    rintro s A B row ⟨Bx, hb, hx, rfl⟩ hg hr
    refine ⟨Bx, hb, hx.kept hg fun e => ?_, rfl⟩
    obtain ⟨_, o, ho, hc⟩ := hr Bx e.symm
    rw [show A.heap[Bx]? = _ from hx] at ho
    cases ho; cases hc
  case assign =>
    rintro l pre ⟨x0, x1⟩ W K hi hK
    dsimp only [kv]
    gi_wp2
    have hE : Ext W (W.alloc (.cells #[.int .i64 x0, .int .i64 x1] 31)) := (Ext.refl W).alloc _
    have hWl : W0.heap.size ≤ W.heap.size := by
      have h1 := hi.2.le
      obtain ⟨v, hv, _⟩ := hi.1
      have := hv.lt
      omega
    exact hK _ _ ((KeepsOthers.alloc _ _).from _) (KeepsWalks.alloc _ _) ⟨col_ext hi.1 hE, hi.2.trans hE⟩ ⟨W.heap.size, hWl, heap_alloc_new W _, rfl⟩
  case body =>
    rintro l pre ⟨x0, x1⟩ a' W hl ⟨r, hr⟩ ⟨⟨v, hv, ho⟩, hE⟩ ⟨Bx, hBx, bX, rfl⟩ hlt
    have hvc := hv.cell
    have hvf := hv.frozen
    have hx0 : W.cell? ⟨Bx, 0, none⟩ = some (.int .i64 x0) := cell_of_row W Bx 0 _ _ _ bX
    have hx1 : W.cell? ⟨Bx, 1, none⟩ = some (.int .i64 x1) := cell_of_row W Bx 1 _ _ _ bX
    have hle := hE.le
    have hWb := hv.lt
    have hvo := ho.sl
    obtain ⟨A, c, rfl, _, _⟩ := hvo
    have HV := Lib.hid hv
    have HO := Lib.hid ho
    have HX := Lib.hid bX
    have HS1 : Hid (Sl NF (W.alloc (.cells #[.int .i64 x0, .int .i64 x1] 31)) (fun k => False ∨ k = W.heap.size) (.slice (some ⟨W.heap.size, 0, none⟩) 1 1) [⟨x0, x1⟩]) := Lib.hid (Sl.box (d := NF) (ok := fun _ => False) (x := ⟨x0, x1⟩) rfl)
    have HO1 := Lib.hid (ho.ext ((Ext.refl W).alloc (.cells #[.int .i64 x0, .int .i64 x1] 31)))
    have HLN : Hid ((pre.length + ([⟨x0, x1⟩] : List Nm).length) * 16 ≤ 140737488355328) := Lib.hid (by simp; omega)
    have HBA : Hid (w.heap.size ≤ (W.alloc (.cells #[.int .i64 x0, .int .i64 x1] 31)).heap.size) := Lib.hid (by simp; omega)
    have HS1 : Hid (Sl NF (W.alloc (.cells #[.int .i64 x0, .int .i64 x1] 31)) (fun k => False ∨ k = W.heap.size) (.slice (some ⟨W.heap.size, 0, none⟩) 1 1) [⟨x0, x1⟩]) := Lib.hid (Sl.box (d := NF) (ok := fun _ => False) (x := ⟨x0, x1⟩) rfl)
    have HO1 := Lib.hid (ho.ext ((Ext.refl W).alloc (.cells #[.int .i64 x0, .int .i64 x1] 31)))
    have HLN : Hid ((pre.length + ([⟨x0, x1⟩] : List Nm).length) * 16 ≤ 140737488355328) := Lib.hid (by simp; omega)
    have HBA : Hid (w.heap.size ≤ (W.alloc (.cells #[.int .i64 x0, .int .i64 x1] 31)).heap.size) := Lib.hid (by simp; omega)
    have HE := Lib.hid hE
    clear hv ho bX hE
    gi_wp2_with (first | (gi_at_builtin; refine wpListIn_append_mine (d := NF) (base := w.heap.size) (ok2 := fun k => w.heap.size ≤ k) rfl _ _ 49 31 zNm 16 rfl Tryd.underlying49 info_nf rfl HO1.out HS1.out rfl rfl (fun _ h => h) (fun k h => Nat.le_trans HBA.out h) (.inl nm_free) HLN.out (by decide) HBA.out ?_; intro v' w1 hown hgrow hat; have HOW := Lib.hid hown; obtain ⟨A', c', rfl, _, _⟩ := hown.sl; clear hown; have hfin := body_fin HV.out HO.out hle HOW.out hgrow; have hc1 := hfin.1.cell; have hf1 := hfin.1.frozen; have HF := Lib.hid hfin; clear hfin hgrow hat) | gi_in)
    have hF := HF.out
    simp only [List.length_append, List.length_cons, List.length_nil, Nat.zero_add] at hF
    exact ⟨hF.2.2.1.from _, hF.2.2.2.1, ⟨_, hF.2.1.1, hF.2.1.2⟩, Below.trans HE.out hF.2.2.2.2⟩
  case done =>
    rintro D xs W hD hS ⟨⟨v, hv, ho⟩, hE⟩ hK
    have hvc := hv.cell
    have hvf := hv.frozen
    obtain ⟨A, c, rfl, _, _⟩ := ho.sl
    have HV := Lib.hid hv
    have HO := Lib.hid ho
    have HE := Lib.hid hE
    clear hv ho hE
    gi_wp2
    refine ⟨by simp, .inl ⟨_, _, rfl, run_takeDeferred hK, ?_⟩⟩
    have hp : Ext w (W.putObj D (.deferred none)) := HE.out.grown (grownBy_putObj' W D _) (fun k e => by cases e; omega)
    refine ⟨_, results_tmp rfl _ _ _, _, xs, rfl, hS, ?_, hp⟩
    refine HO.out.bnd.move fun k hk hl => ⟨hk.1, ?_⟩
    refine World.putObj_heap_other fun e => ?_
    obtain ⟨c, t, f, h⟩ := hk.2
    have e' : k = D := e.symm ▸ rfl
    rw [e', hK] at h
    cases h
  case stop =>
    rintro D c pre W _ _ h _
    exact h.elim

end Go.Proofs.YtehljfnoicppnaaDoor
