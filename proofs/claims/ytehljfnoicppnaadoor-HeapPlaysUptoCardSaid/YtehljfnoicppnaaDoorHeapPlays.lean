/- HeapPlays: the row's second form and its card. Conditions: none beyond the row's. -/
import Derived.Test.YtehljfnoicppnaaDoorOpenB
import Derived.Test.YtehljfnoicppnaaDoorPlaysW
open Go Go.RowKit Go.ChangeShapes Go.WideShapes Go.Deep Go.Joins
set_option linter.unusedVariables false
set_option maxRecDepth 100000
namespace Go.Proofs.YtehljfnoicppnaaDoor

set_option maxRecDepth 100000 in
theorem arg_asked {H : Type} {enc : TypeId × Value → H} {w : World} {r : Reach} {b0 : Nat} {v : Value} {D : DataW H} {p : List MemPlace}
    (hv : Value.okWide Tryd.prog w r b0 53 v) (h : DataW.Trod enc Tryd.prog w 0 (fun _ => true) true 53 v D p) : ∃ tv dv t ns, v = .agg #[tv, dv] ∧ Sl CL w (Here w) tv t ∧ Sl NM w (Here w) dv ns ∧ t.length + ns.length ≤ Rows.uptoBulk D := by
  obtain ⟨cs, rfl, hsz⟩ := okWide_struct Tryd.underlying53 hv
  obtain ⟨fuel, hf⟩ := h
  obtain ⟨y0, y1, n', hy, hl, h0, h1⟩ := trod_struct2 Tryd.underlying53 hf
  obtain ⟨t, ⟨tv, hu, ht⟩, htb⟩ := openz_tm enc w _ _ _ h0
  obtain ⟨dv, ns, hd, hns, hnb⟩ := open_slz (OpensAt.one opens_nm) Tryd.underlying49 cellsNm enc w _ _ _ h1
  rw [sum_ones] at hnb
  have htb : t.length + 1 ≤ Rows.uptoBulk y0.1 := htb
  have c49 : Tryd.prog.cellsOf 49 = 1 := by kernel_rfl
  have c53 : Tryd.prog.cellsOf 53 = 2 := by kernel_rfl
  rw [c53] at hl
  simp only [cellsTm, c49] at hu hd
  refine ⟨tv, dv, t, ns, ?_, ht, hns, ?_⟩
  · obtain ⟨cs⟩ := cs
    simp only [Value.cells] at hl hu hd
    match cs, hl with
    | [c0, c1], _ =>
      simp at hu hd
      rw [hu, hd]
  · have hD : D = .agg [y0.1, y1.1] := congrArg Prod.fst hy
    rw [hD]
    simp only [Rows.uptoBulk, Rows.uptoBulkAll]
    omega

end Go.Proofs.YtehljfnoicppnaaDoor
namespace Go.Proofs.YtehljfnoicppnaaDoor.heapPlays

theorem contract (H : Type) (enc : TypeId × Value → H) (W : World) (base : Nat) (args : Array Value) (ds gs : List (DataW H)) (before : List MemPlace)
    (hval : ∀ (j : Nat) t v, Tryd.f5.params[j]? = some t → args[j]? = some v → Value.okWide Tryd.prog W .any base t v)
    (hW : DataW.Whole enc Tryd.prog Tryd.f5.params.toList Rows.heapPlaysSpec.vars false W args.toList ds gs before) (hL : laidMetH Tryd.prog Rows.heapPlaysRow.laid W) (hk : Rows.uptoSmall H (ds ++ gs) = true) :
    Calls Tryd.prog 5 args W fun e W' => ∃ v, e = .returned v ∧ Rows.heapPlaysSpec.post enc Tryd.prog Tryd.f5 false true false false W args v W' := by
  have hW' := hW
  obtain ⟨p, q, hA0, hV, rfl, hfz, hnd⟩ := hW
  have hA : DataW.TrodAll enc Tryd.prog W 0 (fun _ => true) true Tryd.f5.params.toList args.toList ds p := hA0
  rw [Tryd.params5] at hA hval
  obtain ⟨v0, vs0, d0, ds0, p0, q0, hargs, rfl, rfl, h0, r0⟩ := trodAll_cons hA
  obtain ⟨v1, vs1, d1, ds1, p1, q1, rfl, rfl, rfl, h1, r1⟩ := trodAll_cons r0
  obtain ⟨v2, vs2, d2, ds2, p2, q2, rfl, rfl, rfl, h2, r2⟩ := trodAll_cons r1
  obtain ⟨rfl, rfl, rfl⟩ := trodAll_nil r2
  obtain rfl : args = #[v0, v1, v2] := by cases args; simp_all
  obtain ⟨rfl, rfl⟩ := trodVars_none hV
  have hlt : ∀ x ∈ p0 ++ (p1 ++ (p2 ++ [])), x.block < W.heap.size := fun x hx => by simpa using hW'.lt x (by simpa using hx)
  have hbulk : Rows.uptoBulkAll [d0, d1, d2] ≤ 1048576 := by
    have := of_decide_eq_true hk
    simpa using this
  simp only [Rows.uptoBulkAll] at hbulk
  obtain ⟨l0, hl0, hb0⟩ := arg_bds (hval 0 _ v0 rfl rfl) h0
  obtain ⟨a1, b1, rfl, hb1⟩ := arg_nm (hval 1 _ v1 rfl rfl) h1
  obtain ⟨tv2, dv2, l2, ns2, rfl, hl2, hn2, hb2⟩ := arg_asked (hval 2 _ v2 rfl rfl) h2
  clear hA0
  have hg : Sg W := sg_of_met hL
  have hll := bulkB_len l0
  have hle := bulkB_each l0
  refine (heapPlays_calls v0 l0 a1 b1 tv2 dv2 l2 ns2 (Here W) (Here W) (Here W) W hl0 hb1 hl2 hn2 (by omega) (by omega) (fun b hb => by have := hle b hb; omega) hg).mono fun e W' ⟨he, hE⟩ => ?_
  subst he
  refine ⟨_, rfl, _, _, _, [], p0 ++ (p1 ++ (p2 ++ [])), [], hW', ?_, ?_, rfl, Below.frame hE _, fun h => by cases h⟩
  · exact trodAll_cons_mk (shut_bool Tryd.underlying4 _) trodAll_mk0
  · exact (trodAll_cons_mk (Below.trod laidOut (by kernel_rfl) (of_decide_eq_true (by kernel_rfl)) h0 hE (fun x hx => hlt x (by simp [hx]))) (trodAll_cons_mk (Below.trod laidOut (by kernel_rfl) (of_decide_eq_true (by kernel_rfl)) h1 hE (fun x hx => hlt x (by simp [hx]))) (trodAll_cons_mk (Below.trod laidOut (by kernel_rfl) (of_decide_eq_true (by kernel_rfl)) h2 hE (fun x hx => hlt x (by simp [hx]))) trodAll_mk0)))

abbrev wargs : Array Value := #[.slice none 0 0, .agg #[.int .i64 0, .int .i64 0], .agg #[.slice none 0 0, .slice none 0 0]]
theorem laid_met (os : Os) : laidMet Tryd.prog Rows.heapPlaysRow.laid ((laidWorld os).forCall (fun _ _ => 0) ⟨#[], wargs, []⟩).memory :=
  laidMet_of_run' 8 (by kernel_rfl) (by kernel_rfl)
theorem reads (os : Os) {H : Type} (enc : TypeId × Value → H) : ∃ places, DataW.whole enc Tryd.prog ((laidWorld os).forCall (fun _ _ => 0) ⟨#[], wargs, []⟩).memory Tryd.f5.params.toList Rows.heapPlaysSpec.vars false wargs.toList 8 = some ([.nil, .agg [.lit (.int .i64 0), .lit (.int .i64 0)], .agg [.nil, .nil]], [], places) :=
  ⟨[], by kernel_rfl⟩

theorem lifted (os : Os) (started : os.Started) (H : Type) (enc : TypeId × Value → H) (F : Stop.Interp) :
    ReturnsInHanded {} Tryd.checked os 5 .any ((Rows.OpenSpec.upto Rows.heapPlaysSpec).preRow enc Tryd.prog Tryd.f5 Rows.heapPlaysUptoRow.domain false Rows.heapPlaysUptoRow.laid) (((Rows.OpenSpec.upto Rows.heapPlaysSpec).at F).post enc Tryd.prog Tryd.f5 false true false false) := by
  obtain ⟨places, hx⟩ := reads os enc
  refine returnsInHanded_of_row (C := Tryd.checked) (s := Rows.OpenSpec.upto Rows.heapPlaysSpec) own started (by kernel_rfl) Tryd.func5
    (witness_row_at (enc := enc) (C := Tryd.checked) false (laidWorld os) wargs rfl (by kernel_rfl) (by kernel_rfl) (by kernel_rfl)
      (OpenSpec.preRow_of_cond 8 hx (by kernel_rfl) (fun k hk => by cases hk; kernel_rfl) (by kernel_rfl) (laid_met os))) ?_
  intro W base args ds gs before hval hW c1 c2 c3 hL c4 c5
  first | exact contract H enc W base args ds gs before hval hW hL (c2 _ rfl) | exact contract H enc W base args ds gs before hval hW hL (c3 _ rfl) | exact contract H enc W base args ds gs before hval hW hL (c4 _ rfl) | exact contract H enc W base args ds gs before hval hW hL (c5 _ rfl)

theorem saidUpto : Rows.HeapPlaysUptoSaid :=
  OpenClaim.holds_of_cond 5 Tryd.f5 rfl rfl rfl rfl rfl rfl rfl ⟨rfl, rfl, rfl, rfl, rfl⟩ rfl rfl rfl rfl rfl (by kernel_rfl) Tryd.func5 (by kernel_rfl)
    (of_decide_eq_true (by kernel_rfl)) (by unfold Func.isWrapper; first | (rw [if_pos (by decide +kernel)]; kernel_rfl) | (rw [if_neg (by decide +kernel)]; exact ⟨rfl, rfl⟩))
    (fun os started H enc _ F => by rw [OpenClaim.pre_eq_preRow]; exact lifted os started H enc F)

theorem plain (f : FuncId) (fn : Func) (hf : Tryd.pinned.checked.prog.funcNamed "purlin/purlinlaw05.HeapPlays" = some f) (hfn : Tryd.pinned.checked.prog.funcs[f]? = some fn) :
    true = Tryd.pinned.checked.prog.looks [] ∧ ∀ (j : Nat) t, fn.params[j]? = some t → Tryd.pinned.checked.prog.wantsStandIn t = false := by
  obtain rfl : f = 5 := Option.some.inj ((show Tryd.prog.funcNamed "purlin/purlinlaw05.HeapPlays" = some 5 by kernel_rfl).symm.trans hf) |>.symm
  obtain rfl : fn = Tryd.f5 := (Option.some.inj (Tryd.func5.symm.trans hfn)).symm
  refine ⟨by kernel_rfl, fun j t ht => ?_⟩
  rw [Tryd.params5] at ht
  have h : t = 22 ∨ t = 31 ∨ t = 53 := by simpa using Array.mem_of_getElem? ht
  rcases h with rfl | rfl | rfl
  · exact (show Tryd.prog.wantsStandIn 22 = false by kernel_rfl)
  · exact (show Tryd.prog.wantsStandIn 31 = false by kernel_rfl)
  · exact (show Tryd.prog.wantsStandIn 53 = false by kernel_rfl)

/-- THE SECOND FORM's CARD. -/
theorem cardUpto : Rows.HeapPlaysUptoCardSaid :=
  Claim7.holds_tied_plain_at .later [] _ _ _ _ saidUpto (fun _ h => by cases h) (by kernel_rfl) (fun _ h => by cases h) heapPlaysUpto_row_tie rfl ⟨rfl, rfl⟩ (by kernel_rfl) rfl plain (by kernel_rfl)
end Go.Proofs.YtehljfnoicppnaaDoor.heapPlays
namespace Go.Proofs.YtehljfnoicppnaaDoor
theorem heapPlays_upto_card : Rows.HeapPlaysUptoCardSaid := heapPlays.cardUpto
#print axioms heapPlays_upto_card
end Go.Proofs.YtehljfnoicppnaaDoor
