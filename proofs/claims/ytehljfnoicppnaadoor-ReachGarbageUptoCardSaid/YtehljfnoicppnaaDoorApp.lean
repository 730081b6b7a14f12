/- append onto a row of the call's own, said of what slices read as: the law of the run, and its forms at a list of operations and at a step of a drawn region. Conditions: the new length's bytes are within the model's bound. -/
import Derived.Test.YtehljfnoicppnaaDoorBase
import Derived.Deep.RegionLaw
open Go Go.RowKit
set_option linter.unusedVariables false
namespace Go.Proofs.YtehljfnoicppnaaDoor

variable {α : Type} {d : Cd α} {P : Program}

theorem flat_len {n : Nat} : ∀ {css : List (List Value)}, (∀ cs ∈ css, cs.length = n) → css.flatten.length = css.length * n
  | [], _ => by simp
  | c :: css, h => by
    rw [List.flatten_cons, List.length_append, h c (by simp), flat_len (fun c hc => h c (List.mem_cons_of_mem _ hc)), List.length_cons, Nat.add_mul]
    omega
theorem flat_at {n : Nat} (hn : 0 < n) : ∀ {css : List (List Value)}, (∀ cs ∈ css, cs.length = n) → ∀ {j : Nat} {u : Value}, css.flatten[j]? = some u → ∃ cs, css[j / n]? = some cs ∧ cs[j % n]? = some u
  | [], _, j, u, h => by simp at h
  | c :: css, hl, j, u, h => by
    have hc : c.length = n := hl c (by simp)
    by_cases hj : j < n
    · rw [List.flatten_cons, List.getElem?_append_left (by omega)] at h
      exact ⟨c, by rw [Nat.div_eq_of_lt hj]; rfl, by rw [Nat.mod_eq_of_lt hj]; exact h⟩
    · rw [List.flatten_cons, List.getElem?_append_right (by omega)] at h
      obtain ⟨cs, h1, h2⟩ := flat_at hn (fun c hc => hl c (List.mem_cons_of_mem _ hc)) h
      refine ⟨cs, ?_, ?_⟩
      · rw [show j / n = (j - c.length) / n + 1 by rw [hc, ← Nat.div_eq_sub_div hn (by omega)], List.getElem?_cons_succ]
        exact h1
      · rw [show j % n = (j - c.length) % n by rw [hc, ← Nat.mod_eq_sub_mod (by omega)]]
        exact h2

/-- A slice's elements, cell row by cell row. -/
theorem Rd.rows {w : World} {ok : Ok} {A : Option Addr} {xs : List α} (h : Rd d w ok A xs) :
    ∃ css : List (List Value), css.length = xs.length ∧ (∀ (j : Nat) (x : α) (cs : List Value), xs[j]? = some x → css[j]? = some cs → d.rel w ok x cs) ∧
      (0 < xs.length → ∃ b o, A = some ⟨b, o, none⟩ ∧ ∀ j u, css.flatten[j]? = some u → w.cell? ((⟨b, o, none⟩ : Addr).add j) = some u) := by
  rcases Nat.eq_zero_or_pos xs.length with h0 | h0
  · exact ⟨[], by simp [h0], by simp, fun h => absurd h (by omega)⟩
  · obtain ⟨b, o, hA, hok, hlt, hc⟩ := h.2 h0
    have hex : ∀ j : Fin xs.length, ∃ cs : List Value, d.rel w ok xs[j] cs ∧ ∀ (i : Nat) (u : Value), cs[i]? = some u → w.cell? ⟨b, o + j.val * d.sz + i, none⟩ = some u := fun j => hc j.val xs[j] (List.getElem?_eq_getElem j.isLt)
    let f : Fin xs.length → List Value := fun j => Classical.choose (hex j)
    have hf : ∀ j, d.rel w ok xs[j] (f j) ∧ ∀ (i : Nat) (u : Value), (f j)[i]? = some u → w.cell? ⟨b, o + j.val * d.sz + i, none⟩ = some u := fun j => Classical.choose_spec (hex j)
    have hget : ∀ (j : Nat) (cs : List Value), (List.ofFn f)[j]? = some cs → ∃ hj : j < xs.length, cs = f ⟨j, hj⟩ := by
      intro j cs hcs
      have hj : j < xs.length := by have := (List.getElem?_eq_some_iff.1 hcs).1; simpa using this
      refine ⟨hj, ?_⟩
      rw [List.getElem?_ofFn] at hcs
      simp [hj] at hcs
      exact hcs.symm
    have hlen : ∀ cs ∈ List.ofFn f, cs.length = d.sz := by
      intro cs hcs
      obtain ⟨j, hj, rfl⟩ := List.getElem_of_mem hcs
      obtain ⟨hj', he⟩ := hget j _ (List.getElem?_eq_getElem hj)
      rw [he]
      exact d.len (hf _).1
    refine ⟨List.ofFn f, by simp, ?_, fun _ => ⟨b, o, hA, ?_⟩⟩
    · intro j x cs hx hcs
      obtain ⟨hj, rfl⟩ := hget j cs hcs
      have : x = xs[(⟨j, hj⟩ : Fin xs.length)] := by
        rw [List.getElem?_eq_getElem hj] at hx
        exact (Option.some.inj hx).symm
      rw [this]
      exact (hf ⟨j, hj⟩).1
    · intro j u hu
      obtain ⟨cs, h1, h2⟩ := flat_at d.pos hlen hu
      obtain ⟨hj, rfl⟩ := hget _ cs h1
      have := (hf ⟨_, hj⟩).2 _ _ h2
      have hjj : j / d.sz * d.sz + j % d.sz = j := Nat.div_add_mod' j d.sz
      simp only [Nat.add_assoc] at this
      rw [hjj] at this
      unfold Addr.add
      split
      · rename_i hz; subst hz; simpa using this
      · exact this

/-- What an append leaves: the new list, owned; what else is touched. -/
theorem run_append_mine (w : World) (base : Nat) (t ty e : TypeId) (z : Value) (bytes : Nat) (ht : P.underlying t = some (.slice e))
    (hinfo : (P.info? e).map (fun i => (i.zero, i.size, i.bytes)) = some (some z, d.sz, bytes)) (hzs : z.cells.size = d.sz)
    {ok okS ok2 : Ok} {v vs : Value} {xs ys : List α} (HO : Own d e base w ok v xs) (HS : Sl d w okS vs ys)
    (h1 : ∀ k, ok k → ok2 k) (h2 : ∀ k, w.heap.size ≤ k → ok2 k) (hS : (∀ w w' ok ok' x cs, d.rel w ok x cs → d.rel w' ok' x cs) ∨ ∀ k, okS k → k < w.heap.size → ok2 k ∧ v.ownBlock ≠ some k)
    (hl : (xs.length + ys.length) * bytes ≤ 140737488355328) (hb : 0 < bytes) (hbase : base ≤ w.heap.size) :
    ∃ v' w', (Builtin.append_ #[t, t] ty #[v, vs]).run P w = .ok v' w' ∧ Own d e base w' ok2 v' (xs ++ ys) ∧ w.grownBy w' v.ownBlock ∧ (v'.ownBlock = v.ownBlock ∨ v'.ownBlock = some w.heap.size) := by
  obtain ⟨i0, hi, hzz⟩ := Option.map_eq_some_iff.1 hinfo
  simp only [Prod.mk.injEq] at hzz
  obtain ⟨hz0, hz1, hz2⟩ := hzz
  have hlt := HO.blk_lt
  obtain ⟨hko, css, hcl, hcr, hown⟩ := HO
  obtain ⟨A, c, rfl, hyc, hR⟩ := HS
  obtain ⟨dss, hdl, hdr, hcells⟩ := hR.rows
  have hlen1 : ∀ cs ∈ dss, cs.length = d.sz := by
    intro cs hcs
    obtain ⟨j, hj, rfl⟩ := List.getElem_of_mem hcs
    exact d.len (hdr j (ys[j]'(by omega)) _ (List.getElem?_eq_getElem _) (List.getElem?_eq_getElem hj))
  have hone : ∀ u ∈ dss.flatten, u.oneCell' = true := by
    intro u hu
    obtain ⟨cs, hcs, hu⟩ := List.mem_flatten.1 hu
    obtain ⟨j, hj, rfl⟩ := List.getElem_of_mem hcs
    exact d.one (hdr j (ys[j]'(by omega)) _ (List.getElem?_eq_getElem _) (List.getElem?_eq_getElem hj)) u hu
  have hsmall : xs.length + ys.length ≤ 140737488355328 := Nat.le_trans (Nat.le_mul_of_pos_right _ hb) hl
  have hrun : ∃ v' w', (Builtin.append_ #[t, t] ty #[v, .slice A ys.length c]).run P w = .ok v' w' ∧ w'.ownsRow base e d.sz v' (xs.length + ys.length) (css.flatten ++ dss.flatten) ∧ w.grownBy w' v.ownBlock ∧ (v'.ownBlock = v.ownBlock ∨ v'.ownBlock = some w.heap.size) := by
    rcases Nat.eq_zero_or_pos ys.length with h0 | h0
    · have hy : ys = [] := List.eq_nil_of_length_eq_zero h0
      subst hy
      have hdn : dss = [] := List.eq_nil_of_length_eq_zero (by simpa using hdl)
      subst hdn
      refine ⟨v, w, ?_, by simpa using hown, World.grownBy.refl w _, .inl rfl⟩
      rcases A with _ | ad
      · rcases hown.2 with ⟨rfl, hn⟩ | ⟨g, cap, cur, rfl, _, _, hnc, _⟩
        · simp [Builtin.append_, run_underlying ht, sizeOf, typeInfo, hi, Builtin.lenOf, Builtin.firstCells]
        · simp [Builtin.append_, run_underlying ht, sizeOf, typeInfo, hi, Builtin.lenOf, Builtin.firstCells, hnc, storeCells]
      · rcases hown.2 with ⟨rfl, hn⟩ | ⟨g, cap, cur, rfl, _, _, hnc, _⟩
        · simp [Builtin.append_, run_underlying ht, sizeOf, typeInfo, hi, Builtin.lenOf, Builtin.firstCells, loadCells, loadCellsFrom]
        · simp [Builtin.append_, run_underlying ht, sizeOf, typeInfo, hi, Builtin.lenOf, Builtin.firstCells, hnc, storeCells, loadCells, loadCellsFrom]
    · obtain ⟨b, o, rfl, hc⟩ := hcells h0
      obtain ⟨v', w', hr, h2, h3, _, h5⟩ := run_append_own_at (P := P) w base t ty e i0 z d.sz bytes ht hi hz0 hz1 hz2 hzs d.pos v xs.length css.flatten hown ⟨b, o, none⟩ ys.length c dss.flatten (by rw [flat_len hlen1, hdl]) hc hone (by simp only [maxLen]; omega) hl hbase
      exact ⟨v', w', hr, h2, h3, h5⟩
  obtain ⟨v', w', hr, ho, hg, hat⟩ := hrun
  refine ⟨v', w', hr, ⟨?_, css ++ dss, by simp [hcl, hdl], ?_, by simpa using ho⟩, hg, hat⟩
  · intro k hk
    rcases hat with hat | hat
    · exact h1 k (hko k (hat ▸ hk))
    · rw [hat] at hk; exact h2 k (by injection hk with hk; omega)
  · have hne : ∀ k, k < w.heap.size → v.ownBlock ≠ some k → v'.ownBlock ≠ some k ∧ w'.heap[k]? = w.heap[k]? := by
      intro k hk hv
      refine ⟨?_, hg.block k hk (fun e => hv e.symm)⟩
      rcases hat with hat | hat
      · rw [hat]; exact hv
      · rw [hat]; intro he; injection he with he; omega
    intro j x cs hx hcs
    rcases Nat.lt_or_ge j xs.length with hj | hj
    · rw [List.getElem?_append_left hj] at hx
      rw [List.getElem?_append_left (by omega)] at hcs
      refine d.move (hcr j x cs hx hcs) fun k hk hkl => ?_
      have := hne k hkl hk.2
      exact ⟨⟨h1 k hk.1, this.1⟩, this.2⟩
    · rw [List.getElem?_append_right hj] at hx
      rw [List.getElem?_append_right (by omega), hcl] at hcs
      have hrel := hdr _ x cs hx hcs
      rcases hS with hS | hS
      · exact hS _ _ _ _ _ _ hrel
      · refine d.move hrel fun k hk hkl => ?_
        have h3 := hS k hk hkl
        have := hne k hkl h3.2
        exact ⟨⟨h3.1, this.1⟩, this.2⟩

section
variable {w : World} {o : Oper} {a : Act} {K : Act → World → Prop} {Q : Exit → Act → World → Prop} {ops : Array Oper} {rest : List Oper} {E : Prop}
  {ok okS ok2 : Ok} {v vs : Value} {xs ys : List α}

theorem wp_append_mine (s x : Operand) (t e : TypeId) (z : Value) (bytes base : Nat) (ho : o.op = .call { callee := .builtin .append, args := #[s, x], argTypes := #[t, t] })
    (ht : P.underlying t = some (.slice e)) (hinfo : (P.info? e).map (fun i => (i.zero, i.size, i.bytes)) = some (some z, d.sz, bytes)) (hzs : z.cells.size = d.sz)
    (HO : Own d e base w ok v xs) (HS : Sl d w okS vs ys) (hs : a.eval s = v) (hx : a.eval x = vs)
    (h1 : ∀ k, ok k → ok2 k) (h2 : ∀ k, w.heap.size ≤ k → ok2 k) (hS : (∀ w w' ok ok' x cs, d.rel w ok x cs → d.rel w' ok' x cs) ∨ ∀ k, okS k → k < w.heap.size → ok2 k ∧ v.ownBlock ≠ some k)
    (hl : (xs.length + ys.length) * bytes ≤ 140737488355328) (hb : 0 < bytes) (hbase : base ≤ w.heap.size)
    (h : ∀ v' w', Own d e base w' ok2 v' (xs ++ ys) → w.grownBy w' v.ownBlock → (v'.ownBlock = v.ownBlock ∨ v'.ownBlock = some w.heap.size) → K (a.put o.dst v') w') : o.wp P a w K Q := by
  obtain ⟨v', w', hr, hown, hg, hat⟩ := run_append_mine (P := P) w base t o.type e z bytes ht hinfo hzs HO HS h1 h2 hS hl hb hbase
  unfold Oper.wp execOp
  simp only [ho, resolve, invoke, builtin, Sem.run_bind, Sem.run_pure, Result.andThen_ok, List.map_toArray, List.map_cons, List.map_nil, hs, hx, hr]
  exact h v' w' hown hg hat

theorem wpList_append_mine (hgd : o.guard = none) (s x : Operand) (t e : TypeId) (z : Value) (bytes base : Nat) (ho : o.op = .call { callee := .builtin .append, args := #[s, x], argTypes := #[t, t] })
    (ht : P.underlying t = some (.slice e)) (hinfo : (P.info? e).map (fun i => (i.zero, i.size, i.bytes)) = some (some z, d.sz, bytes)) (hzs : z.cells.size = d.sz)
    (HO : Own d e base w ok v xs) (HS : Sl d w okS vs ys) (hs : a.eval s = v) (hx : a.eval x = vs)
    (h1 : ∀ k, ok k → ok2 k) (h2 : ∀ k, w.heap.size ≤ k → ok2 k) (hS : (∀ w w' ok ok' x cs, d.rel w ok x cs → d.rel w' ok' x cs) ∨ ∀ k, okS k → k < w.heap.size → ok2 k ∧ v.ownBlock ≠ some k)
    (hl : (xs.length + ys.length) * bytes ≤ 140737488355328) (hb : 0 < bytes) (hbase : base ≤ w.heap.size)
    (h : ∀ v' w', Own d e base w' ok2 v' (xs ++ ys) → w.grownBy w' v.ownBlock → (v'.ownBlock = v.ownBlock ∨ v'.ownBlock = some w.heap.size) → wpList P ops Q rest (a.put o.dst v') w') : wpList P ops Q (o :: rest) a w :=
  wpList_plain hgd fun _ hK => wp_append_mine s x t e z bytes base ho ht hinfo hzs HO HS hs hx h1 h2 hS hl hb hbase fun v' w' h3 h4 h5 => hK _ _ (h v' w' h3 h4 h5)

theorem step_append_mine (hgd : o.guard = none) (s x : Operand) (t e : TypeId) (z : Value) (bytes base : Nat) (ho : o.op = .call { callee := .builtin .append, args := #[s, x], argTypes := #[t, t] })
    (ht : P.underlying t = some (.slice e)) (hinfo : (P.info? e).map (fun i => (i.zero, i.size, i.bytes)) = some (some z, d.sz, bytes)) (hzs : z.cells.size = d.sz)
    (HO : Own d e base w ok v xs) (HS : Sl d w okS vs ys) (hs : a.eval s = v) (hx : a.eval x = vs)
    (h1 : ∀ k, ok k → ok2 k) (h2 : ∀ k, w.heap.size ≤ k → ok2 k) (hS : (∀ w w' ok ok' x cs, d.rel w ok x cs → d.rel w' ok' x cs) ∨ ∀ k, okS k → k < w.heap.size → ok2 k ∧ v.ownBlock ≠ some k)
    (hl : (xs.length + ys.length) * bytes ≤ 140737488355328) (hb : 0 < bytes) (hbase : base ≤ w.heap.size)
    (h : ∀ v' w', Own d e base w' ok2 v' (xs ++ ys) → w.grownBy w' v.ownBlock → (v'.ownBlock = v.ownBlock ∨ v'.ownBlock = some w.heap.size) → K (a.put o.dst v') w') :
    if Region.wanted o (yielded ops a.tmps) = true then Oper.wp P o a w K Q else E := by
  have hw : Region.wanted o (yielded ops a.tmps) = true := by simp [Region.wanted, hgd]
  rw [if_pos hw]
  exact wp_append_mine s x t e z bytes base ho ht hinfo hzs HO HS hs hx h1 h2 hS hl hb hbase h
end

/-- One element in a box of its own, as append's second operand. -/
theorem Sl.box {w : World} {ok : Ok} {x : α} {cs : Array Value} {e : TypeId} (h : d.rel w ok x cs.toList) : Sl d (w.alloc (.cells cs e)) (fun k => ok k ∨ k = w.heap.size) (.slice (some ⟨w.heap.size, 0, none⟩) 1 1) [x] := by
  refine ⟨_, 1, rfl, by simp, by simp [maxLen], fun _ => ⟨w.heap.size, 0, rfl, .inr rfl, by simp, fun j y hy => ?_⟩⟩
  obtain ⟨rfl, rfl⟩ : j = 0 ∧ x = y := by
    rcases j with _ | j
    · simp at hy; exact ⟨rfl, hy⟩
    · simp at hy
  refine ⟨cs.toList, d.move h fun k hk hlt => ⟨.inl hk, Below.heap_alloc w _ k hlt⟩, fun i u hu => ?_⟩
  rw [cell_of_row (w.alloc (.cells cs e)) w.heap.size (0 + 0 * d.sz + i) cs e (0, 0) (heap_alloc_new w _)]
  simpa using hu

theorem Sl.box_at {w : World} {ok : Ok} {x : α} {cs : Array Value} {e : TypeId} {N : Nat} (hN : w.heap.size = N) (h : d.rel w ok x cs.toList) : Sl d (w.alloc (.cells cs e)) (fun k => ok k ∨ k = N) (.slice (some ⟨N, 0, none⟩) 1 1) [x] := by
  subst hN
  exact Sl.box h

/-- A literal of one element is a row of the call's own. -/
theorem Own.lit1 {w : World} {base N : Nat} {ok ok2 : Ok} {x : α} {cs : Array Value} {e : TypeId} (hN : w.heap.size = N) (hb : base ≤ N) (h : d.rel w ok x cs.toList) (h1 : ∀ k, ok k → k < N → ok2 k) (h2 : ok2 N) :
    Own d e base (w.alloc (.cells cs e)) ok2 (.slice (some ⟨N, 0, none⟩) 1 1) [x] := by
  subst hN
  have hl := d.len h
  refine ⟨?_, [cs.toList], rfl, ?_, ?_⟩
  · intro k hk
    have : w.heap.size = k := by simpa [Value.ownBlock] using hk
    subst this
    exact h2
  · intro j y c hy hc
    obtain ⟨rfl, rfl, rfl⟩ : j = 0 ∧ x = y ∧ cs.toList = c := by
      rcases j with _ | j
      · simp at hy hc; exact ⟨rfl, hy, hc⟩
      · simp at hy
    refine d.move h fun k hk hlt => ⟨⟨h1 k hk hlt, ?_⟩, Below.heap_alloc w _ k hlt⟩
    simp [Value.ownBlock]
    omega
  · have := World.ownsRow_lit (base := base) (e := e) (size := d.sz) w cs 1 hb (by simp [maxLen]) (by have : cs.toList.length = d.sz := hl; simp at this; omega)
    simpa using this

end Go.Proofs.YtehljfnoicppnaaDoor
