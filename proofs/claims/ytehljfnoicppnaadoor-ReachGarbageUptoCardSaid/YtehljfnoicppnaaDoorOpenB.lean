/- Arguments of a row, opened with their sizes: what reads as plain data is a datum of our codecs, no larger than its bulk. Conditions: none. -/
import Derived.Test.YtehljfnoicppnaaDoorSigns
open Go Go.RowKit Go.ChangeShapes Go.WideShapes Go.Deep Go.Joins
set_option linter.unusedVariables false
set_option maxRecDepth 100000
namespace Go.Proofs.YtehljfnoicppnaaDoor

/-- What opens, and is no larger than its bulk. -/
def OpensSz {α : Type} (d : Cd α) (t : TypeId) (sz : α → Nat) : Prop := ∀ {H : Type} (enc : TypeId × Value → H) (w : World) (n : Nat) (cs : List Value) (y : DataW H × List MemPlace),
  DataW.trod enc Tryd.prog w 0 (fun _ => true) true n t cs = some y → ∃ x, d.rel w (Here w) x cs ∧ sz x ≤ Rows.uptoBulk y.1
theorem bulk_pos {H : Type} (x : DataW H) : 1 ≤ Rows.uptoBulk x := by
  cases x with
  | lit l => cases l <;> simp [Rows.uptoBulk]
  | _ => simp [Rows.uptoBulk]
theorem OpensAt.one {α : Type} {d : Cd α} {t : TypeId} (h : OpensAt d t) : OpensSz d t (fun _ => 1) := fun enc w n cs y hy => by
  obtain ⟨x, hx⟩ := h enc w n cs y hy
  exact ⟨x, hx, bulk_pos _⟩
theorem bulkAll_sum {H : Type} {α : Type} (sz : α → Nat) : ∀ (xs : List α) (Ds : List (DataW H)), xs.length = Ds.length → (∀ (j : Nat) x D, xs[j]? = some x → Ds[j]? = some D → sz x ≤ Rows.uptoBulk D) → (xs.map sz).sum ≤ Rows.uptoBulkAll Ds
  | [], [], _, _ => by simp [Rows.uptoBulkAll]
  | [], _ :: _, h, _ => by simp at h
  | _ :: _, [], h, _ => by simp at h
  | x :: xs, D :: Ds, h, hs => by
    have h1 := hs 0 x D rfl rfl
    have h2 := bulkAll_sum sz xs Ds (by simpa using h) (fun j y E hy hE => hs (j + 1) y E (by simpa using hy) (by simpa using hE))
    simp only [List.map_cons, List.sum_cons, Rows.uptoBulkAll]
    omega

/-- A slice of what opens. -/
theorem open_slz {α : Type} {d : Cd α} {t e : TypeId} {sz : α → Nat} (hd : OpensSz d e sz) (ht : Tryd.prog.underlying t = some (.slice e)) (hc : Tryd.prog.cellsOf e = d.sz) {H : Type} (enc : TypeId × Value → H) (w : World) (n : Nat) (cs : List Value) (y : DataW H × List MemPlace)
    (h : DataW.trod enc Tryd.prog w 0 (fun _ => true) true n t cs = some y) : ∃ v xs, cs = [v] ∧ Sl d w (Here w) v xs ∧ (xs.map sz).sum + 1 ≤ Rows.uptoBulk y.1 := by
  rcases open_slice ht h with ⟨rfl, rfl⟩ | ⟨a, len, cap, m, n', D, Pl, rfl, _, hlc, hcm, hm, rfl, hel⟩
  · exact ⟨_, [], rfl, Sl.nil d w _, by simp [Rows.uptoBulk]⟩
  · simp only [if_true] at hm
    subst hm
    rw [hc] at hel
    have hsp : ∀ (b : Addr) (u : Value), w.cell? b = some u → b.spot = none ∧ b.block < w.heap.size := by
      intro b u hb
      unfold World.cell? at hb
      split at hb
      · rename_i hh
        split at hb
        · cases hb
        · rename_i hs
          exact ⟨by simpa using hs, (Array.getElem?_eq_some_iff.1 hh).1⟩
      · cases hb
    obtain ⟨b, o, sp⟩ := a
    have hfirst : 0 < len → sp = none ∧ b < w.heap.size := by
      intro hl0
      obtain ⟨cs0, h1, h2⟩ := hel 0 (by omega)
      obtain ⟨x, hx, _⟩ := hd enc w _ _ _ h2
      obtain ⟨_, h3, h4⟩ := World.cells?_some h1
      have h5 := h4 0 d.pos
      have h6 : 0 < cs0.length := by rw [h3]; exact d.pos
      rw [List.getElem?_eq_getElem h6] at h5
      have h7 := hsp _ _ h5
      simpa [Addr.add] using h7
    have hex : ∀ i : Fin len, ∃ x, (∃ cs : List Value, d.rel w (Here w) x cs ∧ ∀ (k : Nat) (u : Value), cs[k]? = some u → w.cell? ⟨b, o + i.val * d.sz + k, none⟩ = some u) ∧ sz x ≤ Rows.uptoBulk (D i.val) := by
      intro i
      obtain ⟨cs', h1, h2⟩ := hel i.val (by have := i.isLt; omega)
      obtain ⟨x, hx, hxs⟩ := hd enc w _ _ _ h2
      refine ⟨x, ⟨cs', hx, fun k u hu => ?_⟩, hxs⟩
      obtain ⟨_, h3, h4⟩ := World.cells?_some h1
      have hk : k < d.sz := by have := (List.getElem?_eq_some_iff.1 hu).1; omega
      have h5 := (h4 k hk).trans hu
      have h0 := (hfirst (by have := i.isLt; omega)).1
      subst h0
      have h6 : (((⟨b, o, none⟩ : Addr).add (i.val * d.sz)).add k) = ⟨b, o + i.val * d.sz + k, none⟩ := by
        unfold Addr.add
        split <;> split <;> simp_all <;> omega
      rwa [h6] at h5
    let xs : List α := List.ofFn fun i => Classical.choose (hex i)
    have hlen : xs.length = len := by simp [xs]
    have hget : ∀ (j : Nat) (hj : j < len) x, xs[j]? = some x → x = Classical.choose (hex ⟨j, hj⟩) := by
      intro j hj x hx
      simp only [xs, List.getElem?_ofFn, hj, dif_pos, Option.some.injEq] at hx
      exact hx.symm
    refine ⟨_, xs, rfl, ⟨some ⟨b, o, sp⟩, m, by rw [hlen], by omega, ?_, ?_⟩, ?_⟩
    · rw [hlen]; omega
    · intro hn
      obtain ⟨h0, hb⟩ := hfirst (by omega)
      subst h0
      refine ⟨b, o, rfl, hb, hb, fun j x hx => ?_⟩
      have hj : j < len := by have := (List.getElem?_eq_some_iff.1 hx).1; omega
      rw [hget j hj x hx]
      exact (Classical.choose_spec (hex ⟨j, hj⟩)).1
    · have h1 := bulkAll_sum sz xs ((List.range len).map D) (by simp [hlen]) (fun j x E hx hE => by
        have hj : j < len := by have := (List.getElem?_eq_some_iff.1 hx).1; omega
        rw [hget j hj x hx]
        simp [hj] at hE
        subst hE
        exact (Classical.choose_spec (hex ⟨j, hj⟩)).2)
      simp only [Rows.uptoBulk]
      omega
theorem OpensSz.slice {α : Type} {d : Cd α} {t e : TypeId} {sz : α → Nat} (hd : OpensSz d e sz) (ht : Tryd.prog.underlying t = some (.slice e)) (hc : Tryd.prog.cellsOf e = d.sz) : OpensSz d.slice t (fun xs => (xs.map sz).sum + 1) := by
  intro H enc w n cs y h
  obtain ⟨v, xs, rfl, hs, hb⟩ := open_slz hd ht hc enc w n cs y h
  exact ⟨xs, ⟨v, rfl, hs⟩, hb⟩
theorem OpensSz.mono {α : Type} {d : Cd α} {t : TypeId} {sz sz' : α → Nat} (h : OpensSz d t sz) (hs : ∀ x, sz' x ≤ sz x) : OpensSz d t sz' := fun enc w n cs y hy => by
  obtain ⟨x, hx, hb⟩ := h enc w n cs y hy
  exact ⟨x, hx, Nat.le_trans (hs x) hb⟩
theorem sum_ones {α : Type} : ∀ (xs : List α), (xs.map fun _ => 1).sum = xs.length
  | [] => rfl
  | _ :: xs => by
    have := sum_ones xs
    simp only [List.map_cons, List.sum_cons, List.length_cons]
    omega
theorem openz_tm : OpensSz CL.slice 24 (fun t => t.length + 1) :=
  OpensSz.mono (OpensSz.slice (OpensAt.one opens_cl) Tryd.underlying24 cellsCl) fun xs => by rw [sum_ones]; exact Nat.le_refl _

set_option maxRecDepth 100000 in
theorem openz_bd : OpensSz BD 33 (fun b => b.t.length + 1) := by
  intro H enc w n cs y h
  obtain ⟨y0, y1, n', rfl, hl, h0, h1⟩ := trod_struct2 Tryd.underlying33 h
  obtain ⟨v, hv, hvn⟩ := opens_nm enc w _ _ _ h0
  obtain ⟨t, ⟨u, hu, ht⟩, htb⟩ := openz_tm enc w _ _ _ h1
  rw [cellsBd] at hl
  simp only [cellsNm, cellsTm] at hv hu
  match cs, hl with
  | [c0, c1, c2], _ =>
    simp [nv] at hv hu
    rcases hv with ⟨rfl, rfl⟩
    refine ⟨⟨v, t⟩, ⟨u, by rw [hu], hvn, ht⟩, ?_⟩
    have htb : t.length + 1 ≤ Rows.uptoBulk y1.1 := htb
    show t.length + 1 ≤ _
    simp only [Rows.uptoBulk, Rows.uptoBulkAll]
    omega

/-- An argument that is a slice, with its size. -/
theorem arg_slz {α : Type} {d : Cd α} {t e : TypeId} {sz : α → Nat} (hd : OpensSz d e sz) (ht : Tryd.prog.underlying t = some (.slice e)) (hc : Tryd.prog.cellsOf e = d.sz) {H : Type} {enc : TypeId × Value → H} {w : World} {r : Reach} {b0 : Nat} {v : Value} {D : DataW H} {p : List MemPlace}
    (hv : Value.okWide Tryd.prog w r b0 t v) (h : DataW.Trod enc Tryd.prog w 0 (fun _ => true) true t v D p) : ∃ xs, Sl d w (Here w) v xs ∧ (xs.map sz).sum + 1 ≤ Rows.uptoBulk D := by
  obtain ⟨fuel, hf⟩ := h
  obtain ⟨v', xs, h1, h2, h3⟩ := open_slz hd ht hc enc w _ _ _ hf
  obtain ⟨A, l, c, rfl⟩ := okWide_slice ht hv
  simp [Value.cells] at h1
  subst h1
  exact ⟨xs, h2, h3⟩
/-- Bindings, by their sizes. -/
def bulkB (l : List Bd) : Nat := (l.map fun b => b.t.length + 1).sum
theorem bulkB_len : ∀ l : List Bd, l.length ≤ bulkB l
  | [] => by simp
  | b :: l => by
    have := bulkB_len l
    simp only [bulkB, List.map_cons, List.sum_cons, List.length_cons] at *
    omega
theorem bulkB_each : ∀ (l : List Bd), ∀ b ∈ l, b.t.length ≤ bulkB l
  | [], b, h => by simp at h
  | x :: l, b, h => by
    simp only [bulkB, List.map_cons, List.sum_cons]
    rcases List.mem_cons.1 h with rfl | h
    · omega
    · have := bulkB_each l b h
      unfold bulkB at this
      omega
theorem arg_bds {H : Type} {enc : TypeId × Value → H} {w : World} {r : Reach} {b0 : Nat} {v : Value} {D : DataW H} {p : List MemPlace}
    (hv : Value.okWide Tryd.prog w r b0 22 v) (h : DataW.Trod enc Tryd.prog w 0 (fun _ => true) true 22 v D p) : ∃ xs, Sl BD w (Here w) v xs ∧ bulkB xs + 1 ≤ Rows.uptoBulk D :=
  arg_slz openz_bd Tryd.underlying22 cellsBd hv h
theorem arg_term {H : Type} {enc : TypeId × Value → H} {w : World} {r : Reach} {b0 : Nat} {v : Value} {D : DataW H} {p : List MemPlace}
    (hv : Value.okWide Tryd.prog w r b0 24 v) (h : DataW.Trod enc Tryd.prog w 0 (fun _ => true) true 24 v D p) : ∃ xs, Sl CL w (Here w) v xs ∧ xs.length + 1 ≤ Rows.uptoBulk D := by
  obtain ⟨xs, h1, h2⟩ := arg_slz (OpensAt.one opens_cl) Tryd.underlying24 cellsCl hv h
  rw [sum_ones] at h2
  exact ⟨xs, h1, h2⟩

end Go.Proofs.YtehljfnoicppnaaDoor
